/- Loops by a family of abstract states; what a call answers, by an equation. Functions without a body. Calls that are handed memory: out of code; and in a larger memory. A call that is handed some blocks of a larger memory. A contract with memory holds in every larger memory: the frame. Memory of one's own that is given away: from now on it is only read. -/
import Derived.Test.YtapnoaalcbcmaaaEngT
import Derived.Laws.Externs
import Derived.Lib.Bytealg
namespace Go.Eng
open Go Go.RowKit

variable {P : Program} {T : Tab} {base : Env} {w : World} {S : Nat → Prop} {m : Locs} {M : Mem}

/-- Slots, of which only some are told. -/
def putAll (ts : List AV) : List (Nat × AV) → List AV
  | [] => ts
  | (i, v) :: l => put (putAll ts l) i v
def slots (n : Nat) (l : List (Nat × AV)) : List AV := putAll (und n) l

/-- The first state says no less than the second one. -/
def SubE : List AV → List AV → Prop
  | [], [] => True
  | _ :: l, .undef :: k => SubE l k
  | a :: l, b :: k => a = b ∧ SubE l k
  | _, _ => False

def SubL (l k : List AV) : Prop := lenA l = lenA k ∧ ∀ i, Le (nth l i) (nth k i)

def SubB : ABlk → ABlk → Prop
  | b, .dead => isCells b = false
  | .cells e cs, .cells e' ds => e = e' ∧ SubE cs ds
  | .rows e sz n c, .rows e' sz' n' d => e = e' ∧ sz = sz' ∧ n = n' ∧ ∀ i, i < n → ∀ j, j < sz → c i j = d i j
  | .trows e t l, C => C = .trows e t l
  | .arr e t l, C => C = .arr e t l
  | .map t u l, C => C = .map t u l
  | .fro e t l, C => C = .fro e t l
  | .fam x y, C => C = .fam x y
  | .siter s p, .siter s' p' => s = s' ∧ p = p'
  | _, _ => False

def SubM : Mem → Mem → Prop
  | [], [] => True
  | a :: l, b :: k => SubB a b ∧ SubM l k
  | _, _ => False

def takeM : Nat → Mem → Mem
  | 0, _ => []
  | _, [] => []
  | n + 1, b :: l => b :: takeM n l

/-- Does it speak of the first k blocks alone? -/
def closedN (k : Nat) : Nat → AV → Bool
  | _, .ref b _ | _, .selfp b | _, .asl b _ | _, .mp b | _, .sub b _ | _, .eref b _ _ | _, .own b _ | _, .ownT b | _, .tail b _ _ => Nat.blt b k
  | 0, .agg _ | 0, .fn _ _ _ | 0, .tup _ | 0, .lst _ _ => false
  | f + 1, .agg cs => closedNs f cs
  | f + 1, .tup cs => closedNs f cs
  | f + 1, .lst _ cs => closedNs f cs
  | f + 1, .fn _ a c => match closedNs f a with | true => closedNs f c | false => false
  | _, _ => true
where closedNs (f : Nat) : List AV → Bool
  | [] => true
  | a :: l => match closedN k f a with | true => closedNs f l | false => false

def closedL (k : Nat) : List AV → Bool
  | [] => true
  | a :: l => match closedN k 4 a with | true => closedL k l | false => false

def closedM (k : Nat) : Mem → Bool
  | [] => true
  | .cells _ cs :: l => match closedL k cs with | true => closedM k l | false => false
  | _ :: l => closedM k l

structure Sub (A B : AS) : Prop where
  m : SubM (takeM (lenM B.m) A.m) B.m
  ts : SubE A.ts B.ts
  np : A.np = B.np
  cl : lenM A.m = lenM B.m ∨ (Nat.ble B.np (lenM B.m) = true ∧ closedL (lenM B.m) B.ts = true ∧ closedM (lenM B.m) B.m = true)

theorem SubE.refl : ∀ l : List AV, SubE l l
  | [] => trivial
  | a :: l => by cases a <;> first | exact SubE.refl l | exact ⟨rfl, SubE.refl l⟩
theorem SubB.refl (b : ABlk) : SubB b b := by
  cases b with
  | cells e cs => exact ⟨rfl, SubE.refl cs⟩
  | rows e sz n c => exact ⟨rfl, rfl, rfl, fun _ _ _ _ => rfl⟩
  | trows e t l => exact rfl
  | arr e t l => exact rfl
  | map t u l => exact rfl
  | fro e t l => exact rfl
  | fam x y => exact rfl
  | siter s p => exact ⟨rfl, rfl⟩
  | dead => exact rfl
theorem SubM.refl : ∀ M : Mem, SubM M M
  | [] => trivial
  | b :: M => ⟨SubB.refl b, SubM.refl M⟩
theorem SubM.len : ∀ {M N : Mem}, SubM M N → lenM M = lenM N
  | [], [], _ => rfl
  | _ :: _, _ :: _, h => by simp only [lenM]; rw [SubM.len h.2]
theorem SubM.blk : ∀ {M N : Mem}, SubM M N → ∀ i, SubB (Eng.blk M i) (Eng.blk N i)
  | [], [], _, i => rfl
  | _ :: _, _ :: _, h, 0 => h.1
  | _ :: _, _ :: _, h, i + 1 => SubM.blk h.2 i

theorem SubE.le : ∀ {l k : List AV}, SubE l k → SubL l k := by
  intro l
  induction l with
  | nil =>
    intro k h
    cases k with
    | nil => exact ⟨rfl, fun i => Le.refl _⟩
    | cons b k => exact h.elim
  | cons a l ih =>
    intro k h
    cases k with
    | nil => exact h.elim
    | cons b k =>
      have hh : Le a b ∧ SubE l k := by
        cases b with
        | undef => exact ⟨Le.undef _, h⟩
        | _ => have h : _ = _ ∧ _ := h; exact ⟨h.1 ▸ Le.refl _, h.2⟩
      obtain ⟨h1, h2⟩ := ih hh.2
      refine ⟨by simp only [lenA]; rw [h1], fun i => ?_⟩
      cases i with
      | zero => exact hh.1
      | succ i => exact h2 i

theorem ARel.sub {a : Act} {l k : List AV} (h : ARel base.old w S m a l) (hs : SubL l k) : ARel base.old w S m a k := ⟨h.1.trans hs.1, h.2.1, fun t => hs.2 t _ _ _ _ (h.2.2 t)⟩

theorem BRel.sub {l : Option Loc} {B C : ABlk} (h : BRel w S m l B) (hs : SubB B C) : BRel w S m l C := by
  cases C with
  | dead => cases l <;> trivial
  | cells e' ds =>
    cases B with
    | trows e t l => cases hs
    | arr e t l => cases hs
    | fro e t l => cases hs
    | map t u l => cases hs
    | fam x y => cases hs
    | cells e cs =>
      obtain ⟨rfl, hs⟩ := hs
      cases l with
      | none => exact h
      | some l =>
        obtain ⟨vs, h1, h2, h3, h4⟩ := h
        obtain ⟨q1, q2⟩ := hs.le
        exact ⟨vs, h1, h2.trans q1, fun i hi => h3 i (by omega), fun i hi => q2 i _ _ _ _ (h4 i (by omega))⟩
    | _ => exact hs.elim
  | rows e' sz' n' d =>
    cases B with
    | trows e t l => cases hs
    | arr e t l => cases hs
    | fro e t l => cases hs
    | map t u l => cases hs
    | fam x y => cases hs
    | rows e sz n c =>
      obtain ⟨rfl, rfl, rfl, hs⟩ := hs
      cases l with
      | none => exact h
      | some l =>
        obtain ⟨q1, q2, q3, q4, vs, q5, q6, q7⟩ := h
        exact ⟨q1, q2, q3, q4, vs, q5, q6, fun i hi j hj => by rw [← hs i hi j hj]; exact q7 i hi j hj⟩
    | _ => exact hs.elim
  | trows e' t' l' =>
    cases B with
    | trows e t l => cases hs; exact h
    | arr e t l => cases hs
    | fro e t l => cases hs
    | map t u l => cases hs
    | fam x y => cases hs
    | _ => exact hs.elim
  | arr e' t' l' =>
    cases B with
    | trows e t l => cases hs
    | arr e t l => cases hs; exact h
    | fro e t l => cases hs
    | map t u l => cases hs
    | fam x y => cases hs
    | _ => exact hs.elim
  | fro e' t' l' =>
    cases B with
    | trows e t l => cases hs
    | arr e t l => cases hs
    | fro e t l => cases hs; exact h
    | map t u l => cases hs
    | fam x y => cases hs
    | _ => exact hs.elim
  | map t' u' l' =>
    cases B with
    | trows e t l => cases hs
    | arr e t l => cases hs
    | fro e t l => cases hs
    | map t u l => cases hs; exact h
    | fam x y => cases hs
    | _ => exact hs.elim
  | siter s' p' =>
    cases B with
    | siter s p => obtain ⟨rfl, rfl⟩ := hs; exact h
    | trows e t l => cases hs
    | arr e t l => cases hs
    | fro e t l => cases hs
    | map t u l => cases hs
    | fam x y => cases hs
    | _ => exact hs.elim
  | fam x' y' =>
    cases B with
    | trows e t l => cases hs
    | arr e t l => cases hs
    | fro e t l => cases hs
    | map t u l => cases hs
    | fam x y => cases hs; exact h
    | _ => exact hs.elim

theorem SubB.cells {B C : ABlk} (hs : SubB B C) (h : isCells B = true) : isCells C = true := by
  cases B <;> cases C <;> first | rfl | exact hs.elim | (simp [isCells] at h; done) | (simp [SubB, isCells] at hs; done)

theorem MRel.sub {M N : Mem} (h : MRel base w S m M) (hs : SubM M N) : MRel base w S m N :=
  ⟨h.len.trans hs.len, h.sb, fun i l hi => (h.bk i l hi).sub (hs.blk i), h.lt, h.inj, h.base_le, h.gok, fun i l hi => ⟨(h.pin i l hi).1, (hs.blk i).cells (h.pin i l hi).2⟩, h.ext⟩

theorem takeM_eq (n : Nat) (l : Mem) : takeM n l = l.take n := by
  induction n generalizing l with
  | zero => simp [takeM]
  | succ n ih => cases l with
    | nil => simp [takeM]
    | cons a l => simp [takeM, ih]
theorem takeM_all (l : Mem) : takeM (lenM l) l = l := by rw [takeM_eq, lenM_eq, List.take_length]
theorem lenM_take {n : Nat} {l : Mem} (h : n ≤ lenM l) : lenM (takeM n l) = n := by rw [lenM_eq] at *; rw [takeM_eq]; simp; omega
theorem blk_take {n i : Nat} {l : Mem} (h : i < n) : blk (takeM n l) i = blk l i := by
  rw [blk_eq, blk_eq, takeM_eq]; simp [List.getD, List.getElem?_take, h]

theorem closedNs_nth {k f : Nat} : ∀ {l : List AV}, closedN.closedNs k f l = true → ∀ i, i < lenA l → closedN k f (nth l i) = true
  | a :: l, h, i, hi => by
    simp only [closedN.closedNs] at h
    split at h
    · cases i with
      | zero => assumption
      | succ i => exact closedNs_nth h i (by simp [lenA] at hi; omega)
    · cases h

theorem Rel.take {k : Nat} : ∀ (f : Nat) {v : Value} {a : AV}, Rel w S m v a → closedN k f a = true → Rel w S (m.take k) v a := by
  have hk : ∀ {i : Nat} {l : Option Loc}, i < k → m[i]? = some l → (m.take k)[i]? = some l := fun h h' => by rw [List.getElem?_take_of_lt h]; exact h'
  intro f
  induction f with
  | zero =>
    intro v a h hc
    cases h with
    | ref _ i off l h => exact .ref _ _ _ _ (hk (by simpa [closedN] using hc) h)
    | selfp0 => exact .selfp0 _ _
    | selfp _ i l h => exact .selfp _ _ _ (hk (by simpa [closedN] using hc) h)
    | asl _ i n l h hn => exact .asl _ _ _ _ (hk (by simpa [closedN] using hc) h) hn
    | mp _ i l h => exact .mp _ _ _ (hk (by simpa [closedN] using hc) h)
    | mp0 _ i h => exact .mp0 _ _ (hk (by simpa [closedN] using hc) h)
    | sub _ i j l g h hj => exact .sub _ _ _ _ _ (hk (by simpa [closedN] using hc) h) hj
    | eref _ i r off l h hr => exact .eref _ _ _ _ _ (hk (by simpa [closedN] using hc) h) hr
    | own _ i n l h hn hcp => exact .own _ _ _ _ (hk (by simpa [closedN] using hc) h) hn hcp
    | tsl _ t l full _ h => exact .tsl _ _ _ _ _ (h.slice_m _)
    | ownT0 _ aa i h => exact .ownT0 _ _ _ (hk (by simpa [closedN] using hc) h)
    | ownT _ i l h hcp => exact .ownT _ _ _ (hk (by simpa [closedN] using hc) h) hcp
    | own0 _ aa i h => exact .own0 _ _ _ (hk (by simpa [closedN] using hc) h)
    | tail _ aa i lo n cp hn h => exact .tail _ _ _ _ _ _ hn fun h0 => let ⟨l, h1, h2⟩ := h h0; ⟨l, hk (by simpa [closedN] using hc) h1, h2⟩
    | agg => simp [closedN] at hc
    | tup => simp [closedN] at hc
    | lst0 => simp [closedN] at hc
    | lst1 => simp [closedN] at hc
    | fn => simp [closedN] at hc
    | undef => exact .undef _ _
    | int _ k n h => exact .int _ _ _ h
    | bool => exact .bool _ _
    | str _ s h => exact .str _ _ h
    | nilptr => exact .nilptr _
    | cptr _ b o n c f hs hc' h => exact .cptr _ _ _ _ _ _ hs hc' h
    | slice _ b o sz n cap full c f hs hn hcap hf hc' h => exact .slice _ _ _ _ _ _ _ _ _ hs hn hcap hf hc' h
    | slice0 _ a cap sz full c hcap hf => exact .slice0 _ _ _ _ _ _ hcap hf
    | nilsl => exact .nilsl _
    | emp => exact .emp _ _
    | nilfn => exact .nilfn _
    | mv _ b es ck t u x hs hg hl h1 h2 hok => exact .mv _ _ _ _ _ _ _ hs hg hl h1 h2 hok
    | mv0 => exact .mv0 _
    | nilmap => exact .nilmap _
    | niliface => exact .niliface _
    | nxtT _ vs cs hl h0 h => exact .nxtT _ _ _ hl h0 h
    | clo _ id fs cs as0 bs hl0 hl h0 h => exact .clo _ _ _ _ _ _ hl0 hl h0 h
    | nilB _ b n h => exact .nilB _ _ _ h
    | nxtF => exact .nxtF _ _
  | succ f ih =>
    intro v a h hc
    cases h with
    | ref _ i off l h => exact .ref _ _ _ _ (hk (by simpa [closedN] using hc) h)
    | selfp0 => exact .selfp0 _ _
    | selfp _ i l h => exact .selfp _ _ _ (hk (by simpa [closedN] using hc) h)
    | asl _ i n l h hn => exact .asl _ _ _ _ (hk (by simpa [closedN] using hc) h) hn
    | mp _ i l h => exact .mp _ _ _ (hk (by simpa [closedN] using hc) h)
    | mp0 _ i h => exact .mp0 _ _ (hk (by simpa [closedN] using hc) h)
    | sub _ i j l g h hj => exact .sub _ _ _ _ _ (hk (by simpa [closedN] using hc) h) hj
    | eref _ i r off l h hr => exact .eref _ _ _ _ _ (hk (by simpa [closedN] using hc) h) hr
    | own _ i n l h hn hcp => exact .own _ _ _ _ (hk (by simpa [closedN] using hc) h) hn hcp
    | tsl _ t l full _ h => exact .tsl _ _ _ _ _ (h.slice_m _)
    | ownT0 _ aa i h => exact .ownT0 _ _ _ (hk (by simpa [closedN] using hc) h)
    | ownT _ i l h hcp => exact .ownT _ _ _ (hk (by simpa [closedN] using hc) h) hcp
    | own0 _ aa i h => exact .own0 _ _ _ (hk (by simpa [closedN] using hc) h)
    | tail _ aa i lo n cp hn h => exact .tail _ _ _ _ _ _ hn fun h0 => let ⟨l, h1, h2⟩ := h h0; ⟨l, hk (by simpa [closedN] using hc) h1, h2⟩
    | agg _ vs cs hl h1 h =>
      simp only [closedN] at hc
      exact .agg _ _ _ hl h1 fun i hi => ih (h i hi) (closedNs_nth hc i hi)
    | tup _ vs cs hl h =>
      simp only [closedN] at hc
      exact .tup _ _ _ hl fun i hi => ih (h i hi) (closedNs_nth hc i hi)
    | lst0 _ b o n cs g hs hn hl hc' h =>
      simp only [closedN] at hc
      exact .lst0 _ _ _ _ _ g hs hn hl hc' fun j hj => ih (h j hj) (closedNs_nth hc j hj)
    | lst1 _ b o i cs g hs hi hc' h =>
      simp only [closedN] at hc
      exact .lst1 _ _ _ _ _ g hs hi hc' fun j hj => ih (h j hj) (closedNs_nth hc j hj)
    | fn _ ff fs cs as1 bs hl hl' h1 h1' h h' =>
      simp only [closedN] at hc
      split at hc
      · rename_i hc1
        exact .fn _ _ _ _ _ _ hl hl' h1 h1' (fun i hi => ih (h i hi) (closedNs_nth hc1 i hi)) (fun i hi => ih (h' i hi) (closedNs_nth hc i hi))
      · cases hc
    | undef => exact .undef _ _
    | int _ k n h => exact .int _ _ _ h
    | bool => exact .bool _ _
    | str _ s h => exact .str _ _ h
    | nilptr => exact .nilptr _
    | cptr _ b o n c f hs hc' h => exact .cptr _ _ _ _ _ _ hs hc' h
    | slice _ b o sz n cap full c f hs hn hcap hf hc' h => exact .slice _ _ _ _ _ _ _ _ _ hs hn hcap hf hc' h
    | slice0 _ a cap sz full c hcap hf => exact .slice0 _ _ _ _ _ _ hcap hf
    | nilsl => exact .nilsl _
    | emp => exact .emp _ _
    | nilfn => exact .nilfn _
    | mv _ b es ck t u x hs hg hl h1 h2 hok => exact .mv _ _ _ _ _ _ _ hs hg hl h1 h2 hok
    | mv0 => exact .mv0 _
    | nilmap => exact .nilmap _
    | niliface => exact .niliface _
    | nxtT _ vs cs hl h0 h => exact .nxtT _ _ _ hl h0 h
    | clo _ id fs cs as0 bs hl0 hl h0 h => exact .clo _ _ _ _ _ _ hl0 hl h0 h
    | nilB _ b n h => exact .nilB _ _ _ h
    | nxtF => exact .nxtF _ _

theorem closedL_nth {k : Nat} {l : List AV} (h : closedL k l = true) {i : Nat} (hi : i < lenA l) : closedN k 4 (nth l i) = true := by
  induction l generalizing i with
  | nil => simp [lenA] at hi
  | cons a l ih =>
    simp only [closedL] at h
    split at h
    · cases i with
      | zero => assumption
      | succ i => exact ih h (by simp [lenA] at hi; omega)
    · cases h

theorem closedM_blk {k : Nat} {M : Mem} (h : closedM k M = true) {i : Nat} {e : TypeId} {cs : List AV} (hb : blk M i = .cells e cs) : closedL k cs = true := by
  induction M generalizing i with
  | nil => cases hb
  | cons B M ih =>
    cases i with
    | zero =>
      simp only [blk] at hb; subst hb
      simp only [closedM] at h
      split at h
      · assumption
      · cases h
    | succ i =>
      refine ih ?_ hb
      cases B with
      | cells e' cs' =>
        simp only [closedM] at h
        split at h
        · exact h
        · cases h
      | _ => exact h

theorem BRel.take {k : Nat} {l : Option Loc} {B : ABlk} (h : BRel w S m l B) (hc : ∀ e cs, B = .cells e cs → closedL k cs = true) : BRel w S (m.take k) l B := by
  cases B with
  | cells e cs =>
    cases l with
    | none => exact h
    | some l => obtain ⟨vs, h1, h2, h3, h4⟩ := h; exact ⟨vs, h1, h2, h3, fun i hi => (h4 i hi).take 4 (closedL_nth (hc e cs rfl) hi)⟩
  | rows => cases l <;> exact h
  | trows => cases l <;> exact h
  | arr => cases l <;> exact h
  | map => cases l <;> exact h
  | fro => cases l <;> exact h
  | siter => cases l <;> exact h
  | fam => cases l <;> exact h
  | dead => cases l <;> trivial

/-- The first blocks alone. -/
theorem MRel.take {k : Nat} {M : Mem} (h : MRel base w S m M) (hk : k ≤ lenM M) (hp : ∀ i l, base.pin i = some l → i < k) (hc : ∀ i e cs, blk (takeM k M) i = .cells e cs → closedL k cs = true) : MRel base w S (m.take k) (takeM k M) := by
  have hml : (m.take k).length = k := by rw [List.length_take, h.len]; omega
  have hs : ∀ {i : Nat} {l : Option Loc}, (m.take k)[i]? = some l → i < k ∧ m[i]? = some l := fun {i l} h' => by
    have hlt : i < k := by have := (List.getElem?_eq_some_iff.1 h').1; omega
    rw [List.getElem?_take_of_lt hlt] at h'; exact ⟨hlt, h'⟩
  refine ⟨hml.trans (lenM_take hk).symm, h.sb, fun i l hi => ?_, fun i l hi => h.lt i l (hs hi).2, fun i j l l' hi hj => h.inj i j l l' (hs hi).2 (hs hj).2, h.base_le, h.gok, fun i l hi => ?_, fun i l hi => (h.ext i l (hs hi).2).to (fun _ _ h => h) (Nat.le_refl _) (fun _ _ h => .inl h) fun j l' hj => .inl ⟨l', (hs hj).2, rfl, .inl rfl⟩⟩
  · obtain ⟨hlt, hi⟩ := hs hi
    have hcc := hc i
    rw [blk_take hlt] at hcc ⊢
    exact (h.bk i l hi).take (fun e cs he => hcc e cs he)
  · obtain ⟨h1, h2⟩ := h.pin i l hi
    have hlt := hp i l hi
    rw [blk_take hlt, List.getElem?_take_of_lt hlt]
    exact ⟨h1, h2⟩

theorem AWp.sub {c : Code} {Q : Exit → AS → Prop} {A B : AS} (hs : Sub A B) (h : AWp P c Q B) : AWp P c Q A := by
  refine ⟨fun base w S m a hM hA => ?_⟩
  have hp : ∀ i l, base.pin i = some l → i < B.np := fun i l hi => hs.np ▸ hM.pins i l hi
  have hA' := hA.sub hs.ts.le
  rcases hs.cl with hl | ⟨h1, h2, h3⟩
  · have hm := hs.m
    rw [← hl, takeM_all] at hm
    exact h.sem base w S m a ⟨hM.rel.sub hm, hp⟩ hA'
  · have h1 := Nat.le_of_ble_eq_true h1
    by_cases hle : lenM B.m ≤ lenM A.m
    · -- the blocks that are kept
      have hN : MRel base w S (m.take (lenM B.m)) B.m := by
        have hml : (m.take (lenM B.m)).length = lenM B.m := by rw [List.length_take, hM.rel.len]; omega
        have hs' : ∀ {i : Nat} {l : Option Loc}, (m.take (lenM B.m))[i]? = some l → i < lenM B.m ∧ m[i]? = some l := fun {i l} h' => by
          have hlt : i < lenM B.m := by have := (List.getElem?_eq_some_iff.1 h').1; omega
          rw [List.getElem?_take_of_lt hlt] at h'; exact ⟨hlt, h'⟩
        refine ⟨hml, hM.rel.sb, fun i l hi => ?_, fun i l hi => hM.rel.lt i l (hs' hi).2, fun i j l l' hi hj => hM.rel.inj i j l l' (hs' hi).2 (hs' hj).2, hM.rel.base_le, hM.rel.gok, fun i l hi => ?_, fun i l hi => (hM.rel.ext i l (hs' hi).2).to (fun _ _ h => h) (Nat.le_refl _) (fun _ _ h => .inl h) fun j l' hj => .inl ⟨l', (hs' hj).2, rfl, .inl rfl⟩⟩
        · obtain ⟨hlt, hi⟩ := hs' hi
          have hb := hs.m.blk i
          rw [blk_take hlt] at hb
          exact ((hM.rel.bk i l hi).sub hb).take (fun e cs he => closedM_blk h3 he)
        · obtain ⟨q1, q2⟩ := hM.rel.pin i l hi
          have hlt : i < lenM B.m := Nat.lt_of_lt_of_le (hp i l hi) h1
          have hb := hs.m.blk i
          rw [blk_take hlt] at hb
          rw [List.getElem?_take_of_lt hlt]
          exact ⟨q1, hb.cells q2⟩
      refine h.sem base w S _ a ⟨hN, hp⟩ ⟨hA'.1, hA'.2.1, fun t => ?_⟩
      by_cases ht : t < lenA B.ts
      · exact (hA'.2.2 t).take 4 (closedL_nth h2 ht)
      · rw [nth_out _ _ (by omega)]; exact .undef _ _
    · have := hs.m.len
      have e : lenM (takeM (lenM B.m) A.m) = lenM A.m := by
        rw [takeM_eq, List.take_of_length_le (by rw [← lenM_eq]; omega)]
      omega

/-- What of a state is relied on: slot by slot, and the memory as it is. -/
theorem AWp.loopSub {c : Code} {Q : Exit → AS → Prop} {A : AS} (I : Nat → AS → Prop) (n : Nat) (h₀ : ∃ B, Sub A B ∧ I n B) (round : ∀ n A, I n A → AWp P c (thenQ (fun A' => ∃ n', n' < n ∧ ∃ B, Sub A' B ∧ I n' B) Q) A) : AWp P (.loop c) Q A :=
  AWp.loop (fun n A => ∃ B, Sub A B ∧ I n B) n h₀ fun n _ ⟨B, hs, hB⟩ => AWp.sub hs (round n B hB)

/-- What is to be shown of a loop's round. -/
def NextQ {ι : Type} (B : ι → AS) (C : ι → Prop) (μ : ι → Nat) (i : ι) (Q : Exit → AS → Prop) : Exit → AS → Prop :=
  thenQ (fun A' => ∃ j, μ j < μ i ∧ C j ∧ Sub A' (B j)) Q

/-- A loop, by a family of states. -/
theorem AWp.loopG {c : Code} {Q : Exit → AS → Prop} {A : AS} {ι : Type} (B : ι → AS) (C : ι → Prop) (μ : ι → Nat) (i₀ : ι) (hc : C i₀) (h0 : Sub A (B i₀))
    (round : ∀ i, C i → ∀ N, N = NextQ B C μ i Q → AWp P c N (B i)) : AWp P (.loop c) Q A := by
  refine AWp.loopSub (fun n A => ∃ i, n = μ i ∧ C i ∧ A = B i) (μ i₀) ⟨_, h0, i₀, rfl, hc, rfl⟩ ?_
  rintro n A ⟨i, rfl, hi, rfl⟩
  refine (round i hi _ rfl).mono ?_
  intro e A' h
  cases e with
  | normal =>
    obtain ⟨j, h1, h2, h3⟩ := h
    exact ⟨μ j, h1, B j, h3, j, rfl, h2, rfl⟩
  | _ => exact h

theorem NextQ.normal {ι : Type} {B : ι → AS} {C : ι → Prop} {μ : ι → Nat} {i : ι} {Q : Exit → AS → Prop} {A' : AS} (j : ι) (h1 : μ j < μ i) (h2 : C j) (h3 : Sub A' (B j)) : NextQ B C μ i Q .normal A' := ⟨j, h1, h2, h3⟩

/-- A loop, so many rounds of it. -/
def Unr (P : Program) (c : Code) (Q : Exit → AS → Prop) : Nat → AS → Prop
  | 0, _ => False
  | n + 1, A => AWp P c (thenQ (Unr P c Q n) Q) A

theorem AWp.unroll {c : Code} {Q : Exit → AS → Prop} {A : AS} (n : Nat) (h : Unr P c Q n A) : AWp P (.loop c) Q A := by
  refine AWp.loop (Unr P c Q) n h ?_
  intro n A h
  cases n with
  | zero => exact h.elim
  | succ n =>
    refine h.mono ?_
    intro e A' h'
    cases e with
    | normal => exact ⟨n, Nat.lt_succ_self n, h'⟩
    | _ => exact h'

theorem Unr.step {c : Code} {Q : Exit → AS → Prop} {A : AS} {n : Nat} (h : ∀ N, N = thenQ (Unr P c Q n) Q → AWp P c N A) : Unr P c Q (n + 1) A := h _ rfl

/-- An answer, by an equation. -/
theorem post_ret {rs : List ResultVar} {A : AS} {v : AV} (hk : allT (retKs T A rs) = true) (h : retV T A rs = v) : PostOf T rs (.val v) .ret A := ⟨AllT.of hk, h ▸ Le.refl _⟩
theorem post_end {rs : List ResultVar} {A : AS} {v : AV} (hk : allT (retKs T A rs) = true) (h : retV T A rs = v) : PostOf T rs (.val v) .normal A := ⟨AllT.of hk, h ▸ Le.refl _⟩

theorem ACalls.ofK {f : FuncId} {fn : Func} {c : Code} (hf : P.funcs[f]? = some fn) (hb : fn.body = some c) (hn : namesOk P = true) (hm : P.follows .mixedOrders = true) (hT : TabOk P T) {call : Oracle} (hcall : Sound P call) {args : List AV} {r : CR}
    (h : ∀ (p : Prims) (L : Leaf) (K : Exit → AS → Prop), p = std → L = leafOf P → K = PostOf T fn.results.toList r → ArgsOk args → wpT L p T call c K ⟨catA args (und (fn.ntmps - lenA args)), [], 0⟩) : ACalls P f args r :=
  ACalls.ofT hf hb hn hm hT hcall fun p L hp hL ha => h p L _ hp hL rfl ha

end Go.Eng

namespace Go.Eng
open Go Go.RowKit

variable {P : Program} {T : Tab} {base : Env} {w : World} {S : Nat → Prop} {m : Locs} {M : Mem}

theorem args2 {vs : Array Value} {a b : AV} (h : RelL w S m vs [a, b]) : ∃ x y, vs = #[x, y] ∧ Rel w S m x a ∧ Rel w S m y b := by
  obtain ⟨h1, h2⟩ := h
  have hs : vs.size = 2 := h1
  refine ⟨vs[0]'(by omega), vs[1]'(by omega), ?_, ?_, ?_⟩
  · apply Array.ext
    · simpa using hs
    · intro i h1 h2
      have : i = 0 ∨ i = 1 := by simp at h2; omega
      rcases this with rfl | rfl <;> rfl
  · have := h2 0 (by simp [lenA])
    simpa [hs, nth, Array.getD_eq_getD_getElem?] using this
  · have := h2 1 (by simp [lenA])
    simpa [hs, nth, Array.getD_eq_getD_getElem?] using this

theorem compare_three (a b : List UInt8) : Lib.compareBytes a b = -1 ∨ Lib.compareBytes a b = 0 ∨ Lib.compareBytes a b = 1 := by
  induction a generalizing b with
  | nil => cases b <;> simp [Lib.compareBytes]
  | cons x a ih =>
    cases b with
    | nil => simp [Lib.compareBytes]
    | cons y b =>
      simp only [Lib.compareBytes]
      split
      · simp
      · split
        · simp
        · exact ih b

/-- strings.Compare's inner part. -/
theorem ACalls.cmpstring {f : FuncId} {fn : Func} (hf : P.funcs[f]? = some fn) (hname : (fn.name == "runtime.NumGoroutine") = false) (hb : fn.body.isNone = true) (hn : Extern.findNext fn = none)
    (he : Extern.find fn = some Extern.BytealgCompare.compare) (a b : List UInt8) : ACalls P f [.str a, .str b] (.val (.int .i64 (Lib.compareBytes a b))) := by
  intro w S vs _ hsb hr
  obtain ⟨x, y, rfl, hx, hy⟩ := args2 hr
  cases hx; cases hy
  refine .inr ⟨.int .i64 (Lib.compareBytes a b), w, ?_, _, rfl, Below.refl _ _, ?_⟩
  · rw [run_callFunc_extern hf hname hb hn he, Lib.run_compareString]
    rfl
  · show Rel w _ [] _ (.int .i64 _)
    refine .int _ _ _ ?_
    rcases compare_three a b with h | h | h <;> rw [h] <;> decide

end Go.Eng

namespace Go.Eng
open Go Go.RowKit

variable {P : Program} {T : Tab} {base : Env} {w : World} {S : Nat → Prop} {m : Locs} {M : Mem}

/-- A slice that is nil, taken as one of the call's own. -/
theorem AWp.ownNil {c : Code} {Q : Exit → AS → Prop} {A : AS} (i : Nat) (e : TypeId) (sz : Nat) (c0 : Nat → Nat → AV) (hi : nth A.ts i = .nilsl ∨ nth A.ts i = .emp)
    (h : AWp P c Q ⟨put A.ts i (.own (lenM A.m) 0), snocM A.m (.rows e sz 0 c0), A.np⟩) : AWp P c Q A := by
  refine ⟨fun base w S m a hM hA => ?_⟩
  obtain ⟨ht, hm⟩ := hM.rel.allocN (.rows e sz 0 c0) rfl
  have hs := h.sem base w S (m ++ [none]) a ⟨hm, hM.pins⟩ ⟨by rw [lenA_put]; exact hA.1, hA.2.1, fun t => ?_⟩
  · exact hs
  · have hr := hA.2.2 t
    rw [nth_put]
    split
    · rename_i e'
      obtain ⟨rfl, _⟩ := e'
      have hlast : (m ++ [none])[lenM A.m]? = some none := by rw [← hM.rel.len]; simp
      rcases hi with hi | hi <;> rw [hi] at hr <;> (generalize a.tmps.getD i Go.undef = v at hr; cases hr; exact .own0 _ _ _ hlast)
    · exact ht.rel hr

/-! What a call answers, its own memory in it. -/
def rawVs (T : Tab) (A : AS) : List ResultVar → List AV
  | [] => []
  | r :: l => (aRes1 T A r).v :: rawVs T A l
def rawV (T : Tab) (A : AS) : List ResultVar → AV
  | [r] => (aRes1 T A r).v
  | rs => .tup (rawVs T A rs)

/-- What the code of a function must come to that is handed memory. -/
structure PostSR (T : Tab) (rs : List ResultVar) (np : Nat) (r : R) (A : AS) : Prop where
  ks : AllT (retKs T A rs)
  v : Le (rawV T A rs) r.v
  le : lenM r.m ≤ lenM A.m
  m : ∀ i, i < lenM r.m → (∀ w S m l, BRel w S m l (blk A.m i) → BRel w S m l (blk r.m i)) ∧ (isCells (blk A.m i) = true → isCells (blk r.m i) = true)
  np : np ≤ lenM r.m
  cl : lenM A.m = lenM r.m ∨ (closedN (lenM r.m) 4 r.v = true ∧ closedM (lenM r.m) r.m = true)

def PostS (T : Tab) (rs : List ResultVar) (np : Nat) (r : R) : Exit → AS → Prop
  | .ret, A => PostSR T rs np r A
  | .normal, A => PostSR T rs np r A
  | _, _ => False

theorem rawVs_len (A : AS) (rs : List ResultVar) : lenA (rawVs T A rs) = rs.length := by induction rs with | nil => rfl | cons r rs ih => simp [rawVs, lenA, ih]
theorem rawVs_nth (A : AS) (rs : List ResultVar) (i : Nat) (hi : i < rs.length) : nth (rawVs T A rs) i = (aRes1 T A rs[i]).v := by
  induction rs generalizing i with
  | nil => simp at hi
  | cons r rs ih => cases i with
    | zero => rfl
    | succ i => simpa [rawVs, nth] using ih i (by simpa using hi)

/-- All blocks are cells, but for one that may move. -/
def cellsBut (inv : Option Nat) : Nat → Mem → Bool
  | _, [] => true
  | i, B :: l => match isCells B with
    | true => cellsBut inv (i + 1) l
    | false => match inv with
      | some j => match Nat.beq i j with | true => cellsBut inv (i + 1) l | false => false
      | none => false

theorem cellsBut_blk {inv : Option Nat} : ∀ {M : Mem} {s : Nat}, cellsBut inv s M = true → ∀ i, i < lenM M → isCells (blk M i) = true ∨ inv = some (s + i)
  | B :: l, s, h, i, hi => by
    simp only [cellsBut] at h
    split at h
    · rename_i hc
      cases i with
      | zero => exact .inl hc
      | succ i =>
        have := cellsBut_blk h i (by simp [lenM] at hi; omega)
        rw [show s + 1 + i = s + (i + 1) by omega] at this
        exact this
    · split at h
      · rename_i j
        split at h
        · rename_i hj
          have hj := Nat.eq_of_beq_eq_true hj
          subst hj
          cases i with
          | zero => exact .inr rfl
          | succ i =>
            have := cellsBut_blk h i (by simp [lenM] at hi; omega)
            rw [show s + 1 + i = s + (i + 1) by omega] at this
            exact this
        · cases h
      · cases h

/-- A contract with memory, out of the code. -/
theorem SCalls.of {f : FuncId} {fn : Func} {c : Code} (hT : TabOk P T) (hf : P.funcs[f]? = some fn) (hb : fn.body = some c) (hname : (fn.name == "runtime.NumGoroutine") = false) {args : List AV} {r : R}
    (hc : cellsBut r.inv 0 M = true) (h : AWp P c (PostS T fn.results.toList (lenM M) r) ⟨catA args (und (fn.ntmps - lenA args)), M, lenM M⟩) : SCalls P f args M r := by
  intro Z w S m vs hM hargs
  refine .inl ⟨?_, ?_⟩
  · have hn : ¬ fn.name = "runtime.NumGoroutine" := by simpa using hname
    simp [callFunc, hf, hb, hn]
  -- what lies where it lay
  let E : Env := ⟨fun g => Z.Z g ∨ S g, fun i => match isCells (blk M i) with | true => (m[i]?).join | false => none, fun g hg => .inl (Z.gz g hg), fun g => Z.Z g ∨ S g, fun _ h => h⟩
  have hE : ∀ i l, E.pin i = some l ↔ isCells (blk M i) = true ∧ m[i]? = some (some l) := fun i l => by
    show (match isCells (blk M i) with | true => (m[i]?).join | false => none) = some l ↔ _
    cases hic : isCells (blk M i) with
    | false => simp
    | true => simp [Option.join_eq_some_iff]
  have hME : MRel E w S m M := ⟨hM.len, hM.sb, hM.bk, fun i l hi => ⟨fun h => h.elim (hM.lt i l hi).1 (hM.lt i l hi).2.2, (hM.lt i l hi).2⟩, hM.inj, fun b h => h.elim (hM.base_le b) (hM.sb b), hM.gok, fun i l hi => ⟨((hE i l).1 hi).2, ((hE i l).1 hi).1⟩, fun i l hi => have q := hM.ext i l hi; ⟨q.nd, fun b hb => have r := q.out b hb; ⟨fun h => h.elim r.1 r.2.2, r.2⟩, q.far⟩⟩
  refine calls_of_marks (old := E.Z) hf hb ?_
  have hA : ARel E.old w S m { tmps := vs ++ Array.replicate (fn.ntmps - vs.size) Go.undef, defers := [] } (catA args (und (fn.ntmps - lenA args))) := by
    refine ⟨by rw [lenA_cat, lenA_und]; simp [hargs.1], Marks.nil _ _ _, fun t => ?_⟩
    rw [nth_cat]
    simp only [Array.getD_eq_getD_getElem?]
    split
    · rename_i hlt
      rw [Array.getElem?_append_left (by rw [hargs.1]; exact hlt)]
      have := hargs.2 t hlt
      simpa using this
    · rw [nth_und]; exact .undef _ _
  have hpins : ∀ i l, E.pin i = some l → i < lenM M := fun i l hi => by
    have := ((hE i l).1 hi).2
    rw [← hM.len]; exact (List.getElem?_eq_some_iff.1 this).1
  refine Code.wp_mono ?_ (h.sem E w S m _ ⟨hME, hpins⟩ hA)
  rintro e a' w₁ ⟨A', S', m', hq, hbel₁, hS, hU, hM₁, hA₁⟩
  have fin : PostSR T fn.results.toList (lenM M) r A' → ∃ S₀, Marks E.old w₁ S₀ a'.defers ∧ ∀ w', Shut E.Z w₁ w' → ∃ v, (results fn a'.tmps).run P w' = .ok v w' ∧ SPost Z w S m r (.returned v) w' := by
    intro hr
    refine ⟨S', hA₁.2.1, fun w' hsh => ?_⟩
    have hM' := hM₁.rel.shut hsh
    have hbel := hbel₁.trans hsh.prot
    have hA' : ARel E.old w' S' m' { a' with defers := [] } A'.ts := ⟨hA₁.1, Marks.nil _ _ _, fun t => (hA₁.2.2 t).shut hsh⟩
    obtain ⟨us, k1, k2, k3⟩ := run_ress hT hM' hA' fn.results.toList hr.ks
    have hrun : (results fn a'.tmps).run P w' = .ok (if h : us.toArray.size = 1 then us.toArray[0] else .tuple us.toArray) w' := by
      unfold results
      rw [Array.mapM_eq_mapM_toList]
      simp only [Sem.run_bind, Sem.run_map, Result.andThen_ok, Sem.run_pure, Result.andThen]
      erw [k1]
    have hraw : Rel w' S' m' (if h : us.toArray.size = 1 then us.toArray[0] else .tuple us.toArray) (rawV T A' fn.results.toList) := by
      generalize hrs : fn.results.toList = rs at *
      match rs, us, k2, k3 with
      | [r1], [u], _, k3 => exact k3 0 (by simp) (by simp)
      | [], [], _, _ => exact .tup _ _ _ rfl fun i hi => absurd hi (Nat.not_lt_zero i)
      | r1 :: r2 :: rs, u1 :: u2 :: us, k2, k3 =>
        have hne : ¬ (u1 :: u2 :: us).toArray.size = 1 := by simp
        rw [dif_neg hne]
        refine .tup _ _ _ (by show _ = lenA (rawVs T A' (r1 :: r2 :: rs)); rw [rawVs_len]; simpa using k2) fun i hi => ?_
        change i < lenA (rawVs T A' (r1 :: r2 :: rs)) at hi
        rw [rawVs_len] at hi
        rw [rawVs_nth _ _ _ hi]
        have hi' : i < (u1 :: u2 :: us).length := by rw [k2]; exact hi
        have := k3 i hi hi'
        have e : (u1 :: u2 :: us).toArray.getD i Go.undef = (u1 :: u2 :: us)[i] := by rw [Array.getD_eq_getD_getElem?, List.getElem?_toArray, List.getElem?_eq_getElem hi']; rfl
        rw [e]; exact this
    refine ⟨_, hrun, ?_⟩
    have hv := hr.v _ _ _ _ hraw
    -- where the blocks lie
    have hloc : ∀ i l, isCells (blk M i) = true → m[i]? = some l → m'[i]? = some l := fun i l hic hi => by
      have hbk := hM.bk i l hi
      cases l with
      | none => revert hbk; cases hB : blk M i <;> rw [hB] at hic <;> simp [isCells, BRel] at hic ⊢
      | some l => exact (hM'.pin i l ((hE i l).2 ⟨hic, hi⟩)).1
    have hkle : lenM r.m ≤ lenM A'.m := hr.le
    have hlen' : (m'.take (lenM r.m)).length = lenM r.m := by rw [List.length_take, hM'.len]; omega
    have hlm : ∀ (i : Nat) (l : Option Loc), r.inv ≠ some i → m[i]? = some l → (m'.take (lenM r.m))[i]? = some l := fun i l hne hi => by
      have hlt : i < lenM M := by rw [← hM.len]; exact (List.getElem?_eq_some_iff.1 hi).1
      rw [List.getElem?_take_of_lt (Nat.lt_of_lt_of_le hlt hr.np)]
      rcases cellsBut_blk hc i hlt with hic | hinv
      · exact hloc i l hic hi
      · exact absurd (by rw [hinv, Nat.zero_add]) hne
    have hcl : closedN (lenM r.m) 4 r.v = true ∧ closedM (lenM r.m) r.m = true ∨ lenM A'.m = lenM r.m := hr.cl.symm
    have hvt : Rel w' S' (m'.take (lenM r.m)) (if h : us.toArray.size = 1 then us.toArray[0] else .tuple us.toArray) r.v := by
      rcases hcl with ⟨c1, _⟩ | c1
      · exact hv.take 4 c1
      · rw [← c1, ← hM'.len, List.take_length]; exact hv
    refine ⟨_, S', m'.take (lenM r.m), rfl, ⟨hbel.mono fun _ h => .inl h, hS, fun b h => (hU b h).imp id fun h h' => h (.inl h'), fun b hb => hbel.block b (.inr hb), lmEq hlm⟩, ?_, hvt⟩
    · have hs' : ∀ {i : Nat} {l : Option Loc}, (m'.take (lenM r.m))[i]? = some l → i < lenM r.m ∧ m'[i]? = some l := fun {i l} h' => by
        have hlt : i < lenM r.m := by have := (List.getElem?_eq_some_iff.1 h').1; omega
        rw [List.getElem?_take_of_lt hlt] at h'; exact ⟨hlt, h'⟩
      refine ⟨hlen', hM'.sb, fun i l hi => ?_, fun i l hi => have q := hM'.lt i l (hs' hi).2; ⟨fun h => q.1 (.inl h), q.2⟩, fun i j l l' hi hj => hM'.inj i j l l' (hs' hi).2 (hs' hj).2, fun b h => hM'.base_le b (.inl h), hM'.gok, fun i l hi => ?_, fun i l hi => (hM'.ext i l (hs' hi).2).to (fun b _ h => .inl h) (Nat.le_refl _) (fun _ _ h => .inl h) fun j l' hj => .inl ⟨l', (hs' hj).2, rfl, .inl rfl⟩⟩
      · obtain ⟨hlt, hi⟩ := hs' hi
        have hB := (hr.m i hlt).1 _ _ _ _ (hM'.bk i l hi)
        rcases hcl with ⟨_, c1⟩ | c1
        · exact hB.take (fun e cs he => closedM_blk c1 he)
        · rw [← c1, ← hM'.len, List.take_length]; exact hB
      · obtain ⟨q1, q2⟩ := hM.pin i l hi
        have hlt : i < lenM r.m := Nat.lt_of_lt_of_le (by rw [← hM.len]; exact (List.getElem?_eq_some_iff.1 q1).1) hr.np
        obtain ⟨q3, q4⟩ := hM'.pin i l ((hE i l).2 ⟨q2, q1⟩)
        rw [List.getElem?_take_of_lt hlt]
        exact ⟨q3, (hr.m i hlt).2 q4⟩
  cases e with
  | ret => exact fin hq
  | normal => exact fin hq
  | exit id => exact hq.elim
  | goto l => exact hq.elim
  | panic ch => exact hq.elim
  | outgrown => exact hq.elim

end Go.Eng

namespace Go.Eng
open Go Go.RowKit

variable {P : Program} {T : Tab} {base : Env} {w : World} {S : Nat → Prop} {m : Locs} {M : Mem}

def nthN : List Nat → Nat → Option Nat
  | [], _ => none
  | a :: _, 0 => some a
  | _ :: l, n + 1 => nthN l n
theorem nthN_eq (l : List Nat) (i : Nat) : nthN l i = l[i]? := by
  induction l generalizing i with
  | nil => rfl
  | cons a l ih => cases i with
    | zero => rfl
    | succ i => simpa [nthN] using ih i

/-- Blocks by other numbers; d: what stands where nothing fits. -/
def renN (d : AV) (κ : List Nat) : Nat → AV → AV
  | _, .ref b o => match nthN κ b with | some b' => .ref b' o | none => d
  | _, .eref b i o => match nthN κ b with | some b' => .eref b' i o | none => d
  | _, .selfp b => match nthN κ b with | some b' => .selfp b' | none => d
  | _, .asl b n => match nthN κ b with | some b' => .asl b' n | none => d
  | _, .mp b => match nthN κ b with | some b' => .mp b' | none => d
  | _, .sub b j => match nthN κ b with | some b' => .sub b' j | none => d
  | _, .own b n => match nthN κ b with | some b' => .own b' n | none => d
  | _, .ownT b => match nthN κ b with | some b' => .ownT b' | none => d
  | _, .tail b lo n => match nthN κ b with | some b' => .tail b' lo n | none => d
  | 0, .agg _ => d
  | 0, .fn _ _ _ => d
  | 0, .tup _ => d
  | 0, .lst _ _ => d
  | f + 1, .agg cs => .agg (mapA (renN d κ f) cs)
  | f + 1, .tup cs => .tup (mapA (renN d κ f) cs)
  | f + 1, .lst i cs => .lst i (mapA (renN d κ f) cs)
  | f + 1, .fn g a c => .fn g (mapA (renN d κ f) a) (mapA (renN d κ f) c)
  | _, v => v

def badV : AV := .int .u8 (-1)
theorem not_badV {v : Value} (h : Rel w S m v badV) : False := by
  unfold badV at h
  cases h with
  | int _ _ _ h => exact absurd h (by decide)

def selL (m : Locs) : List Nat → Locs
  | [] => []
  | j :: κ => (m[j]?).join :: selL m κ
theorem selL_get {m : Locs} {κ : List Nat} {i j : Nat} (h : nthN κ i = some j) : (selL m κ)[i]? = some ((m[j]?).join) := by
  induction κ generalizing i with
  | nil => simp [nthN] at h
  | cons a κ ih => cases i with
    | zero => simp [nthN] at h; subst h; rfl
    | succ i => simpa [selL] using ih (by simpa [nthN] using h)
theorem selL_len (m : Locs) (κ : List Nat) : (selL m κ).length = κ.length := by induction κ with | nil => rfl | cons a κ ih => simp [selL, ih]
theorem selL_inv {m : Locs} {κ : List Nat} {i : Nat} {l : Loc} (h : (selL m κ)[i]? = some (some l)) : ∃ j, nthN κ i = some j ∧ m[j]? = some (some l) := by
  have hlt : i < κ.length := by rw [← selL_len m κ]; exact (List.getElem?_eq_some_iff.1 h).1
  have e : nthN κ i = some κ[i] := by rw [nthN_eq]; exact List.getElem?_eq_getElem hlt
  refine ⟨_, e, ?_⟩
  rw [selL_get e] at h
  injection h with h
  simpa [Option.join_eq_some_iff] using h

/-- From the larger memory to the smaller one. -/
theorem Rel.down {κ : List Nat} : ∀ (f : Nat) {v : Value} {a : AV}, Rel w S m v (renN badV κ f a) → Rel w S (selL m κ) v a := by
  have key : ∀ {b : Nat} {l : Option Loc} {j : Nat}, nthN κ b = some j → m[j]? = some l → (selL m κ)[b]? = some l := fun h h' => by rw [selL_get h, h']; rfl
  have flat : ∀ (f : Nat) {v : Value} {a : AV}, (∀ cs, a ≠ .agg cs) → (∀ cs, a ≠ .tup cs) → (∀ g x y, a ≠ .fn g x y) → (∀ i cs, a ≠ .lst i cs) → Rel w S m v (renN badV κ f a) → Rel w S (selL m κ) v a := by
    intro f v a h1 h2 h3 h4 h
    cases a with
    | ref b o =>
      have h : Rel w S m v (match nthN κ b with | some b' => .ref b' o | none => badV) := by cases f <;> exact h
      cases hb : nthN κ b with
      | none => rw [hb] at h; exact (not_badV h).elim
      | some j => rw [hb] at h; cases h with | ref _ _ _ l hq => exact .ref _ _ _ _ (key hb hq)
    | selfp b =>
      have h : Rel w S m v (match nthN κ b with | some b' => .selfp b' | none => badV) := by cases f <;> exact h
      cases hb : nthN κ b with
      | none => rw [hb] at h; exact (not_badV h).elim
      | some j => rw [hb] at h; cases h with
        | selfp0 => exact .selfp0 _ _
        | selfp _ _ l hq => exact .selfp _ _ _ (key hb hq)
    | asl b n =>
      have h : Rel w S m v (match nthN κ b with | some b' => .asl b' n | none => badV) := by cases f <;> exact h
      cases hb : nthN κ b with
      | none => rw [hb] at h; exact (not_badV h).elim
      | some j => rw [hb] at h; cases h with | asl _ _ _ l hq hn => exact .asl _ _ _ _ (key hb hq) hn
    | mp b =>
      have h : Rel w S m v (match nthN κ b with | some b' => .mp b' | none => badV) := by cases f <;> exact h
      cases hb : nthN κ b with
      | none => rw [hb] at h; exact (not_badV h).elim
      | some j => rw [hb] at h; cases h with
        | mp _ _ l hq => exact .mp _ _ _ (key hb hq)
        | mp0 _ _ hq => exact .mp0 _ _ (key hb hq)
    | sub b i =>
      have h : Rel w S m v (match nthN κ b with | some b' => .sub b' i | none => badV) := by cases f <;> exact h
      cases hb : nthN κ b with
      | none => rw [hb] at h; exact (not_badV h).elim
      | some j => rw [hb] at h; cases h with | sub _ _ _ l g hq hj => exact .sub _ _ _ _ _ (key hb hq) hj
    | eref b i o =>
      have h : Rel w S m v (match nthN κ b with | some b' => .eref b' i o | none => badV) := by cases f <;> exact h
      cases hb : nthN κ b with
      | none => rw [hb] at h; exact (not_badV h).elim
      | some j => rw [hb] at h; cases h with | eref _ _ _ _ l hq hr => exact .eref _ _ _ _ _ (key hb hq) hr
    | own b n =>
      have h : Rel w S m v (match nthN κ b with | some b' => .own b' n | none => badV) := by cases f <;> exact h
      cases hb : nthN κ b with
      | none => rw [hb] at h; exact (not_badV h).elim
      | some j => rw [hb] at h; cases h with
        | own _ _ _ l hq hn hc => exact .own _ _ _ _ (key hb hq) hn hc
        | own0 _ aa _ hq => exact .own0 _ _ _ (key hb hq)
    | ownT b =>
      have h : Rel w S m v (match nthN κ b with | some b' => .ownT b' | none => badV) := by cases f <;> exact h
      cases hb : nthN κ b with
      | none => rw [hb] at h; exact (not_badV h).elim
      | some j => rw [hb] at h; cases h with
        | ownT _ _ l hq hc => exact .ownT _ _ _ (key hb hq) hc
        | ownT0 _ aa _ hq => exact .ownT0 _ _ _ (key hb hq)
    | tsl t l g => have h : Rel w S m v (.tsl t l g) := by cases f <;> exact h
                   exact h.out rfl _
    | tail b lo n =>
      have h : Rel w S m v (match nthN κ b with | some b' => .tail b' lo n | none => badV) := by cases f <;> exact h
      cases hb : nthN κ b with
      | none => rw [hb] at h; exact (not_badV h).elim
      | some j => rw [hb] at h; cases h with
        | tail _ aa _ _ _ cp hn h => exact .tail _ _ _ _ _ _ hn fun h0 => let ⟨l, q1, q2⟩ := h h0; ⟨l, key hb q1, q2⟩
    | agg cs => exact absurd rfl (h1 cs)
    | tup cs => exact absurd rfl (h2 cs)
    | fn g x y => exact absurd rfl (h3 g x y)
    | lst i cs => exact absurd rfl (h4 i cs)
    | undef => exact .undef _ _
    | int k n => have h : Rel w S m v (.int k n) := by cases f <;> exact h
                 cases h; exact .int _ _ _ (by assumption)
    | bool b => have h : Rel w S m v (.bool b) := by cases f <;> exact h
                cases h; exact .bool _ _
    | str s => have h : Rel w S m v (.str s) := by cases f <;> exact h
               exact h.out rfl _
    | nilptr => have h : Rel w S m v .nilptr := by cases f <;> exact h
                exact h.out rfl _
    | cptr n c => have h : Rel w S m v (.cptr n c) := by cases f <;> exact h
                  exact h.out rfl _
    | slice sz n fl c => have h : Rel w S m v (.slice sz n fl c) := by cases f <;> exact h
                         exact h.out rfl _
    | nilsl => have h : Rel w S m v .nilsl := by cases f <;> exact h
               exact h.out rfl _
    | emp => have h : Rel w S m v .emp := by cases f <;> exact h
             exact h.out rfl _
    | nilfn => have h : Rel w S m v .nilfn := by cases f <;> exact h
               exact h.out rfl _
    | mv t u l => have h : Rel w S m v (.mv t u l) := by cases f <;> exact h
                  exact h.out rfl _
    | nilmap => have h : Rel w S m v .nilmap := by cases f <;> exact h
                exact h.out rfl _
    | niliface => have h : Rel w S m v .niliface := by cases f <;> exact h
                  exact h.out rfl _
    | nxt b vs => have h : Rel w S m v (.nxt b vs) := by cases f <;> exact h
                  cases h with
                  | nxtT _ us _ hl h0 h => exact .nxtT _ _ _ hl h0 h
                  | nxtF => exact .nxtF _ _
    | clo id fst cap =>
      have h : Rel w S m v (.clo id fst cap) := by cases f <;> exact h
      exact h.out rfl _
    | nilB n => have h : Rel w S m v (.nilB n) := by cases f <;> exact h
                cases h with | nilB _ b _ h => exact .nilB _ _ _ h
  intro f
  induction f with
  | zero =>
    intro v a h
    cases a with
    | agg cs => exact (not_badV h).elim
    | tup cs => exact (not_badV h).elim
    | fn g x y => exact (not_badV h).elim
    | lst i cs => exact (not_badV h).elim
    | _ => exact flat 0 (fun _ => by simp) (fun _ => by simp) (fun _ _ _ => by simp) (fun _ _ => by simp) h
  | succ f ih =>
    intro v a h
    cases a with
    | agg cs =>
      have h : Rel w S m v (.agg (mapA (renN badV κ f) cs)) := h
      cases h with
      | agg _ vs _ hl h1 h =>
        rw [lenA_mapA] at hl h1 h
        exact .agg _ _ _ hl h1 fun i hi => ih (by have := h i hi; rwa [nth_mapA _ _ _ hi] at this)
    | tup cs =>
      have h : Rel w S m v (.tup (mapA (renN badV κ f) cs)) := h
      cases h with
      | tup _ vs _ hl h =>
        rw [lenA_mapA] at hl h
        exact .tup _ _ _ hl fun i hi => ih (by have := h i hi; rwa [nth_mapA _ _ _ hi] at this)
    | lst i cs =>
      have h : Rel w S m v (.lst i (mapA (renN badV κ f) cs)) := h
      generalize hq : mapA (renN badV κ f) cs = q at h
      cases h with
      | lst0 _ b o n _ g hs hn hl hc h =>
        subst hq
        rw [lenA_mapA] at hl hc h
        exact .lst0 _ _ _ _ _ g hs hn hl hc fun j hj => ih (by have := h j hj; rwa [nth_mapA _ _ _ hj] at this)
      | lst1 _ b o i _ g hs hi hc h =>
        subst hq
        rw [lenA_mapA] at hi hc h
        exact .lst1 _ _ _ _ _ g hs hi hc fun j hj => ih (by have := h j hj; rwa [nth_mapA _ _ _ hj] at this)
    | fn g x y =>
      have h : Rel w S m v (.fn g (mapA (renN badV κ f) x) (mapA (renN badV κ f) y)) := h
      cases h with
      | fn _ _ fs cs _ _ hl hl' h1 h1' h h' =>
        rw [lenA_mapA] at hl hl' h1 h1' h h'
        exact .fn _ _ _ _ _ _ hl hl' h1 h1' (fun i hi => ih (by have := h i hi; rwa [nth_mapA _ _ _ hi] at this)) (fun i hi => ih (by have := h' i hi; rwa [nth_mapA _ _ _ hi] at this))
    | _ => exact flat (f + 1) (fun _ => by simp) (fun _ => by simp) (fun _ _ _ => by simp) (fun _ _ => by simp) h

/-- From the smaller memory to the larger one. -/
theorem Rel.up {κ : List Nat} {m0 : Locs} (hk : ∀ i l, m0[i]? = some l → ∃ j, nthN κ i = some j ∧ m[j]? = some l) : ∀ (f : Nat) {v : Value} {a : AV}, Rel w S m0 v a → Rel w S m v (renN .undef κ f a) := by
  have flat : ∀ (f : Nat) {v : Value} {a : AV}, (∀ cs, a ≠ .agg cs) → (∀ cs, a ≠ .tup cs) → (∀ g x y, a ≠ .fn g x y) → (∀ i cs, a ≠ .lst i cs) → Rel w S m0 v a → Rel w S m v (renN .undef κ f a) := by
    intro f v a h1 h2 h3 h4 h
    cases h with
    | ref _ b o l h =>
      obtain ⟨j, q1, q2⟩ := hk _ _ h
      have e : renN .undef κ f (.ref b o) = .ref j o := by cases f <;> simp [renN, q1]
      rw [e]; exact .ref _ _ _ _ q2
    | selfp0 _ b =>
      cases hb : nthN κ b with
      | none =>
        have e : renN .undef κ f (.selfp b) = .undef := by cases f <;> simp [renN, hb]
        rw [e]; exact .undef _ _
      | some j =>
        have e : renN .undef κ f (.selfp b) = .selfp j := by cases f <;> simp [renN, hb]
        rw [e]; exact .selfp0 _ _
    | selfp _ b l h =>
      obtain ⟨j, q1, q2⟩ := hk _ _ h
      have e : renN .undef κ f (.selfp b) = .selfp j := by cases f <;> simp [renN, q1]
      rw [e]; exact .selfp _ _ _ q2
    | asl _ b n l h hn =>
      obtain ⟨j, q1, q2⟩ := hk _ _ h
      have e : renN .undef κ f (.asl b n) = .asl j n := by cases f <;> simp [renN, q1]
      rw [e]; exact .asl _ _ _ _ q2 hn
    | mp _ b l h =>
      obtain ⟨j, q1, q2⟩ := hk _ _ h
      have e : renN .undef κ f (.mp b) = .mp j := by cases f <;> simp [renN, q1]
      rw [e]; exact .mp _ _ _ q2
    | mp0 _ b h =>
      obtain ⟨j, q1, q2⟩ := hk _ _ h
      have e : renN .undef κ f (.mp b) = .mp j := by cases f <;> simp [renN, q1]
      rw [e]; exact .mp0 _ _ q2
    | sub _ b i l g h hj =>
      obtain ⟨j, q1, q2⟩ := hk _ _ h
      have e : renN .undef κ f (.sub b i) = .sub j i := by cases f <;> simp [renN, q1]
      rw [e]; exact .sub _ _ _ _ _ q2 hj
    | eref _ b i o l h hr =>
      obtain ⟨j, q1, q2⟩ := hk _ _ h
      have e : renN .undef κ f (.eref b i o) = .eref j i o := by cases f <;> simp [renN, q1]
      rw [e]; exact .eref _ _ _ _ _ q2 hr
    | own _ b n l h hn hc =>
      obtain ⟨j, q1, q2⟩ := hk _ _ h
      have e : renN .undef κ f (.own b n) = .own j n := by cases f <;> simp [renN, q1]
      rw [e]; exact .own _ _ _ _ q2 hn hc
    | own0 _ aa b h =>
      obtain ⟨j, q1, q2⟩ := hk _ _ h
      have e : renN .undef κ f (.own b 0) = .own j 0 := by cases f <;> simp [renN, q1]
      rw [e]; exact .own0 _ _ _ q2
    | ownT _ b l h hc =>
      obtain ⟨j, q1, q2⟩ := hk _ _ h
      have e : renN .undef κ f (.ownT b) = .ownT j := by cases f <;> simp [renN, q1]
      rw [e]; exact .ownT _ _ _ q2 hc
    | ownT0 _ aa b h =>
      obtain ⟨j, q1, q2⟩ := hk _ _ h
      have e : renN .undef κ f (.ownT b) = .ownT j := by cases f <;> simp [renN, q1]
      rw [e]; exact .ownT0 _ _ _ q2
    | tsl _ t l g _ h => exact (by cases f <;> exact .tsl _ _ _ _ _ (h.slice_m _))
    | tail _ aa b lo n cp hn h =>
      by_cases hn0 : 0 < n
      · obtain ⟨l, p1, p2⟩ := h hn0
        obtain ⟨j, q1, q2⟩ := hk _ _ p1
        have e : renN .undef κ f (.tail b lo n) = .tail j lo n := by cases f <;> simp [renN, q1]
        rw [e]; exact .tail _ _ _ _ _ _ hn fun _ => ⟨l, q2, p2⟩
      · cases hb : nthN κ b with
        | none =>
          have e : renN .undef κ f (.tail b lo n) = .undef := by cases f <;> simp [renN, hb]
          rw [e]; exact .undef _ _
        | some j =>
          have e : renN .undef κ f (.tail b lo n) = .tail j lo n := by cases f <;> simp [renN, hb]
          rw [e]; exact .tail _ _ _ _ _ _ hn fun h => absurd h hn0
    | agg => exact absurd rfl (h1 _)
    | tup => exact absurd rfl (h2 _)
    | fn => exact absurd rfl (h3 _ _ _)
    | lst0 => exact absurd rfl (h4 _ _)
    | lst1 => exact absurd rfl (h4 _ _)
    | undef => exact (by cases f <;> exact .undef _ _)
    | int _ k n h => exact (by cases f <;> exact .int _ _ _ h)
    | bool => exact (by cases f <;> exact .bool _ _)
    | str _ s h => exact (by cases f <;> exact .str _ _ h)
    | nilptr => exact (by cases f <;> exact .nilptr _)
    | cptr _ b o n c g hs hc h => exact (by cases f <;> exact .cptr _ _ _ _ _ _ hs hc h)
    | slice _ b o sz n cap full c g hs hn hcap hf hc h => exact (by cases f <;> exact .slice _ _ _ _ _ _ _ _ _ hs hn hcap hf hc h)
    | slice0 _ a cap sz full c hcap hf => exact (by cases f <;> exact .slice0 _ _ _ _ _ _ hcap hf)
    | nilsl => exact (by cases f <;> exact .nilsl _)
    | emp => exact (by cases f <;> exact .emp _ _)
    | nilfn => exact (by cases f <;> exact .nilfn _)
    | mv _ b es ck t u x hs hg hl hr1 hr2 hok => exact (by cases f <;> exact .mv _ _ _ _ _ _ _ hs hg hl hr1 hr2 hok)
    | mv0 => exact (by cases f <;> exact .mv0 _)
    | nilmap => exact (by cases f <;> exact .nilmap _)
    | niliface => exact (by cases f <;> exact .niliface _)
    | nxtT _ vs cs hl h0 h => exact (by cases f <;> exact .nxtT _ _ _ hl h0 h)
    | clo _ id fs cs as0 bs hl0 hl h0 h => exact (by cases f <;> exact .clo _ _ _ _ _ _ hl0 hl h0 h)
    | nilB _ b n h => exact (by cases f <;> exact .nilB _ _ _ h)
    | nxtF => exact (by cases f <;> exact .nxtF _ _)
  intro f
  induction f with
  | zero =>
    intro v a h
    cases a with
    | agg cs => exact .undef _ _
    | tup cs => exact .undef _ _
    | fn g x y => exact .undef _ _
    | lst i cs => exact .undef _ _
    | _ => exact flat 0 (fun _ => by simp) (fun _ => by simp) (fun _ _ _ => by simp) (fun _ _ => by simp) h
  | succ f ih =>
    intro v a h
    cases a with
    | agg cs =>
      cases h with
      | agg _ vs _ hl h1 h =>
        exact .agg _ _ _ (by rw [lenA_mapA]; exact hl) (fun i hi => h1 i (by rwa [lenA_mapA] at hi)) fun i hi => by rw [lenA_mapA] at hi; rw [nth_mapA _ _ _ hi]; exact ih (h i hi)
    | tup cs =>
      cases h with
      | tup _ vs _ hl h =>
        exact .tup _ _ _ (by rw [lenA_mapA]; exact hl) fun i hi => by rw [lenA_mapA] at hi; rw [nth_mapA _ _ _ hi]; exact ih (h i hi)
    | lst i cs =>
      cases h with
      | lst0 _ b o n _ g hs hn hl hc h =>
        exact .lst0 _ _ _ _ _ g hs hn (by rw [lenA_mapA]; exact hl) (fun j hj => hc j (by rwa [lenA_mapA] at hj)) fun j hj => by rw [lenA_mapA] at hj; rw [nth_mapA _ _ _ hj]; exact ih (h j hj)
      | lst1 _ b o i _ g hs hi hc h =>
        exact .lst1 _ _ _ _ _ g hs (by rw [lenA_mapA]; exact hi) (fun j hj => hc j (by rwa [lenA_mapA] at hj)) fun j hj => by rw [lenA_mapA] at hj; rw [nth_mapA _ _ _ hj]; exact ih (h j hj)
    | fn g x y =>
      cases h with
      | fn _ _ fs cs _ _ hl hl' h1 h1' h h' =>
        exact .fn _ _ _ _ _ _ (by rw [lenA_mapA]; exact hl) (by rw [lenA_mapA]; exact hl') (fun i hi => h1 i (by rwa [lenA_mapA] at hi)) (fun i hi => h1' i (by rwa [lenA_mapA] at hi))
          (fun i hi => by rw [lenA_mapA] at hi; rw [nth_mapA _ _ _ hi]; exact ih (h i hi)) (fun i hi => by rw [lenA_mapA] at hi; rw [nth_mapA _ _ _ hi]; exact ih (h' i hi))
    | _ => exact flat (f + 1) (fun _ => by simp) (fun _ => by simp) (fun _ _ _ => by simp) (fun _ _ => by simp) h

def renB (d : AV) (κ : List Nat) : ABlk → ABlk
  | .cells e cs => .cells e (mapA (renN d κ 3) cs)
  | B => B
theorem isCells_ren (d : AV) (κ : List Nat) (B : ABlk) : isCells (renB d κ B) = isCells B := by cases B <;> rfl

theorem BRel.down {κ : List Nat} {l : Option Loc} {B : ABlk} (h : BRel w S m l (renB badV κ B)) : BRel w S (selL m κ) l B := by
  cases B with
  | cells e cs =>
    cases l with
    | none => exact h
    | some l =>
      obtain ⟨vs, h1, h2, h3, h4⟩ := h
      rw [lenA_mapA] at h2 h3 h4
      exact ⟨vs, h1, h2, h3, fun i hi => by have := h4 i hi; rw [nth_mapA _ _ _ hi] at this; exact this.down 3⟩
  | rows => cases l <;> exact h
  | trows => cases l <;> exact h
  | arr => cases l <;> exact h
  | map => cases l <;> exact h
  | fro => cases l <;> exact h
  | siter => cases l <;> exact h
  | fam => cases l <;> exact h
  | dead => cases l <;> trivial

theorem BRel.up {κ : List Nat} {m0 : Locs} (hk : ∀ i l, m0[i]? = some l → ∃ j, nthN κ i = some j ∧ m[j]? = some l) {l : Option Loc} {B : ABlk} (h : BRel w S m0 l B) : BRel w S m l (renB .undef κ B) := by
  cases B with
  | cells e cs =>
    cases l with
    | none => exact h
    | some l =>
      obtain ⟨vs, h1, h2, h3, h4⟩ := h
      exact ⟨vs, h1, by rw [lenA_mapA]; exact h2, fun i hi => h3 i (by rwa [lenA_mapA] at hi), fun i hi => by rw [lenA_mapA] at hi; rw [nth_mapA _ _ _ hi]; exact (h4 i hi).up hk 3⟩
  | rows => cases l <;> exact h
  | trows => cases l <;> exact h
  | arr => cases l <;> exact h
  | map => cases l <;> exact h
  | fro => cases l <;> exact h
  | siter => cases l <;> exact h
  | fam => cases l <;> exact h
  | dead => cases l <;> trivial

end Go.Eng

namespace Go.Eng
open Go Go.RowKit

variable {P : Program} {T : Tab} {base : Env} {w : World} {S : Nat → Prop} {m : Locs} {M : Mem}

/-- What is handed back is laid where it came from; what is new, behind all. -/
def setLs (m : Locs) : List Nat → Locs → Locs
  | j :: κ, l :: k => setLs (m.set j l) κ k
  | _, k => m ++ k
def setMs (M : Mem) : List Nat → Mem → Mem
  | j :: κ, B :: k => setMs (setBlk M j B) κ k
  | _, [] => M
  | [], B :: k => setMs (snocM M B) [] k

def newKs (n : Nat) : Nat → List Nat
  | 0 => []
  | k + 1 => n :: newKs (n + 1) k
theorem nthN_newKs : ∀ (k n i : Nat), i < k → nthN (newKs n k) i = some (n + i)
  | k + 1, n, 0, _ => rfl
  | k + 1, n, i + 1, h => by
    show nthN (newKs (n + 1) k) i = _
    rw [nthN_newKs k (n + 1) i (by omega)]; congr 1; omega

theorem setLs_nil (m k : Locs) : setLs m [] k = m ++ k := by unfold setLs; rfl

def catN : List Nat → List Nat → List Nat
  | [], l => l
  | a :: k, l => a :: catN k l
theorem catN_eq (k l : List Nat) : catN k l = k ++ l := by induction k with | nil => rfl | cons a k ih => simp [catN, ih]

/-- Where the j-th block of the larger memory comes from. -/
theorem setLs_get : ∀ (κ : List Nat) (m k : Locs), κ.Nodup → (∀ j ∈ κ, j < m.length) → κ.length ≤ k.length →
    (setLs m κ k).length = m.length + (k.length - κ.length) ∧
    (∀ i j : Nat, κ[i]? = some j → (setLs m κ k)[j]? = k[i]?) ∧ (∀ j : Nat, j < m.length → j ∉ κ → (setLs m κ k)[j]? = m[j]?) ∧ (∀ i : Nat, κ.length ≤ i → (setLs m κ k)[m.length + (i - κ.length)]? = k[i]?) := by
  intro κ
  induction κ with
  | nil =>
    intro m k _ _ _
    rw [setLs_nil]
    refine ⟨by simp, fun i j h => by simp at h, fun j hj _ => List.getElem?_append_left hj, fun i _ => ?_⟩
    rw [List.getElem?_append_right (by simp)]; simp
  | cons a κ ih =>
    intro m k hnd hlt hlen
    cases k with
    | nil => simp at hlen
    | cons l k =>
      rw [List.nodup_cons] at hnd
      have ha := hlt a (by simp)
      obtain ⟨q0, q1, q2, q3⟩ := ih (m.set a l) k hnd.2 (fun j hj => by rw [List.length_set]; exact hlt j (by simp [hj])) (by simpa using hlen)
      rw [List.length_set] at q0 q2 q3
      refine ⟨by rw [setLs, q0]; simp, fun i j hi => ?_, fun j hj hn => ?_, fun i hi => ?_⟩
      · cases i with
        | zero =>
          simp at hi; subst hi
          rw [setLs, q2 a ha hnd.1, List.getElem?_set_self ha]; rfl
        | succ i => rw [setLs, q1 i j (by simpa using hi)]; simp
      · simp at hn
        rw [setLs, q2 j hj hn.2, List.getElem?_set_ne (fun e => hn.1 e.symm)]
      · cases i with
        | zero => simp at hi
        | succ i =>
          have := q3 i (by simpa using hi)
          simp only [List.length_cons, setLs, Nat.add_sub_add_right, List.getElem?_cons_succ]
          exact this

theorem setMs_get : ∀ (κ : List Nat) (M k : Mem), κ.Nodup → (∀ j ∈ κ, j < lenM M) → κ.length ≤ lenM k →
    lenM (setMs M κ k) = lenM M + (lenM k - κ.length) ∧
    (∀ i j : Nat, κ[i]? = some j → blk (setMs M κ k) j = blk k i) ∧ (∀ j : Nat, j < lenM M → j ∉ κ → blk (setMs M κ k) j = blk M j) ∧ (∀ i, κ.length ≤ i → i < lenM k → blk (setMs M κ k) (lenM M + (i - κ.length)) = blk k i) := by
  intro κ
  induction κ with
  | nil =>
    intro M k
    induction k generalizing M with
    | nil => intro _ _ _; exact ⟨by simp [setMs, lenM], fun i j h => by simp at h, fun _ _ _ => rfl, fun i _ h => by simp [lenM] at h⟩
    | cons B k ih =>
      intro hnd hlt hlen
      obtain ⟨q0, q1, q2, q3⟩ := ih (snocM M B) hnd (fun j hj => by simp at hj) (by simp)
      rw [lenM_snoc] at q0 q2 q3
      refine ⟨by simp only [setMs, q0, lenM, List.length_nil]; omega, fun i j h => by simp at h, fun j hj hn => ?_, fun i _ hi => ?_⟩
      · rw [setMs, q2 j (by omega) hn, blk_snoc, if_neg (by omega)]
      · cases i with
        | zero =>
          rw [setMs]
          simp only [List.length_nil, Nat.sub_zero, Nat.add_zero]
          rw [q2 (lenM M) (by omega) (by simp), blk_snoc, if_pos rfl]; rfl
        | succ i =>
          have := q3 i (by simp) (by simp [lenM] at hi; omega)
          simp only [List.length_nil, Nat.sub_zero, setMs] at this ⊢
          rw [show lenM M + (i + 1) = lenM M + 1 + i by omega]
          exact this
  | cons a κ ih =>
    intro M k hnd hlt hlen
    cases k with
    | nil => simp [lenM] at hlen
    | cons B k =>
      rw [List.nodup_cons] at hnd
      have ha := hlt a (by simp)
      obtain ⟨q0, q1, q2, q3⟩ := ih (setBlk M a B) k hnd.2 (fun j hj => by rw [lenM_set]; exact hlt j (by simp [hj])) (by simpa [lenM] using hlen)
      rw [lenM_set] at q0 q2 q3
      refine ⟨by rw [setMs, q0]; simp [lenM], fun i j hi => ?_, fun j hj hn => ?_, fun i hi hi' => ?_⟩
      · cases i with
        | zero =>
          simp at hi; subst hi
          rw [setMs, q2 a ha hnd.1, blk_set, if_pos ⟨rfl, ha⟩]; rfl
        | succ i => rw [setMs, q1 i j (by simpa using hi)]; rfl
      · simp at hn
        rw [setMs, q2 j hj hn.2, blk_set, if_neg (fun e => hn.1 e.1.symm)]
      · cases i with
        | zero => simp at hi
        | succ i =>
          have := q3 i (by simpa using hi) (by simp [lenM] at hi'; omega)
          simp only [List.length_cons, setMs, Nat.add_sub_add_right]
          exact this

def mapM' (f : ABlk → ABlk) : Mem → Mem
  | [] => []
  | B :: l => f B :: mapM' f l
theorem lenM_map (f : ABlk → ABlk) (l : Mem) : lenM (mapM' f l) = lenM l := by induction l with | nil => rfl | cons a l ih => simp [mapM', lenM, ih]
theorem blk_map (f : ABlk → ABlk) (l : Mem) (i : Nat) (hi : i < lenM l) : blk (mapM' f l) i = f (blk l i) := by
  induction l generalizing i with
  | nil => simp [lenM] at hi
  | cons a l ih => cases i with
    | zero => rfl
    | succ i => exact ih i (by simp [lenM] at hi; omega)

/-- What a call comes to that is handed the blocks κ of M. -/
def frameR (κ : List Nat) (M M0 : Mem) (r : R) : R where
  v := renN .undef (catN κ (newKs (lenM M) (lenM r.m - lenM M0))) 4 r.v
  m := setMs (match r.inv with | some i => (match nthN κ i with | some j => invalMs j M | none => M) | none => M) κ (mapM' (renB .undef (catN κ (newKs (lenM M) (lenM r.m - lenM M0)))) r.m)
  ks := r.ks
  inv := match r.inv with | some i => nthN κ i | none => none

theorem Via.mono {f : FuncId} {vs : Array Value} {R R' : Ending → World → Prop} (h : Via P f vs w R) (hr : ∀ e w', R e w' → R' e w') : Via P f vs w R' := by
  rcases h with ⟨h1, h2⟩ | ⟨v, w', h1, h2⟩
  · exact .inl ⟨h1, h2.mono hr⟩
  · exact .inr ⟨v, w', h1, hr _ _ h2⟩

theorem SCalls.frame {f : Nat} {args0 args : List AV} {M0 : Mem} {r : R} (h : SCalls P f args0 M0 r) (hge : lenM M0 ≤ lenM r.m) (κ : List Nat) (hlen : κ.length = lenM M0) (hnd : κ.Nodup)
    (hblk : ∀ i j, κ[i]? = some j → j < lenM M ∧ renB badV κ (blk M0 i) = blk M j) (hargs : args = mapA (renN badV κ 4) args0) (hinv : ∀ i, r.inv = some i → i < lenM M0) : SCalls P f args M (frameR κ M M0 r) := by
  intro Z w S m vs hM hr
  subst hargs
  have hnth : ∀ i j, nthN κ i = some j ↔ κ[i]? = some j := fun i j => by rw [nthN_eq]
  have hmlen := hM.len
  -- what lies beside
  let oth : Nat → Prop := fun g => ∃ i l, m[i]? = some (some l) ∧ i ∉ κ ∧ (l.g = g ∨ g ∈ l.ext)
  let E : Env := ⟨fun g => Z.Z g ∨ S g ∨ oth g, fun i => match isCells (blk M0 i) with | true => ((selL m κ)[i]?).join | false => none, fun g hg => .inl (Z.gz g hg), fun g => Z.Z g ∨ S g ∨ oth g, fun _ h => h⟩
  have hE : ∀ i l, E.pin i = some l ↔ isCells (blk M0 i) = true ∧ (selL m κ)[i]? = some (some l) := fun i l => by
    show (match isCells (blk M0 i) with | true => ((selL m κ)[i]?).join | false => none) = some l ↔ _
    cases hic : isCells (blk M0 i) with
    | false => simp
    | true => simp [Option.join_eq_some_iff]
  have hsel : ∀ i l, (selL m κ)[i]? = some l → ∃ j, κ[i]? = some j ∧ m[j]? = some l := fun i l hi => by
    have hlt : i < κ.length := by rw [← selL_len m κ]; exact (List.getElem?_eq_some_iff.1 hi).1
    have e : κ[i]? = some κ[i] := List.getElem?_eq_getElem hlt
    obtain ⟨hj, _⟩ := hblk i _ e
    have hj' : κ[i] < m.length := by rw [hmlen]; exact hj
    refine ⟨_, e, ?_⟩
    rw [selL_get ((hnth _ _).2 e)] at hi
    rw [List.getElem?_eq_getElem hj'] at hi ⊢
    simpa using hi
  have hM0 : MRel E w S (selL m κ) M0 := by
    refine ⟨(selL_len m κ).trans hlen, hM.sb, fun i l hi => ?_, fun i l hi => ?_, fun i i' l l' hi hi' e => ?_, fun g hg => ?_, hM.gok, fun i l hi => ⟨((hE i l).1 hi).2, ((hE i l).1 hi).1⟩, fun i l hi => ?_⟩
    rotate_right
    · obtain ⟨j, q1, q2⟩ := hsel i _ hi
      have q := hM.ext j l q2
      refine ⟨q.nd, fun b hb => ⟨?_, (q.out b hb).2.1, (q.out b hb).2.2⟩, fun b hb i2 l2 hi2 => ?_⟩
      · rintro (hz | hs | ⟨i', l', p1, p2, p3⟩)
        · exact (q.out b hb).1 hz
        · exact (q.out b hb).2.2 hs
        · have f := q.far b hb i' l' p1
          rcases p3 with p3 | p3
          · exact f.1 p3
          · exact f.2 (fun e => p2 (e ▸ List.mem_of_getElem? q1)) p3
      · obtain ⟨j2, r1, r2⟩ := hsel i2 _ hi2
        have f := q.far b hb j2 l2 r2
        refine ⟨f.1, fun hne => f.2 fun e => hne ?_⟩
        subst e
        exact (List.getElem?_inj (List.getElem?_eq_some_iff.1 q1).1 hnd).1 (q1.trans r1.symm)
    · obtain ⟨j, q1, q2⟩ := hsel i l hi
      have := hM.bk j l q2
      rw [← (hblk i j q1).2] at this
      exact this.down
    · obtain ⟨j, q1, q2⟩ := hsel i _ hi
      have q := hM.lt j l q2
      refine ⟨?_, q.2.1, q.2.2⟩
      rintro (hz | hs | ⟨i', l', p1, p2, p3⟩)
      · exact q.1 hz
      · exact q.2.2 hs
      · rcases p3 with p3 | p3
        · exact p2 (hM.inj i' j l' l p1 q2 p3 ▸ List.mem_of_getElem? q1)
        · exact ((hM.ext i' l' p1).far _ p3 j l q2).1 rfl
    · obtain ⟨j, q1, q2⟩ := hsel i _ hi
      obtain ⟨j', q1', q2'⟩ := hsel i' _ hi'
      have := hM.inj j j' l l' q2 q2' e
      subst this
      have hi1 : i < κ.length := (List.getElem?_eq_some_iff.1 q1).1
      exact (List.getElem?_inj hi1 hnd).1 (q1.trans q1'.symm)
    · rcases hg with h | h | ⟨i', l', p1, _, p3⟩
      · exact hM.base_le g h
      · exact hM.sb g h
      · rcases p3 with p3 | p3
        · rw [← p3]; exact (hM.lt i' l' p1).2.1
        · exact ((hM.ext i' l' p1).out g p3).2.1
  have hr0 : RelL w S (selL m κ) vs args0 := by
    refine ⟨by rw [hr.1, lenA_mapA], fun i hi => ?_⟩
    have := hr.2 i (by rw [lenA_mapA]; exact hi)
    rw [nth_mapA _ _ _ hi] at this
    exact this.down 4
  refine (h E w S (selL m κ) vs hM0 hr0).mono ?_
  rintro e w' ⟨v, S', m0, he, ht, hm, hv⟩
  -- the larger memory
  have hm0 : m0.length = lenM r.m := hm.len
  have hk1 : ∀ j ∈ κ, j < m.length := fun j hj => by
    obtain ⟨i, hi⟩ := List.getElem?_of_mem hj
    rw [hmlen]; exact (hblk i j hi).1
  obtain ⟨L0, L1, L2, L3⟩ := setLs_get κ m m0 hnd hk1 (by rw [hm0, hlen]; exact hge)
  let κ' : List Nat := catN κ (newKs (lenM M) (lenM r.m - lenM M0))
  have hκ' : ∀ i, i < lenM r.m → ∃ j, nthN κ' i = some j ∧ (setLs m κ m0)[j]? = m0[i]? := fun i hi => by
    by_cases hlt : i < κ.length
    · have e : κ[i]? = some κ[i] := List.getElem?_eq_getElem hlt
      refine ⟨κ[i], ?_, L1 i _ e⟩
      rw [nthN_eq]
      show (catN κ _)[i]? = _
      rw [catN_eq, List.getElem?_append_left hlt]; exact e
    · have e : nthN κ' i = some (lenM M + (i - κ.length)) := by
        rw [nthN_eq]
        show (catN κ _)[i]? = _
        rw [catN_eq, List.getElem?_append_right (by omega), ← nthN_eq]
        exact nthN_newKs _ _ _ (by omega)
      refine ⟨_, e, ?_⟩
      rw [← hmlen]; exact L3 i (by omega)
  have hup : ∀ i l, m0[i]? = some l → ∃ j, nthN κ' i = some j ∧ (setLs m κ m0)[j]? = some l := fun i l hi => by
    obtain ⟨j, q1, q2⟩ := hκ' i (by rw [← hm0]; exact (List.getElem?_eq_some_iff.1 hi).1)
    exact ⟨j, q1, q2.trans hi⟩
  let inv' : Option Nat := match r.inv with | some i => nthN κ i | none => none
  let M1 : Mem := match r.inv with | some i => (match nthN κ i with | some j => invalMs j M | none => M) | none => M
  have hM1 : ∀ j, blk M1 j = (match inv' with | some i => invalB i (blk M j) | none => blk M j) ∧ lenM M1 = lenM M := fun j => by
    show blk (match r.inv with | some i => (match nthN κ i with | some j => invalMs j M | none => M) | none => M) j = (match (match r.inv with | some i => nthN κ i | none => none) with | some i => invalB i (blk M j) | none => blk M j) ∧ lenM (match r.inv with | some i => (match nthN κ i with | some j => invalMs j M | none => M) | none => M) = lenM M
    cases r.inv with
    | none => exact ⟨rfl, rfl⟩
    | some i =>
      cases hn : nthN κ i with
      | none => simp only [hn]; trivial
      | some q => simp only [hn]; exact ⟨blk_invalMs _ _ _, lenM_invalMs _ _⟩
  have hlen1 : lenM M1 = lenM M := (hM1 0).2
  obtain ⟨N0, N1, N2, N3⟩ := setMs_get κ M1 (mapM' (renB .undef κ') r.m) hnd (fun j hj => by rw [hlen1, ← hmlen]; exact hk1 j hj) (by rw [lenM_map, hlen]; exact hge)
  rw [lenM_map, hlen1] at N0 N3
  rw [hlen1] at N2
  have hfr : (frameR κ M M0 r).m = setMs M1 κ (mapM' (renB .undef κ') r.m) := rfl
  have hlm : ∀ (i : Nat) (l : Option Loc), inv' ≠ some i → m[i]? = some l → ∃ l', (setLs m κ m0)[i]? = some l' ∧ LocLe l l' := fun i l hne hi => by
    have hilt : i < m.length := (List.getElem?_eq_some_iff.1 hi).1
    by_cases hik : i ∈ κ
    · obtain ⟨t, htk⟩ := List.getElem?_of_mem hik
      rw [L1 t i htk]
      refine ht.lm t l (fun e' => hne ?_) ?_
      · show (match r.inv with | some i => nthN κ i | none => none) = some i
        rw [e']; exact (hnth _ _).2 htk
      · rw [selL_get ((hnth _ _).2 htk), hi]; rfl
    · rw [L2 i hilt hik]; exact ⟨l, hi, .refl _⟩
  have hst : ∀ g, S g → w'.heap[g]? = w.heap[g]? := fun g hg => ht.below.block g (.inr (.inl hg))
  have hoth : ∀ i l, m[i]? = some (some l) → i ∉ κ → E.Z l.g := fun i l hi hn => .inr (.inr ⟨i, l, hi, hn, .inl rfl⟩)
  have hothx : ∀ i l, m[i]? = some (some l) → i ∉ κ → ∀ b ∈ l.ext, E.Z b := fun i l hi hn b hb => .inr (.inr ⟨i, l, hi, hn, .inr hb⟩)
  -- where a place of the larger memory comes from
  have hplace : ∀ j l, (setLs m κ m0)[j]? = some l → (∃ i, i < lenM r.m ∧ m0[i]? = some l ∧ blk (setMs M1 κ (mapM' (renB .undef κ') r.m)) j = renB .undef κ' (blk r.m i) ∧ (i < κ.length → κ[i]? = some j) ∧ (κ.length ≤ i → j = m.length + (i - κ.length))) ∨
      (j ∉ κ ∧ m[j]? = some l ∧ blk (setMs M1 κ (mapM' (renB .undef κ') r.m)) j = blk M1 j) := fun j l hj => by
    by_cases hjk : j ∈ κ
    · obtain ⟨i, hi⟩ := List.getElem?_of_mem hjk
      have hil : i < κ.length := (List.getElem?_eq_some_iff.1 hi).1
      have hir : i < lenM r.m := by omega
      refine .inl ⟨i, hir, (L1 i j hi).symm.trans hj, ?_, fun _ => hi, fun h => by omega⟩
      rw [N1 i j hi, blk_map _ _ _ hir]
    · by_cases hjm : j < m.length
      · exact .inr ⟨hjk, (L2 j hjm hjk).symm.trans hj, N2 j (by rw [← hmlen]; exact hjm) hjk⟩
      · have hjl : j < m.length + (m0.length - κ.length) := by rw [← L0]; exact (List.getElem?_eq_some_iff.1 hj).1
        obtain ⟨i, hi1, hi2, hi3⟩ : ∃ i, j = m.length + (i - κ.length) ∧ κ.length ≤ i ∧ i < lenM r.m := ⟨j - m.length + κ.length, by omega, by omega, by omega⟩
        subst hi1
        refine .inl ⟨i, hi3, (L3 i hi2).symm.trans hj, ?_, fun h => by omega, fun _ => rfl⟩
        have := N3 i hi2 hi3
        rw [hmlen, this, blk_map _ _ _ hi3]
  have hnz : ∀ g, ¬ E.Z g → ¬ Z.Z g := fun g h h' => h (.inl h')
  have holdS : ∀ g, E.Z g → ¬ S g → ¬ S' g := fun g hz hs hs' => (ht.up g hs').elim hs (fun h => h hz)
  refine ⟨v, S', setLs m κ m0, he, ⟨ht.below.mono fun g h => .inl h, ht.sub, fun g h => (ht.up g h).imp id (hnz g), hst, hlm⟩, ?_, hv.up hup 4⟩
  rw [hfr]
  refine ⟨by rw [L0, N0, hm0, hmlen], hm.sb, fun j l hj => ?_, fun j l hj => ?_, fun i j l l' hi hj e => ?_, fun g hg => Nat.lt_of_lt_of_le (hM.base_le g hg) ht.below.size, hm.gok, fun i l hi => ?_, fun i l hi => ?_⟩
  rotate_right
  · rcases hplace i _ hi with ⟨t, ht1, ht2, _, ht3, ht4⟩ | ⟨hik, him, _⟩
    · have q := hm.ext t l ht2
      refine ⟨q.nd, fun b hb => ⟨hnz _ (q.out b hb).1, (q.out b hb).2⟩, fun b hb j l' hj => ?_⟩
      rcases hplace j _ hj with ⟨t', ht1', ht2', _, ht3', ht4'⟩ | ⟨hjk, hjm, _⟩
      · have f := q.far b hb t' l' ht2'
        refine ⟨f.1, fun hne => f.2 fun e => hne ?_⟩
        subst e
        by_cases hlt : t < κ.length
        · have e1 := (ht3 hlt).symm.trans (ht3' hlt); injection e1
        · rw [ht4 (by omega), ht4' (by omega)]
      · exact ⟨fun e => (q.out b hb).1 (e ▸ hoth j l' hjm hjk), fun _ hx => (q.out b hb).1 (hothx j l' hjm hjk b hx)⟩
    · have q := hM.ext i l him
      have hz := hothx i l him hik
      refine ⟨q.nd, fun b hb => ⟨(q.out b hb).1, Nat.lt_of_lt_of_le (q.out b hb).2.1 ht.below.size, holdS _ (hz b hb) (q.out b hb).2.2⟩, fun b hb j l' hj => ?_⟩
      rcases hplace j _ hj with ⟨t', _, ht2', _, _, _⟩ | ⟨hjk, hjm, _⟩
      · exact ⟨fun e => (hm.lt t' l' ht2').1 (e ▸ hz b hb), fun _ hx => ((hm.ext t' l' ht2').out b hx).1 (hz b hb)⟩
      · exact q.far b hb j l' hjm
  · rcases hplace j l hj with ⟨i, _, hi, hb, _, _⟩ | ⟨hjk, hjm, hb⟩
    · rw [hb]; exact (hm.bk i l hi).up hup
    · rw [hb, (hM1 j).1]
      have hB := hM.bk j l hjm
      have hheap : ∀ l₀, l = some l₀ → w'.heap[l₀.g]? = w.heap[l₀.g]? := fun l₀ e => ht.below.block _ (hoth j l₀ (e ▸ hjm) hjk)
      have hrel0 : ∀ v a, Rel w S [] v a → Rel w' S' [] v a := fun v a hr => hr.mono ht.sub hst _ (fun _ _ h => h)
      cases hinv' : inv' with
      | none =>
        have hrel : ∀ v a, Rel w S m v a → Rel w' S' (setLs m κ m0) v a := fun v a hr => (hr.mono ht.sub hst m fun _ _ h => h).longer _ fun i l h => hlm i l (by rw [hinv']; simp) h
        cases l with
        | none => revert hB; cases blk M j <;> exact fun h => h
        | some l₀ =>
          have hh := hheap l₀ rfl
          revert hB
          cases blk M j with
          | dead => exact fun h => h
          | cells e cs => rintro ⟨vs, h1, h2, h3, h4⟩; exact ⟨vs, hh.trans h1, h2, h3, fun i hi => hrel _ _ (h4 i hi)⟩
          | rows e sz n c => rintro ⟨h0, h1, h2, h3, vs, h4, h5, h6⟩; exact ⟨h0, h1, h2, h3, vs, hh.trans h4, h5, fun i hi j hj => ⟨(h6 i hi j hj).1, hrel0 _ _ (h6 i hi j hj).2⟩⟩
          | trows e ty x => rintro ⟨h0, h1, h2, h3, vs, h4, h5, h6⟩; exact ⟨h0, h1, h2, h3, vs, hh.trans h4, h5, fun i hi j hj => ⟨(h6 i hi j hj).1, hrel0 _ _ (h6 i hi j hj).2⟩⟩
          | fro e ty x => rintro ⟨h0, h1, h2, h3, vs, fz, h4, h5, h6⟩; exact ⟨h0, h1, h2, h3, vs, fz, hh.trans h4, h5, fun i hi j hj => ⟨(h6 i hi j hj).1, hrel0 _ _ (h6 i hi j hj).2⟩⟩
          | arr e ty x => rintro ⟨vs, h4, h5, h6⟩; exact ⟨vs, hh.trans h4, h5, fun i hi => ⟨(h6 i hi).1, hrel0 _ _ (h6 i hi).2⟩⟩
          | map ty uy x => rintro ⟨es, ck, h4, h5, h6, h7⟩; exact ⟨es, ck, hh.trans h4, h5, fun i hi => ⟨hrel0 _ _ (h6 i hi).1, hrel0 _ _ (h6 i hi).2⟩, h7⟩
          | siter s pos => rintro ⟨h1, h2⟩; exact ⟨hh.trans h1, h2⟩
          | fam x y => exact fun hf => hf.keep ht.sub hst hh fun b hb => ht.below.block _ (hothx j l₀ hjm hjk b hb)
      | some x =>
        obtain ⟨mX, hX1, hX2⟩ := LocsLe.between (x := x) (m := m) (m' := setLs m κ m0) fun i l hne h => hlm i l (by rw [hinv']; simpa using fun e => hne e.symm) h
        have hrel : ∀ v a, Rel w S m v a → v.oneCell' = true → Rel w' S' (setLs m κ m0) v (inval0 x a) := fun v a hr h1 => (hr.longer _ hX1).inval0 ht.sub hst hX2 (hr.no_agg h1)
        show BRel w' S' (setLs m κ m0) l (invalB x (blk M j))
        cases l with
        | none => revert hB; cases blk M j <;> exact fun h => h
        | some l₀ =>
          have hh := hheap l₀ rfl
          revert hB
          cases blk M j with
          | dead => exact fun h => h
          | cells e cs =>
            rintro ⟨vs, h1, h2, h3, h4⟩
            refine ⟨vs, hh.trans h1, by rw [lenA_inval0s]; exact h2, fun i hi => h3 i (by rwa [lenA_inval0s] at hi), fun i hi => ?_⟩
            rw [lenA_inval0s] at hi
            rw [nth_inval0s]; exact hrel _ _ (h4 i hi) (h3 i hi)
          | rows e sz n c => rintro ⟨h0, h1, h2, h3, vs, h4, h5, h6⟩; exact ⟨h0, h1, h2, h3, vs, hh.trans h4, h5, fun i hi j hj => ⟨(h6 i hi j hj).1, hrel0 _ _ (h6 i hi j hj).2⟩⟩
          | trows e ty x => rintro ⟨h0, h1, h2, h3, vs, h4, h5, h6⟩; exact ⟨h0, h1, h2, h3, vs, hh.trans h4, h5, fun i hi j hj => ⟨(h6 i hi j hj).1, hrel0 _ _ (h6 i hi j hj).2⟩⟩
          | fro e ty x => rintro ⟨h0, h1, h2, h3, vs, fz, h4, h5, h6⟩; exact ⟨h0, h1, h2, h3, vs, fz, hh.trans h4, h5, fun i hi j hj => ⟨(h6 i hi j hj).1, hrel0 _ _ (h6 i hi j hj).2⟩⟩
          | arr e ty x => rintro ⟨vs, h4, h5, h6⟩; exact ⟨vs, hh.trans h4, h5, fun i hi => ⟨(h6 i hi).1, hrel0 _ _ (h6 i hi).2⟩⟩
          | map ty uy x => rintro ⟨es, ck, h4, h5, h6, h7⟩; exact ⟨es, ck, hh.trans h4, h5, fun i hi => ⟨hrel0 _ _ (h6 i hi).1, hrel0 _ _ (h6 i hi).2⟩, h7⟩
          | siter s pos => rintro ⟨h1, h2⟩; exact ⟨hh.trans h1, h2⟩
          | fam x y => exact fun hf => hf.keep ht.sub hst hh fun b hb => ht.below.block _ (hothx j l₀ hjm hjk b hb)
  · rcases hplace j _ hj with ⟨i, _, hi, _, _, _⟩ | ⟨hjk, hjm, _⟩
    · have q := hm.lt i l hi
      exact ⟨hnz _ q.1, q.2⟩
    · have q := hM.lt j l hjm
      exact ⟨q.1, Nat.lt_of_lt_of_le q.2.1 ht.below.size, holdS _ (hoth j l hjm hjk) q.2.2⟩
  · rcases hplace i _ hi with ⟨t, ht1, ht2, _, ht3, ht4⟩ | ⟨hik, him, _⟩ <;> rcases hplace j _ hj with ⟨t', ht1', ht2', _, ht3', ht4'⟩ | ⟨hjk, hjm, _⟩
    · have := hm.inj t t' l l' ht2 ht2' e
      subst this
      by_cases hlt : t < κ.length
      · have e1 := (ht3 hlt).symm.trans (ht3' hlt); injection e1
      · rw [ht4 (by omega), ht4' (by omega)]
    · exact absurd (e ▸ hoth j l' hjm hjk) (hm.lt t l ht2).1
    · exact absurd (e ▸ hoth i l him hik) (hm.lt t' l' ht2').1
    · exact hM.inj i j l l' him hjm e
  · obtain ⟨q1, q2⟩ := hM.pin i l hi
    have hilt : i < m.length := (List.getElem?_eq_some_iff.1 q1).1
    by_cases hik : i ∈ κ
    · obtain ⟨t, htk⟩ := List.getElem?_of_mem hik
      have htl : t < κ.length := (List.getElem?_eq_some_iff.1 htk).1
      have hic : isCells (blk M0 t) = true := by
        have := (hblk t i htk).2
        rw [← isCells_ren badV κ, this]; exact q2
      obtain ⟨p1, p2⟩ := hm.pin t l ((hE t l).2 ⟨hic, by rw [selL_get ((hnth _ _).2 htk), q1]; rfl⟩)
      refine ⟨(L1 t i htk).trans p1, ?_⟩
      rw [N1 t i htk, blk_map _ _ _ (by omega), isCells_ren]; exact p2
    · refine ⟨(L2 i hilt hik).trans q1, ?_⟩
      rw [N2 i (by rw [← hmlen]; exact hilt) hik, (hM1 i).1]
      cases inv' with
      | none => exact q2
      | some x => show isCells (invalB x (blk M i)) = true; rw [isCells_inval]; exact q2

end Go.Eng

namespace Go.Eng
open Go Go.RowKit

/-- The place of the block that is given. -/
def SG (S : Nat → Prop) (ol : Option Loc) (g : Nat) : Prop := S g ∨ ∃ l, ol = some l ∧ g = l.g

variable {P : Program} {T : Tab} {base : Env} {w : World} {S : Nat → Prop} {m : Locs} {M : Mem}

/-- A value in which block b is only read. -/
def frz0 (b : Nat) (B : ABlk) : AV → AV
  | .ref b' o => match Nat.beq b b', B with
    | true, .cells _ cs => .cptr (lenA cs - o) (fun j => nth cs (o + j))
    | true, _ => .undef
    | false, _ => .ref b' o
  | .own b' n => match Nat.beq b b', B with
    | true, .rows _ sz _ c => .slice sz n false c
    | true, .trows _ u l => .tsl u (l.take n) false
    | true, _ => .undef
    | false, _ => .own b' n
  | .eref b' i o => match Nat.beq b b' with | true => .undef | false => .eref b' i o
  | .selfp b' => match Nat.beq b b' with | true => .undef | false => .selfp b'
  | .asl b' n => match Nat.beq b b' with | true => .undef | false => .asl b' n
  | .mp b' => match Nat.beq b b', B with
    | true, .map t u l => .mv t u l
    | true, _ => .undef
    | false, _ => .mp b'
  | .sub b' j => match Nat.beq b b' with | true => .undef | false => .sub b' j
  | .ownT b' => match Nat.beq b b', B with
    | true, .trows _ u l => .tsl u l false
    | true, _ => .undef
    | false, _ => .ownT b'
  | .tail b' lo n => match Nat.beq b b', B with
    | true, .trows _ u l => .tsl u ((l.drop lo).take n) false
    | true, _ => .undef
    | false, _ => .tail b' lo n
  | .agg _ => .undef
  | .fn _ _ _ => .undef
  | .tup _ => .undef
  | .lst _ _ => .undef
  | v => v
def frz (b : Nat) (B : ABlk) : AV → AV
  | .agg cs => .agg (mapA (frz0 b B) cs)
  | .fn f x y => .fn f (mapA (frz0 b B) x) (mapA (frz0 b B) y)
  | .tup _ => .undef
  | v => frz0 b B v
def frzB (b : Nat) (B : ABlk) : ABlk → ABlk
  | .cells e cs => .cells e (mapA (frz b B) cs)
  | x => x
def frzM (b : Nat) (B : ABlk) : Mem → Mem
  | [] => []
  | x :: l => frzB b B x :: frzM b B l

theorem lenM_frz (b : Nat) (B : ABlk) (l : Mem) : lenM (frzM b B l) = lenM l := by induction l with | nil => rfl | cons a l ih => simp [frzM, lenM, ih]
theorem blk_frz (b : Nat) (B : ABlk) (l : Mem) (i : Nat) : blk (frzM b B l) i = frzB b B (blk l i) := by
  induction l generalizing i with
  | nil => rfl
  | cons a l ih => cases i with
    | zero => rfl
    | succ i => exact ih i

/-- Its content lies outside. -/
def plainB : ABlk → Bool
  | .cells _ cs => allOutside cs
  | .rows _ _ _ _ => true
  | .trows _ _ _ => true
  | .map _ _ _ => true
  | _ => false

theorem Rel.frz0 {b : Nat} {ol : Option Loc} {B : ABlk} (hm : m[b]? = some ol) (hB : BRel w S m ol B) (hp : plainB B = true) {v : Value} {a : AV} (h : Rel w S m v a) :
    Rel w (SG S ol) (m.set b none) v (Eng.frz0 b B a) := by
  have hS : ∀ g, S g → SG S ol g := fun _ h => .inl h
  have hset : ∀ {i : Nat} {x : Option Loc}, b ≠ i → m[i]? = some x → (m.set b none)[i]? = some x := fun hne h => by rw [List.getElem?_set_ne hne]; exact h
  cases h with
  | ref _ i off l' h =>
    simp only [Eng.frz0]
    by_cases e : b = i
    · subst e
      rw [Nat.beq_refl]
      rw [hm] at h; injection h with h; subst h
      cases B with
      | cells ee cs =>
        obtain ⟨vs, h1, h2, h3, h4⟩ := hB
        refine .cptr _ _ _ _ _ (fun j => vs.getD (off + j) Go.undef) (.inr ⟨_, rfl, rfl⟩) (fun j hj => ⟨blk_cell h1 (by omega), h3 _ (by omega)⟩) (fun j hj => ?_)
        exact ((h4 (off + j) (by omega)).out (allOutside_nth hp (by omega)) []).mono hS (fun _ _ => rfl) _ (fun _ _ h => h)
      | _ => exact .undef _ _
    · rw [nbeq_ne e]; exact .ref _ _ _ _ (hset e h)
  | selfp0 _ i =>
    simp only [Eng.frz0]
    split
    · exact .undef _ _
    · exact .selfp0 _ _
  | selfp _ i l' h =>
    simp only [Eng.frz0]
    by_cases e : b = i
    · subst e; rw [Nat.beq_refl]; exact .undef _ _
    · rw [nbeq_ne e]; exact .selfp _ _ _ (hset e h)
  | asl _ i n l' h hn =>
    simp only [Eng.frz0]
    by_cases e : b = i
    · subst e; rw [Nat.beq_refl]; exact .undef _ _
    · rw [nbeq_ne e]; exact .asl _ _ _ _ (hset e h) hn
  | mp _ i l' h =>
    simp only [Eng.frz0]
    by_cases e : b = i
    · subst e
      rw [Nat.beq_refl]
      rw [hm] at h; injection h with h; subst h
      cases B with
      | map t u x =>
        obtain ⟨es, ck, q1, q2, q3, q4⟩ := hB
        exact .mv _ _ es ck _ _ _ (.inr ⟨_, rfl, rfl⟩) q1 q2 (fun i hi => (q3 i hi).1.mono hS (fun _ _ => rfl) _ (fun _ _ h => h)) (fun i hi => (q3 i hi).2.mono hS (fun _ _ => rfl) _ (fun _ _ h => h)) q4
      | _ => exact .undef _ _
    · rw [nbeq_ne e]; exact .mp _ _ _ (hset e h)
  | mp0 _ i h =>
    simp only [Eng.frz0]
    by_cases e : b = i
    · subst e
      rw [Nat.beq_refl]
      rw [hm] at h; injection h with h; subst h
      cases B with
      | map t u x => exact hB.elim
      | _ => exact .undef _ _
    · rw [nbeq_ne e]; exact .mp0 _ _ (hset e h)
  | sub _ i j l' g h hj =>
    simp only [Eng.frz0]
    by_cases e : b = i
    · subst e; rw [Nat.beq_refl]; exact .undef _ _
    · rw [nbeq_ne e]; exact .sub _ _ _ _ _ (hset e h) hj
  | eref _ i r off l' h hr =>
    simp only [Eng.frz0]
    by_cases e : b = i
    · subst e; rw [Nat.beq_refl]; exact .undef _ _
    · rw [nbeq_ne e]; exact .eref _ _ _ _ _ (hset e h) hr
  | own _ i n l' h hn hc =>
    simp only [Eng.frz0]
    by_cases e : b = i
    · subst e
      rw [Nat.beq_refl]
      rw [hm] at h; injection h with h; subst h
      cases B with
      | rows ee sz k c =>
        obtain ⟨rfl, rfl, q3, q4, vs, q5, q6, q7⟩ := hB
        refine .slice _ _ _ _ _ _ _ _ (fun i j => vs.getD (i * l'.sz + j) Go.undef) (.inr ⟨_, rfl, rfl⟩) (by omega) hc.2 (fun h => by simp at h) (fun i hi j hj => ⟨?_, (q7 i (by omega) j hj).1⟩) (fun i hi j hj => (q7 i (by omega) j hj).2.mono hS (fun _ _ => rfl) _ (fun _ _ h => h))
        rw [Nat.zero_add]
        refine blk_cell q5 ?_
        have := eref_lt (off := j) (k := 1) (show i < l'.n by omega) (show j + 1 ≤ l'.sz by omega)
        have h8 : l'.n * l'.sz ≤ l'.cap * l'.sz := Nat.mul_le_mul_right _ q3
        omega
      | trows ee u x =>
        obtain ⟨q1, q2, q3, q4, vs, q5, q6, q7⟩ := hB
        refine Le.tsl (n := n) (c := fun i j => vw u x i j) id rfl (by rw [List.length_take]; omega) (fun i hi j hj => by rw [vw_take _ _ _ _ _ hi]; exact Le.refl _) _ _ _ _ ?_
        refine .slice _ _ _ _ _ _ _ _ (fun i j => vs.getD (i * szT u + j) Go.undef) (.inr ⟨_, rfl, rfl⟩) (by omega) hc.2 (fun h => by simp at h) (fun i hi j hj => ⟨?_, (q7 i (by omega) j hj).1⟩) (fun i hi j hj => (q7 i (by omega) j hj).2.mono hS (fun _ _ => rfl) _ (fun _ _ h => h))
        rw [Nat.zero_add]
        refine blk_cell q5 ?_
        have := eref_lt (off := j) (k := 1) (show i < l'.n by omega) (show j + 1 ≤ szT u by omega)
        have h8 : l'.n * szT u ≤ l'.cap * szT u := Nat.mul_le_mul_right _ hc.1
        omega
      | _ => exact .undef _ _
    · rw [nbeq_ne e]; exact .own _ _ _ _ (hset e h) hn hc
  | own0 _ aa i h =>
    simp only [Eng.frz0]
    by_cases e : b = i
    · subst e
      rw [Nat.beq_refl]
      rw [hm] at h; injection h with h; subst h
      cases B with
      | rows ee sz k c => exact .slice0 _ _ _ _ _ _ (Nat.zero_le _) (fun h => by simp at h)
      | trows ee u x => exact Le.tsl id rfl (by simp) (fun _ _ _ _ => Le.refl _) _ _ _ _ (.slice0 _ _ _ _ _ _ (Nat.zero_le _) (fun h => by simp at h))
      | _ => exact .undef _ _
    · rw [nbeq_ne e]; exact .own0 _ _ _ (hset e h)
  | tsl _ t l g _ h => exact .tsl _ _ _ _ _ ((h.slice_m []).mono hS (fun _ _ => rfl) _ (fun i l h => by simp at h))
  | ownT _ i l' h hc =>
    simp only [Eng.frz0]
    by_cases e : b = i
    · subst e
      rw [Nat.beq_refl]
      rw [hm] at h; injection h with h; subst h
      cases B with
      | trows ee u x =>
        obtain ⟨q1, q2, q3, q4, vs, q5, q6, q7⟩ := hB
        refine Le.tsl id rfl q2 (fun _ _ _ _ => Le.refl _) _ _ _ _ ?_
        refine .slice _ _ _ _ _ _ _ _ (fun i j => vs.getD (i * szT u + j) Go.undef) (.inr ⟨_, rfl, rfl⟩) (by omega) hc.2 (fun h => by simp at h) (fun i hi j hj => ⟨?_, (q7 i (by omega) j hj).1⟩) (fun i hi j hj => (q7 i (by omega) j hj).2.mono hS (fun _ _ => rfl) _ (fun _ _ h => h))
        rw [Nat.zero_add]
        refine blk_cell q5 ?_
        have := eref_lt (off := j) (k := 1) (show i < l'.n by omega) (show j + 1 ≤ szT u by omega)
        have h8 : l'.n * szT u ≤ l'.cap * szT u := Nat.mul_le_mul_right _ hc.1
        omega
      | _ => exact .undef _ _
    · rw [nbeq_ne e]; exact .ownT _ _ _ (hset e h) hc
  | ownT0 _ aa i h =>
    simp only [Eng.frz0]
    by_cases e : b = i
    · subst e
      rw [Nat.beq_refl]
      rw [hm] at h; injection h with h; subst h
      cases B with
      | trows ee u x =>
        have hB : x.length = 0 := hB
        exact Le.tsl id rfl hB.symm (fun _ _ _ _ => Le.refl _) _ _ _ _ (.slice0 _ _ _ _ _ _ (Nat.zero_le _) (fun h => by simp at h))
      | _ => exact .undef _ _
    · rw [nbeq_ne e]; exact .ownT0 _ _ _ (hset e h)
  | tail _ aa i lo n cp hn h =>
    simp only [Eng.frz0]
    by_cases e : b = i
    · subst e
      rw [Nat.beq_refl]
      cases B with
      | trows ee u x =>
        by_cases hn0 : n = 0
        · subst hn0
          exact Le.tsl id rfl (by simp) (fun _ _ _ _ => Le.refl _) _ _ _ _ (.slice0 _ _ _ _ _ _ (by omega) (fun h => by simp at h))
        · obtain ⟨l', h1, rfl, h2⟩ := h (by omega)
          rw [hm] at h1; injection h1 with h1; subst h1
          obtain ⟨q1, q2, q3, q4, vs, q5, q6, q7⟩ := hB
          refine Le.tsl (n := n) (c := fun i j => vw u x (lo + i) j) id rfl (by rw [List.length_take, List.length_drop]; omega) (fun i hi j hj => by rw [vw_take _ _ _ _ _ hi, vw_drop]; exact Le.refl _) _ _ _ _ ?_
          refine .slice _ _ _ _ _ _ _ _ (fun i j => vs.getD ((lo + i) * szT u + j) Go.undef) (.inr ⟨_, rfl, rfl⟩) (by omega) (by omega) (fun h => by simp at h) (fun i hi j hj => ⟨?_, (q7 (lo + i) (by omega) j hj).1⟩) (fun i hi j hj => (q7 (lo + i) (by omega) j hj).2.mono hS (fun _ _ => rfl) _ (fun _ _ h => h))
          rw [q1, ← Nat.add_mul]
          refine blk_cell q5 ?_
          have := eref_lt (off := j) (k := 1) (show lo + i < x.length by omega) (show j + 1 ≤ szT u by omega)
          have h8 : x.length * szT u ≤ l'.cap * szT u := Nat.mul_le_mul_right _ q3
          omega
      | _ => exact .undef _ _
    · rw [nbeq_ne e]; exact .tail _ _ _ _ _ _ hn fun h0 => let ⟨l, h1, h2⟩ := h h0; ⟨l, hset e h1, h2⟩
  | agg => exact .undef _ _
  | fn => exact .undef _ _
  | tup => exact .undef _ _
  | lst0 => exact .undef _ _
  | lst1 => exact .undef _ _
  | undef => exact .undef _ _
  | int _ k n h => exact .int _ _ _ h
  | bool => exact .bool _ _
  | str _ s h => exact .str _ _ h
  | nilptr => exact .nilptr _
  | cptr _ b o n c f hs hc h => exact (Rel.cptr _ b o n c f hs hc h : Rel w S [] _ _).mono hS (fun _ _ => rfl) _ (fun i l h => by simp at h)
  | slice _ b o sz n cap full c f hs hn hcap hf hc h => exact (Rel.slice _ b o sz n cap full c f hs hn hcap hf hc h : Rel w S [] _ _).mono hS (fun _ _ => rfl) _ (fun i l h => by simp at h)
  | slice0 _ a cap sz full c hcap hf => exact .slice0 _ _ _ _ _ _ hcap hf
  | nilsl => exact .nilsl _
  | emp _ a => exact .emp _ _
  | nilfn => exact .nilfn _
  | mv0 => exact .mv0 _
  | mv _ b es ck t u x hs hg hl h1 h2 hok => exact .mv _ _ _ _ _ _ _ (hS _ hs) hg hl (fun i hi => (h1 i hi).mono hS (fun _ _ => rfl) _ (fun _ _ h => h)) (fun i hi => (h2 i hi).mono hS (fun _ _ => rfl) _ (fun _ _ h => h)) hok
  | nilmap => exact .nilmap _
  | niliface => exact .niliface _
  | nxtT _ vs cs hl h0 h => exact .nxtT _ _ _ hl h0 fun i hi => (h i hi).mono hS (fun _ _ => rfl) _ (fun _ _ h => h)
  | clo _ id fs cs as0 bs hl0 hl h0 h => exact .clo _ _ _ _ _ _ hl0 hl (fun i hi => (h0 i hi).mono hS (fun _ _ => rfl) _ (fun _ _ h => h)) fun i hi => (h i hi).mono hS (fun _ _ => rfl) _ (fun _ _ h => h)
  | nilB _ b n h => exact .nilB _ _ _ h
  | nxtF => exact .nxtF _ _

theorem Rel.frz {b : Nat} {ol : Option Loc} {B : ABlk} (hm : m[b]? = some ol) (hB : BRel w S m ol B) (hp : plainB B = true) {v : Value} {a : AV} (h : Rel w S m v a) :
    Rel w (SG S ol) (m.set b none) v (Eng.frz b B a) := by
  cases a with
  | agg cs =>
    cases h with
    | agg _ vs _ hl h1 h =>
      exact .agg _ _ _ (by rw [lenA_mapA]; exact hl) (fun i hi => h1 i (by rwa [lenA_mapA] at hi)) fun i hi => by
        rw [lenA_mapA] at hi; rw [nth_mapA _ _ _ hi]; exact (h i hi).frz0 hm hB hp
  | fn f x y =>
    cases h with
    | fn _ _ fs cs _ _ hl hl' h1 h1' h h' =>
      exact .fn _ _ _ _ _ _ (by rw [lenA_mapA]; exact hl) (by rw [lenA_mapA]; exact hl') (fun i hi => h1 i (by rwa [lenA_mapA] at hi)) (fun i hi => h1' i (by rwa [lenA_mapA] at hi))
        (fun i hi => by rw [lenA_mapA] at hi; rw [nth_mapA _ _ _ hi]; exact (h i hi).frz0 hm hB hp) (fun i hi => by rw [lenA_mapA] at hi; rw [nth_mapA _ _ _ hi]; exact (h' i hi).frz0 hm hB hp)
  | tup vs => exact .undef _ _
  | _ => exact h.frz0 hm hB hp

/-- Of what the first state tells, the second one tells no more. -/
def ALe (A B : AS) : Prop := ∀ (base : Env) (w : World) (S : Nat → Prop) (m : Locs) (a : Act), MA base w S m A → ARel base.old w S m a A.ts →
  ∃ S' m', (∀ b, S b → S' b) ∧ (∀ b, S' b → S b ∨ ¬ base.Z b) ∧ MA base w S' m' B ∧ ARel base.old w S' m' a B.ts
theorem ALe.refl (A : AS) : ALe A A := fun _ _ S m _ hM hA => ⟨S, m, fun _ h => h, fun _ h => .inl h, hM, hA⟩
theorem ALe.trans {A B C : AS} (h : ALe A B) (k : ALe B C) : ALe A C := by
  intro base w S m a hM hA
  obtain ⟨S1, m1, a1, a2, a3, a4⟩ := h base w S m a hM hA
  obtain ⟨S2, m2, b1, b2, b3, b4⟩ := k base w S1 m1 a a3 a4
  exact ⟨S2, m2, fun b h => b1 b (a1 b h), fun b h => (b2 b h).elim (a2 b) .inr, b3, b4⟩

/-- A block of one's own is given away. -/
theorem ALe.freeze {A : AS} (b : Nat) {B : ABlk} (hb : blk A.m b = B) (hp : plainB B = true) (hnp : Nat.ble A.np b = true ∨ isCells B = false) : ALe A ⟨mapA (frz b B) A.ts, frzM b B (setBlk A.m b .dead), A.np⟩ := by
  intro base w S m a hM hA
  have hM' := hM.rel
  have hblt : b < lenM A.m := blk_lt _ _ (by rw [hb]; intro e; subst e; simp [plainB] at hp)
  obtain ⟨ol, hol⟩ : ∃ ol, m[b]? = some ol := ⟨m[b]'(by rw [hM'.len]; exact hblt), List.getElem?_eq_getElem _⟩
  have hBr := hM'.bk b ol hol
  rw [hb] at hBr
  have hlt : ∀ l, ol = some l → _ := fun l e => hM'.lt b l (e ▸ hol)
  have hset : ∀ {i : Nat} {x : Option Loc}, (m.set b none)[i]? = some x → (i ≠ b ∧ m[i]? = some x) ∨ (i = b ∧ x = none) := fun {i x} hi => by
    by_cases e : i = b
    · subst e; rw [List.getElem?_set_self (by rw [hM'.len]; exact hblt)] at hi; injection hi with hi; exact .inr ⟨rfl, hi.symm⟩
    · rw [List.getElem?_set_ne (Ne.symm e)] at hi; exact .inl ⟨e, hi⟩
  have hN : MRel base w (SG S ol) (m.set b none) (frzM b B (setBlk A.m b .dead)) := by
    refine ⟨by rw [List.length_set, lenM_frz, lenM_set]; exact hM'.len, fun g hg => hg.elim (hM'.sb g) (fun ⟨l, e, h⟩ => h ▸ (hlt l e).2.1), fun i l' hi => ?_, fun i l' hi => ?_, fun i j l1 l2 hi hj e => ?_, hM'.base_le, hM'.gok, fun i l' hi => ?_, fun i l' hi => ?_⟩
    rotate_right
    · rcases hset hi with ⟨hne, hi⟩ | ⟨_, e⟩
      · refine (hM'.ext i l' hi).to (fun _ _ h => h) (Nat.le_refl _) (fun g hg hs => hs.elim .inl fun ⟨l1, e, h⟩ => absurd h.symm ((hM'.ext i l' hi).far g hg b l1 (e ▸ hol)).1) fun j l'' hj => ?_
        rcases hset hj with ⟨_, hj⟩ | ⟨_, e⟩
        · exact .inl ⟨l'', hj, rfl, .inl rfl⟩
        · cases e
      · cases e
    · rw [blk_frz, blk_set]
      rcases hset hi with ⟨hne, hi⟩ | ⟨rfl, rfl⟩
      · rw [if_neg (fun x => hne x.1.symm)]
        have hB := hM'.bk i l' hi
        have hrel : ∀ v x, Rel w S m v x → Rel w (SG S ol) (m.set b none) v (Eng.frz b B x) := fun v x hr => hr.frz hol hBr hp
        have hrel0 : ∀ v x, Rel w S [] v x → Rel w (SG S ol) [] v x := fun v x hr => hr.mono (fun _ h => .inl h) (fun _ _ => rfl) _ (fun _ _ h => h)
        cases l' with
        | none => revert hB; cases blk A.m i <;> exact fun h => h
        | some l' =>
          revert hB
          cases blk A.m i with
          | fam x y => exact fun hf => hf.keep (fun _ h => .inl h) (fun _ _ => rfl) rfl fun _ _ => rfl
          | dead => exact fun h => h
          | cells e cs => rintro ⟨vs, h1, h2, h3, h4⟩; exact ⟨vs, h1, by rw [lenA_mapA]; exact h2, fun i hi => h3 i (by rwa [lenA_mapA] at hi), fun i hi => by rw [lenA_mapA] at hi; rw [nth_mapA _ _ _ hi]; exact hrel _ _ (h4 i hi)⟩
          | rows e sz n c => rintro ⟨h0, h1, h2, h3, vs, h4, h5, h6⟩; exact ⟨h0, h1, h2, h3, vs, h4, h5, fun i hi j hj => ⟨(h6 i hi j hj).1, hrel0 _ _ (h6 i hi j hj).2⟩⟩
          | trows e ty x => rintro ⟨h0, h1, h2, h3, vs, h4, h5, h6⟩; exact ⟨h0, h1, h2, h3, vs, h4, h5, fun i hi j hj => ⟨(h6 i hi j hj).1, hrel0 _ _ (h6 i hi j hj).2⟩⟩
          | fro e ty x => rintro ⟨h0, h1, h2, h3, vs, fz, h4, h5, h6⟩; exact ⟨h0, h1, h2, h3, vs, fz, h4, h5, fun i hi j hj => ⟨(h6 i hi j hj).1, hrel0 _ _ (h6 i hi j hj).2⟩⟩
          | arr e ty x => rintro ⟨vs, h4, h5, h6⟩; exact ⟨vs, h4, h5, fun i hi => ⟨(h6 i hi).1, hrel0 _ _ (h6 i hi).2⟩⟩
          | map ty uy x => rintro ⟨es, ck, h4, h5, h6, h7⟩; exact ⟨es, ck, h4, h5, fun i hi => ⟨hrel0 _ _ (h6 i hi).1, hrel0 _ _ (h6 i hi).2⟩, h7⟩
          | siter s pos => exact fun h => h
      · rw [if_pos ⟨rfl, hblt⟩]; trivial
    · rcases hset hi with ⟨hne, hi⟩ | ⟨_, e⟩
      · have q := hM'.lt i l' hi
        exact ⟨q.1, q.2.1, fun hs => hs.elim q.2.2 (fun ⟨l, e, h⟩ => hne (hM'.inj i b l' l hi (e ▸ hol) h))⟩
      · cases e
    · rcases hset hi with ⟨_, hi⟩ | ⟨_, e1⟩
      · rcases hset hj with ⟨_, hj⟩ | ⟨_, e2⟩
        · exact hM'.inj i j l1 l2 hi hj e
        · cases e2
      · cases e1
    · obtain ⟨q1, q2⟩ := hM'.pin i l' hi
      have hne : i ≠ b := fun e => by
        rcases hnp with hnp | hnp
        · have := Nat.le_of_ble_eq_true hnp
          have := hM.pins i l' hi; omega
        · rw [e, hb, hnp] at q2; cases q2
      refine ⟨by rw [List.getElem?_set_ne (Ne.symm hne)]; exact q1, ?_⟩
      rw [blk_frz, blk_set, if_neg (fun x => hne x.1.symm)]
      revert q2; cases blk A.m i <;> exact fun h => h
  have hA' : ARel base.old w (SG S ol) (m.set b none) a (mapA (Eng.frz b B) A.ts) := by
    refine ⟨by rw [lenA_mapA]; exact hA.1, hA.2.1.mono (fun b h => .inl h) (fun _ _ => rfl), fun t => ?_⟩
    by_cases ht : t < lenA A.ts
    · rw [nth_mapA _ _ _ ht]; exact (hA.2.2 t).frz hol hBr hp
    · rw [nth_out _ _ (by rw [lenA_mapA]; omega)]; exact .undef _ _
  exact ⟨SG S ol, m.set b none, fun g hg => .inl hg, fun g hg => hg.elim .inl (fun ⟨l, e, h⟩ => .inr (h ▸ (hlt l e).1)), ⟨hN, hM.pins⟩, hA'⟩

/-- A slice that is nil, taken as one of the call's own. -/
theorem ALe.own {A : AS} (i : Nat) (e : TypeId) (u : Ty) (hi : nth A.ts i = .nilsl ∨ nth A.ts i = .emp) : ALe A ⟨put A.ts i (.ownT (lenM A.m)), snocM A.m (.trows e u []), A.np⟩ := by
  intro base w S m a hM hA
  obtain ⟨ht, hm⟩ := hM.rel.allocN (.trows e u []) rfl
  refine ⟨S, m ++ [none], fun _ h => h, fun _ h => .inl h, ⟨hm, hM.pins⟩, ⟨by rw [lenA_put]; exact hA.1, hA.2.1, fun t => ?_⟩⟩
  have hr := hA.2.2 t
  rw [nth_put]
  split
  · rename_i e'
    obtain ⟨rfl, _⟩ := e'
    have hlast : (m ++ [none])[lenM A.m]? = some none := by rw [← hM.rel.len]; simp
    rcases hi with hi | hi <;> rw [hi] at hr <;> (generalize a.tmps.getD i Go.undef = v at hr; cases hr; exact .ownT0 _ _ _ hlast)
  · exact ht.rel hr

/-- The same of a part of a block. -/
theorem ALe.ownC {A : AS} (b j e : Nat) (u : Ty) {e' : Nat} {cs : List AV} (hb : blk A.m b = .cells e' cs) (hj : nth cs j = .nilsl ∨ nth cs j = .emp) :
    ALe A ⟨A.ts, setBlk (snocM A.m (.trows e u [])) b (.cells e' (put cs j (.ownT (lenM A.m)))), A.np⟩ := by
  intro base w S m a hM hA
  obtain ⟨ht, hm⟩ := hM.rel.allocN (.trows e u []) rfl
  have hblt : b < lenM A.m := blk_lt _ _ (by rw [hb]; intro e; cases e)
  have hbm : blk (snocM A.m (.trows e u [])) b = .cells e' cs := by rw [blk_snoc, if_neg (by omega), hb]
  have hlast : (m ++ [none])[lenM A.m]? = some none := by rw [← hM.rel.len]; simp
  refine ⟨S, m ++ [none], fun _ h => h, fun _ h => .inl h, ⟨⟨by rw [lenM_set]; exact hm.len, hm.sb, fun i l hi => ?_, hm.lt, hm.inj, hm.base_le, hm.gok, fun i l hi => ?_, hm.ext⟩, hM.pins⟩, ⟨hA.1, hA.2.1, fun t => ht.rel (hA.2.2 t)⟩⟩
  · have hB := hm.bk i l hi
    rw [blk_set]
    split
    · rename_i e1
      obtain ⟨rfl, _⟩ := e1
      rw [hbm] at hB
      cases l with
      | none => exact hB
      | some l =>
        obtain ⟨vs, h1, h2, h3, h4⟩ := hB
        refine ⟨vs, h1, by rw [lenA_put]; exact h2, fun i hi => h3 i (by rwa [lenA_put] at hi), fun i hi => ?_⟩
        rw [lenA_put] at hi
        have hr := h4 i hi
        rw [nth_put]
        split
        · rename_i e2
          obtain ⟨rfl, _⟩ := e2
          rcases hj with hj | hj <;> rw [hj] at hr <;> (generalize vs.getD j Go.undef = v at hr; cases hr; exact .ownT0 _ _ _ hlast)
        · exact hr
    · exact hB
  · obtain ⟨q1, q2⟩ := hm.pin i l hi
    refine ⟨q1, ?_⟩
    rw [blk_set]
    split
    · rfl
    · exact q2

/-- The same of a nil map. -/
theorem ALe.ownM {A : AS} (b j : Nat) {e' : Nat} {cs : List AV} (hb : blk A.m b = .cells e' cs) (hj : nth cs j = .nilmap) :
    ALe A ⟨A.ts, setBlk (snocM A.m (.fam [] [])) b (.cells e' (put cs j (.mp (lenM A.m)))), A.np⟩ := by
  intro base w S m a hM hA
  obtain ⟨ht, hm⟩ := hM.rel.allocN (.fam [] []) ⟨rfl, rfl⟩
  have hblt : b < lenM A.m := blk_lt _ _ (by rw [hb]; intro e; cases e)
  have hbm : blk (snocM A.m (.fam [] [])) b = .cells e' cs := by rw [blk_snoc, if_neg (by omega), hb]
  have hlast : (m ++ [none])[lenM A.m]? = some none := by rw [← hM.rel.len]; simp
  refine ⟨S, m ++ [none], fun _ h => h, fun _ h => .inl h, ⟨⟨by rw [lenM_set]; exact hm.len, hm.sb, fun i l hi => ?_, hm.lt, hm.inj, hm.base_le, hm.gok, fun i l hi => ?_, hm.ext⟩, hM.pins⟩, ⟨hA.1, hA.2.1, fun t => ht.rel (hA.2.2 t)⟩⟩
  · have hB := hm.bk i l hi
    rw [blk_set]
    split
    · rename_i e1
      obtain ⟨rfl, _⟩ := e1
      rw [hbm] at hB
      cases l with
      | none => exact hB
      | some l =>
        obtain ⟨vs, h1, h2, h3, h4⟩ := hB
        refine ⟨vs, h1, by rw [lenA_put]; exact h2, fun i hi => h3 i (by rwa [lenA_put] at hi), fun i hi => ?_⟩
        rw [lenA_put] at hi
        have hr := h4 i hi
        rw [nth_put]
        split
        · rename_i e2
          obtain ⟨rfl, _⟩ := e2
          rw [hj] at hr
          generalize vs.getD j Go.undef = v at hr
          cases hr
          exact .mp0 _ _ hlast
        · exact hr
    · exact hB
  · obtain ⟨q1, q2⟩ := hm.pin i l hi
    refine ⟨q1, ?_⟩
    rw [blk_set]
    split
    · rfl
    · exact q2

/-! A block takes another one's place. -/
def rnC (k b : Nat) : AV → AV
  | .mp i => match Nat.beq i k with | true => .mp b | false => inval0 b (.mp i)
  | .ownT i => match Nat.beq i k with | true => .ownT b | false => inval0 b (.ownT i)
  | v => inval0 k (inval0 b v)
def rnB (k b : Nat) : AV → AV
  | .mp i => match Nat.beq i k with | true => .mp b | false => inval0 b (.mp i)
  | .ownT i => match Nat.beq i k with | true => .ownT b | false => inval0 b (.ownT i)
  | v => inval k (inval b v)
def rnBlk (k b : Nat) : ABlk → ABlk
  | .cells e cs => .cells e (mapA (rnC k b) cs)
  | x => x
def rnM (k b : Nat) : Mem → Mem
  | [] => []
  | x :: l => rnBlk k b x :: rnM k b l
theorem lenM_rn (k b : Nat) (l : Mem) : lenM (rnM k b l) = lenM l := by induction l with | nil => rfl | cons a l ih => simp [rnM, lenM, ih]
theorem blk_rn (k b : Nat) (l : Mem) (i : Nat) : blk (rnM k b l) i = rnBlk k b (blk l i) := by
  induction l generalizing i with
  | nil => rfl
  | cons a l ih => cases i with
    | zero => rfl
    | succ i => exact ih i
theorem inval0_noagg {x : Nat} {a : AV} (h : ∀ cs, a ≠ .agg cs) : ∀ cs, inval0 x a ≠ .agg cs := by
  intro cs e
  cases a with
  | agg cs' => exact h _ rfl
  | own | ownT | tail | eref | ref | selfp | asl | mp | sub => simp only [inval0] at e; split at e <;> cases e
  | _ => cases e
theorem ALe.mvB0 {A : AS} (k b : Nat) {B : ABlk} (hk : blk A.m k = B) (hkd : B ≠ .dead) (hkc : isCells B = false) (hbd : blk A.m b ≠ .dead) (hbc : isCells (blk A.m b) = false) (hne : Nat.beq k b = false)
    (hup : ∀ {w : World} {S : Nat → Prop} {m m' : Locs} {l : Option Loc}, BRel w S m l B → BRel w S m' l B) :
    ALe A ⟨mapA (rnB k b) A.ts, setBlk (setBlk (rnM k b A.m) b B) k .dead, A.np⟩ := by
  intro base w S m a hM hA
  have hM' := hM.rel
  have hne : k ≠ b := fun q => by subst q; rw [Nat.beq_refl] at hne; cases hne
  have hkl : k < lenM A.m := blk_lt _ _ (by rw [hk]; exact hkd)
  have hbl : b < lenM A.m := blk_lt _ _ hbd
  obtain ⟨lk, hlk⟩ : ∃ lk, m[k]? = some lk := ⟨m[k]'(by rw [hM'.len]; exact hkl), List.getElem?_eq_getElem _⟩
  have s1 : ∀ {i : Nat} {x : Option Loc}, i ≠ b → m[i]? = some x → (m.set b lk)[i]? = some x := fun hi h => by rw [List.getElem?_set_ne (Ne.symm hi)]; exact h
  have s2 : ∀ {i : Nat} {x : Option Loc}, i ≠ k → (m.set b lk)[i]? = some x → ((m.set b lk).set k none)[i]? = some x := fun hi h => by rw [List.getElem?_set_ne (Ne.symm hi)]; exact h
  have sb : ((m.set b lk).set k none)[b]? = some lk := s2 (Ne.symm hne) (List.getElem?_set_self (by rw [hM'.len]; exact hbl))
  have hset : ∀ {i : Nat} {x : Option Loc}, ((m.set b lk).set k none)[i]? = some x → (i = k ∧ x = none) ∨ (i = b ∧ x = lk) ∨ (i ≠ k ∧ i ≠ b ∧ m[i]? = some x) := fun {i x} hi => by
    by_cases e1 : i = k
    · subst e1; rw [List.getElem?_set_self (by rw [List.length_set, hM'.len]; exact hkl)] at hi; injection hi with hi; exact .inl ⟨rfl, hi.symm⟩
    · rw [List.getElem?_set_ne (Ne.symm e1)] at hi
      by_cases e2 : i = b
      · subst e2; rw [List.getElem?_set_self (by rw [hM'.len]; exact hbl)] at hi; injection hi with hi; exact .inr (.inl ⟨rfl, hi.symm⟩)
      · rw [List.getElem?_set_ne (Ne.symm e2)] at hi; exact .inr (.inr ⟨e1, e2, hi⟩)
  have r0 : ∀ {v : Value} {x : AV}, Rel w S m v x → (∀ cs, x ≠ .agg cs) → Rel w S ((m.set b lk).set k none) v (inval0 k (inval0 b x)) := fun h hx =>
    Rel.inval0 (fun _ h => h) (fun _ _ => rfl) (fun i l hi h => s2 hi h) (Rel.inval0 (fun _ h => h) (fun _ _ => rfl) (fun i l hi h => s1 hi h) h hx) (inval0_noagg hx)
  have rT : ∀ {v : Value} {i : Nat}, Rel w S m v (.ownT i) → Rel w S ((m.set b lk).set k none) v (match Nat.beq i k with | true => .ownT b | false => inval0 b (.ownT i)) := fun {v i} h => by
    by_cases e : i = k
    · subst e
      rw [Nat.beq_refl]
      cases h with
      | ownT _ _ l0 h0 hc => rw [hlk] at h0; injection h0 with h0; subst h0; exact .ownT _ _ _ sb hc
      | ownT0 _ aa _ h0 => rw [hlk] at h0; injection h0 with h0; subst h0; exact .ownT0 _ _ _ sb
    · rw [nbeq_ne e]
      have := r0 h (fun cs q => by cases q)
      by_cases e2 : b = i
      · subst e2; simp only [inval0, Nat.beq_refl] at this ⊢; exact this
      · simp only [inval0, nbeq_ne e2, nbeq_ne (Ne.symm e)] at this ⊢; exact this
  have rP : ∀ {v : Value} {i : Nat}, Rel w S m v (.mp i) → Rel w S ((m.set b lk).set k none) v (match Nat.beq i k with | true => .mp b | false => inval0 b (.mp i)) := fun {v i} h => by
    by_cases e : i = k
    · subst e
      rw [Nat.beq_refl]
      cases h with
      | mp _ _ l0 h0 => rw [hlk] at h0; injection h0 with h0; subst h0; exact .mp _ _ _ sb
      | mp0 _ _ h0 => rw [hlk] at h0; injection h0 with h0; subst h0; exact .mp0 _ _ sb
    · rw [nbeq_ne e]
      have := r0 h (fun cs q => by cases q)
      by_cases e2 : b = i
      · subst e2; simp only [inval0, Nat.beq_refl] at this ⊢; exact this
      · simp only [inval0, nbeq_ne e2, nbeq_ne (Ne.symm e)] at this ⊢; exact this
  have rC : ∀ {v : Value} {x : AV}, Rel w S m v x → (∀ cs, x ≠ .agg cs) → Rel w S ((m.set b lk).set k none) v (rnC k b x) := fun {v x} h hx => by
    cases x with
    | ownT i => exact rT h
    | mp i => exact rP h
    | _ => exact r0 h hx
  have rB : ∀ {v : Value} {x : AV}, Rel w S m v x → Rel w S ((m.set b lk).set k none) v (rnB k b x) := fun {v x} h => by
    have gen : Rel w S ((m.set b lk).set k none) v (inval k (inval b x)) := Rel.inval (fun _ h => h) (fun _ _ => rfl) (fun i l hi h => s2 hi h) (Rel.inval (fun _ h => h) (fun _ _ => rfl) (fun i l hi h => s1 hi h) h)
    cases x with
    | ownT i => exact rT h
    | mp i => exact rP h
    | _ => exact gen
  have hrel0 : ∀ {v x}, Rel w S [] v x → Rel w S [] v x := fun hr => hr
  have hlen : lenM (setBlk (setBlk (rnM k b A.m) b B) k .dead) = lenM A.m := by rw [lenM_set, lenM_set, lenM_rn]
  have hN : MRel base w S ((m.set b lk).set k none) (setBlk (setBlk (rnM k b A.m) b B) k .dead) := by
    refine ⟨by rw [List.length_set, List.length_set, hlen]; exact hM'.len, hM'.sb, fun i x hi => ?_, fun i x hi => ?_, fun i j x y hi hj q => ?_, hM'.base_le, hM'.gok, fun i x hi => ?_, fun i x hi => ?_⟩
    rotate_right
    · have src : ∀ {i : Nat} {x : Loc}, ((m.set b lk).set k none)[i]? = some (some x) → ∃ i0, m[i0]? = some (some x) ∧ ((i = b ∧ i0 = k) ∨ (i ≠ b ∧ i ≠ k ∧ i0 = i)) := fun {i x} hi => by
        rcases hset hi with ⟨_, q⟩ | ⟨e1, q⟩ | ⟨e1, e2, hi⟩
        · cases q
        · exact ⟨k, q ▸ hlk, .inl ⟨e1, rfl⟩⟩
        · exact ⟨i, hi, .inr ⟨e2, e1, rfl⟩⟩
      obtain ⟨i0, p1, p2⟩ := src hi
      have q := hM'.ext i0 x p1
      refine ⟨q.nd, q.out, fun g hg j y hj => ?_⟩
      obtain ⟨j0, r1, r2⟩ := src hj
      have f := q.far g hg j0 y r1
      exact ⟨f.1, fun hne => f.2 (by omega)⟩
    · rw [blk_set, blk_set, blk_rn]
      rcases hset hi with ⟨rfl, rfl⟩ | ⟨rfl, rfl⟩ | ⟨e1, e2, hi⟩
      · rw [if_pos ⟨rfl, by rw [lenM_set, lenM_rn]; exact hkl⟩]; trivial
      · rw [if_neg (fun q => hne q.1), if_pos ⟨rfl, by rw [lenM_rn]; exact hbl⟩]
        have := hM'.bk k _ hlk
        rw [hk] at this
        exact hup this
      · rw [if_neg (fun q => e1 q.1.symm), if_neg (fun q => e2 q.1.symm)]
        have hB := hM'.bk i x hi
        cases x with
        | none => revert hB; cases blk A.m i <;> exact fun h => h
        | some x =>
          revert hB
          cases blk A.m i with
          | cells ee cs => rintro ⟨vs, h1, h2, h3, h4⟩; exact ⟨vs, h1, by rw [lenA_mapA]; exact h2, fun i hi => h3 i (by rwa [lenA_mapA] at hi), fun i hi => by rw [lenA_mapA] at hi; rw [nth_mapA _ _ _ hi]; exact rC (h4 i hi) ((h4 i hi).no_agg (h3 i hi))⟩
          | _ => exact fun h => h
    · rcases hset hi with ⟨_, q⟩ | ⟨_, q⟩ | ⟨_, _, hi⟩
      · cases q
      · exact hM'.lt k x (q ▸ hlk)
      · exact hM'.lt i x hi
    · rcases hset hi with ⟨_, q1⟩ | ⟨ei, q1⟩ | ⟨i1, i2, hi'⟩
      · cases q1
      · rcases hset hj with ⟨_, q2⟩ | ⟨ej, q2⟩ | ⟨j1, j2, hj'⟩
        · cases q2
        · rw [ei, ej]
        · exact absurd (hM'.inj k j x y (q1 ▸ hlk) hj' q) (Ne.symm j1)
      · rcases hset hj with ⟨_, q2⟩ | ⟨ej, q2⟩ | ⟨j1, j2, hj'⟩
        · cases q2
        · exact absurd (hM'.inj i k x y hi' (q2 ▸ hlk) q) i1
        · exact hM'.inj i j x y hi' hj' q
    · obtain ⟨q1, q2⟩ := hM'.pin i x hi
      have e1 : i ≠ k := fun q => by rw [q, hk, hkc] at q2; cases q2
      have e2 : i ≠ b := fun q => by rw [q, hbc] at q2; cases q2
      refine ⟨s2 e1 (s1 e2 q1), ?_⟩
      rw [blk_set, if_neg (fun q => e1 q.1.symm), blk_set, if_neg (fun q => e2 q.1.symm), blk_rn]
      revert q2; cases blk A.m i <;> exact fun h => h
  refine ⟨S, (m.set b lk).set k none, fun _ h => h, fun _ h => .inl h, ⟨hN, hM.pins⟩, ⟨by rw [lenA_mapA]; exact hA.1, hA.2.1, fun t => ?_⟩⟩
  by_cases ht : t < lenA A.ts
  · rw [nth_mapA _ _ _ ht]; exact rB (hA.2.2 t)
  · rw [nth_out _ _ (by rw [lenA_mapA]; omega)]; exact .undef _ _
theorem ALe.mvB {A : AS} (k b : Nat) {e : Nat} {u : Ty} {l : List (El u)} {e' : Nat} {u' : Ty} {l' : List (El u')} (hk : blk A.m k = .trows e u l) (hb : blk A.m b = .trows e' u' l') (hne : Nat.beq k b = false) :
    ALe A ⟨mapA (rnB k b) A.ts, setBlk (setBlk (rnM k b A.m) b (.trows e u l)) k .dead, A.np⟩ :=
  .mvB0 k b hk (by intro e; cases e) rfl (by rw [hb]; intro e; cases e) (by rw [hb]; rfl) hne fun {w S m m' l} => by cases l <;> exact fun h => h
theorem ALe.mvF {A : AS} (k b : Nat) {x : List (List UInt8 × (Int × (List UInt8 × Int)))} {y : List (List (List UInt8 × Int))} {x' : List (List UInt8 × (Int × (List UInt8 × Int)))} {y' : List (List (List UInt8 × Int))} (hk : blk A.m k = .fam x y) (hb : blk A.m b = .fam x' y') (hne : Nat.beq k b = false) :
    ALe A ⟨mapA (rnB k b) A.ts, setBlk (setBlk (rnM k b A.m) b (.fam x y)) k .dead, A.np⟩ :=
  .mvB0 k b hk (by intro e; cases e) rfl (by rw [hb]; intro e; cases e) (by rw [hb]; rfl) hne fun {w S m m' l} => by cases l <;> exact fun h => h

/-! Before a piece of code. -/
/-- The cells of an array, as a list. -/
def rdArr (u : Ty) : List AV → Option (List (El u))
  | [] => some []
  | c :: cs => match rdE u [c] with
    | some x => match rdArr u cs with
      | some l => some (x :: l)
      | none => none
    | none => none
theorem rdArr_ok {u : Ty} (hu : szT u = 1) : ∀ {cs : List AV} {l : List (El u)}, rdArr u cs = some l → l.length = lenA cs ∧ ∀ i, i < lenA cs → Le (nth cs i) (vw u l i 0)
  | [], l, h => by cases h; exact ⟨rfl, fun i hi => absurd hi (Nat.not_lt_zero _)⟩
  | c :: cs, l, h => by
    simp only [rdArr] at h
    split at h
    · rename_i x hx
      split at h
      · rename_i l' hl'
        cases h
        obtain ⟨k1, k2⟩ := rdArr_ok hu hl'
        obtain ⟨_, r2⟩ := rdE_ok hx
        refine ⟨by rw [List.length_cons, k1]; rfl, fun i hi => ?_⟩
        cases i with
        | zero => exact r2 0 (by omega)
        | succ i => exact k2 i (by simp only [lenA] at hi; omega)
      · cases h
    · cases h
theorem ALe.arr {A : AS} (b : Nat) (u : Ty) {e : Nat} {cs : List AV} {l : List (El u)} (hb : blk A.m b = .cells e cs) (hu : szT u = 1) (hl : rdArr u cs = some l) (ho : allOutside cs = true) (hnp : Nat.ble A.np b = true) :
    ALe A ⟨A.ts, setBlk A.m b (.arr e u l), A.np⟩ := by
  intro base w S m a hM hA
  have hm := hM.rel
  have hblt : b < lenM A.m := blk_lt _ _ (by rw [hb]; intro e; cases e)
  obtain ⟨k1, k2⟩ := rdArr_ok hu hl
  refine ⟨S, m, fun _ h => h, fun _ h => .inl h, ⟨⟨by rw [lenM_set]; exact hm.len, hm.sb, fun i lo hi => ?_, hm.lt, hm.inj, hm.base_le, hm.gok, fun i lo hi => ?_, hm.ext⟩, hM.pins⟩, hA⟩
  · have hB := hm.bk i lo hi
    rw [blk_set]
    split
    · rename_i e1
      obtain ⟨rfl, _⟩ := e1
      rw [hb] at hB
      cases lo with
      | none => exact hB
      | some lo =>
        obtain ⟨vs, h1, h2, h3, h4⟩ := hB
        exact ⟨vs, h1, by rw [k1]; exact h2, fun i hi => ⟨h3 i (by omega), k2 i (by omega) _ _ _ _ ((h4 i (by omega)).out (allOutside_nth ho (by omega)) [])⟩⟩
    · exact hB
  · obtain ⟨q1, q2⟩ := hm.pin i lo hi
    refine ⟨q1, ?_⟩
    rw [blk_set]
    split
    · rename_i e1
      obtain ⟨rfl, _⟩ := e1
      have := hM.pins b lo hi
      have := Nat.le_of_ble_eq_true hnp
      omega
    · exact q2

inductive Pre where
  | own (i e : Nat) (u : Ty)
  | ownC (b j e : Nat) (u : Ty)
  | frz (b : Nat)
  | spl (i n : Nat)
  | arr (b : Nat) (u : Ty)
  | two
  | unr (n : Nat)
  | mvB (k b : Nat)
  | twoN (n : Nat)
def frzOk (A : AS) (b : Nat) : Bool :=
  match isCells (blk A.m b) with
  | false => true
  | true => Nat.ble A.np b
def pre1A : Pre → AS → AS
  | .own i e u, A => match nth A.ts i with
    | .nilsl => ⟨put A.ts i (.ownT (lenM A.m)), snocM A.m (.trows e u []), A.np⟩
    | .emp => ⟨put A.ts i (.ownT (lenM A.m)), snocM A.m (.trows e u []), A.np⟩
    | _ => A
  | .frz b, A => match plainB (blk A.m b), frzOk A b with
    | true, true => ⟨mapA (frz b (blk A.m b)) A.ts, frzM b (blk A.m b) (setBlk A.m b .dead), A.np⟩
    | _, _ => A
  | .spl _ _, A => A
  | .two, A => A
  | .unr _, A => A
  | .twoN _, A => A
  | .mvB k b, A => match blk A.m k, blk A.m b, Nat.beq k b with
    | .trows e u l, .trows _ _ _, false => ⟨mapA (rnB k b) A.ts, setBlk (setBlk (rnM k b A.m) b (.trows e u l)) k .dead, A.np⟩
    | .fam x y, .fam _ _, false => ⟨mapA (rnB k b) A.ts, setBlk (setBlk (rnM k b A.m) b (.fam x y)) k .dead, A.np⟩
    | _, _, _ => A
  | .arr b u, A => match blk A.m b with
    | .cells e cs => match Nat.beq (szT u) 1, allOutside cs, Nat.ble A.np b, rdArr u cs with
      | true, true, true, some l => ⟨A.ts, setBlk A.m b (.arr e u l), A.np⟩
      | _, _, _, _ => A
    | _ => A
  | .ownC b j e u, A => match blk A.m b with
    | .cells e' cs => match nth cs j with
      | .nilsl => ⟨A.ts, setBlk (snocM A.m (.trows e u [])) b (.cells e' (put cs j (.ownT (lenM A.m)))), A.np⟩
      | .emp => ⟨A.ts, setBlk (snocM A.m (.trows e u [])) b (.cells e' (put cs j (.ownT (lenM A.m)))), A.np⟩
      | .nilmap => ⟨A.ts, setBlk (snocM A.m (.fam [] [])) b (.cells e' (put cs j (.mp (lenM A.m)))), A.np⟩
      | _ => A
    | _ => A
def preA : List Pre → AS → AS
  | [], A => A
  | x :: l, A => preA l (pre1A x A)
theorem put_nth (l : List AV) (i : Nat) : put l i (nth l i) = l := by
  induction l generalizing i with
  | nil => rfl
  | cons a l ih => cases i with
    | zero => rfl
    | succ i => simp only [nth, put, ih i]
theorem pre1A_le (x : Pre) (A : AS) : ALe A (pre1A x A) := by
  cases x with
  | own i e u =>
    simp only [pre1A]
    split
    · rename_i h; exact ALe.own i e u (.inl h)
    · rename_i h; exact ALe.own i e u (.inr h)
    · exact ALe.refl _
  | frz b =>
    simp only [pre1A]
    split
    · rename_i h1 h2
      refine ALe.freeze b rfl h1 ?_
      unfold frzOk at h2
      cases hc : isCells (blk A.m b) with
      | false => exact .inr rfl
      | true => rw [hc] at h2; exact .inl h2
    · exact ALe.refl _
  | spl i n => exact ALe.refl _
  | two => exact ALe.refl _
  | unr n => exact ALe.refl _
  | twoN n => exact ALe.refl _
  | mvB k b =>
    simp only [pre1A]
    split
    · rename_i h1 h2 h3; exact ALe.mvB k b h1 h2 h3
    · rename_i h1 h2 h3; exact ALe.mvF k b h1 h2 h3
    · exact ALe.refl _
  | arr b u =>
    simp only [pre1A]
    split
    · rename_i e cs hb
      split
      · rename_i l h1 h2 h3 h4; exact ALe.arr b u hb (Nat.eq_of_beq_eq_true h1) h4 h2 h3
      · exact ALe.refl _
    · exact ALe.refl _
  | ownC b j e u =>
    simp only [pre1A]
    split
    · rename_i e' cs hb
      split
      · rename_i h; exact ALe.ownC b j e u hb (.inl h)
      · rename_i h; exact ALe.ownC b j e u hb (.inr h)
      · rename_i h; exact ALe.ownM b j hb h
      · exact ALe.refl _
    · exact ALe.refl _
theorem preA_le : ∀ (l : List Pre) (A : AS), ALe A (preA l A)
  | [], A => ALe.refl A
  | x :: l, A => (pre1A_le x A).trans (preA_le l _)

end Go.Eng
