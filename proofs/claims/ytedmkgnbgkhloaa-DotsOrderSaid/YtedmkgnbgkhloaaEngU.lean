/- Loops by a family of abstract states; what a call answers, by an equation. -/
import Derived.Test.YtedmkgnbgkhloaaEngT
namespace Go.Eng
open Go Go.RowKit

variable {P : Program} {T : Tab} {base : Env} {w : World} {S : Nat → Prop} {m : Locs} {M : Mem}

/-- Slots, of which only some are told. -/
def putAll (ts : List AV) : List (Nat × AV) → List AV
  | [] => ts
  | (i, v) :: l => put (putAll ts l) i v
def slots (n : Nat) (l : List (Nat × AV)) : List AV := putAll (und n) l

/-- The first state says no less than the second one. -/
def SubE : List AV → List AV → Prop
  | [], [] => True
  | _ :: l, .undef :: k => SubE l k
  | a :: l, b :: k => a = b ∧ SubE l k
  | _, _ => False

def SubL (l k : List AV) : Prop := lenA l = lenA k ∧ ∀ i, Le (nth l i) (nth k i)

def SubB : ABlk → ABlk → Prop
  | b, .dead => isCells b = false
  | .cells e cs, .cells e' ds => e = e' ∧ SubE cs ds
  | .rows e sz n c, .rows e' sz' n' d => e = e' ∧ sz = sz' ∧ n = n' ∧ ∀ i, i < n → ∀ j, j < sz → c i j = d i j
  | .trows e t l, C => C = .trows e t l
  | .siter s p, .siter s' p' => s = s' ∧ p = p'
  | _, _ => False

def SubM : Mem → Mem → Prop
  | [], [] => True
  | a :: l, b :: k => SubB a b ∧ SubM l k
  | _, _ => False

def takeM : Nat → Mem → Mem
  | 0, _ => []
  | _, [] => []
  | n + 1, b :: l => b :: takeM n l

/-- Does it speak of the first k blocks alone? -/
def closedN (k : Nat) : Nat → AV → Bool
  | _, .ref b _ | _, .eref b _ _ | _, .own b _ | _, .ownT b | _, .tail b _ _ => Nat.blt b k
  | 0, .agg _ | 0, .fn _ _ _ | 0, .tup _ => false
  | f + 1, .agg cs => closedNs f cs
  | f + 1, .tup cs => closedNs f cs
  | f + 1, .fn _ a c => match closedNs f a with | true => closedNs f c | false => false
  | _, _ => true
where closedNs (f : Nat) : List AV → Bool
  | [] => true
  | a :: l => match closedN k f a with | true => closedNs f l | false => false

def closedL (k : Nat) : List AV → Bool
  | [] => true
  | a :: l => match closedN k 4 a with | true => closedL k l | false => false

def closedM (k : Nat) : Mem → Bool
  | [] => true
  | .cells _ cs :: l => match closedL k cs with | true => closedM k l | false => false
  | _ :: l => closedM k l

structure Sub (A B : AS) : Prop where
  m : SubM (takeM (lenM B.m) A.m) B.m
  ts : SubE A.ts B.ts
  np : A.np = B.np
  cl : lenM A.m = lenM B.m ∨ (Nat.ble B.np (lenM B.m) = true ∧ closedL (lenM B.m) B.ts = true ∧ closedM (lenM B.m) B.m = true)

theorem SubE.refl : ∀ l : List AV, SubE l l
  | [] => trivial
  | a :: l => by cases a <;> first | exact SubE.refl l | exact ⟨rfl, SubE.refl l⟩
theorem SubB.refl (b : ABlk) : SubB b b := by
  cases b with
  | cells e cs => exact ⟨rfl, SubE.refl cs⟩
  | rows e sz n c => exact ⟨rfl, rfl, rfl, fun _ _ _ _ => rfl⟩
  | trows e t l => exact rfl
  | siter s p => exact ⟨rfl, rfl⟩
  | dead => exact rfl
theorem SubM.refl : ∀ M : Mem, SubM M M
  | [] => trivial
  | b :: M => ⟨SubB.refl b, SubM.refl M⟩
theorem SubM.len : ∀ {M N : Mem}, SubM M N → lenM M = lenM N
  | [], [], _ => rfl
  | _ :: _, _ :: _, h => by simp only [lenM]; rw [SubM.len h.2]
theorem SubM.blk : ∀ {M N : Mem}, SubM M N → ∀ i, SubB (Eng.blk M i) (Eng.blk N i)
  | [], [], _, i => rfl
  | _ :: _, _ :: _, h, 0 => h.1
  | _ :: _, _ :: _, h, i + 1 => SubM.blk h.2 i

theorem SubE.le : ∀ {l k : List AV}, SubE l k → SubL l k := by
  intro l
  induction l with
  | nil =>
    intro k h
    cases k with
    | nil => exact ⟨rfl, fun i => Le.refl _⟩
    | cons b k => exact h.elim
  | cons a l ih =>
    intro k h
    cases k with
    | nil => exact h.elim
    | cons b k =>
      have hh : Le a b ∧ SubE l k := by
        cases b with
        | undef => exact ⟨Le.undef _, h⟩
        | _ => have h : _ = _ ∧ _ := h; exact ⟨h.1 ▸ Le.refl _, h.2⟩
      obtain ⟨h1, h2⟩ := ih hh.2
      refine ⟨by simp only [lenA]; rw [h1], fun i => ?_⟩
      cases i with
      | zero => exact hh.1
      | succ i => exact h2 i

theorem ARel.sub {a : Act} {l k : List AV} (h : ARel w S m a l) (hs : SubL l k) : ARel w S m a k := ⟨h.1.trans hs.1, h.2.1, fun t => hs.2 t _ _ _ _ (h.2.2 t)⟩

theorem BRel.sub {l : Option Loc} {B C : ABlk} (h : BRel w S m l B) (hs : SubB B C) : BRel w S m l C := by
  cases C with
  | dead => cases l <;> trivial
  | cells e' ds =>
    cases B with
    | trows e t l => cases hs
    | cells e cs =>
      obtain ⟨rfl, hs⟩ := hs
      cases l with
      | none => exact h
      | some l =>
        obtain ⟨vs, h1, h2, h3, h4⟩ := h
        obtain ⟨q1, q2⟩ := hs.le
        exact ⟨vs, h1, h2.trans q1, fun i hi => h3 i (by omega), fun i hi => q2 i _ _ _ _ (h4 i (by omega))⟩
    | _ => exact hs.elim
  | rows e' sz' n' d =>
    cases B with
    | trows e t l => cases hs
    | rows e sz n c =>
      obtain ⟨rfl, rfl, rfl, hs⟩ := hs
      cases l with
      | none => exact h
      | some l =>
        obtain ⟨q1, q2, q3, q4, vs, q5, q6, q7⟩ := h
        exact ⟨q1, q2, q3, q4, vs, q5, q6, fun i hi j hj => by rw [← hs i hi j hj]; exact q7 i hi j hj⟩
    | _ => exact hs.elim
  | trows e' t' l' =>
    cases B with
    | trows e t l => cases hs; exact h
    | _ => exact hs.elim
  | siter s' p' =>
    cases B with
    | siter s p => obtain ⟨rfl, rfl⟩ := hs; exact h
    | trows e t l => cases hs
    | _ => exact hs.elim

theorem SubB.cells {B C : ABlk} (hs : SubB B C) (h : isCells B = true) : isCells C = true := by
  cases B <;> cases C <;> first | rfl | exact hs.elim | (simp [isCells] at h; done) | (simp [SubB, isCells] at hs; done)

theorem MRel.sub {M N : Mem} (h : MRel base w S m M) (hs : SubM M N) : MRel base w S m N :=
  ⟨h.len.trans hs.len, h.sb, fun i l hi => (h.bk i l hi).sub (hs.blk i), h.lt, h.inj, h.base_le, fun i l hi => ⟨(h.pin i l hi).1, (hs.blk i).cells (h.pin i l hi).2⟩⟩

theorem takeM_eq (n : Nat) (l : Mem) : takeM n l = l.take n := by
  induction n generalizing l with
  | zero => simp [takeM]
  | succ n ih => cases l with
    | nil => simp [takeM]
    | cons a l => simp [takeM, ih]
theorem takeM_all (l : Mem) : takeM (lenM l) l = l := by rw [takeM_eq, lenM_eq, List.take_length]
theorem lenM_take {n : Nat} {l : Mem} (h : n ≤ lenM l) : lenM (takeM n l) = n := by rw [lenM_eq] at *; rw [takeM_eq]; simp; omega
theorem blk_take {n i : Nat} {l : Mem} (h : i < n) : blk (takeM n l) i = blk l i := by
  rw [blk_eq, blk_eq, takeM_eq]; simp [List.getD, List.getElem?_take, h]

theorem closedNs_nth {k f : Nat} : ∀ {l : List AV}, closedN.closedNs k f l = true → ∀ i, i < lenA l → closedN k f (nth l i) = true
  | a :: l, h, i, hi => by
    simp only [closedN.closedNs] at h
    split at h
    · cases i with
      | zero => assumption
      | succ i => exact closedNs_nth h i (by simp [lenA] at hi; omega)
    · cases h

theorem Rel.take {k : Nat} : ∀ (f : Nat) {v : Value} {a : AV}, Rel w S m v a → closedN k f a = true → Rel w S (m.take k) v a := by
  have hk : ∀ {i : Nat} {l : Option Loc}, i < k → m[i]? = some l → (m.take k)[i]? = some l := fun h h' => by rw [List.getElem?_take_of_lt h]; exact h'
  intro f
  induction f with
  | zero =>
    intro v a h hc
    cases h with
    | ref _ i off l h => exact .ref _ _ _ _ (hk (by simpa [closedN] using hc) h)
    | eref _ i r off l h hr => exact .eref _ _ _ _ _ (hk (by simpa [closedN] using hc) h) hr
    | own _ i n l h hn hcp => exact .own _ _ _ _ (hk (by simpa [closedN] using hc) h) hn hcp
    | tsl _ t l full _ h => exact .tsl _ _ _ _ _ (h.slice_m _)
    | ownT0 _ aa i h => exact .ownT0 _ _ _ (hk (by simpa [closedN] using hc) h)
    | ownT _ i l h hcp => exact .ownT _ _ _ (hk (by simpa [closedN] using hc) h) hcp
    | own0 _ aa i h => exact .own0 _ _ _ (hk (by simpa [closedN] using hc) h)
    | tail _ aa i lo n cp hn h => exact .tail _ _ _ _ _ _ hn fun h0 => let ⟨l, h1, h2⟩ := h h0; ⟨l, hk (by simpa [closedN] using hc) h1, h2⟩
    | agg => simp [closedN] at hc
    | tup => simp [closedN] at hc
    | fn => simp [closedN] at hc
    | undef => exact .undef _ _
    | int _ k n h => exact .int _ _ _ h
    | bool => exact .bool _ _
    | str _ s h => exact .str _ _ h
    | nilptr => exact .nilptr _
    | cptr _ b o n c f hs hc' h => exact .cptr _ _ _ _ _ _ hs hc' h
    | slice _ b o sz n cap full c f hs hn hcap hf hc' h => exact .slice _ _ _ _ _ _ _ _ _ hs hn hcap hf hc' h
    | slice0 _ a cap sz full c hcap hf => exact .slice0 _ _ _ _ _ _ hcap hf
    | nilsl => exact .nilsl _
    | emp => exact .emp _ _
    | nilfn => exact .nilfn _
    | nilmap => exact .nilmap _
    | niliface => exact .niliface _
    | nxtT _ vs cs hl h0 h => exact .nxtT _ _ _ hl h0 h
    | clo _ id fs cs as0 bs hl0 hl h0 h => exact .clo _ _ _ _ _ _ hl0 hl h0 h
    | nilB _ b n h => exact .nilB _ _ _ h
    | nxtF => exact .nxtF _ _
  | succ f ih =>
    intro v a h hc
    cases h with
    | ref _ i off l h => exact .ref _ _ _ _ (hk (by simpa [closedN] using hc) h)
    | eref _ i r off l h hr => exact .eref _ _ _ _ _ (hk (by simpa [closedN] using hc) h) hr
    | own _ i n l h hn hcp => exact .own _ _ _ _ (hk (by simpa [closedN] using hc) h) hn hcp
    | tsl _ t l full _ h => exact .tsl _ _ _ _ _ (h.slice_m _)
    | ownT0 _ aa i h => exact .ownT0 _ _ _ (hk (by simpa [closedN] using hc) h)
    | ownT _ i l h hcp => exact .ownT _ _ _ (hk (by simpa [closedN] using hc) h) hcp
    | own0 _ aa i h => exact .own0 _ _ _ (hk (by simpa [closedN] using hc) h)
    | tail _ aa i lo n cp hn h => exact .tail _ _ _ _ _ _ hn fun h0 => let ⟨l, h1, h2⟩ := h h0; ⟨l, hk (by simpa [closedN] using hc) h1, h2⟩
    | agg _ vs cs hl h1 h =>
      simp only [closedN] at hc
      exact .agg _ _ _ hl h1 fun i hi => ih (h i hi) (closedNs_nth hc i hi)
    | tup _ vs cs hl h =>
      simp only [closedN] at hc
      exact .tup _ _ _ hl fun i hi => ih (h i hi) (closedNs_nth hc i hi)
    | fn _ ff fs cs as1 bs hl hl' h1 h1' h h' =>
      simp only [closedN] at hc
      split at hc
      · rename_i hc1
        exact .fn _ _ _ _ _ _ hl hl' h1 h1' (fun i hi => ih (h i hi) (closedNs_nth hc1 i hi)) (fun i hi => ih (h' i hi) (closedNs_nth hc i hi))
      · cases hc
    | undef => exact .undef _ _
    | int _ k n h => exact .int _ _ _ h
    | bool => exact .bool _ _
    | str _ s h => exact .str _ _ h
    | nilptr => exact .nilptr _
    | cptr _ b o n c f hs hc' h => exact .cptr _ _ _ _ _ _ hs hc' h
    | slice _ b o sz n cap full c f hs hn hcap hf hc' h => exact .slice _ _ _ _ _ _ _ _ _ hs hn hcap hf hc' h
    | slice0 _ a cap sz full c hcap hf => exact .slice0 _ _ _ _ _ _ hcap hf
    | nilsl => exact .nilsl _
    | emp => exact .emp _ _
    | nilfn => exact .nilfn _
    | nilmap => exact .nilmap _
    | niliface => exact .niliface _
    | nxtT _ vs cs hl h0 h => exact .nxtT _ _ _ hl h0 h
    | clo _ id fs cs as0 bs hl0 hl h0 h => exact .clo _ _ _ _ _ _ hl0 hl h0 h
    | nilB _ b n h => exact .nilB _ _ _ h
    | nxtF => exact .nxtF _ _

theorem closedL_nth {k : Nat} {l : List AV} (h : closedL k l = true) {i : Nat} (hi : i < lenA l) : closedN k 4 (nth l i) = true := by
  induction l generalizing i with
  | nil => simp [lenA] at hi
  | cons a l ih =>
    simp only [closedL] at h
    split at h
    · cases i with
      | zero => assumption
      | succ i => exact ih h (by simp [lenA] at hi; omega)
    · cases h

theorem closedM_blk {k : Nat} {M : Mem} (h : closedM k M = true) {i : Nat} {e : TypeId} {cs : List AV} (hb : blk M i = .cells e cs) : closedL k cs = true := by
  induction M generalizing i with
  | nil => cases hb
  | cons B M ih =>
    cases i with
    | zero =>
      simp only [blk] at hb; subst hb
      simp only [closedM] at h
      split at h
      · assumption
      · cases h
    | succ i =>
      refine ih ?_ hb
      cases B with
      | cells e' cs' =>
        simp only [closedM] at h
        split at h
        · exact h
        · cases h
      | _ => exact h

theorem BRel.take {k : Nat} {l : Option Loc} {B : ABlk} (h : BRel w S m l B) (hc : ∀ e cs, B = .cells e cs → closedL k cs = true) : BRel w S (m.take k) l B := by
  cases B with
  | cells e cs =>
    cases l with
    | none => exact h
    | some l => obtain ⟨vs, h1, h2, h3, h4⟩ := h; exact ⟨vs, h1, h2, h3, fun i hi => (h4 i hi).take 4 (closedL_nth (hc e cs rfl) hi)⟩
  | rows => cases l <;> exact h
  | trows => cases l <;> exact h
  | siter => cases l <;> exact h
  | dead => cases l <;> trivial

/-- The first blocks alone. -/
theorem MRel.take {k : Nat} {M : Mem} (h : MRel base w S m M) (hk : k ≤ lenM M) (hp : ∀ i l, base.pin i = some l → i < k) (hc : ∀ i e cs, blk (takeM k M) i = .cells e cs → closedL k cs = true) : MRel base w S (m.take k) (takeM k M) := by
  have hml : (m.take k).length = k := by rw [List.length_take, h.len]; omega
  have hs : ∀ {i : Nat} {l : Option Loc}, (m.take k)[i]? = some l → i < k ∧ m[i]? = some l := fun {i l} h' => by
    have hlt : i < k := by have := (List.getElem?_eq_some_iff.1 h').1; omega
    rw [List.getElem?_take_of_lt hlt] at h'; exact ⟨hlt, h'⟩
  refine ⟨hml.trans (lenM_take hk).symm, h.sb, fun i l hi => ?_, fun i l hi => h.lt i l (hs hi).2, fun i j l l' hi hj => h.inj i j l l' (hs hi).2 (hs hj).2, h.base_le, fun i l hi => ?_⟩
  · obtain ⟨hlt, hi⟩ := hs hi
    have hcc := hc i
    rw [blk_take hlt] at hcc ⊢
    exact (h.bk i l hi).take (fun e cs he => hcc e cs he)
  · obtain ⟨h1, h2⟩ := h.pin i l hi
    have hlt := hp i l hi
    rw [blk_take hlt, List.getElem?_take_of_lt hlt]
    exact ⟨h1, h2⟩

theorem AWp.sub {c : Code} {Q : Exit → AS → Prop} {A B : AS} (hs : Sub A B) (h : AWp P c Q B) : AWp P c Q A := by
  refine ⟨fun base w S m a hM hA => ?_⟩
  have hp : ∀ i l, base.pin i = some l → i < B.np := fun i l hi => hs.np ▸ hM.pins i l hi
  have hA' := hA.sub hs.ts.le
  rcases hs.cl with hl | ⟨h1, h2, h3⟩
  · have hm := hs.m
    rw [← hl, takeM_all] at hm
    exact h.sem base w S m a ⟨hM.rel.sub hm, hp⟩ hA'
  · have h1 := Nat.le_of_ble_eq_true h1
    by_cases hle : lenM B.m ≤ lenM A.m
    · -- the blocks that are kept
      have hN : MRel base w S (m.take (lenM B.m)) B.m := by
        have hml : (m.take (lenM B.m)).length = lenM B.m := by rw [List.length_take, hM.rel.len]; omega
        have hs' : ∀ {i : Nat} {l : Option Loc}, (m.take (lenM B.m))[i]? = some l → i < lenM B.m ∧ m[i]? = some l := fun {i l} h' => by
          have hlt : i < lenM B.m := by have := (List.getElem?_eq_some_iff.1 h').1; omega
          rw [List.getElem?_take_of_lt hlt] at h'; exact ⟨hlt, h'⟩
        refine ⟨hml, hM.rel.sb, fun i l hi => ?_, fun i l hi => hM.rel.lt i l (hs' hi).2, fun i j l l' hi hj => hM.rel.inj i j l l' (hs' hi).2 (hs' hj).2, hM.rel.base_le, fun i l hi => ?_⟩
        · obtain ⟨hlt, hi⟩ := hs' hi
          have hb := hs.m.blk i
          rw [blk_take hlt] at hb
          exact ((hM.rel.bk i l hi).sub hb).take (fun e cs he => closedM_blk h3 he)
        · obtain ⟨q1, q2⟩ := hM.rel.pin i l hi
          have hlt : i < lenM B.m := Nat.lt_of_lt_of_le (hp i l hi) h1
          have hb := hs.m.blk i
          rw [blk_take hlt] at hb
          rw [List.getElem?_take_of_lt hlt]
          exact ⟨q1, hb.cells q2⟩
      refine h.sem base w S _ a ⟨hN, hp⟩ ⟨hA'.1, hA'.2.1, fun t => ?_⟩
      by_cases ht : t < lenA B.ts
      · exact (hA'.2.2 t).take 4 (closedL_nth h2 ht)
      · rw [nth_out _ _ (by omega)]; exact .undef _ _
    · have := hs.m.len
      have e : lenM (takeM (lenM B.m) A.m) = lenM A.m := by
        rw [takeM_eq, List.take_of_length_le (by rw [← lenM_eq]; omega)]
      omega

/-- What of a state is relied on: slot by slot, and the memory as it is. -/
theorem AWp.loopSub {c : Code} {Q : Exit → AS → Prop} {A : AS} (I : Nat → AS → Prop) (n : Nat) (h₀ : ∃ B, Sub A B ∧ I n B) (round : ∀ n A, I n A → AWp P c (thenQ (fun A' => ∃ n', n' < n ∧ ∃ B, Sub A' B ∧ I n' B) Q) A) : AWp P (.loop c) Q A :=
  AWp.loop (fun n A => ∃ B, Sub A B ∧ I n B) n h₀ fun n _ ⟨B, hs, hB⟩ => AWp.sub hs (round n B hB)

/-- What is to be shown of a loop's round. -/
def NextQ {ι : Type} (B : ι → AS) (C : ι → Prop) (μ : ι → Nat) (i : ι) (Q : Exit → AS → Prop) : Exit → AS → Prop :=
  thenQ (fun A' => ∃ j, μ j < μ i ∧ C j ∧ Sub A' (B j)) Q

/-- A loop, by a family of states. -/
theorem AWp.loopG {c : Code} {Q : Exit → AS → Prop} {A : AS} {ι : Type} (B : ι → AS) (C : ι → Prop) (μ : ι → Nat) (i₀ : ι) (hc : C i₀) (h0 : Sub A (B i₀))
    (round : ∀ i, C i → ∀ N, N = NextQ B C μ i Q → AWp P c N (B i)) : AWp P (.loop c) Q A := by
  refine AWp.loopSub (fun n A => ∃ i, n = μ i ∧ C i ∧ A = B i) (μ i₀) ⟨_, h0, i₀, rfl, hc, rfl⟩ ?_
  rintro n A ⟨i, rfl, hi, rfl⟩
  refine (round i hi _ rfl).mono ?_
  intro e A' h
  cases e with
  | normal =>
    obtain ⟨j, h1, h2, h3⟩ := h
    exact ⟨μ j, h1, B j, h3, j, rfl, h2, rfl⟩
  | _ => exact h

theorem NextQ.normal {ι : Type} {B : ι → AS} {C : ι → Prop} {μ : ι → Nat} {i : ι} {Q : Exit → AS → Prop} {A' : AS} (j : ι) (h1 : μ j < μ i) (h2 : C j) (h3 : Sub A' (B j)) : NextQ B C μ i Q .normal A' := ⟨j, h1, h2, h3⟩

/-- A loop, so many rounds of it. -/
def Unr (P : Program) (c : Code) (Q : Exit → AS → Prop) : Nat → AS → Prop
  | 0, _ => False
  | n + 1, A => AWp P c (thenQ (Unr P c Q n) Q) A

theorem AWp.unroll {c : Code} {Q : Exit → AS → Prop} {A : AS} (n : Nat) (h : Unr P c Q n A) : AWp P (.loop c) Q A := by
  refine AWp.loop (Unr P c Q) n h ?_
  intro n A h
  cases n with
  | zero => exact h.elim
  | succ n =>
    refine h.mono ?_
    intro e A' h'
    cases e with
    | normal => exact ⟨n, Nat.lt_succ_self n, h'⟩
    | _ => exact h'

theorem Unr.step {c : Code} {Q : Exit → AS → Prop} {A : AS} {n : Nat} (h : ∀ N, N = thenQ (Unr P c Q n) Q → AWp P c N A) : Unr P c Q (n + 1) A := h _ rfl

/-- An answer, by an equation. -/
theorem post_ret {rs : List ResultVar} {A : AS} {v : AV} (hk : allT (retKs T A rs) = true) (h : retV T A rs = v) : PostOf T rs (.val v) .ret A := ⟨AllT.of hk, h ▸ Le.refl _⟩
theorem post_end {rs : List ResultVar} {A : AS} {v : AV} (hk : allT (retKs T A rs) = true) (h : retV T A rs = v) : PostOf T rs (.val v) .normal A := ⟨AllT.of hk, h ▸ Le.refl _⟩

theorem ACalls.ofK {f : FuncId} {fn : Func} {c : Code} (hf : P.funcs[f]? = some fn) (hb : fn.body = some c) (hn : namesOk P = true) (hm : P.follows .mixedOrders = true) (hT : TabOk P T) {call : Oracle} (hcall : Sound P call) {args : List AV} {r : CR}
    (h : ∀ (p : Prims) (L : Leaf) (K : Exit → AS → Prop), p = std → L = leafOf P → K = PostOf T fn.results.toList r → ArgsOk args → wpT L p T call c K ⟨catA args (und (fn.ntmps - lenA args)), [], 0⟩) : ACalls P f args r :=
  ACalls.ofT hf hb hn hm hT hcall fun p L hp hL ha => h p L _ hp hL rfl ha

end Go.Eng
