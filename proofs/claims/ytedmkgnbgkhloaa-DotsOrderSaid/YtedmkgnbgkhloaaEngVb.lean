/- A call that is handed some blocks of a larger memory. -/
import Derived.Test.YtedmkgnbgkhloaaEngVa
namespace Go.Eng
open Go Go.RowKit

variable {P : Program} {T : Tab} {base : Env} {w : World} {S : Nat → Prop} {m : Locs} {M : Mem}

def nthN : List Nat → Nat → Option Nat
  | [], _ => none
  | a :: _, 0 => some a
  | _ :: l, n + 1 => nthN l n
theorem nthN_eq (l : List Nat) (i : Nat) : nthN l i = l[i]? := by
  induction l generalizing i with
  | nil => rfl
  | cons a l ih => cases i with
    | zero => rfl
    | succ i => simpa [nthN] using ih i

/-- Blocks by other numbers; d: what stands where nothing fits. -/
def renN (d : AV) (κ : List Nat) : Nat → AV → AV
  | _, .ref b o => match nthN κ b with | some b' => .ref b' o | none => d
  | _, .eref b i o => match nthN κ b with | some b' => .eref b' i o | none => d
  | _, .own b n => match nthN κ b with | some b' => .own b' n | none => d
  | _, .ownT b => match nthN κ b with | some b' => .ownT b' | none => d
  | _, .tail b lo n => match nthN κ b with | some b' => .tail b' lo n | none => d
  | 0, .agg _ => d
  | 0, .fn _ _ _ => d
  | 0, .tup _ => d
  | f + 1, .agg cs => .agg (mapA (renN d κ f) cs)
  | f + 1, .tup cs => .tup (mapA (renN d κ f) cs)
  | f + 1, .fn g a c => .fn g (mapA (renN d κ f) a) (mapA (renN d κ f) c)
  | _, v => v

def badV : AV := .int .u8 (-1)
theorem not_badV {v : Value} (h : Rel w S m v badV) : False := by
  unfold badV at h
  cases h with
  | int _ _ _ h => exact absurd h (by decide)

def selL (m : Locs) : List Nat → Locs
  | [] => []
  | j :: κ => (m[j]?).join :: selL m κ
theorem selL_get {m : Locs} {κ : List Nat} {i j : Nat} (h : nthN κ i = some j) : (selL m κ)[i]? = some ((m[j]?).join) := by
  induction κ generalizing i with
  | nil => simp [nthN] at h
  | cons a κ ih => cases i with
    | zero => simp [nthN] at h; subst h; rfl
    | succ i => simpa [selL] using ih (by simpa [nthN] using h)
theorem selL_len (m : Locs) (κ : List Nat) : (selL m κ).length = κ.length := by induction κ with | nil => rfl | cons a κ ih => simp [selL, ih]
theorem selL_inv {m : Locs} {κ : List Nat} {i : Nat} {l : Loc} (h : (selL m κ)[i]? = some (some l)) : ∃ j, nthN κ i = some j ∧ m[j]? = some (some l) := by
  have hlt : i < κ.length := by rw [← selL_len m κ]; exact (List.getElem?_eq_some_iff.1 h).1
  have e : nthN κ i = some κ[i] := by rw [nthN_eq]; exact List.getElem?_eq_getElem hlt
  refine ⟨_, e, ?_⟩
  rw [selL_get e] at h
  injection h with h
  simpa [Option.join_eq_some_iff] using h

/-- From the larger memory to the smaller one. -/
theorem Rel.down {κ : List Nat} : ∀ (f : Nat) {v : Value} {a : AV}, Rel w S m v (renN badV κ f a) → Rel w S (selL m κ) v a := by
  have key : ∀ {b : Nat} {l : Option Loc} {j : Nat}, nthN κ b = some j → m[j]? = some l → (selL m κ)[b]? = some l := fun h h' => by rw [selL_get h, h']; rfl
  have flat : ∀ (f : Nat) {v : Value} {a : AV}, (∀ cs, a ≠ .agg cs) → (∀ cs, a ≠ .tup cs) → (∀ g x y, a ≠ .fn g x y) → Rel w S m v (renN badV κ f a) → Rel w S (selL m κ) v a := by
    intro f v a h1 h2 h3 h
    cases a with
    | ref b o =>
      have h : Rel w S m v (match nthN κ b with | some b' => .ref b' o | none => badV) := by cases f <;> exact h
      cases hb : nthN κ b with
      | none => rw [hb] at h; exact (not_badV h).elim
      | some j => rw [hb] at h; cases h with | ref _ _ _ l hq => exact .ref _ _ _ _ (key hb hq)
    | eref b i o =>
      have h : Rel w S m v (match nthN κ b with | some b' => .eref b' i o | none => badV) := by cases f <;> exact h
      cases hb : nthN κ b with
      | none => rw [hb] at h; exact (not_badV h).elim
      | some j => rw [hb] at h; cases h with | eref _ _ _ _ l hq hr => exact .eref _ _ _ _ _ (key hb hq) hr
    | own b n =>
      have h : Rel w S m v (match nthN κ b with | some b' => .own b' n | none => badV) := by cases f <;> exact h
      cases hb : nthN κ b with
      | none => rw [hb] at h; exact (not_badV h).elim
      | some j => rw [hb] at h; cases h with
        | own _ _ _ l hq hn hc => exact .own _ _ _ _ (key hb hq) hn hc
        | own0 _ aa _ hq => exact .own0 _ _ _ (key hb hq)
    | ownT b =>
      have h : Rel w S m v (match nthN κ b with | some b' => .ownT b' | none => badV) := by cases f <;> exact h
      cases hb : nthN κ b with
      | none => rw [hb] at h; exact (not_badV h).elim
      | some j => rw [hb] at h; cases h with
        | ownT _ _ l hq hc => exact .ownT _ _ _ (key hb hq) hc
        | ownT0 _ aa _ hq => exact .ownT0 _ _ _ (key hb hq)
    | tsl t l g => have h : Rel w S m v (.tsl t l g) := by cases f <;> exact h
                   exact h.out rfl _
    | tail b lo n =>
      have h : Rel w S m v (match nthN κ b with | some b' => .tail b' lo n | none => badV) := by cases f <;> exact h
      cases hb : nthN κ b with
      | none => rw [hb] at h; exact (not_badV h).elim
      | some j => rw [hb] at h; cases h with
        | tail _ aa _ _ _ cp hn h => exact .tail _ _ _ _ _ _ hn fun h0 => let ⟨l, q1, q2⟩ := h h0; ⟨l, key hb q1, q2⟩
    | agg cs => exact absurd rfl (h1 cs)
    | tup cs => exact absurd rfl (h2 cs)
    | fn g x y => exact absurd rfl (h3 g x y)
    | undef => exact .undef _ _
    | int k n => have h : Rel w S m v (.int k n) := by cases f <;> exact h
                 cases h; exact .int _ _ _ (by assumption)
    | bool b => have h : Rel w S m v (.bool b) := by cases f <;> exact h
                cases h; exact .bool _ _
    | str s => have h : Rel w S m v (.str s) := by cases f <;> exact h
               exact h.out rfl _
    | nilptr => have h : Rel w S m v .nilptr := by cases f <;> exact h
                exact h.out rfl _
    | cptr n c => have h : Rel w S m v (.cptr n c) := by cases f <;> exact h
                  exact h.out rfl _
    | slice sz n fl c => have h : Rel w S m v (.slice sz n fl c) := by cases f <;> exact h
                         exact h.out rfl _
    | nilsl => have h : Rel w S m v .nilsl := by cases f <;> exact h
               exact h.out rfl _
    | emp => have h : Rel w S m v .emp := by cases f <;> exact h
             exact h.out rfl _
    | nilfn => have h : Rel w S m v .nilfn := by cases f <;> exact h
               exact h.out rfl _
    | nilmap => have h : Rel w S m v .nilmap := by cases f <;> exact h
                exact h.out rfl _
    | niliface => have h : Rel w S m v .niliface := by cases f <;> exact h
                  exact h.out rfl _
    | nxt b vs => have h : Rel w S m v (.nxt b vs) := by cases f <;> exact h
                  cases h with
                  | nxtT _ us _ hl h0 h => exact .nxtT _ _ _ hl h0 h
                  | nxtF => exact .nxtF _ _
    | clo id fst cap =>
      have h : Rel w S m v (.clo id fst cap) := by cases f <;> exact h
      exact h.out rfl _
    | nilB n => have h : Rel w S m v (.nilB n) := by cases f <;> exact h
                cases h with | nilB _ b _ h => exact .nilB _ _ _ h
  intro f
  induction f with
  | zero =>
    intro v a h
    cases a with
    | agg cs => exact (not_badV h).elim
    | tup cs => exact (not_badV h).elim
    | fn g x y => exact (not_badV h).elim
    | _ => exact flat 0 (fun _ => by simp) (fun _ => by simp) (fun _ _ _ => by simp) h
  | succ f ih =>
    intro v a h
    cases a with
    | agg cs =>
      have h : Rel w S m v (.agg (mapA (renN badV κ f) cs)) := h
      cases h with
      | agg _ vs _ hl h1 h =>
        rw [lenA_mapA] at hl h1 h
        exact .agg _ _ _ hl h1 fun i hi => ih (by have := h i hi; rwa [nth_mapA _ _ _ hi] at this)
    | tup cs =>
      have h : Rel w S m v (.tup (mapA (renN badV κ f) cs)) := h
      cases h with
      | tup _ vs _ hl h =>
        rw [lenA_mapA] at hl h
        exact .tup _ _ _ hl fun i hi => ih (by have := h i hi; rwa [nth_mapA _ _ _ hi] at this)
    | fn g x y =>
      have h : Rel w S m v (.fn g (mapA (renN badV κ f) x) (mapA (renN badV κ f) y)) := h
      cases h with
      | fn _ _ fs cs _ _ hl hl' h1 h1' h h' =>
        rw [lenA_mapA] at hl hl' h1 h1' h h'
        exact .fn _ _ _ _ _ _ hl hl' h1 h1' (fun i hi => ih (by have := h i hi; rwa [nth_mapA _ _ _ hi] at this)) (fun i hi => ih (by have := h' i hi; rwa [nth_mapA _ _ _ hi] at this))
    | _ => exact flat (f + 1) (fun _ => by simp) (fun _ => by simp) (fun _ _ _ => by simp) h

/-- From the smaller memory to the larger one. -/
theorem Rel.up {κ : List Nat} {m0 : Locs} (hk : ∀ i l, m0[i]? = some l → ∃ j, nthN κ i = some j ∧ m[j]? = some l) : ∀ (f : Nat) {v : Value} {a : AV}, Rel w S m0 v a → Rel w S m v (renN .undef κ f a) := by
  have flat : ∀ (f : Nat) {v : Value} {a : AV}, (∀ cs, a ≠ .agg cs) → (∀ cs, a ≠ .tup cs) → (∀ g x y, a ≠ .fn g x y) → Rel w S m0 v a → Rel w S m v (renN .undef κ f a) := by
    intro f v a h1 h2 h3 h
    cases h with
    | ref _ b o l h =>
      obtain ⟨j, q1, q2⟩ := hk _ _ h
      have e : renN .undef κ f (.ref b o) = .ref j o := by cases f <;> simp [renN, q1]
      rw [e]; exact .ref _ _ _ _ q2
    | eref _ b i o l h hr =>
      obtain ⟨j, q1, q2⟩ := hk _ _ h
      have e : renN .undef κ f (.eref b i o) = .eref j i o := by cases f <;> simp [renN, q1]
      rw [e]; exact .eref _ _ _ _ _ q2 hr
    | own _ b n l h hn hc =>
      obtain ⟨j, q1, q2⟩ := hk _ _ h
      have e : renN .undef κ f (.own b n) = .own j n := by cases f <;> simp [renN, q1]
      rw [e]; exact .own _ _ _ _ q2 hn hc
    | own0 _ aa b h =>
      obtain ⟨j, q1, q2⟩ := hk _ _ h
      have e : renN .undef κ f (.own b 0) = .own j 0 := by cases f <;> simp [renN, q1]
      rw [e]; exact .own0 _ _ _ q2
    | ownT _ b l h hc =>
      obtain ⟨j, q1, q2⟩ := hk _ _ h
      have e : renN .undef κ f (.ownT b) = .ownT j := by cases f <;> simp [renN, q1]
      rw [e]; exact .ownT _ _ _ q2 hc
    | ownT0 _ aa b h =>
      obtain ⟨j, q1, q2⟩ := hk _ _ h
      have e : renN .undef κ f (.ownT b) = .ownT j := by cases f <;> simp [renN, q1]
      rw [e]; exact .ownT0 _ _ _ q2
    | tsl _ t l g _ h => exact (by cases f <;> exact .tsl _ _ _ _ _ (h.slice_m _))
    | tail _ aa b lo n cp hn h =>
      by_cases hn0 : 0 < n
      · obtain ⟨l, p1, p2⟩ := h hn0
        obtain ⟨j, q1, q2⟩ := hk _ _ p1
        have e : renN .undef κ f (.tail b lo n) = .tail j lo n := by cases f <;> simp [renN, q1]
        rw [e]; exact .tail _ _ _ _ _ _ hn fun _ => ⟨l, q2, p2⟩
      · cases hb : nthN κ b with
        | none =>
          have e : renN .undef κ f (.tail b lo n) = .undef := by cases f <;> simp [renN, hb]
          rw [e]; exact .undef _ _
        | some j =>
          have e : renN .undef κ f (.tail b lo n) = .tail j lo n := by cases f <;> simp [renN, hb]
          rw [e]; exact .tail _ _ _ _ _ _ hn fun h => absurd h hn0
    | agg => exact absurd rfl (h1 _)
    | tup => exact absurd rfl (h2 _)
    | fn => exact absurd rfl (h3 _ _ _)
    | undef => exact (by cases f <;> exact .undef _ _)
    | int _ k n h => exact (by cases f <;> exact .int _ _ _ h)
    | bool => exact (by cases f <;> exact .bool _ _)
    | str _ s h => exact (by cases f <;> exact .str _ _ h)
    | nilptr => exact (by cases f <;> exact .nilptr _)
    | cptr _ b o n c g hs hc h => exact (by cases f <;> exact .cptr _ _ _ _ _ _ hs hc h)
    | slice _ b o sz n cap full c g hs hn hcap hf hc h => exact (by cases f <;> exact .slice _ _ _ _ _ _ _ _ _ hs hn hcap hf hc h)
    | slice0 _ a cap sz full c hcap hf => exact (by cases f <;> exact .slice0 _ _ _ _ _ _ hcap hf)
    | nilsl => exact (by cases f <;> exact .nilsl _)
    | emp => exact (by cases f <;> exact .emp _ _)
    | nilfn => exact (by cases f <;> exact .nilfn _)
    | nilmap => exact (by cases f <;> exact .nilmap _)
    | niliface => exact (by cases f <;> exact .niliface _)
    | nxtT _ vs cs hl h0 h => exact (by cases f <;> exact .nxtT _ _ _ hl h0 h)
    | clo _ id fs cs as0 bs hl0 hl h0 h => exact (by cases f <;> exact .clo _ _ _ _ _ _ hl0 hl h0 h)
    | nilB _ b n h => exact (by cases f <;> exact .nilB _ _ _ h)
    | nxtF => exact (by cases f <;> exact .nxtF _ _)
  intro f
  induction f with
  | zero =>
    intro v a h
    cases a with
    | agg cs => exact .undef _ _
    | tup cs => exact .undef _ _
    | fn g x y => exact .undef _ _
    | _ => exact flat 0 (fun _ => by simp) (fun _ => by simp) (fun _ _ _ => by simp) h
  | succ f ih =>
    intro v a h
    cases a with
    | agg cs =>
      cases h with
      | agg _ vs _ hl h1 h =>
        exact .agg _ _ _ (by rw [lenA_mapA]; exact hl) (fun i hi => h1 i (by rwa [lenA_mapA] at hi)) fun i hi => by rw [lenA_mapA] at hi; rw [nth_mapA _ _ _ hi]; exact ih (h i hi)
    | tup cs =>
      cases h with
      | tup _ vs _ hl h =>
        exact .tup _ _ _ (by rw [lenA_mapA]; exact hl) fun i hi => by rw [lenA_mapA] at hi; rw [nth_mapA _ _ _ hi]; exact ih (h i hi)
    | fn g x y =>
      cases h with
      | fn _ _ fs cs _ _ hl hl' h1 h1' h h' =>
        exact .fn _ _ _ _ _ _ (by rw [lenA_mapA]; exact hl) (by rw [lenA_mapA]; exact hl') (fun i hi => h1 i (by rwa [lenA_mapA] at hi)) (fun i hi => h1' i (by rwa [lenA_mapA] at hi))
          (fun i hi => by rw [lenA_mapA] at hi; rw [nth_mapA _ _ _ hi]; exact ih (h i hi)) (fun i hi => by rw [lenA_mapA] at hi; rw [nth_mapA _ _ _ hi]; exact ih (h' i hi))
    | _ => exact flat (f + 1) (fun _ => by simp) (fun _ => by simp) (fun _ _ _ => by simp) h

def renB (d : AV) (κ : List Nat) : ABlk → ABlk
  | .cells e cs => .cells e (mapA (renN d κ 3) cs)
  | B => B
theorem isCells_ren (d : AV) (κ : List Nat) (B : ABlk) : isCells (renB d κ B) = isCells B := by cases B <;> rfl

theorem BRel.down {κ : List Nat} {l : Option Loc} {B : ABlk} (h : BRel w S m l (renB badV κ B)) : BRel w S (selL m κ) l B := by
  cases B with
  | cells e cs =>
    cases l with
    | none => exact h
    | some l =>
      obtain ⟨vs, h1, h2, h3, h4⟩ := h
      rw [lenA_mapA] at h2 h3 h4
      exact ⟨vs, h1, h2, h3, fun i hi => by have := h4 i hi; rw [nth_mapA _ _ _ hi] at this; exact this.down 3⟩
  | rows => cases l <;> exact h
  | trows => cases l <;> exact h
  | siter => cases l <;> exact h
  | dead => cases l <;> trivial

theorem BRel.up {κ : List Nat} {m0 : Locs} (hk : ∀ i l, m0[i]? = some l → ∃ j, nthN κ i = some j ∧ m[j]? = some l) {l : Option Loc} {B : ABlk} (h : BRel w S m0 l B) : BRel w S m l (renB .undef κ B) := by
  cases B with
  | cells e cs =>
    cases l with
    | none => exact h
    | some l =>
      obtain ⟨vs, h1, h2, h3, h4⟩ := h
      exact ⟨vs, h1, by rw [lenA_mapA]; exact h2, fun i hi => h3 i (by rwa [lenA_mapA] at hi), fun i hi => by rw [lenA_mapA] at hi; rw [nth_mapA _ _ _ hi]; exact (h4 i hi).up hk 3⟩
  | rows => cases l <;> exact h
  | trows => cases l <;> exact h
  | siter => cases l <;> exact h
  | dead => cases l <;> trivial

end Go.Eng
