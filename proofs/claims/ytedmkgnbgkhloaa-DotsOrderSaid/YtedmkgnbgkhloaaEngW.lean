/- Arguments that are read as data, as abstract values. -/
import Derived.Test.YtedmkgnbgkhloaaEngV
import Derived.ProofKit
namespace Go.Eng
open Go Go.RowKit

variable {P : Program} {T : Tab} {w : World}

def fieldAt (T : Tab) : List (Nat × Nat) → Nat → Option (Nat × Nat)
  | [], _ => none
  | (t, o) :: fs, j => if j < o + (tyi T t).sz then some (t, o) else fieldAt T fs j

/-- The j-th cell of a value of a type, as it is read from the world. -/
def ab (w : World) (T : Tab) : Nat → Nat → Nat → Value → AV
  | 0, _, _, _ => .undef
  | f + 1, t, j, v => match (tyi T t).d with
    | .int _ => match v with
      | .int k n => .int k n
      | _ => .undef
    | .bool => match v with
      | .bool b => .bool b
      | _ => .undef
    | .str => match v with
      | .string s => .str s.data.toList
      | _ => .undef
    | .struct fs => match fieldAt T fs j with
      | some (e, o) => ab w T f e (j - o) v
      | none => .undef
    | .array _ e => ab w T f e (j % (tyi T e).sz) v
    | .slice e => match v with
      | .slice (some a) n _ => .slice (tyi T e).sz n false fun i k => ab w T f e k ((w.cell? (a.add (i * (tyi T e).sz + k))).getD Go.undef)
      | .slice none _ _ => .nilsl
      | _ => .undef
    | _ => .undef

def consec (T : Tab) : List (Nat × Nat) → Nat → Nat → Bool
  | [], o, n => Nat.beq o n
  | (t, o') :: fs, o, n => Nat.beq o o' && consec T fs (o + (tyi T t).sz) n

/-- A plain type, so deep. -/
def goodTy (T : Tab) : Nat → Nat → Bool
  | 0, _ => false
  | f + 1, t => match (tyi T t).d with
    | .int _ | .bool | .str => Nat.beq (tyi T t).sz 1
    | .struct fs => consec T fs 0 (tyi T t).sz && fs.all fun x => goodTy T f x.1 && Nat.ble 1 (tyi T x.1).sz
    | .array n e => Nat.beq (tyi T t).sz (n * (tyi T e).sz) && goodTy T f e && Nat.ble 1 (tyi T e).sz
    | .slice e => Nat.beq (tyi T t).sz 1 && goodTy T f e && Nat.ble 1 (tyi T e).sz
    | _ => false

/-- Cells from o on are of a type. -/
def Shape (T : Tab) : Nat → Nat → (Nat → AV) → Nat → Prop
  | 0, _, _, _ => False
  | f + 1, t, c, o => match (tyi T t).d with
    | .int k => ∃ n, c o = .int k n ∧ (Lit.int k n).wf = true
    | .bool => ∃ b, c o = .bool b
    | .str => ∃ s, c o = .str s ∧ s.length ≤ maxLen
    | .struct fs => ∀ x ∈ fs, Shape T f x.1 c (o + x.2)
    | .array n e => ∀ i, i < n → Shape T f e c (o + i * (tyi T e).sz)
    | .slice e => c o = .nilsl ∨ ∃ n d, n ≤ maxLen ∧ c o = .slice (tyi T e).sz n false d ∧ ∀ i, i < n → Shape T f e (d i) 0
    | _ => False

theorem consec_le : ∀ (fs : List (Nat × Nat)) (o n : Nat), consec T fs o n = true → o ≤ n := by
  intro fs
  induction fs with
  | nil => intro o n h; exact Nat.le_of_eq (Nat.eq_of_beq_eq_true h)
  | cons x fs ih =>
    obtain ⟨t, o'⟩ := x
    intro o n h
    simp only [consec, Bool.and_eq_true] at h
    have := ih _ _ h.2
    omega

theorem consec_mem : ∀ (fs : List (Nat × Nat)) (o n : Nat), consec T fs o n = true → ∀ x ∈ fs, o ≤ x.2 ∧ x.2 + (tyi T x.1).sz ≤ n ∧ ∀ j, j < (tyi T x.1).sz → fieldAt T fs (x.2 + j) = some x := by
  intro fs
  induction fs with
  | nil => intro o n _ x hx; cases hx
  | cons y fs ih =>
    obtain ⟨t, o'⟩ := y
    intro o n h x hx
    simp only [consec, Bool.and_eq_true] at h
    have e := Nat.eq_of_beq_eq_true h.1
    subst e
    rcases List.mem_cons.1 hx with rfl | hx
    · refine ⟨Nat.le_refl _, consec_le _ _ _ h.2, fun j hj => ?_⟩
      simp only [fieldAt] at hj ⊢
      rw [if_pos (by omega)]
    · obtain ⟨h1, h2, h3⟩ := ih _ _ h.2 x hx
      refine ⟨by omega, h2, fun j hj => ?_⟩
      simp only [fieldAt]
      rw [if_neg (by omega)]
      exact h3 j hj

theorem Shape.congr : ∀ (F t : Nat) (c d : Nat → AV) (o o' : Nat), goodTy T F t = true → (∀ j, j < (tyi T t).sz → c (o + j) = d (o' + j)) → Shape T F t c o → Shape T F t d o' := by
  intro F
  induction F with
  | zero => intro t c d o o' h; simp [goodTy] at h
  | succ F ih =>
    intro t c d o o' hg hc hs
    simp only [goodTy, Shape] at hg hs ⊢
    split at hg
    · rename_i k hd
      have h0 := hc 0 (by rw [Nat.eq_of_beq_eq_true hg]; omega)
      simp only [hd] at hs ⊢
      rwa [show o' = o' + 0 from rfl, ← h0]
    · rename_i hd
      have h0 := hc 0 (by rw [Nat.eq_of_beq_eq_true hg]; omega)
      simp only [hd] at hs ⊢
      rwa [show o' = o' + 0 from rfl, ← h0]
    · rename_i hd
      have h0 := hc 0 (by rw [Nat.eq_of_beq_eq_true hg]; omega)
      simp only [hd] at hs ⊢
      rwa [show o' = o' + 0 from rfl, ← h0]
    · rename_i fs hd
      simp only [Bool.and_eq_true, List.all_eq_true] at hg
      simp only [hd] at hs ⊢
      intro x hx
      obtain ⟨_, h2, _⟩ := consec_mem fs _ _ hg.1 x hx
      refine ih x.1 c d _ _ (hg.2 x hx).1 (fun j hj => ?_) (hs x hx)
      rw [Nat.add_assoc, Nat.add_assoc]
      exact hc (x.2 + j) (by omega)
    · rename_i n e hd
      simp only [Bool.and_eq_true] at hg
      simp only [hd] at hs ⊢
      have hsz := Nat.eq_of_beq_eq_true hg.1.1
      intro i hi
      refine ih e c d _ _ hg.1.2 (fun j hj => ?_) (hs i hi)
      rw [Nat.add_assoc, Nat.add_assoc]
      exact hc (i * (tyi T e).sz + j) (by
        rw [hsz]
        have := eref_lt (sz := (tyi T e).sz) (off := j) (k := 1) hi hj
        omega)
    · rename_i e hd
      simp only [Bool.and_eq_true] at hg
      have h0 := hc 0 (by rw [Nat.eq_of_beq_eq_true hg.1.1]; omega)
      simp only [hd] at hs ⊢
      rwa [show o' = o' + 0 from rfl, ← h0]
    · simp at hg

end Go.Eng
