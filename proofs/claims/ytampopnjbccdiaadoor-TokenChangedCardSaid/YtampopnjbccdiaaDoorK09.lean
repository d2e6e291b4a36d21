/- Registers: whether one may be, which of two is newer, what they come to, the next one: the program's functions and the reference's come to the same plain ones. -/
import Derived.Test.YtampopnjbccdiaaDoorM24
import Derived.Test.YtampopnjbccdiaaDoorK05
namespace Go.Eng
open Go Go.Proofs

theorem ltS_irrefl' (s : Str) : ltS s s = false := less_irrefl s
/-! May a register be? -/
def regB (r : Reg) : Bool := decide ((1 : Int) ≤ r.1) && decide (r.1 ≤ 9007199254740992) && ((r.2.1 == ([] : Str)) || nameS r.2.1) && decide (r.2.2.length ≤ 256)
theorem dneg_lt (a b : Int) : decide (a < b) = !decide (b ≤ a) := by rw [← decide_not]; congr 1; rw [eq_iff_iff]; omega
/-! Which is newer? -/
def cmpI (x y : Int) : Int := if x < y then -1 else if y < x then 1 else 0
def orL : List Int → Int
  | [] => 0
  | x :: l => if x = 0 then orL l else x
def newR (a b : Reg) : Bool := bif !decide (a.1 = b.1) then decide (b.1 < a.1) else bif !(a.2.1 == b.2.1) then !(ltS a.2.1 b.2.1 || a.2.1 == b.2.1) else !(ltS a.2.2 b.2.2 || a.2.2 == b.2.2)
theorem newR_iff (a b : Reg) : newR a b = true ↔ b.1 < a.1 ∨ (a.1 = b.1 ∧ (ltS b.2.1 a.2.1 = true ∨ (a.2.1 = b.2.1 ∧ ltS b.2.2 a.2.2 = true))) := by
  have key : ∀ s t : Str, (!(ltS s t || s == t)) = ltS t s := by
    intro s t
    show (!(Op.bytesLess s t || s == t)) = Op.bytesLess t s
    cases h : Op.bytesLess s t with
    | true => rw [less_asymm h]; rfl
    | false =>
      cases k : Op.bytesLess t s with
      | true => have : s ≠ t := fun e => by rw [e, less_irrefl] at k; cases k
                simp [this]
      | false => have := less_total h k; simp [this]
  unfold newR
  by_cases ht : a.1 = b.1
  · by_cases hn : a.2.1 = b.2.1
    · simp only [ht, hn, decide_true, Bool.not_true, cond_false, beq_self_eq_true, key, Int.lt_irrefl, false_or, true_and, ltS_irrefl', Bool.false_eq_true]
    · have hn' : (a.2.1 == b.2.1) = false := by simp [hn]
      simp only [ht, hn', hn, decide_true, Bool.not_true, cond_false, Bool.not_false, cond_true, Bool.or_false, Int.lt_irrefl, false_or, true_and, false_and, or_false]
      have := key a.2.1 b.2.1
      rw [hn', Bool.or_false] at this
      rw [this]
  · simp [ht]
theorem newR_irrefl (a : Reg) : newR a a = false := by
  cases h : newR a a with
  | false => rfl
  | true => rw [newR_iff] at h; simp [ltS_irrefl'] at h
theorem newR_asymm {a b : Reg} (h : newR a b = true) : newR b a = false := by
  cases k : newR b a with
  | false => rfl
  | true =>
    rw [newR_iff] at h k
    rcases h with h | ⟨h1, h⟩ <;> rcases k with k | ⟨k1, k⟩
    · omega
    · omega
    · omega
    · rcases h with h | ⟨h2, h⟩ <;> rcases k with k | ⟨k2, k⟩
      · rw [show ltS a.2.1 b.2.1 = false from less_asymm h] at k; cases k
      · rw [k2, ltS_irrefl'] at h; cases h
      · rw [h2, ltS_irrefl'] at k; cases k
      · rw [show ltS a.2.2 b.2.2 = false from less_asymm h] at k; cases k
theorem newR_total {a b : Reg} (h : newR a b = false) (k : newR b a = false) : a = b := by
  have h' : ¬ (newR a b = true) := by simp [h]
  have k' : ¬ (newR b a = true) := by simp [k]
  rw [newR_iff] at h' k'
  have ht : a.1 = b.1 := by
    have h1 : ¬ b.1 < a.1 := fun e => h' (.inl e)
    have h2 : ¬ a.1 < b.1 := fun e => k' (.inl e)
    omega
  have hn : a.2.1 = b.2.1 := less_total (by cases e : Op.bytesLess a.2.1 b.2.1 with | false => rfl | true => exact absurd (.inr ⟨ht.symm, .inl e⟩) k') (by cases e : Op.bytesLess b.2.1 a.2.1 with | false => rfl | true => exact absurd (.inr ⟨ht, .inl e⟩) h')
  have hv : a.2.2 = b.2.2 := less_total (by cases e : Op.bytesLess a.2.2 b.2.2 with | false => rfl | true => exact absurd (.inr ⟨ht.symm, .inr ⟨hn.symm, e⟩⟩) k') (by cases e : Op.bytesLess b.2.2 a.2.2 with | false => rfl | true => exact absurd (.inr ⟨ht, .inr ⟨hn, e⟩⟩) h')
  exact Prod.ext ht (Prod.ext hn hv)
theorem newR_trans {a b c : Reg} (h : newR a b = true) (k : newR b c = true) : newR a c = true := by
  rw [newR_iff] at h k ⊢
  rcases h with h | ⟨h1, h⟩ <;> rcases k with k | ⟨k1, k⟩
  · left; omega
  · left; omega
  · left; omega
  · right
    refine ⟨by omega, ?_⟩
    rcases h with h | ⟨h2, h⟩ <;> rcases k with k | ⟨k2, k⟩
    · exact .inl (less_trans k h)
    · exact .inl (by rw [← k2]; exact h)
    · exact .inl (by rw [h2]; exact k)
    · exact .inr ⟨h2.trans k2, less_trans k h⟩

/-! What two come to. -/
def joinR (a b : Reg) : Reg := bif newR b a then b else a
theorem joinR_idem (a : Reg) : joinR a a = a := by unfold joinR; cases newR a a <;> rfl
theorem joinR_comm (a b : Reg) : joinR a b = joinR b a := by
  unfold joinR
  cases h : newR b a with
  | true => rw [newR_asymm h]; rfl
  | false => cases k : newR a b with
    | true => rfl
    | false => exact newR_total k h
theorem joinR_assoc (a b c : Reg) : joinR (joinR a b) c = joinR a (joinR b c) := by
  unfold joinR
  cases h1 : newR b a <;> cases h2 : newR c b <;> simp only [cond_true, cond_false, h1, h2]
  · cases h3 : newR c a with
    | false => rfl
    | true =>
      exfalso
      -- c is newer than a; b is not newer than a, c is not newer than b
      cases k : newR a b with
      | true => rw [newR_trans h3 k] at h2; cases h2
      | false => have := newR_total k h1; subst this; rw [h3] at h2; cases h2
  · rw [newR_trans h2 h1]; rfl

/-! The next one. -/
def zeroR (r : Reg) : Bool := (decide (r.1 = 0)) && ((r.2.1 == []) && ((r.2.2 == []) && true))
def nextB (r : Reg) (by_ v : Str) : Reg × Int × Unit := bif ((!zeroR r && !regB r) || !nameS by_) || decide (256 < v.length) then ((0, ([], [])), 1, ()) else bif decide ((9007199254740992 : Int) ≤ r.1) then ((0, ([], [])), 4, ()) else (((w64 (r.1 + 1)), (by_, v)), 0, ())
