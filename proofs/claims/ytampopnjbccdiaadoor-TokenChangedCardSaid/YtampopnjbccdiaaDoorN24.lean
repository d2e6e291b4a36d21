/- Laws in plain Lean: num. -/
import Derived.Test.YtampopnjbccdiaaDoorL24
import Derived.Test.YtampopnjbccdiaaDoorK05
import Derived.Test.YtampopnjbccdiaaDoorTrL
namespace Go.Eng
open Go Go.Proofs Go.RowKit

/-! The reference's digits and numbers: the runs of Dec and Num. -/
theorem w64_id {n : Int} (h : N64 n) : w64 n = n := by
  obtain ⟨h0, h1⟩ := h
  show IntKind.i64.wrap n = n
  rw [IntKind.wrap_i64]; omega
theorem w64_in (n : Int) : N64 (w64 n) := by
  show N64 (IntKind.i64.wrap n)
  rw [IntKind.wrap_i64]
  constructor <;> omega
theorem dig_sub : ∀ d : Nat, d < 10 → subS ([48, 49, 50, 51, 52, 53, 54, 55, 56, 57] : Str) d (d + 1) = [UInt8.ofNat (48 + d)]
  | 0, _ => rfl | 1, _ => rfl | 2, _ => rfl | 3, _ => rfl | 4, _ => rfl | 5, _ => rfl | 6, _ => rfl | 7, _ => rfl | 8, _ => rfl | 9, _ => rfl
  | d + 10, h => absurd h (by omega)
theorem tmod_nat (m : Nat) : (m : Int).tmod 10 = ((m % 10 : Nat) : Int) := by
  rw [Int.tmod_eq_emod_of_nonneg (by omega)]; omega
theorem tdiv_nat (m : Nat) : (m : Int).tdiv 10 = ((m / 10 : Nat) : Int) := by
  rw [Int.tdiv_eq_ediv_of_nonneg (by omega)]; omega
def digB (c : UInt8) : Bool := !(decide ((c.toNat : Int) < 48) || decide ((57 : Int) < (c.toNat : Int)))
def accI (n : Int) (c : UInt8) : Int := w64 (w64 (n * 10) - w64 (IntKind.wrap .u8 ((c.toNat : Int) - 48)))
theorem dec_digs (u : Nat) : (Lib.decDigits u).all digB = true := by
  have one : ∀ d, d < 10 → digB (UInt8.ofNat (48 + d)) = true := fun d hd => by
    unfold digB
    rw [dig_toNat d hd]
    simp only [Bool.not_eq_true', Bool.or_eq_false_iff, decide_eq_false_iff_not]
    omega
  induction u using Nat.strongRecOn with
  | ind u ih =>
    by_cases hu : u < 10
    · rw [decDigits_small hu, List.all_cons, one u hu]; rfl
    · rw [decDigits_big hu, List.all_append, ih _ (by omega), List.all_cons, one _ (by omega)]; rfl
theorem acc_dec (u : Nat) (hu : u ≤ 9223372036854775808) : (Lib.decDigits u).foldl accI 0 = -(u : Int) := by
  have one : ∀ (a d : Nat), d < 10 → a * 10 + d ≤ 9223372036854775808 → accI (-(a : Int)) (UInt8.ofNat (48 + d)) = -((a * 10 + d : Nat) : Int) := fun a d hd h => by
    unfold accI
    rw [dig_toNat d hd]
    have e1 : ((48 + d : Nat) : Int) - 48 = (d : Int) := by omega
    have e2 : IntKind.wrap .u8 (d : Int) = (d : Int) := by rw [IntKind.wrap_u8]; omega
    rw [e1, e2, w64_id (n := (d : Int)) ⟨by omega, by omega⟩, w64_id (n := -(a : Int) * 10) ⟨by omega, by omega⟩, w64_id ⟨by omega, by omega⟩]
    omega
  induction u using Nat.strongRecOn with
  | ind u ih =>
    by_cases hs : u < 10
    · rw [decDigits_small hs]
      have := one 0 u hs (by omega)
      simpa using this
    · rw [decDigits_big hs, List.foldl_append, ih _ (by omega) (by omega)]
      show accI _ _ = _
      rw [one (u / 10) (u % 10) (by omega) (by omega)]
      omega
theorem numS_none {s : Str} (h : ∀ n, N64 n → decS n ≠ s) : numS s = (0, false) := by
  rcases numS_cases s with ⟨n, h1, h2, _⟩ | ⟨_, h2⟩
  · exact absurd h2 (h n h1)
  · exact h2
