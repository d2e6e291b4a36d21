/- The plain law of chapter 09: the program's order of registers is the reference's. -/
import Derived.Test.YtpbpmbfgcgjgdaaRegD
import Derived.Test.YtpbpmbfgcgjgdaaRegE
namespace Go.Eng
open Go Go.Proofs Go.RowKit
set_option maxHeartbeats 4000000

theorem compare_bytes (a b : List UInt8) : Lib.compareBytes a b = if a = b then 0 else if Op.bytesLess a b then -1 else 1 := by
  induction a generalizing b with
  | nil => cases b <;> simp [Lib.compareBytes, Op.bytesLess]
  | cons x a ih =>
    cases b with
    | nil => simp [Lib.compareBytes, Op.bytesLess]
    | cons y b =>
      simp only [Lib.compareBytes, Op.bytesLess, ih]
      by_cases h1 : x < y
      · have hne : x ≠ y := fun e => by subst e; exact absurd h1 (UInt8.lt_irrefl x)
        simp [h1, hne]
      · by_cases h2 : y < x
        · have hne : x ≠ y := fun e => by subst e; exact absurd h2 (UInt8.lt_irrefl x)
          simp [h1, h2, hne]
        · have he : x = y := UInt8.le_antisymm (UInt8.not_lt.1 h2) (UInt8.not_lt.1 h1)
          subst he
          simp

theorem newer_eq : newerS = newerR := by
  funext n y v n' y' v'
  unfold newerS newerR compS orS cmpS
  rw [compare_bytes, compare_bytes]
  by_cases hn : n = n'
  · subst hn
    by_cases hy : y = y'
    · subst hy
      by_cases hv : v = v'
      · subst hv; simp
      · cases hb : Op.bytesLess v v' <;> simp [hv]
    · cases hb : Op.bytesLess y y' <;> simp [hy]
  · by_cases h1 : n < n'
    · have h2 : ¬ n' < n := by omega
      simp [hn, h1, h2]
    · have h2 : n' < n := by omega
      simp [hn, h1, h2]

end Go.Eng
