/- SHA-256: the program's words and the document's are the same numbers. -/
import Derived.Test.YteoafkipoapjlaaGreatDoorL40
import Derived.Test.YteoafkipoapjlaaGreatDoorTrI
namespace Go.Eng
open Go Go.Proofs

/-! Bits of numbers of 32 bits. -/
theorem w64_same {x : Int} (h0 : -9223372036854775808 ≤ x) (h1 : x ≤ 9223372036854775807) : w64 x = x := by
  show IntKind.i64.wrap x = x
  rw [IntKind.wrap_i64]; omega
theorem wrap32 (n : Int) : IntKind.wrap .u32 n = n % 4294967296 := by rw [IntKind.wrap_u32]
theorem wrap32N (n : Nat) : IntKind.wrap .u32 (n : Int) = ((n % 4294967296 : Nat) : Int) := by rw [wrap32]; omega
theorem ofIntN (b n : Nat) : BitVec.ofInt b (n : Int) = BitVec.ofNat b n := BitVec.ofInt_natCast b n
theorem and32 {x y : Nat} (hx : x < 4294967296) (hy : y < 4294967296) : stdArith .and .u32 (x : Int) (y : Int) = ((x &&& y : Nat) : Int) := by
  have hlt : x &&& y < 2 ^ 32 := Nat.and_lt_two_pow x hy
  show IntKind.wrap .u32 ((BitVec.ofInt 32 (x : Int) &&& BitVec.ofInt 32 (y : Int)).toNat : Int) = _
  rw [ofIntN, ofIntN, BitVec.toNat_and, BitVec.toNat_ofNat, BitVec.toNat_ofNat, Nat.mod_eq_of_lt hx, Nat.mod_eq_of_lt hy, wrap32N, Nat.mod_eq_of_lt hlt]
theorem xor32 {x y : Nat} (hx : x < 4294967296) (hy : y < 4294967296) : stdArith .xor .u32 (x : Int) (y : Int) = ((x ^^^ y : Nat) : Int) := by
  have hlt : x ^^^ y < 2 ^ 32 := Nat.xor_lt_two_pow hx hy
  show IntKind.wrap .u32 ((BitVec.ofInt 32 (x : Int) ^^^ BitVec.ofInt 32 (y : Int)).toNat : Int) = _
  rw [ofIntN, ofIntN, BitVec.toNat_xor, BitVec.toNat_ofNat, BitVec.toNat_ofNat, Nat.mod_eq_of_lt hx, Nat.mod_eq_of_lt hy, wrap32N, Nat.mod_eq_of_lt hlt]
theorem or32 {x y : Nat} (hx : x < 4294967296) (hy : y < 4294967296) : stdArith .or .u32 (x : Int) (y : Int) = ((x ||| y : Nat) : Int) := by
  have hlt : x ||| y < 2 ^ 32 := Nat.or_lt_two_pow hx hy
  show IntKind.wrap .u32 ((BitVec.ofInt 32 (x : Int) ||| BitVec.ofInt 32 (y : Int)).toNat : Int) = _
  rw [ofIntN, ofIntN, BitVec.toNat_or, BitVec.toNat_ofNat, BitVec.toNat_ofNat, Nat.mod_eq_of_lt hx, Nat.mod_eq_of_lt hy, wrap32N, Nat.mod_eq_of_lt hlt]
theorem w64N {n : Nat} (h : n < 9223372036854775808) : w64 (n : Int) = (n : Int) := w64_same (by omega) (by omega)
theorem and64 {x y : Nat} (hx : x < 9223372036854775808) (hy : y < 9223372036854775808) : stdArith .and .i64 (x : Int) (y : Int) = ((x &&& y : Nat) : Int) := by
  have hlt : x &&& y < 2 ^ 63 := Nat.and_lt_two_pow x hy
  show w64 ((BitVec.ofInt 64 (x : Int) &&& BitVec.ofInt 64 (y : Int)).toNat : Int) = _
  rw [ofIntN, ofIntN, BitVec.toNat_and, BitVec.toNat_ofNat, BitVec.toNat_ofNat, Nat.mod_eq_of_lt (by omega), Nat.mod_eq_of_lt (by omega), w64N hlt]
theorem xor64 {x y : Nat} (hx : x < 9223372036854775808) (hy : y < 9223372036854775808) : stdArith .xor .i64 (x : Int) (y : Int) = ((x ^^^ y : Nat) : Int) := by
  have hlt : x ^^^ y < 2 ^ 63 := Nat.xor_lt_two_pow hx hy
  show w64 ((BitVec.ofInt 64 (x : Int) ^^^ BitVec.ofInt 64 (y : Int)).toNat : Int) = _
  rw [ofIntN, ofIntN, BitVec.toNat_xor, BitVec.toNat_ofNat, BitVec.toNat_ofNat, Nat.mod_eq_of_lt (by omega), Nat.mod_eq_of_lt (by omega), w64N hlt]
theorem or64 {x y : Nat} (hx : x < 9223372036854775808) (hy : y < 9223372036854775808) : stdArith .or .i64 (x : Int) (y : Int) = ((x ||| y : Nat) : Int) := by
  have hlt : x ||| y < 2 ^ 63 := Nat.or_lt_two_pow hx hy
  show w64 ((BitVec.ofInt 64 (x : Int) ||| BitVec.ofInt 64 (y : Int)).toNat : Int) = _
  rw [ofIntN, ofIntN, BitVec.toNat_or, BitVec.toNat_ofNat, BitVec.toNat_ofNat, Nat.mod_eq_of_lt (by omega), Nat.mod_eq_of_lt (by omega), w64N hlt]
/-- All bits of 32 turned. -/
abbrev notN (x : Nat) : Nat := x ^^^ 4294967295
theorem not32 {x : Nat} (hx : x < 4294967296) : stdArith .xor .u32 4294967295 (x : Int) = ((notN x : Nat) : Int) := by
  have := xor32 (x := 4294967295) (y := x) (by decide) hx
  rw [Nat.xor_comm] at this
  exact this
theorem low64 {x : Nat} (hx : x < 9223372036854775808) : stdArith .and .i64 (x : Int) 4294967295 = ((x % 4294967296 : Nat) : Int) := by
  have := and64 (x := x) (y := 4294967295) hx (by decide)
  refine this.trans ?_
  rw [show (4294967295 : Nat) = 2 ^ 32 - 1 from rfl, Nat.and_two_pow_sub_one_eq_mod]
theorem lowNot {x : Nat} (hx : x < 4294967296) : stdArith .and .i64 (stdArith .xor .i64 (-1) (x : Int)) 4294967295 = ((notN x : Nat) : Int) := by
  have h1 : stdArith .xor .i64 (-1) (x : Int) = -1 - (x : Int) := by
    show w64 ((BitVec.ofInt 64 (-1) ^^^ BitVec.ofInt 64 (x : Int)).toNat : Int) = _
    have e1 : BitVec.ofInt 64 (-1) = BitVec.allOnes 64 := by decide
    rw [e1, ofIntN, BitVec.allOnes_xor, BitVec.toNat_not, BitVec.toNat_ofNat, Nat.mod_eq_of_lt (by omega)]
    show IntKind.i64.wrap _ = _
    rw [IntKind.wrap_i64]; omega
  rw [h1]
  show w64 ((BitVec.ofInt 64 (-1 - (x : Int)) &&& BitVec.ofInt 64 4294967295).toNat : Int) = _
  have e2 : BitVec.ofInt 64 (-1 - (x : Int)) = ~~~ (BitVec.ofNat 64 x) := by
    apply BitVec.eq_of_toNat_eq
    rw [BitVec.toNat_ofInt, BitVec.toNat_not, BitVec.toNat_ofNat, Nat.mod_eq_of_lt (by omega : x < 2 ^ 64)]
    omega
  have e3 : (~~~ (BitVec.ofNat 64 x) &&& BitVec.ofInt 64 4294967295).toNat = notN x := by
    rw [BitVec.toNat_and, BitVec.toNat_not, BitVec.toNat_ofNat, Nat.mod_eq_of_lt (by omega : x < 2 ^ 64)]
    have e4 : (BitVec.ofInt 64 4294967295).toNat = 2 ^ 32 - 1 := by decide
    rw [e4, Nat.and_two_pow_sub_one_eq_mod]
    have e5 : notN x = 4294967295 - x := by
      have := BitVec.toNat_not (x := BitVec.ofNat 32 x)
      rw [← BitVec.allOnes_xor, BitVec.toNat_xor, BitVec.toNat_ofNat, Nat.mod_eq_of_lt (by omega : x < 2 ^ 32), Nat.xor_comm] at this
      exact this
    rw [e5]; omega
  rw [e2, e3]
  exact w64N (Nat.lt_trans (Nat.xor_lt_two_pow (n := 32) hx (by decide)) (by decide))
theorem shl32 {x s : Nat} (hs : s ≤ 32) : stdShift .shl .u32 (x : Int) (s : Int) = ((x * 2 ^ s % 4294967296 : Nat) : Int) := by
  show IntKind.wrap .u32 ((x : Int) * 2 ^ (min (s : Int).toNat 32)) = _
  rw [Int.toNat_natCast, Nat.min_eq_left hs, ← wrap32N, Int.natCast_mul, Int.natCast_pow]; rfl
theorem pow2N (s : Nat) : ((2 : Int) ^ s) = ((2 ^ s : Nat) : Int) := by rw [Int.natCast_pow]; rfl
theorem shrN {k : IntKind} {x s : Nat} (hs : s ≤ k.bits) : stdShift .shr k (x : Int) (s : Int) = ((x / 2 ^ s : Nat) : Int) := by
  show (x : Int).fdiv (2 ^ (min (s : Int).toNat k.bits)) = _
  rw [Int.toNat_natCast, Nat.min_eq_left hs, pow2N, Int.fdiv_eq_ediv_of_nonneg _ (Int.natCast_nonneg _)]
  exact (Int.natCast_ediv x (2 ^ s)).symm
theorem shl64 {x s : Nat} (hs : s ≤ 64) (h : x * 2 ^ s < 9223372036854775808) : stdShift .shl .i64 (x : Int) (s : Int) = ((x * 2 ^ s : Nat) : Int) := by
  show w64 ((x : Int) * 2 ^ (min (s : Int).toNat 64)) = _
  rw [Int.toNat_natCast, Nat.min_eq_left hs, ← w64N h, Int.natCast_mul, Int.natCast_pow]; rfl

/-! Turning, and the sums of turned words. -/
def rotN (x a : Nat) : Nat := x * 2 ^ (32 - a) % 4294967296 ||| x / 2 ^ a
theorem rotN_lt {x : Nat} (a : Nat) (hx : x < 4294967296) : rotN x a < 4294967296 :=
  Nat.or_lt_two_pow (n := 32) (Nat.mod_lt _ (by decide)) (Nat.lt_of_le_of_lt (Nat.div_le_self _ _) hx)
theorem rot_amount : ∀ a : Fin 32, 1 ≤ a.val → stdArith .and .u64 (IntKind.wrap .u64 (w64 ((0 : Int) - (a.val : Int)))) 31 = ((32 - a.val : Nat) : Int) ∧ IntKind.wrap .u64 ((32 : Int) - ((32 - a.val : Nat) : Int)) = ((a.val : Nat) : Int) := by decide +kernel
theorem rotl_run {x a : Nat} (hx : x < 4294967296) (h1 : 1 ≤ a) (h2 : a < 32) : (bits_RotateLeft32_T (x : Int) (w64 ((0 : Int) - (a : Int)))).run = some ((rotN x a : Nat) : Int) := by
  obtain ⟨e1, e2⟩ := rot_amount ⟨a, h2⟩ h1
  simp only at e1 e2
  unfold bits_RotateLeft32_T
  rw [e1, e2]
  refine (run_ask (decide_eq_true (by omega))).trans ?_
  refine (run_ask (decide_eq_true (by omega))).trans ?_
  rw [shl32 (by omega), shrN (by show a ≤ 32; omega), or32 (Nat.mod_lt _ (by decide)) (Nat.lt_of_le_of_lt (Nat.div_le_self _ _) hx)]
  rfl
theorem turn_run {x a : Nat} (hx : x < 4294967296) (h1 : 1 ≤ a) (h2 : a < 32) : (r02_turn_T (x : Int) (a : Int)).run = some ((rotN x a : Nat) : Int) := by
  have e1 : w64 ((32 : Int) - (a : Int)) = ((32 - a : Nat) : Int) := by rw [w64_same (by omega) (by omega)]; omega
  have hp : 2 ^ (32 - a) ≤ 2 ^ 31 := Nat.pow_le_pow_right (by decide) (by omega)
  have hb : x * 2 ^ (32 - a) < 9223372036854775808 := Nat.lt_of_le_of_lt (Nat.mul_le_mul_left x hp) (by omega)
  have hd : x / 2 ^ a < 4294967296 := Nat.lt_of_le_of_lt (Nat.div_le_self _ _) hx
  unfold r02_turn_T
  rw [e1]
  refine (run_ask (decide_eq_true (by omega))).trans ?_
  refine (run_ask (decide_eq_true (by omega))).trans ?_
  rw [shl64 (by omega) hb, shrN (by show a ≤ 64; omega), or64 (by omega) hb]
  unfold r02_low_T
  rw [low64 (Nat.or_lt_two_pow (n := 63) (by omega) hb)]
  refine (run_bnd rfl).trans ?_
  show some _ = some _
  congr 2
  unfold rotN
  rw [show (4294967296 : Nat) = 2 ^ 32 from rfl, Nat.or_mod_two_pow, Nat.mod_eq_of_lt (show x / 2 ^ a < 2 ^ 32 from hd), Nat.or_comm]
def bigN (x a b c : Nat) : Nat := (rotN x a ^^^ rotN x b) ^^^ rotN x c
theorem bigN_lt {x : Nat} (a b c : Nat) (hx : x < 4294967296) : bigN x a b c < 4294967296 :=
  Nat.xor_lt_two_pow (n := 32) (Nat.xor_lt_two_pow (n := 32) (rotN_lt a hx) (rotN_lt b hx)) (rotN_lt c hx)
theorem turns_run {x a b c : Nat} (hx : x < 4294967296) (ha : 1 ≤ a ∧ a < 32) (hb : 1 ≤ b ∧ b < 32) (hc : 1 ≤ c ∧ c < 32) : (sha_turns_T (x : Int) (a : Int) (b : Int) (c : Int)).run = some ((bigN x a b c : Nat) : Int) := by
  unfold sha_turns_T
  rw [run_bnd (rotl_run hx ha.1 ha.2), run_bnd (rotl_run hx hb.1 hb.2), run_bnd (rotl_run hx hc.1 hc.2), xor32 (rotN_lt a hx) (rotN_lt b hx), xor32 (Nat.xor_lt_two_pow (n := 32) (rotN_lt a hx) (rotN_lt b hx)) (rotN_lt c hx)]
  rfl
def smallN (x a b p : Nat) : Nat := (rotN x a ^^^ rotN x b) ^^^ x / 2 ^ p
theorem smallN_lt {x : Nat} (a b p : Nat) (hx : x < 4294967296) : smallN x a b p < 4294967296 :=
  Nat.xor_lt_two_pow (n := 32) (Nat.xor_lt_two_pow (n := 32) (rotN_lt a hx) (rotN_lt b hx)) (Nat.lt_of_le_of_lt (Nat.div_le_self _ _) hx)
theorem small_run {x a b p : Nat} (hx : x < 4294967296) (ha : 1 ≤ a ∧ a < 32) (hb : 1 ≤ b ∧ b < 32) (hp : p ≤ 32) : (sha_small_T (x : Int) (a : Int) (b : Int) (p : Int)).run = some ((smallN x a b p : Nat) : Int) := by
  unfold sha_small_T
  rw [run_bnd (rotl_run hx ha.1 ha.2), run_bnd (rotl_run hx hb.1 hb.2)]
  refine (run_ask (decide_eq_true (by omega))).trans ?_
  rw [xor32 (rotN_lt a hx) (rotN_lt b hx), shrN (by show p ≤ 32; omega), xor32 (Nat.xor_lt_two_pow (n := 32) (rotN_lt a hx) (rotN_lt b hx)) (Nat.lt_of_le_of_lt (Nat.div_le_self _ _) hx)]
  rfl
end Go.Eng

