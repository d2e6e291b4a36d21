/- HMAC: what the program sums. -/
import Derived.Test.YteoafkipoapjlaaGreatDoorH05
namespace Go.Eng
open Go Go.Proofs

/-- A key of 64 bytes, the same bits of each of which are turned. -/
def padB (k : Str) (b : Nat) : Str := (List.range 64).map fun i => UInt8.ofNat (byN k i ^^^ b)
def macK (secret : Str) : Str := bif decide (64 < secret.length) then shaN secret else secret
/-- The sum of a text by a secret. -/
def macN (secret s : Str) : Str := shaN (padB (macK secret) 92 ++ shaN (padB (macK secret) 54 ++ s))
theorem macN_len (secret s : Str) : (macN secret s).length = 32 := shaN_len _
theorem padB_len (k : Str) (b : Nat) : (padB k b).length = 64 := by unfold padB; rw [List.length_map, List.length_range]
theorem cpB_by (k : Str) (i : Nat) : cpB k i 0 = ((byN k i : Nat) : Int) := by
  unfold cpB byN
  by_cases h : i < k.length
  · rw [decide_eq_true h]
  · rw [decide_eq_false h, List.getD, List.getElem?_eq_none (by omega)]; rfl
theorem wrap8S {n : Nat} (h : n < 256) : IntKind.wrap .u8 (n : Int) = (n : Int) := by rw [wrap8N, Nat.mod_eq_of_lt h]
theorem xor8 {x y : Nat} (hx : x < 256) (hy : y < 256) : stdArith .xor .u8 (x : Int) (y : Int) = ((x ^^^ y : Nat) : Int) := by
  have hlt : x ^^^ y < 2 ^ 8 := Nat.xor_lt_two_pow hx hy
  show IntKind.wrap .u8 ((BitVec.ofInt 8 (x : Int) ^^^ BitVec.ofInt 8 (y : Int)).toNat : Int) = _
  rw [ofIntN, ofIntN, BitVec.toNat_xor, BitVec.toNat_ofNat, BitVec.toNat_ofNat, Nat.mod_eq_of_lt hx, Nat.mod_eq_of_lt hy, wrap8S hlt]
theorem or8 {x y : Nat} (hx : x < 256) (hy : y < 256) : stdArith .or .u8 (x : Int) (y : Int) = ((x ||| y : Nat) : Int) := by
  have hlt : x ||| y < 2 ^ 8 := Nat.or_lt_two_pow hx hy
  show IntKind.wrap .u8 ((BitVec.ofInt 8 (x : Int) ||| BitVec.ofInt 8 (y : Int)).toNat : Int) = _
  rw [ofIntN, ofIntN, BitVec.toNat_or, BitVec.toNat_ofNat, BitVec.toNat_ofNat, Nat.mod_eq_of_lt hx, Nat.mod_eq_of_lt hy, wrap8S hlt]

/-- The key, the first t bytes of which are turned. -/
def padL (k : Str) (b t : Nat) : List Int := (List.range 64).map fun i => ((if i < t then byN k i ^^^ b else byN k i : Nat) : Int)
theorem padL_len (k : Str) (b t : Nat) : (padL k b t).length = 64 := by unfold padL; rw [List.length_map, List.length_range]
theorem padL_at (k : Str) (b t i : Nat) (h : i < (padL k b t).length) : (padL k b t)[i] = ((if i < t then byN k i ^^^ b else byN k i : Nat) : Int) := by
  simp [padL]
theorem padL_get (k : Str) (b t i : Nat) (h : i < 64) : (padL k b t).getD i 0 = ((if i < t then byN k i ^^^ b else byN k i : Nat) : Int) := by
  rw [getD_lt _ _ _ (by rw [padL_len]; exact h), padL_at]
theorem padL_set (k : Str) (b t : Nat) : (padL k b t).set t ((byN k t ^^^ b : Nat) : Int) = padL k b (t + 1) := by
  refine List.ext_getElem (by rw [List.length_set, padL_len, padL_len]) fun i h1 h2 => ?_
  rw [List.getElem_set, padL_at, padL_at]
  by_cases e : t = i
  · subst e; rw [if_pos rfl, if_pos (by omega)]
  · rw [if_neg e]
    by_cases hi : i < t
    · rw [if_pos hi, if_pos (by omega)]
    · rw [if_neg hi, if_neg (by omega)]
theorem padL_0 (k : Str) (b : Nat) : padL k b 0 = (List.range 64).map fun i => cpB k i 0 := by
  unfold padL
  refine List.map_congr_left fun i _ => ?_
  rw [cpB_by, if_neg (Nat.not_lt_zero _)]
theorem padL_64 (k : Str) (b : Nat) : strB (padL k b 64) = padB k b := by
  unfold strB padL padB
  rw [List.map_map]
  refine List.map_congr_left fun i hi => ?_
  have := List.mem_range.1 hi
  show UInt8.ofNat (((if i < 64 then byN k i ^^^ b else byN k i : Nat) : Int)).toNat = _
  rw [if_pos this, Int.toNat_natCast]
def tupK (k : Str) : A64u8 := (cpB k 0 0, (cpB k 1 0, (cpB k 2 0, (cpB k 3 0, (cpB k 4 0, (cpB k 5 0, (cpB k 6 0, (cpB k 7 0, (cpB k 8 0, (cpB k 9 0, (cpB k 10 0, (cpB k 11 0, (cpB k 12 0, (cpB k 13 0, (cpB k 14 0, (cpB k 15 0, (cpB k 16 0, (cpB k 17 0, (cpB k 18 0, (cpB k 19 0, (cpB k 20 0, (cpB k 21 0, (cpB k 22 0, (cpB k 23 0, (cpB k 24 0, (cpB k 25 0, (cpB k 26 0, (cpB k 27 0, (cpB k 28 0, (cpB k 29 0, (cpB k 30 0, (cpB k 31 0, (cpB k 32 0, (cpB k 33 0, (cpB k 34 0, (cpB k 35 0, (cpB k 36 0, (cpB k 37 0, (cpB k 38 0, (cpB k 39 0, (cpB k 40 0, (cpB k 41 0, (cpB k 42 0, (cpB k 43 0, (cpB k 44 0, (cpB k 45 0, (cpB k 46 0, (cpB k 47 0, (cpB k 48 0, (cpB k 49 0, (cpB k 50 0, (cpB k 51 0, (cpB k 52 0, (cpB k 53 0, (cpB k 54 0, (cpB k 55 0, (cpB k 56 0, (cpB k 57 0, (cpB k 58 0, (cpB k 59 0, (cpB k 60 0, (cpB k 61 0, (cpB k 62 0, cpB k 63 0)))))))))))))))))))))))))))))))))))))))))))))))))))))))))))))))
theorem keyL (k : Str) : [cpB k 0 0, cpB k 1 0, cpB k 2 0, cpB k 3 0, cpB k 4 0, cpB k 5 0, cpB k 6 0, cpB k 7 0, cpB k 8 0, cpB k 9 0, cpB k 10 0, cpB k 11 0, cpB k 12 0, cpB k 13 0, cpB k 14 0, cpB k 15 0, cpB k 16 0, cpB k 17 0, cpB k 18 0, cpB k 19 0, cpB k 20 0, cpB k 21 0, cpB k 22 0, cpB k 23 0, cpB k 24 0, cpB k 25 0, cpB k 26 0, cpB k 27 0, cpB k 28 0, cpB k 29 0, cpB k 30 0, cpB k 31 0, cpB k 32 0, cpB k 33 0, cpB k 34 0, cpB k 35 0, cpB k 36 0, cpB k 37 0, cpB k 38 0, cpB k 39 0, cpB k 40 0, cpB k 41 0, cpB k 42 0, cpB k 43 0, cpB k 44 0, cpB k 45 0, cpB k 46 0, cpB k 47 0, cpB k 48 0, cpB k 49 0, cpB k 50 0, cpB k 51 0, cpB k 52 0, cpB k 53 0, cpB k 54 0, cpB k 55 0, cpB k 56 0, cpB k 57 0, cpB k 58 0, cpB k 59 0, cpB k 60 0, cpB k 61 0, cpB k 62 0, cpB k 63 0] = (List.range 64).map fun i => cpB k i 0 := rfl

theorem pad_step (k : Str) (b t : Nat) (hb : b < 256) (ht : t < 64) : (mac_Sum_1_L3_step (b : Int) (t : Int) (padL k b t)).run = some (.inl (((t + 1 : Nat) : Int), padL k b (t + 1))) := by
  unfold mac_Sum_1_L3_step
  refine (run_t (decide_eq_true (by omega))).trans ?_
  refine (run_ask (inb_in (by omega))).trans ?_
  refine (run_ask (Nat.ble_eq_true_of_le (by rw [padL_len, Int.toNat_natCast]; omega))).trans ?_
  refine (run_ask (inb_in (by omega))).trans ?_
  refine (run_ask (Nat.ble_eq_true_of_le (by rw [padL_len, Int.toNat_natCast]; omega))).trans ?_
  rw [Int.toNat_natCast, padL_get _ _ _ _ ht, if_neg (Nat.lt_irrefl _), xor8 (byN_lt k t) hb, padL_set, w64_nat t (by omega)]
  rfl
theorem pad_run1 (k : Str) (b : Nat) (hb : b < 256) : (mac_Sum_1_T (b : Int) (tupK k)).run = some (padB k b) := by
  have hl : loopF (fun v => (mac_Sum_1_L3_step (b : Int) v.1 v.2).run) (0, [cpB k 0 0, cpB k 1 0, cpB k 2 0, cpB k 3 0, cpB k 4 0, cpB k 5 0, cpB k 6 0, cpB k 7 0, cpB k 8 0, cpB k 9 0, cpB k 10 0, cpB k 11 0, cpB k 12 0, cpB k 13 0, cpB k 14 0, cpB k 15 0, cpB k 16 0, cpB k 17 0, cpB k 18 0, cpB k 19 0, cpB k 20 0, cpB k 21 0, cpB k 22 0, cpB k 23 0, cpB k 24 0, cpB k 25 0, cpB k 26 0, cpB k 27 0, cpB k 28 0, cpB k 29 0, cpB k 30 0, cpB k 31 0, cpB k 32 0, cpB k 33 0, cpB k 34 0, cpB k 35 0, cpB k 36 0, cpB k 37 0, cpB k 38 0, cpB k 39 0, cpB k 40 0, cpB k 41 0, cpB k 42 0, cpB k 43 0, cpB k 44 0, cpB k 45 0, cpB k 46 0, cpB k 47 0, cpB k 48 0, cpB k 49 0, cpB k 50 0, cpB k 51 0, cpB k 52 0, cpB k 53 0, cpB k 54 0, cpB k 55 0, cpB k 56 0, cpB k 57 0, cpB k 58 0, cpB k 59 0, cpB k 60 0, cpB k 61 0, cpB k 62 0, cpB k 63 0]) = some (padL k b 64) := by
    rw [keyL]
    refine loopF_run (S := fun t => ((t : Int), padL k b t)) (n := 64) (fun t ht => pad_step k b t hb ht) ?_ ?_
    · show (mac_Sum_1_L3_step _ _ _).run = _
      unfold mac_Sum_1_L3_step
      exact run_f (decide_eq_false (by omega))
    · rw [padL_0]; rfl
  unfold mac_Sum_1_T tupK
  refine (run_bnd (loop_run hl)).trans ?_
  refine (run_ask rfl).trans ?_
  refine (run_ask (decide_eq_true (padL_len k b 64))).trans ?_
  rw [padL_64]; rfl
theorem mac_run (secret s : Str) (h1 : secret.length ≤ 700000) (h2 : s.length ≤ 700000) : (mac_Sum_T secret s).run = some (macN secret s) := by
  have tail : ∀ k : Str, (Tree.bnd (mac_Sum_1_T 92 (tupK k)) fun y2 => .bnd (mac_Sum_1_T 54 (tupK k)) fun y3 =>
      ask (decide (y3.length + s.length ≤ 9223372036854775807)) <| .bnd (sha_Sum_T (y3 ++ s)) fun y4 =>
      ask (decide (y2.length + y4.length ≤ 9223372036854775807)) <| .bnd (sha_Sum_T (y2 ++ y4)) fun y5 => .ret y5).run = some (shaN (padB k 92 ++ shaN (padB k 54 ++ s))) := by
    intro k
    refine (run_bnd (pad_run1 k 92 (by omega))).trans ?_
    refine (run_bnd (pad_run1 k 54 (by omega))).trans ?_
    refine (run_ask (decide_eq_true (by rw [padB_len]; omega))).trans ?_
    refine (run_bnd (sum_run _ (by rw [List.length_append, padB_len]; omega))).trans ?_
    refine (run_ask (decide_eq_true (by rw [padB_len, shaN_len]; omega))).trans ?_
    refine (run_bnd (sum_run _ (by rw [List.length_append, padB_len, shaN_len]; omega))).trans rfl
  unfold mac_Sum_T macN macK
  by_cases h : 64 < secret.length
  · refine (run_t (decide_eq_true (by omega))).trans ?_
    refine (run_bnd (sum_run secret (by omega))).trans ?_
    refine (run_ask rfl).trans ?_
    rw [decide_eq_true h]
    exact tail (shaN secret)
  · refine (run_f (decide_eq_false (by omega))).trans ?_
    refine (run_ask rfl).trans ?_
    rw [decide_eq_false h]
    exact tail secret

/-! Whether two sums are the same: all bytes are looked at. -/
def unN (a b : Str) : Nat → Nat
  | 0 => 0
  | t + 1 => unN a b t ||| (byN a t ^^^ byN b t)
theorem unN_lt (a b : Str) (t : Nat) : unN a b t < 256 := by
  induction t with
  | zero => exact (by decide : 0 < 256)
  | succ t ih => exact Nat.or_lt_two_pow (n := 8) ih (Nat.xor_lt_two_pow (n := 8) (byN_lt a t) (byN_lt b t))
theorem xor_zero {x y : Nat} (h : x ^^^ y = 0) : x = y := by
  have := congrArg (fun z => z ^^^ y) h
  simpa [Nat.xor_assoc] using this
theorem or_zero {x y : Nat} (h : x ||| y = 0) : x = 0 ∧ y = 0 := by
  constructor
  · have := Nat.left_le_or (n := x) (m := y); omega
  · have := Nat.right_le_or (n := x) (m := y); omega
theorem unN_zero {a b : Str} {t : Nat} : unN a b t = 0 ↔ ∀ i, i < t → byN a i = byN b i := by
  induction t with
  | zero => exact ⟨fun _ i h => absurd h (Nat.not_lt_zero _), fun _ => rfl⟩
  | succ t ih =>
    constructor
    · intro h i hi
      obtain ⟨h1, h2⟩ := or_zero h
      rcases Nat.lt_succ_iff_lt_or_eq.1 hi with h3 | h3
      · exact ih.1 h1 i h3
      · subst h3; exact xor_zero h2
    · intro h
      show unN a b t ||| (byN a t ^^^ byN b t) = 0
      rw [ih.2 fun i hi => h i (by omega), h t (by omega), Nat.xor_self]; rfl
theorem byN_ext {a b : Str} (hl : a.length = b.length) (h : ∀ i, i < a.length → byN a i = byN b i) : a = b := by
  refine List.ext_getElem hl fun i h1 h2 => ?_
  have := h i h1
  unfold byN at this
  rw [getD_lt _ _ _ h1, getD_lt _ _ _ h2] at this
  exact UInt8.toNat_inj.1 this
theorem is_run (secret s sum : Str) (h1 : secret.length ≤ 700000) (h2 : s.length ≤ 700000) : (mac_Is_T secret s sum).run = some (macN secret s == sum) := by
  unfold mac_Is_T
  refine (run_bnd (mac_run secret s h1 h2)).trans ?_
  have hw := macN_len secret s
  generalize macN secret s = want at hw ⊢
  by_cases hl : want.length = sum.length
  · refine (run_f (by rw [decide_eq_true (by omega)]; rfl)).trans ?_
    have hb : loopF (fun v => (mac_Is_L6_step sum want (sum.length : Int) v.1 v.2).run) (0, 0) = some ((unN want sum sum.length : Nat) : Int) := by
      refine loopF_run (S := fun t => (((unN want sum t : Nat) : Int), (t : Int))) (n := sum.length) (fun t ht => ?_) ?_ rfl
      · show (mac_Is_L6_step sum want (sum.length : Int) ((unN want sum t : Nat) : Int) (t : Int)).run = _
        unfold mac_Is_L6_step
        refine (run_t (decide_eq_true (by omega))).trans ?_
        refine (run_ask (inb_in (by omega))).trans ?_
        refine (run_ask (inb_in (by omega))).trans ?_
        have e1 : sgetI want (t : Int) = ((byN want t : Nat) : Int) := rfl
        have e2 : sgetI sum (t : Int) = ((byN sum t : Nat) : Int) := rfl
        rw [e1, e2, xor8 (byN_lt _ _) (byN_lt _ _), or8 (unN_lt _ _ _) (Nat.xor_lt_two_pow (n := 8) (byN_lt _ _) (byN_lt _ _)), w64_nat t (by omega)]
        rfl
      · show (mac_Is_L6_step sum want (sum.length : Int) _ (sum.length : Int)).run = _
        unfold mac_Is_L6_step
        exact run_f (decide_eq_false (by omega))
    refine (run_bnd (loop_run hb)).trans ?_
    show some _ = some _
    congr 1
    by_cases he : want = sum
    · rw [beq_iff_eq.2 he, decide_eq_true]
      have := (unN_zero (a := want) (b := sum) (t := sum.length)).2 fun i _ => by rw [he]
      omega
    · rw [beq_eq_false_iff_ne.2 he, decide_eq_false]
      intro h0
      exact he (byN_ext hl fun i hi => (unN_zero (t := sum.length)).1 (by omega) i (by omega))
  · refine (run_t (by rw [decide_eq_false (by omega)]; rfl)).trans ?_
    rw [beq_eq_false_iff_ne.2 fun e => hl (by rw [e])]
    rfl
end Go.Eng

