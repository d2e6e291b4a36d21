/- SHA-256: the 64 words of a block, of the program and of the document. -/
import Derived.Test.YteoafkipoapjlaaGreatDoorH02
namespace Go.Eng
open Go Go.Proofs

theorem loop_run {σ α : Type} {st : σ → Tree (σ ⊕ α)} {s0 : σ} {a : α} (h : loopF (fun v => (st v).run) s0 = some a) : (Tree.loop st s0).run = some a := h
theorem inb_in {i : Int} {n : Nat} (h : 0 ≤ i ∧ i < n) : inb i n = true := decide_eq_true h
theorem ble_in {a b : Nat} (h : a ≤ b) : Nat.ble a b = true := Nat.ble_eq_true_of_le h
theorem add32 (x y : Nat) : IntKind.wrap .u32 ((x : Int) + (y : Int)) = (((x + y) % 4294967296 : Nat) : Int) := by
  rw [← Int.natCast_add, wrap32N]
theorem add64 {x y : Nat} (h : x + y < 9223372036854775808) : w64 ((x : Int) + (y : Int)) = ((x + y : Nat) : Int) := by
  rw [← Int.natCast_add, w64N h]
theorem low_run {n : Nat} (h : n < 9223372036854775808) : (r02_low_T (n : Int)).run = some ((n % 4294967296 : Nat) : Int) := by
  unfold r02_low_T; rw [low64 h]; rfl
theorem shr64 {x s : Nat} (hs : s ≤ 64) : stdShift .shr .i64 (x : Int) (s : Int) = ((x / 2 ^ s : Nat) : Int) := shrN hs

/-! Four bytes are a word. -/
def byN (x : Str) (i : Nat) : Nat := (x.getD i 0).toNat
theorem byN_lt (x : Str) (i : Nat) : byN x i < 256 := UInt8.toNat_lt _
def or4N (c0 c1 c2 c3 : Nat) : Nat := ((c0 * 2 ^ 24 ||| c1 * 2 ^ 16) ||| c2 * 2 ^ 8) ||| c3
theorem or4N_lt {c0 c1 c2 c3 : Nat} (h0 : c0 < 256) (h1 : c1 < 256) (h2 : c2 < 256) (h3 : c3 < 256) : or4N c0 c1 c2 c3 < 4294967296 :=
  Nat.or_lt_two_pow (n := 32) (Nat.or_lt_two_pow (n := 32) (Nat.or_lt_two_pow (n := 32) (by omega) (by omega)) (by omega)) (by omega)
theorem sh32 {c : Nat} (s : Nat) (hs : s ≤ 24) (h : c < 256) : stdShift .shl .u32 (IntKind.wrap .u32 (c : Int)) (s : Int) = ((c * 2 ^ s : Nat) : Int) := by
  have hp : 2 ^ s ≤ 2 ^ 24 := Nat.pow_le_pow_right (by decide) hs
  have hb : c * 2 ^ s ≤ 255 * 2 ^ 24 := Nat.mul_le_mul (by omega) hp
  rw [wrap32N, Nat.mod_eq_of_lt (by omega), shl32 (by omega), Nat.mod_eq_of_lt (by omega)]
theorem sh64 {c : Nat} (s : Nat) (hs : s ≤ 24) (h : c < 256) : stdShift .shl .i64 (w64 (c : Int)) (s : Int) = ((c * 2 ^ s : Nat) : Int) := by
  have hp : 2 ^ s ≤ 2 ^ 24 := Nat.pow_le_pow_right (by decide) hs
  have hb : c * 2 ^ s ≤ 255 * 2 ^ 24 := Nat.mul_le_mul (by omega) hp
  rw [w64N (by omega), shl64 (by omega) (by omega)]
theorem or4N_u32 {c0 c1 c2 c3 : Nat} (h0 : c0 < 256) (h1 : c1 < 256) (h2 : c2 < 256) (h3 : c3 < 256) : stdArith .or .u32 (stdArith .or .u32 (stdArith .or .u32 (stdShift .shl .u32 (IntKind.wrap .u32 (c0 : Int)) 24) (stdShift .shl .u32 (IntKind.wrap .u32 (c1 : Int)) 16)) (stdShift .shl .u32 (IntKind.wrap .u32 (c2 : Int)) 8)) (IntKind.wrap .u32 (c3 : Int)) = ((or4N c0 c1 c2 c3 : Nat) : Int) := by
  have e0 := sh32 24 (by omega) h0
  have e1 := sh32 16 (by omega) h1
  have e2 := sh32 8 (by omega) h2
  have e3 : IntKind.wrap .u32 (c3 : Int) = (c3 : Int) := by rw [wrap32N, Nat.mod_eq_of_lt (by omega)]
  have b1 : c0 * 2 ^ 24 ||| c1 * 2 ^ 16 < 4294967296 := Nat.or_lt_two_pow (n := 32) (by omega) (by omega)
  have b2 : (c0 * 2 ^ 24 ||| c1 * 2 ^ 16) ||| c2 * 2 ^ 8 < 4294967296 := Nat.or_lt_two_pow (n := 32) b1 (by omega)
  refine (congr (congrArg (stdArith .or .u32) (congr (congrArg (stdArith .or .u32) (congr (congrArg (stdArith .or .u32) e0) e1)) e2)) e3).trans ?_
  rw [or32 (by omega) (by omega), or32 b1 (by omega), or32 b2 (by omega)]
  rfl
theorem or4N_i64 {c0 c1 c2 c3 : Nat} (h0 : c0 < 256) (h1 : c1 < 256) (h2 : c2 < 256) (h3 : c3 < 256) : stdArith .or .i64 (stdArith .or .i64 (stdArith .or .i64 (stdShift .shl .i64 (w64 (c0 : Int)) 24) (stdShift .shl .i64 (w64 (c1 : Int)) 16)) (stdShift .shl .i64 (w64 (c2 : Int)) 8)) (w64 (c3 : Int)) = ((or4N c0 c1 c2 c3 : Nat) : Int) := by
  have e0 := sh64 24 (by omega) h0
  have e1 := sh64 16 (by omega) h1
  have e2 := sh64 8 (by omega) h2
  have e3 : w64 (c3 : Int) = (c3 : Int) := w64N (by omega)
  have b1 : c0 * 2 ^ 24 ||| c1 * 2 ^ 16 < 4294967296 := Nat.or_lt_two_pow (n := 32) (by omega) (by omega)
  have b2 : (c0 * 2 ^ 24 ||| c1 * 2 ^ 16) ||| c2 * 2 ^ 8 < 4294967296 := Nat.or_lt_two_pow (n := 32) b1 (by omega)
  refine (congr (congrArg (stdArith .or .i64) (congr (congrArg (stdArith .or .i64) (congr (congrArg (stdArith .or .i64) e0) e1)) e2)) e3).trans ?_
  rw [or64 (by omega) (by omega), or64 (by omega) (by omega), or64 (by omega) (by omega)]
  rfl
def be4 (x : Str) (i : Nat) : Nat := or4N (byN x i) (byN x (i + 1)) (byN x (i + 2)) (byN x (i + 3))
theorem be4_lt (x : Str) (i : Nat) : be4 x i < 4294967296 := or4N_lt (byN_lt _ _) (byN_lt _ _) (byN_lt _ _) (byN_lt _ _)
theorem strI_by {x : Str} {i : Nat} (h : i < x.length) : (strI x).getD i 0 = ((byN x i : Nat) : Int) := strI_get x i h

/-! The words, one behind the other. -/
def nextW (x : Str) (l : List Nat) (t : Nat) : Nat :=
  if t < 16 then be4 x (4 * t) else (smallN (l.getD (t - 2) 0) 17 19 10 + l.getD (t - 7) 0 + smallN (l.getD (t - 15) 0) 7 18 3 + l.getD (t - 16) 0) % 4294967296
theorem nextW_lt (x : Str) (l : List Nat) (t : Nat) : nextW x l t < 4294967296 := by
  unfold nextW; split
  · exact be4_lt _ _
  · exact Nat.mod_lt _ (by decide)
def WL (x : Str) : Nat → List Nat
  | 0 => []
  | t + 1 => WL x t ++ [nextW x (WL x t) t]
theorem WL_len (x : Str) (t : Nat) : (WL x t).length = t := by
  induction t with
  | zero => rfl
  | succ t ih => rw [WL, List.length_append, ih]; rfl
theorem WL_mem (x : Str) (t : Nat) : ∀ n ∈ WL x t, n < 4294967296 := by
  induction t with
  | zero => intro n hn; cases hn
  | succ t ih =>
    intro n hn
    rw [WL, List.mem_append, List.mem_singleton] at hn
    rcases hn with h | h
    · exact ih n h
    · subst h; exact nextW_lt _ _ _
theorem getD_ge {α : Type} (l : List α) (i : Nat) (d : α) (h : l.length ≤ i) : l.getD i d = d := by rw [List.getD_eq_getElem?_getD, List.getElem?_eq_none h]; rfl
theorem WL_lt (x : Str) (t i : Nat) : (WL x t).getD i 0 < 4294967296 := by
  rcases Nat.lt_or_ge i (WL x t).length with h | h
  · rw [getD_lt _ _ _ h]; exact WL_mem x t _ (List.getElem_mem h)
  · rw [getD_ge _ _ _ h]; decide
def cst (l : List Nat) : List Int := l.map Int.ofNat
theorem cst_len (l : List Nat) : (cst l).length = l.length := by unfold cst; exact List.length_map _
theorem cst_snoc (l : List Nat) (n : Nat) : cst (l ++ [n]) = cst l ++ [(n : Int)] := by unfold cst; rw [List.map_append]; rfl
theorem cst_get (l : List Nat) (i : Nat) : (cst l).getD i 0 = ((l.getD i 0 : Nat) : Int) := by
  rcases Nat.lt_or_ge i l.length with h | h
  · rw [getD_lt _ _ _ h, getD_lt _ _ _ (by rw [cst_len]; exact h)]; unfold cst; rw [List.getElem_map]; rfl
  · rw [getD_ge _ _ _ h, getD_ge _ _ _ (by rw [cst_len]; exact h)]; rfl
def PW (x : Str) (t : Nat) : List Int := cst (WL x t) ++ List.replicate (64 - t) 0
theorem PW_len (x : Str) {t : Nat} (h : t ≤ 64) : (PW x t).length = 64 := by
  unfold PW; rw [List.length_append, cst_len, WL_len, List.length_replicate]; omega
theorem PW_get (x : Str) {t i : Nat} (h : i < t) : (PW x t).getD i 0 = (((WL x t).getD i 0 : Nat) : Int) := by
  rw [← cst_get]; unfold PW
  have hl : i < (cst (WL x t)).length := by rw [cst_len, WL_len]; exact h
  rw [getD_lt _ _ _ hl, getD_lt _ _ _ (by rw [List.length_append]; omega), List.getElem_append_left hl]
theorem PW_set (x : Str) {t : Nat} (h : t < 64) : (PW x t).set t ((nextW x (WL x t) t : Nat) : Int) = PW x (t + 1) := by
  have hl : (cst (WL x t)).length = t := by rw [cst_len, WL_len]
  have hr : List.replicate (64 - t) (0 : Int) = 0 :: List.replicate (64 - (t + 1)) 0 := by
    rw [show 64 - t = (64 - (t + 1)) + 1 by omega]; rfl
  unfold PW
  rw [List.set_append_right _ _ (by omega), hl, Nat.sub_self, hr, List.set_cons_zero, WL, cst_snoc, List.append_assoc]
  rfl

theorem ix4 {t : Nat} (h : t < 16) : w64 ((4 : Int) * (t : Int)) = ((4 * t : Nat) : Int) := by rw [w64_same (by omega) (by omega)]; omega
theorem ixp {i : Nat} (h : i < 1000) (k : Nat) (hk : k < 1000) : w64 ((i : Int) + (k : Int)) = ((i + k : Nat) : Int) := add64 (by omega)
theorem ixm {t k : Nat} (h : t < 1000) (hk : k ≤ t) : w64 ((t : Int) - (k : Int)) = ((t - k : Nat) : Int) := by rw [w64_same (by omega) (by omega)]; omega

theorem spread_lo (x : Str) (c : A64u32) (t : Nat) (w : List Int) (hx : x.length = 64) (ht : t < 16) (hw : w.length = 64) :
    (sha_spread_L3_step (strI x) c (t : Int) w).run = some (.inl (((t + 1 : Nat) : Int), w.set t ((be4 x (4 * t) : Nat) : Int))) := by
  have e0 := ix4 ht
  have e1 : w64 (((4 * t : Nat) : Int) + 1) = ((4 * t + 1 : Nat) : Int) := ixp (by omega) 1 (by omega)
  have e2 : w64 (((4 * t : Nat) : Int) + 2) = ((4 * t + 2 : Nat) : Int) := ixp (by omega) 2 (by omega)
  have e3 : w64 (((4 * t : Nat) : Int) + 3) = ((4 * t + 3 : Nat) : Int) := ixp (by omega) 3 (by omega)
  have hl : (strI x).length = 64 := by rw [strI_len, hx]
  unfold sha_spread_L3_step
  rw [e0, e1, e2, e3, hl, hw]
  refine (run_t (decide_eq_true (by omega))).trans ?_
  refine (run_t (decide_eq_true (by omega))).trans ?_
  refine (run_ask (inb_in (by omega))).trans ?_
  refine (run_ask rfl).trans ?_
  refine (run_ask (inb_in (by omega))).trans ?_
  refine (run_ask rfl).trans ?_
  refine (run_ask (inb_in (by omega))).trans ?_
  refine (run_ask rfl).trans ?_
  refine (run_ask (inb_in (by omega))).trans ?_
  refine (run_ask (inb_in (by omega))).trans ?_
  refine (run_ask (ble_in (by omega))).trans ?_
  simp only [Int.toNat_natCast]
  rw [strI_by (by omega), strI_by (by omega), strI_by (by omega), strI_by (by omega), or4N_u32 (byN_lt _ _) (byN_lt _ _) (byN_lt _ _) (byN_lt _ _), w64_nat t (by omega)]
  rfl
theorem spread_hi (x : List Int) (c : A64u32) (t : Nat) (w : List Int) (h1 : 16 ≤ t) (ht : t < 64) (hw : w.length = 64) {w2 w7 w15 w16 : Nat} (k2 : w2 < 4294967296) (k15 : w15 < 4294967296)
    (g2 : w.getD (t - 2) 0 = (w2 : Int)) (g7 : w.getD (t - 7) 0 = (w7 : Int)) (g15 : w.getD (t - 15) 0 = (w15 : Int)) (g16 : w.getD (t - 16) 0 = (w16 : Int)) :
    (sha_spread_L3_step x c (t : Int) w).run = some (.inl (((t + 1 : Nat) : Int), w.set t (((smallN w2 17 19 10 + w7 + smallN w15 7 18 3 + w16) % 4294967296 : Nat) : Int))) := by
  have e2 : w64 ((t : Int) - 2) = ((t - 2 : Nat) : Int) := ixm (k := 2) (by omega) (by omega)
  have e7 : w64 ((t : Int) - 7) = ((t - 7 : Nat) : Int) := ixm (k := 7) (by omega) (by omega)
  have e15 : w64 ((t : Int) - 15) = ((t - 15 : Nat) : Int) := ixm (k := 15) (by omega) (by omega)
  have e16 : w64 ((t : Int) - 16) = ((t - 16 : Nat) : Int) := ixm (k := 16) (by omega) (by omega)
  unfold sha_spread_L3_step
  rw [e2, e7, e15, e16, hw]
  simp only [Int.toNat_natCast]
  rw [g2, g7, g15, g16]
  refine (run_t (decide_eq_true (by omega))).trans ?_
  refine (run_f (decide_eq_false (by omega))).trans ?_
  refine (run_ask (inb_in (by omega))).trans ?_
  refine (run_ask (ble_in (by omega))).trans ?_
  refine (run_bnd (small_run (a := 17) (b := 19) (p := 10) k2 (by omega) (by omega) (by omega))).trans ?_
  refine (run_ask (inb_in (by omega))).trans ?_
  refine (run_ask (ble_in (by omega))).trans ?_
  refine (run_ask (inb_in (by omega))).trans ?_
  refine (run_ask (ble_in (by omega))).trans ?_
  refine (run_bnd (small_run (a := 7) (b := 18) (p := 3) k15 (by omega) (by omega) (by omega))).trans ?_
  refine (run_ask (inb_in (by omega))).trans ?_
  refine (run_ask (ble_in (by omega))).trans ?_
  refine (run_ask (inb_in (by omega))).trans ?_
  refine (run_ask (ble_in (by omega))).trans ?_
  rw [w64_nat t (by omega), add32, add32, add32]
  show some _ = some _
  congr 4
  generalize smallN w2 17 19 10 = u
  generalize smallN w15 7 18 3 = v
  omega
def tl64 (y : A64u32) : List Int := [y.1, y.2.1, y.2.2.1, y.2.2.2.1, y.2.2.2.2.1, y.2.2.2.2.2.1, y.2.2.2.2.2.2.1, y.2.2.2.2.2.2.2.1, y.2.2.2.2.2.2.2.2.1, y.2.2.2.2.2.2.2.2.2.1, y.2.2.2.2.2.2.2.2.2.2.1, y.2.2.2.2.2.2.2.2.2.2.2.1, y.2.2.2.2.2.2.2.2.2.2.2.2.1, y.2.2.2.2.2.2.2.2.2.2.2.2.2.1, y.2.2.2.2.2.2.2.2.2.2.2.2.2.2.1, y.2.2.2.2.2.2.2.2.2.2.2.2.2.2.2.1, y.2.2.2.2.2.2.2.2.2.2.2.2.2.2.2.2.1, y.2.2.2.2.2.2.2.2.2.2.2.2.2.2.2.2.2.1, y.2.2.2.2.2.2.2.2.2.2.2.2.2.2.2.2.2.2.1, y.2.2.2.2.2.2.2.2.2.2.2.2.2.2.2.2.2.2.2.1, y.2.2.2.2.2.2.2.2.2.2.2.2.2.2.2.2.2.2.2.2.1, y.2.2.2.2.2.2.2.2.2.2.2.2.2.2.2.2.2.2.2.2.2.1, y.2.2.2.2.2.2.2.2.2.2.2.2.2.2.2.2.2.2.2.2.2.2.1, y.2.2.2.2.2.2.2.2.2.2.2.2.2.2.2.2.2.2.2.2.2.2.2.1, y.2.2.2.2.2.2.2.2.2.2.2.2.2.2.2.2.2.2.2.2.2.2.2.2.1, y.2.2.2.2.2.2.2.2.2.2.2.2.2.2.2.2.2.2.2.2.2.2.2.2.2.1, y.2.2.2.2.2.2.2.2.2.2.2.2.2.2.2.2.2.2.2.2.2.2.2.2.2.2.1, y.2.2.2.2.2.2.2.2.2.2.2.2.2.2.2.2.2.2.2.2.2.2.2.2.2.2.2.1, y.2.2.2.2.2.2.2.2.2.2.2.2.2.2.2.2.2.2.2.2.2.2.2.2.2.2.2.2.1, y.2.2.2.2.2.2.2.2.2.2.2.2.2.2.2.2.2.2.2.2.2.2.2.2.2.2.2.2.2.1, y.2.2.2.2.2.2.2.2.2.2.2.2.2.2.2.2.2.2.2.2.2.2.2.2.2.2.2.2.2.2.1, y.2.2.2.2.2.2.2.2.2.2.2.2.2.2.2.2.2.2.2.2.2.2.2.2.2.2.2.2.2.2.2.1, y.2.2.2.2.2.2.2.2.2.2.2.2.2.2.2.2.2.2.2.2.2.2.2.2.2.2.2.2.2.2.2.2.1, y.2.2.2.2.2.2.2.2.2.2.2.2.2.2.2.2.2.2.2.2.2.2.2.2.2.2.2.2.2.2.2.2.2.1, y.2.2.2.2.2.2.2.2.2.2.2.2.2.2.2.2.2.2.2.2.2.2.2.2.2.2.2.2.2.2.2.2.2.2.1, y.2.2.2.2.2.2.2.2.2.2.2.2.2.2.2.2.2.2.2.2.2.2.2.2.2.2.2.2.2.2.2.2.2.2.2.1, y.2.2.2.2.2.2.2.2.2.2.2.2.2.2.2.2.2.2.2.2.2.2.2.2.2.2.2.2.2.2.2.2.2.2.2.2.1, y.2.2.2.2.2.2.2.2.2.2.2.2.2.2.2.2.2.2.2.2.2.2.2.2.2.2.2.2.2.2.2.2.2.2.2.2.2.1, y.2.2.2.2.2.2.2.2.2.2.2.2.2.2.2.2.2.2.2.2.2.2.2.2.2.2.2.2.2.2.2.2.2.2.2.2.2.2.1, y.2.2.2.2.2.2.2.2.2.2.2.2.2.2.2.2.2.2.2.2.2.2.2.2.2.2.2.2.2.2.2.2.2.2.2.2.2.2.2.1, y.2.2.2.2.2.2.2.2.2.2.2.2.2.2.2.2.2.2.2.2.2.2.2.2.2.2.2.2.2.2.2.2.2.2.2.2.2.2.2.2.1, y.2.2.2.2.2.2.2.2.2.2.2.2.2.2.2.2.2.2.2.2.2.2.2.2.2.2.2.2.2.2.2.2.2.2.2.2.2.2.2.2.2.1, y.2.2.2.2.2.2.2.2.2.2.2.2.2.2.2.2.2.2.2.2.2.2.2.2.2.2.2.2.2.2.2.2.2.2.2.2.2.2.2.2.2.2.1, y.2.2.2.2.2.2.2.2.2.2.2.2.2.2.2.2.2.2.2.2.2.2.2.2.2.2.2.2.2.2.2.2.2.2.2.2.2.2.2.2.2.2.2.1, y.2.2.2.2.2.2.2.2.2.2.2.2.2.2.2.2.2.2.2.2.2.2.2.2.2.2.2.2.2.2.2.2.2.2.2.2.2.2.2.2.2.2.2.2.1, y.2.2.2.2.2.2.2.2.2.2.2.2.2.2.2.2.2.2.2.2.2.2.2.2.2.2.2.2.2.2.2.2.2.2.2.2.2.2.2.2.2.2.2.2.2.1, y.2.2.2.2.2.2.2.2.2.2.2.2.2.2.2.2.2.2.2.2.2.2.2.2.2.2.2.2.2.2.2.2.2.2.2.2.2.2.2.2.2.2.2.2.2.2.1, y.2.2.2.2.2.2.2.2.2.2.2.2.2.2.2.2.2.2.2.2.2.2.2.2.2.2.2.2.2.2.2.2.2.2.2.2.2.2.2.2.2.2.2.2.2.2.2.1, y.2.2.2.2.2.2.2.2.2.2.2.2.2.2.2.2.2.2.2.2.2.2.2.2.2.2.2.2.2.2.2.2.2.2.2.2.2.2.2.2.2.2.2.2.2.2.2.2.1, y.2.2.2.2.2.2.2.2.2.2.2.2.2.2.2.2.2.2.2.2.2.2.2.2.2.2.2.2.2.2.2.2.2.2.2.2.2.2.2.2.2.2.2.2.2.2.2.2.2.1, y.2.2.2.2.2.2.2.2.2.2.2.2.2.2.2.2.2.2.2.2.2.2.2.2.2.2.2.2.2.2.2.2.2.2.2.2.2.2.2.2.2.2.2.2.2.2.2.2.2.2.1, y.2.2.2.2.2.2.2.2.2.2.2.2.2.2.2.2.2.2.2.2.2.2.2.2.2.2.2.2.2.2.2.2.2.2.2.2.2.2.2.2.2.2.2.2.2.2.2.2.2.2.2.1, y.2.2.2.2.2.2.2.2.2.2.2.2.2.2.2.2.2.2.2.2.2.2.2.2.2.2.2.2.2.2.2.2.2.2.2.2.2.2.2.2.2.2.2.2.2.2.2.2.2.2.2.2.1, y.2.2.2.2.2.2.2.2.2.2.2.2.2.2.2.2.2.2.2.2.2.2.2.2.2.2.2.2.2.2.2.2.2.2.2.2.2.2.2.2.2.2.2.2.2.2.2.2.2.2.2.2.2.1, y.2.2.2.2.2.2.2.2.2.2.2.2.2.2.2.2.2.2.2.2.2.2.2.2.2.2.2.2.2.2.2.2.2.2.2.2.2.2.2.2.2.2.2.2.2.2.2.2.2.2.2.2.2.2.1, y.2.2.2.2.2.2.2.2.2.2.2.2.2.2.2.2.2.2.2.2.2.2.2.2.2.2.2.2.2.2.2.2.2.2.2.2.2.2.2.2.2.2.2.2.2.2.2.2.2.2.2.2.2.2.2.1, y.2.2.2.2.2.2.2.2.2.2.2.2.2.2.2.2.2.2.2.2.2.2.2.2.2.2.2.2.2.2.2.2.2.2.2.2.2.2.2.2.2.2.2.2.2.2.2.2.2.2.2.2.2.2.2.2.1, y.2.2.2.2.2.2.2.2.2.2.2.2.2.2.2.2.2.2.2.2.2.2.2.2.2.2.2.2.2.2.2.2.2.2.2.2.2.2.2.2.2.2.2.2.2.2.2.2.2.2.2.2.2.2.2.2.2.1, y.2.2.2.2.2.2.2.2.2.2.2.2.2.2.2.2.2.2.2.2.2.2.2.2.2.2.2.2.2.2.2.2.2.2.2.2.2.2.2.2.2.2.2.2.2.2.2.2.2.2.2.2.2.2.2.2.2.2.1, y.2.2.2.2.2.2.2.2.2.2.2.2.2.2.2.2.2.2.2.2.2.2.2.2.2.2.2.2.2.2.2.2.2.2.2.2.2.2.2.2.2.2.2.2.2.2.2.2.2.2.2.2.2.2.2.2.2.2.2.1, y.2.2.2.2.2.2.2.2.2.2.2.2.2.2.2.2.2.2.2.2.2.2.2.2.2.2.2.2.2.2.2.2.2.2.2.2.2.2.2.2.2.2.2.2.2.2.2.2.2.2.2.2.2.2.2.2.2.2.2.2.1, y.2.2.2.2.2.2.2.2.2.2.2.2.2.2.2.2.2.2.2.2.2.2.2.2.2.2.2.2.2.2.2.2.2.2.2.2.2.2.2.2.2.2.2.2.2.2.2.2.2.2.2.2.2.2.2.2.2.2.2.2.2.1, y.2.2.2.2.2.2.2.2.2.2.2.2.2.2.2.2.2.2.2.2.2.2.2.2.2.2.2.2.2.2.2.2.2.2.2.2.2.2.2.2.2.2.2.2.2.2.2.2.2.2.2.2.2.2.2.2.2.2.2.2.2.2.1, y.2.2.2.2.2.2.2.2.2.2.2.2.2.2.2.2.2.2.2.2.2.2.2.2.2.2.2.2.2.2.2.2.2.2.2.2.2.2.2.2.2.2.2.2.2.2.2.2.2.2.2.2.2.2.2.2.2.2.2.2.2.2.2]
def tup64f (f : Nat → Int) : A64u32 := (f 0, (f 1, (f 2, (f 3, (f 4, (f 5, (f 6, (f 7, (f 8, (f 9, (f 10, (f 11, (f 12, (f 13, (f 14, (f 15, (f 16, (f 17, (f 18, (f 19, (f 20, (f 21, (f 22, (f 23, (f 24, (f 25, (f 26, (f 27, (f 28, (f 29, (f 30, (f 31, (f 32, (f 33, (f 34, (f 35, (f 36, (f 37, (f 38, (f 39, (f 40, (f 41, (f 42, (f 43, (f 44, (f 45, (f 46, (f 47, (f 48, (f 49, (f 50, (f 51, (f 52, (f 53, (f 54, (f 55, (f 56, (f 57, (f 58, (f 59, (f 60, (f 61, (f 62, f 63)))))))))))))))))))))))))))))))))))))))))))))))))))))))))))))))
def tup64 (r : List Int) : A64u32 := tup64f fun i => r.getD i 0
theorem tl_tupf (f : Nat → Int) : tl64 (tup64f f) = ([0, 1, 2, 3, 4, 5, 6, 7, 8, 9, 10, 11, 12, 13, 14, 15, 16, 17, 18, 19, 20, 21, 22, 23, 24, 25, 26, 27, 28, 29, 30, 31, 32, 33, 34, 35, 36, 37, 38, 39, 40, 41, 42, 43, 44, 45, 46, 47, 48, 49, 50, 51, 52, 53, 54, 55, 56, 57, 58, 59, 60, 61, 62, 63] : List Nat).map f := by kernel_rfl
theorem tl_tup {r : List Int} (h : r.length = 64) : tl64 (tup64 r) = r := by
  have e : tl64 (tup64 r) = ([0, 1, 2, 3, 4, 5, 6, 7, 8, 9, 10, 11, 12, 13, 14, 15, 16, 17, 18, 19, 20, 21, 22, 23, 24, 25, 26, 27, 28, 29, 30, 31, 32, 33, 34, 35, 36, 37, 38, 39, 40, 41, 42, 43, 44, 45, 46, 47, 48, 49, 50, 51, 52, 53, 54, 55, 56, 57, 58, 59, 60, 61, 62, 63] : List Nat).map (fun i => r.getD i (0 : Int)) := tl_tupf _
  have e2 : ([0, 1, 2, 3, 4, 5, 6, 7, 8, 9, 10, 11, 12, 13, 14, 15, 16, 17, 18, 19, 20, 21, 22, 23, 24, 25, 26, 27, 28, 29, 30, 31, 32, 33, 34, 35, 36, 37, 38, 39, 40, 41, 42, 43, 44, 45, 46, 47, 48, 49, 50, 51, 52, 53, 54, 55, 56, 57, 58, 59, 60, 61, 62, 63] : List Nat) = List.range 64 := by decide +kernel
  rw [e, e2]
  apply List.ext_getElem
  · rw [List.length_map, List.length_range, h]
  · intro i h1 h2
    rw [List.getElem_map, List.getElem_range, getD_lt _ _ _ h2]
theorem PW_zero (x : Str) : PW x 0 = List.replicate 64 0 := by unfold PW WL; rfl
theorem spread_run (x : Str) (hx : x.length = 64) : (sha_spread_T (strI x)).run = some (tup64 (cst (WL x 64))) := by
  have hs : ∀ t : Nat, t < 64 → ∀ c : A64u32, (sha_spread_L3_step (strI x) c (t : Int) (PW x t)).run = some (.inl (((t + 1 : Nat) : Int), PW x (t + 1))) := by
    intro t ht c
    rw [← PW_set x ht]
    rcases Nat.lt_or_ge t 16 with h | h
    · refine (spread_lo x c t _ hx h (PW_len x (by omega))).trans ?_
      rw [show nextW x (WL x t) t = be4 x (4 * t) from if_pos h]
    · refine (spread_hi (strI x) c t _ h ht (PW_len x (by omega)) (WL_lt x t _) (WL_lt x t _) (PW_get x (by omega)) (PW_get x (by omega)) (PW_get x (by omega)) (PW_get x (by omega))).trans ?_
      rw [show nextW x (WL x t) t = _ from if_neg (by omega)]
  have h64 : PW x 64 = cst (WL x 64) := by unfold PW; rw [Nat.sub_self, List.replicate_zero, List.append_nil]
  unfold sha_spread_T
  refine (run_bnd (a := PW x 64) (loop_run (loopF_run (S := fun t => ((t : Int), PW x t)) (n := 64) (fun t ht => hs t ht _) ?_ (by rw [PW_zero]; rfl)))).trans ?_
  · show (sha_spread_L3_step _ _ _ _).run = _
    unfold sha_spread_L3_step
    exact run_f (decide_eq_false (by omega))
  refine (run_ask (ble_in (by rw [PW_len x (by omega)]; omega))).trans ?_
  rw [h64]
  rfl

end Go.Eng

