/- SHA-256: the 64 words of a block, of the document. -/
import Derived.Test.YteoafkipoapjlaaGreatDoorH03
namespace Go.Eng
open Go Go.Proofs
theorem words_lo (x : Str) (t : Nat) (w : List Int) (hx : x.length = 64) (ht : t < 16) (hw : w.length = t) :
    (r02_words_L3_step x (t : Int) w).run = some (.inl (((t + 1 : Nat) : Int), w ++ [((be4 x (4 * t) : Nat) : Int)])) := by
  have e0 := ix4 ht
  have e1 : w64 (((4 * t : Nat) : Int) + 1) = ((4 * t + 1 : Nat) : Int) := ixp (by omega) 1 (by omega)
  have e2 : w64 (((4 * t : Nat) : Int) + 2) = ((4 * t + 2 : Nat) : Int) := ixp (by omega) 2 (by omega)
  have e3 : w64 (((4 * t : Nat) : Int) + 3) = ((4 * t + 3 : Nat) : Int) := ixp (by omega) 3 (by omega)
  have es : ∀ i : Nat, sgetI x (i : Int) = ((byN x i : Nat) : Int) := fun i => rfl
  unfold r02_words_L3_step
  rw [e0, e1, e2, e3, hx]
  rw [es, es, es, es, or4N_i64 (byN_lt _ _) (byN_lt _ _) (byN_lt _ _) (byN_lt _ _), w64_nat t (by omega)]
  refine (run_t (decide_eq_true (by omega))).trans ?_
  refine (run_ask (inb_in (by omega))).trans ?_
  refine (run_ask rfl).trans ?_
  refine (run_ask (inb_in (by omega))).trans ?_
  refine (run_ask rfl).trans ?_
  refine (run_ask (inb_in (by omega))).trans ?_
  refine (run_ask rfl).trans ?_
  refine (run_ask (inb_in (by omega))).trans ?_
  refine (run_ask (room_le _ _ (by rw [List.length_append, hw]; show t + 1 ≤ _; omega) (by omega))).trans ?_
  rfl
theorem words_hi (t : Nat) (w : List Int) (h1 : 16 ≤ t) (ht : t < 64) (hw : w.length = t) {w2 w7 w15 w16 : Nat} (k2 : w2 < 4294967296) (k7 : w7 < 4294967296) (k15 : w15 < 4294967296) (k16 : w16 < 4294967296)
    (g2 : w.getD (t - 2) 0 = (w2 : Int)) (g7 : w.getD (t - 7) 0 = (w7 : Int)) (g15 : w.getD (t - 15) 0 = (w15 : Int)) (g16 : w.getD (t - 16) 0 = (w16 : Int)) :
    (r02_words_L7_step (t : Int) w).run = some (.inl (((t + 1 : Nat) : Int), w ++ [(((smallN w2 17 19 10 + w7 + smallN w15 7 18 3 + w16) % 4294967296 : Nat) : Int)])) := by
  have e2 : w64 ((t : Int) - 2) = ((t - 2 : Nat) : Int) := ixm (k := 2) (by omega) (by omega)
  have e7 : w64 ((t : Int) - 7) = ((t - 7 : Nat) : Int) := ixm (k := 7) (by omega) (by omega)
  have e15 : w64 ((t : Int) - 15) = ((t - 15 : Nat) : Int) := ixm (k := 15) (by omega) (by omega)
  have e16 : w64 ((t : Int) - 16) = ((t - 16 : Nat) : Int) := ixm (k := 16) (by omega) (by omega)
  have s10 : stdShift .shr .i64 (w2 : Int) 10 = ((w2 / 2 ^ 10 : Nat) : Int) := shr64 (s := 10) (by omega)
  have s3 : stdShift .shr .i64 (w15 : Int) 3 = ((w15 / 2 ^ 3 : Nat) : Int) := shr64 (s := 3) (by omega)
  have small : ∀ {z : Nat}, z < 4294967296 → z < 9223372036854775808 := fun h => by omega
  have hx : ∀ {a b : Nat}, a < 4294967296 → b < 4294967296 → a ^^^ b < 4294967296 := fun ha hb => Nat.xor_lt_two_pow (n := 32) ha hb
  have d10 : w2 / 2 ^ 10 < 4294967296 := Nat.lt_of_le_of_lt (Nat.div_le_self _ _) k2
  have d3 : w15 / 2 ^ 3 < 4294967296 := Nat.lt_of_le_of_lt (Nat.div_le_self _ _) k15
  unfold r02_words_L7_step
  rw [e2, e7, e15, e16]
  simp only [Int.toNat_natCast]
  rw [g2, g7, g15, g16]
  refine (run_t (decide_eq_true (by omega))).trans ?_
  refine (run_ask (inb_in (by omega))).trans ?_
  refine (run_ask (inb_in (by omega))).trans ?_
  refine (run_bnd (turn_run (a := 7) k15 (by omega) (by omega))).trans ?_
  refine (run_bnd (turn_run (a := 18) k15 (by omega) (by omega))).trans ?_
  refine (run_ask rfl).trans ?_
  refine (run_bnd (turn_run (a := 17) k2 (by omega) (by omega))).trans ?_
  refine (run_bnd (turn_run (a := 19) k2 (by omega) (by omega))).trans ?_
  refine (run_ask rfl).trans ?_
  refine (run_ask (inb_in (by omega))).trans ?_
  refine (run_ask (inb_in (by omega))).trans ?_
  have r17 := rotN_lt 17 k2
  have r19 := rotN_lt 19 k2
  have r7 := rotN_lt 7 k15
  have r18 := rotN_lt 18 k15
  have b1 := smallN_lt 17 19 10 k2
  have b2 := smallN_lt 7 18 3 k15
  have f1 : stdArith .xor .i64 (stdArith .xor .i64 ((rotN w2 17 : Nat) : Int) ((rotN w2 19 : Nat) : Int)) (stdShift .shr .i64 (w2 : Int) 10) = ((smallN w2 17 19 10 : Nat) : Int) := by
    rw [xor64 (small r17) (small r19), s10, xor64 (small (hx r17 r19)) (small d10)]; rfl
  have f2 : stdArith .xor .i64 (stdArith .xor .i64 ((rotN w15 7 : Nat) : Int) ((rotN w15 18 : Nat) : Int)) (stdShift .shr .i64 (w15 : Int) 3) = ((smallN w15 7 18 3 : Nat) : Int) := by
    rw [xor64 (small r7) (small r18), s3, xor64 (small (hx r7 r18)) (small d3)]; rfl
  simp only [f1, f2]
  clear f1 f2 s10 s3 d10 d3 r17 r19 r7 r18
  generalize smallN w2 17 19 10 = u at b1 ⊢
  generalize smallN w15 7 18 3 = v at b2 ⊢
  have q1 : w64 ((u : Int) + (w7 : Int)) = ((u + w7 : Nat) : Int) := add64 (by omega)
  have q2 : w64 (((u + w7 : Nat) : Int) + (v : Int)) = ((u + w7 + v : Nat) : Int) := add64 (by omega)
  have q3 : w64 (((u + w7 + v : Nat) : Int) + (w16 : Int)) = ((u + w7 + v + w16 : Nat) : Int) := add64 (by omega)
  rw [q1, q2, q3]
  refine (run_bnd (low_run (by omega))).trans ?_
  refine (run_ask (room_le _ _ (by rw [List.length_append, hw]; show t + 1 ≤ _; omega) (by omega))).trans ?_
  rw [w64_nat t (by omega)]
  rfl
theorem words_hi_run (x : Str) (s : Nat) (h1 : 16 ≤ s) (h : s < 64) : (r02_words_L7_step (s : Int) (cst (WL x s))).run = some (.inl (((s + 1 : Nat) : Int), cst (WL x (s + 1)))) := by
  have hl : (cst (WL x s)).length = s := by rw [cst_len, WL_len]
  refine (words_hi s _ h1 h hl (WL_lt x s (s - 2)) (WL_lt x s (s - 7)) (WL_lt x s (s - 15)) (WL_lt x s (s - 16)) (cst_get _ _) (cst_get _ _) (cst_get _ _) (cst_get _ _)).trans ?_
  rw [WL, cst_snoc, show nextW x (WL x s) s = _ from if_neg (by omega)]
theorem words_lo_run (x : Str) (hx : x.length = 64) (s : Nat) (h : s < 16) : (r02_words_L3_step x (s : Int) (cst (WL x s))).run = some (.inl (((s + 1 : Nat) : Int), cst (WL x (s + 1)))) := by
  have hl : (cst (WL x s)).length = s := by rw [cst_len, WL_len]
  refine (words_lo x s _ hx h hl).trans ?_
  rw [WL, cst_snoc, show nextW x (WL x s) s = be4 x (4 * s) from if_pos h]
theorem words_lo_end (x : Str) (w : List Int) : (r02_words_L3_step x ((16 : Nat) : Int) w).run = some (.inr w) := by
  unfold r02_words_L3_step
  exact run_f (decide_eq_false (by omega))
theorem words_hi_end (w : List Int) : (r02_words_L7_step ((64 : Nat) : Int) w).run = some (.inr w) := by
  unfold r02_words_L7_step
  exact run_f (decide_eq_false (by omega))
attribute [local irreducible] WL
theorem words_run (x : Str) (hx : x.length = 64) : (r02_words_T x).run = some (cst (WL x 64)) := by
  have l1 : loopF (fun v => (r02_words_L3_step x v.1 v.2).run) (0, ([] : List Int)) = some (cst (WL x 16)) := by
    refine loopF_run (S := fun t => ((t : Int), cst (WL x t))) (n := 16) (fun t ht => words_lo_run x hx t ht) (words_lo_end x _) (by show _ = (((0 : Nat) : Int), cst (WL x 0)); rw [WL]; rfl)
  have l2 : loopF (fun v => (r02_words_L7_step v.1 v.2).run) (16, cst (WL x 16)) = some (cst (WL x 64)) := by
    have hst : ∀ t : Nat, t < 48 → (r02_words_L7_step ((t + 16 : Nat) : Int) (cst (WL x (t + 16)))).run = some (.inl (((t + 1 + 16 : Nat) : Int), cst (WL x (t + 1 + 16)))) := by
      intro t ht
      have := words_hi_run x (t + 16) (by omega) (by omega)
      rw [show t + 16 + 1 = t + 1 + 16 by omega] at this
      exact this
    generalize WL x = f at hst ⊢
    refine loopF_run (S := fun t => (((t + 16 : Nat) : Int), cst (f (t + 16)))) (n := 48) hst (words_hi_end _) rfl
  unfold r02_words_T
  refine (run_bnd (loop_run l1)).trans ?_
  exact (run_bnd (loop_run l2)).trans rfl
end Go.Eng

