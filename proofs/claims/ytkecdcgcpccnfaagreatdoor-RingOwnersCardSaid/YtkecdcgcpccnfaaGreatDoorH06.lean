/- SHA-256 of texts: the program's and the document's are the same. -/
import Derived.Test.YtkecdcgcpccnfaaGreatDoorH05
namespace Go.Eng
open Go Go.Proofs

/-- A text behind its length; texts behind their number. -/
def txt (x : Str) : Str := c4 x.length ++ x
def textsB (l : List Str) : Str := (l.map txt).flatten
def textsS (l : List Str) : Str := c4 l.length ++ textsB l
theorem txt_len (x : Str) : (txt x).length = 4 + x.length := by unfold txt; rw [List.length_append, c4_len]
theorem textsB_snoc {l : List Str} {i : Nat} (h : i < l.length) : textsB (l.take (i + 1)) = textsB (l.take i) ++ txt l[i] := by
  unfold textsB
  rw [List.take_succ_eq_append_getElem h, List.map_append, List.flatten_append]
  simp
theorem textsB_le (l : List Str) (i : Nat) : (textsB (l.take i)).length ≤ (textsB l).length := by
  have h : textsB l = textsB (l.take i) ++ textsB (l.drop i) := by
    unfold textsB; rw [← List.flatten_append, ← List.map_append, List.take_append_drop]
  rw [h, List.length_append]; omega
theorem textsB_mem (l : List Str) (i : Nat) (h : i < l.length) : (textsB (l.take i)).length + (4 + l[i].length) ≤ (textsB l).length := by
  have := textsB_le l (i + 1)
  rw [textsB_snoc h, List.length_append, txt_len] at this
  exact this
theorem textsS_len (l : List Str) : (textsS l).length = 4 + (textsB l).length := by unfold textsS; rw [List.length_append, c4_len]
theorem textsB_all (l : List Str) : textsB (l.take l.length) = textsB l := by rw [List.take_of_length_le (Nat.le_refl _)]
theorem len_textsB (l : List Str) : l.length ≤ (textsB l).length := by
  induction l with
  | nil => exact Nat.le_refl _
  | cons x l ih =>
    have : textsB (x :: l) = txt x ++ textsB l := rfl
    rw [this, List.length_append, txt_len, List.length_cons]; omega

theorem str_w (x s : Str) (h : s.length + x.length ≤ 900000) : (strings_Builder_WriteString_T x (strI s)).run = some (((x.length : Int), ((), ())), (((), ((), ())), (strI (s ++ x), ()))) := by
  unfold strings_Builder_WriteString_T strings_Builder_copyCheck_T
  refine (run_bnd rfl).trans ?_
  refine (run_ask (room_le _ _ (by show (strI s ++ strI x).length ≤ _; rw [List.length_append, strI_len, strI_len]; omega) (by omega))).trans ?_
  rw [strI_app]; rfl
theorem text_w (x s : Str) (h : s.length + x.length ≤ 800000) : (octet_Writer_Text_T x (strI s)).run = some ((), (((), ((), ())), (strI (s ++ txt x), ()))) := by
  unfold octet_Writer_Text_T
  refine (run_bnd (count_w (by omega) s (by omega))).trans ?_
  refine (run_t rfl).trans ?_
  refine (run_bnd (str_w x (s ++ c4 x.length) (by rw [List.length_append, c4_len]; omega))).trans ?_
  unfold txt
  rw [← List.append_assoc]; rfl
theorem texts_w (l : List Str) (s : Str) (h : s.length + (textsB l).length ≤ 700000) : (octet_Writer_Texts_T l (strI s)).run = some ((), (((), ((), ())), (strI (s ++ textsS l), ()))) := by
  have hl : l.length ≤ (textsB l).length := len_textsB l
  have step : ∀ i, i < l.length → (octet_Writer_Texts_L2_step l (l.length : Int) (i : Int) (strI (s ++ c4 l.length ++ textsB (l.take i)))).run = some (.inl (((i + 1 : Nat) : Int), strI (s ++ c4 l.length ++ textsB (l.take (i + 1))))) := by
    intro i hi
    have hm := textsB_mem l i hi
    unfold octet_Writer_Texts_L2_step
    refine (run_t (decide_eq_true (by omega))).trans ?_
    refine (run_ask (inb_in (by omega))).trans ?_
    have e : l.getD (i : Int).toNat ([] : Str) = l[i] := by rw [Int.toNat_natCast, getD_lt _ _ _ hi]
    rw [e]
    refine (run_bnd (text_w l[i] _ (by rw [List.length_append, List.length_append, c4_len]; omega))).trans ?_
    rw [w64_nat i (by omega), textsB_snoc hi, ← List.append_assoc]; rfl
  unfold octet_Writer_Texts_T
  refine (run_bnd (count_w (by omega) s (by omega))).trans ?_
  refine (run_bnd (loop_run (loopF_run (a := strI (s ++ textsS l)) (S := fun i => ((i : Int), strI (s ++ c4 l.length ++ textsB (l.take i)))) (n := l.length) step ?_ ?_))).trans rfl
  · show (octet_Writer_Texts_L2_step _ _ _ _).run = _
    unfold octet_Writer_Texts_L2_step
    rw [textsB_all, List.append_assoc]
    exact run_f (decide_eq_false (by omega))
  · show _ = (((0 : Nat) : Int), strI (s ++ c4 l.length ++ []))
    rw [List.append_nil]; rfl
theorem text_r (x : Str) (h : x.length ≤ 800000) : (r01_Text_T x).run = some (txt x) := by
  unfold r01_Text_T
  refine (run_bnd (count_r (by omega))).trans ?_
  exact run_ask (decide_eq_true (by rw [c4_len]; omega))
theorem texts_r (l : List Str) (h : (textsB l).length ≤ 700000) : (r01_Texts_T l).run = some (textsS l) := by
  have hl : l.length ≤ (textsB l).length := len_textsB l
  have step : ∀ i, i < l.length → (r01_Texts_L3_step l (c4 l.length ++ textsB (l.take i)) (i : Int)).run = some (.inl (c4 l.length ++ textsB (l.take (i + 1)), ((i + 1 : Nat) : Int))) := by
    intro i hi
    have hm := textsB_mem l i hi
    unfold r01_Texts_L3_step
    refine (run_t (decide_eq_true (by omega))).trans ?_
    refine (run_ask (inb_in (by omega))).trans ?_
    have e : l.getD (i : Int).toNat ([] : Str) = l[i] := by rw [Int.toNat_natCast, getD_lt _ _ _ hi]
    rw [e]
    refine (run_bnd (text_r l[i] (by omega))).trans ?_
    refine (run_ask (decide_eq_true (by rw [List.length_append, c4_len, txt_len]; omega))).trans ?_
    rw [w64_nat i (by omega), textsB_snoc hi, ← List.append_assoc]; rfl
  unfold r01_Texts_T
  refine (run_bnd (count_r (by omega))).trans ?_
  refine (run_bnd (loop_run (loopF_run (a := textsS l) (S := fun i => (c4 l.length ++ textsB (l.take i), (i : Int))) (n := l.length) step ?_ ?_))).trans rfl
  · show (r01_Texts_L3_step _ _ _).run = _
    unfold r01_Texts_L3_step
    rw [textsB_all]
    exact run_f (decide_eq_false (by omega))
  · show _ = (c4 l.length ++ [], ((0 : Nat) : Int))
    rw [List.append_nil]; rfl
theorem of_run (l : List Str) (h : (textsB l).length ≤ 700000) : (sha_Of_T l).run = some (shaN (textsS l)) := by
  unfold sha_Of_T
  refine (run_bnd (texts_w l ([] : Str) (by show 0 + _ ≤ _; omega))).trans ?_
  refine (run_bnd (bytes_w (by rw [List.nil_append, textsS_len]; omega))).trans ?_
  refine (run_bnd (show (sha_Sum_T (([] : Str) ++ textsS l)).run = some (shaN (textsS l)) from by rw [List.nil_append]; exact sum_run _ (by rw [textsS_len]; omega))).trans rfl
theorem rof_run (l : List Str) (h : (textsB l).length ≤ 700000) : (r02_Of_T l).run = some (shaN (textsS l)) := by
  unfold r02_Of_T
  refine (run_bnd (texts_r l h)).trans ?_
  exact (run_bnd (rsum_run _ (by rw [textsS_len]; omega))).trans rfl

/-! A number read back. -/
theorem or_chain (c0 c1 c2 c3 : Nat) : ((c0 * 2 ^ 8 ||| c1) * 2 ^ 8 ||| c2) * 2 ^ 8 ||| c3 = or4N c0 c1 c2 c3 := by
  unfold or4N
  simp only [← Nat.shiftLeft_eq, Nat.shiftLeft_or_distrib, ← Nat.shiftLeft_add]
theorem num_step (n c : Nat) (t : Int) (r : Octet_Reader) (rows : List Int) (i : Nat) (hn : n < 16777216) (hc : c < 256) (ht : (i : Int) < t) (hi : i < rows.length) (h1 : i < 1000) (g : rows.getD i 0 = (c : Int)) :
    (octet_Reader_number_L3_step t r rows (n : Int) (i : Int)).run = some (.inl (((n * 2 ^ 8 ||| c : Nat) : Int), ((i + 1 : Nat) : Int))) := by
  unfold octet_Reader_number_L3_step
  simp only [Int.toNat_natCast]
  rw [g]
  refine (run_t (decide_eq_true ht)).trans ?_
  refine (run_ask (inb_in (by omega))).trans ?_
  refine (run_ask rfl).trans ?_
  have e : stdShift .shl .i64 (n : Int) 8 = ((n * 2 ^ 8 : Nat) : Int) := shl64 (s := 8) (by omega) (by omega)
  rw [e, w64N (show c < 9223372036854775808 by omega), or64 (by omega) (by omega), w64_nat i (by omega)]
  rfl
theorem loop_go {σ α : Type} {st : σ → Option (σ ⊕ α)} {s s' : σ} (h : st s = some (.inl s')) : loopF st s = loopF st s' := by rw [loopF_eq, h]; rfl
theorem loop_stop {σ α : Type} {st : σ → Option (σ ⊕ α)} {s : σ} {a : α} (h : st s = some (.inr a)) : loopF st s = some a := by rw [loopF_eq, h]; rfl
theorem or8_lt {n c k : Nat} (hn : n < 2 ^ k) (hc : c < 256) : n * 2 ^ 8 ||| c < 2 ^ (k + 8) :=
  Nat.or_lt_two_pow (by rw [Nat.pow_add]; exact Nat.mul_lt_mul_of_pos_right hn (by decide)) (Nat.lt_of_lt_of_le hc (Nat.le_trans (by decide : 256 ≤ 2 ^ 8) (Nat.pow_le_pow_right (by decide) (by omega))))
theorem number_run (x : Str) (h : 4 ≤ x.length) : (octet_Reader_number_T 4 (x, true)).run = some (((be4 x 0 : Nat) : Int), (((x.drop 4, true), ()), ())) := by
  have h4 : (x.take 4).length = 4 := by rw [List.length_take]; omega
  have hg : ∀ i, i < 4 → (strI (x.take 4)).getD i 0 = ((byN x i : Nat) : Int) := by
    intro i hi
    rw [strI_by (by omega)]
    unfold byN
    rw [getD_lt _ _ _ (show i < (x.take 4).length by omega), getD_lt _ _ _ (show i < x.length by omega), List.getElem_take]
  have ht : (octet_Reader_take_T 4 (x, true)).run = some (x.take 4, (((x.drop 4, true), ()), ())) := by
    unfold octet_Reader_take_T
    refine (run_f (by show (false || decide ((x.length : Int) < 4)) = false; rw [decide_eq_false (by omega)]; rfl)).trans ?_
    refine (run_ask (decide_eq_true (show (0 : Int) ≤ 4 ∧ (4 : Int) ≤ (x.length : Int) by omega))).trans ?_
    refine (run_ask (decide_eq_true (show (0 : Int) ≤ 4 ∧ (4 : Int) ≤ (x.length : Int) by omega))).trans ?_
    have e : (x.drop 4).take (x.length - 4) = x.drop 4 := List.take_of_length_le (by rw [List.length_drop]; omega)
    show some (x.take 4, ((((x.drop 4).take (x.length - 4), true), ()), ())) = _
    rw [e]
  have hl : (strI (x.take 4)).length = 4 := by rw [strI_len, h4]
  have b0 := byN_lt x 0
  have b1 := byN_lt x 1
  have b2 := byN_lt x 2
  have b3 := byN_lt x 3
  have n1 := or8_lt (n := 0) (k := 0) (by decide) b0
  have n2 := or8_lt n1 b1
  have n3 := or8_lt n2 b2
  unfold octet_Reader_number_T
  refine (run_bnd ht).trans ?_
  refine (run_bnd (a := ((be4 x 0 : Nat) : Int)) (loop_run ?_)).trans rfl
  show loopF (fun v => (octet_Reader_number_L3_step ((strI (x.take 4)).length : Int) (x.drop 4, true) (strI (x.take 4)) v.1 v.2).run) (((0 : Nat) : Int), ((0 : Nat) : Int)) = _
  refine (loop_go (num_step 0 (byN x 0) _ _ _ 0 (by omega) b0 (by omega) (by omega) (by omega) (hg 0 (by omega)))).trans ?_
  refine (loop_go (num_step _ (byN x 1) _ _ _ 1 (Nat.lt_of_lt_of_le n1 (by decide)) b1 (by omega) (by omega) (by omega) (hg 1 (by omega)))).trans ?_
  refine (loop_go (num_step _ (byN x 2) _ _ _ 2 (Nat.lt_of_lt_of_le n2 (by decide)) b2 (by omega) (by omega) (by omega) (hg 2 (by omega)))).trans ?_
  refine (loop_go (num_step _ (byN x 3) _ _ _ 3 (Nat.lt_of_lt_of_le n3 (by decide)) b3 (by omega) (by omega) (by omega) (hg 3 (by omega)))).trans ?_
  refine loop_stop ?_
  unfold octet_Reader_number_L3_step
  refine (run_f (decide_eq_false (by rw [hl]; omega))).trans ?_
  have e : (0 * 2 ^ 8 ||| byN x 0) = byN x 0 := by rw [Nat.zero_mul, Nat.zero_or]
  show some (Sum.inr ((((((0 * 2 ^ 8 ||| byN x 0) * 2 ^ 8 ||| byN x 1) * 2 ^ 8 ||| byN x 2) * 2 ^ 8 ||| byN x 3 : Nat)) : Int)) = _
  rw [e, or_chain]; rfl
theorem rcount_run (x : Str) (h : 4 ≤ x.length) : (octet_Reader_Count_T 4294967295 (x, true)).run = some (((be4 x 0 : Nat) : Int), (((x.drop 4, true), ()), ())) := by
  have := be4_lt x 0
  unfold octet_Reader_Count_T
  refine (run_bnd (number_run x h)).trans ?_
  exact run_f (decide_eq_false (by show ¬ (4294967295 : Int) < _; omega))
end Go.Eng

