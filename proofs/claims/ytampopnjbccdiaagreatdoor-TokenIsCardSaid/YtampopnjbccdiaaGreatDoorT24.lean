/- Laws in plain Lean: t24. -/
import Derived.Test.YtampopnjbccdiaaGreatDoorK10
import Derived.Test.YtampopnjbccdiaaGreatDoorM03
namespace Go.Eng
open Go Go.Proofs Go.RowKit

/-- A reader: what is left, and whether it may go on; a bound. -/
abbrev OctR : Type := Str × Bool
abbrev TBnd : Type := Int × Int
/-! Numbers of 64 bits as bytes. -/
def u64 (n : Int) : Nat := (n % 18446744073709551616).toNat
theorem u64_lt (n : Int) : u64 n < 18446744073709551616 := by unfold u64; omega
theorem u64_nat {v : Nat} (h : v < 9223372036854775808) : u64 (v : Int) = v := by unfold u64; omega
theorem byte_shr (n : Int) (k : Nat) (hk : k < 8) : IntKind.wrap .u8 (stdShift .shr .i64 n ((8 * k : Nat) : Int)) = ((u64 n / 2 ^ (8 * k) % 256 : Nat) : Int) := by
  have e : stdShift .shr .i64 n ((8 * k : Nat) : Int) = n / (2 ^ (8 * k) : Nat) := by
    show n.fdiv (2 ^ (min ((8 * k : Nat) : Int).toNat 64)) = _
    rw [Int.toNat_natCast, Nat.min_eq_left (by omega), pow2N, Int.fdiv_eq_ediv_of_nonneg _ (Int.natCast_nonneg _)]
  rw [e, IntKind.wrap_u8]
  unfold u64
  match k, hk with
  | 0, _ => show n / ((1 : Nat) : Int) % 256 = (((n % 18446744073709551616).toNat / 1 % 256 : Nat) : Int); omega
  | 1, _ => show n / ((256 : Nat) : Int) % 256 = (((n % 18446744073709551616).toNat / 256 % 256 : Nat) : Int); omega
  | 2, _ => show n / ((65536 : Nat) : Int) % 256 = (((n % 18446744073709551616).toNat / 65536 % 256 : Nat) : Int); omega
  | 3, _ => show n / ((16777216 : Nat) : Int) % 256 = (((n % 18446744073709551616).toNat / 16777216 % 256 : Nat) : Int); omega
  | 4, _ => show n / ((4294967296 : Nat) : Int) % 256 = (((n % 18446744073709551616).toNat / 4294967296 % 256 : Nat) : Int); omega
  | 5, _ => show n / ((1099511627776 : Nat) : Int) % 256 = (((n % 18446744073709551616).toNat / 1099511627776 % 256 : Nat) : Int); omega
  | 6, _ => show n / ((281474976710656 : Nat) : Int) % 256 = (((n % 18446744073709551616).toNat / 281474976710656 % 256 : Nat) : Int); omega
  | 7, _ => show n / ((72057594037927936 : Nat) : Int) % 256 = (((n % 18446744073709551616).toNat / 72057594037927936 % 256 : Nat) : Int); omega

/-! What a claim's writer writes. -/
theorem lowc_step (n : Int) (m i : Nat) (hm : m ≤ 8) (hi : i < m) (rows : List Int) (hr : rows.length ≤ 900000) :
    (octet_Writer_low__L2_step n ((m - 1 - i : Nat) : Int) rows).run = some (.inl (w64 (((m - 1 - i : Nat) : Int) - 1), rows ++ [((u64 n / 2 ^ (8 * (m - 1 - i)) % 256 : Nat) : Int)])) := by
  have e : w64 ((8 : Int) * ((m - 1 - i : Nat) : Int)) = ((8 * (m - 1 - i) : Nat) : Int) := by rw [w64_same (by omega) (by omega)]; omega
  unfold octet_Writer_low__L2_step
  rw [e, byte_shr n (m - 1 - i) (by omega)]
  refine (run_t (decide_eq_true (by omega))).trans ?_
  refine (run_ask (decide_eq_true (by omega))).trans ?_
  refine (run_bnd (a := ((), (((), ((), ())), ((rows ++ [((u64 n / 2 ^ (8 * (m - 1 - i)) % 256 : Nat) : Int)]), ())))) ?_).trans rfl
  unfold strings_Builder_WriteByte__T strings_Builder_copyCheck__T
  refine (run_bnd rfl).trans ?_
  exact run_ask (room_le _ _ (by rw [List.length_append]; show rows.length + 1 ≤ _; omega) (by omega))
theorem lowc_loop (n : Int) (m : Nat) (hm : m ≤ 8) (h0 : 0 < m) (rows : List Int) (hr : rows.length ≤ 890000) :
    loopF (fun x => (octet_Writer_low__L2_step n x.1 x.2).run) (w64 ((m : Int) - 1), rows) = some (rows ++ cst (beP m (u64 n) m)) := by
  refine loopF_run (S := fun i => ((m : Int) - 1 - (i : Int), rows ++ cst (beP m (u64 n) i))) (n := m) (fun i hi => ?_) ?_ ?_
  · have := lowc_step n m i hm hi (rows ++ cst (beP m (u64 n) i)) (by rw [List.length_append, cst_len, beP_len]; omega)
    have e : ((m - 1 - i : Nat) : Int) = (m : Int) - 1 - (i : Int) := by omega
    have e2 : w64 ((m : Int) - 1 - (i : Int) - 1) = (m : Int) - 1 - ((i + 1 : Nat) : Int) := by rw [w64_same (by omega) (by omega)]; omega
    rw [e, e2] at this
    rw [beP_succ, cst_snoc, ← List.append_assoc]
    exact this
  · show (octet_Writer_low__L2_step _ ((m : Int) - 1 - (m : Int)) _).run = _
    unfold octet_Writer_low__L2_step
    exact run_f (decide_eq_false (by omega))
  · rw [w64_same (by omega) (by omega)]
    show _ = ((m : Int) - 1 - ((0 : Nat) : Int), rows ++ [])
    rw [List.append_nil]
    congr 1
    omega
theorem countc_w {v : Nat} (hv : v < 9223372036854775808) (s : Str) (hs : s.length ≤ 890000) : (octet_Writer_Count__T (v : Int) (strI s)).run = some ((), (((), ((), ())), (strI (s ++ c4 v), ()))) := by
  have hl := lowc_loop (v : Int) 4 (by omega) (by omega) (strI s) (by rw [strI_len]; exact hs)
  rw [u64_nat hv, ← c4_I, ← strI_app] at hl
  unfold octet_Writer_Count__T octet_Writer_low__T
  refine (run_bnd (a := ((), (((), ((), ())), (strI (s ++ c4 v), ())))) ?_).trans rfl
  refine (run_f rfl).trans ?_
  exact (run_bnd (loop_run hl)).trans rfl
theorem intc_w (n : Int) (s : Str) (hs : s.length ≤ 890000) : (octet_Writer_Int__T n (strI s)).run = some ((), (((), ((), ())), (strI (s ++ c8 (u64 n)), ()))) := by
  have hl := lowc_loop n 8 (by omega) (by omega) (strI s) (by rw [strI_len]; exact hs)
  rw [← c8_I, ← strI_app] at hl
  unfold octet_Writer_Int__T octet_Writer_low__T
  refine (run_bnd (a := ((), (((), ((), ())), (strI (s ++ c8 (u64 n)), ())))) ?_).trans rfl
  refine (run_f rfl).trans ?_
  exact (run_bnd (loop_run hl)).trans rfl
/-- A text behind its length. -/
def txtN (x : Str) : Str := c4 x.length ++ x
theorem txtN_len (x : Str) : (txtN x).length = 4 + x.length := by unfold txtN; rw [List.length_append, c4_len]
theorem strc_w (x s : Str) (h : s.length + x.length ≤ 900000) : (strings_Builder_WriteString_T x (strI s)).run = some (((x.length : Int), ((), ())), (((), ((), ())), (strI (s ++ x), ()))) := by
  unfold strings_Builder_WriteString_T strings_Builder_copyCheck__T
  refine (run_bnd rfl).trans ?_
  refine (run_ask (room_le _ _ (by show (strI s ++ strI x).length ≤ _; rw [List.length_append, strI_len, strI_len]; omega) (by omega))).trans ?_
  rw [strI_app]; rfl
theorem textc_w (x s : Str) (h : s.length + x.length ≤ 800000) : (octet_Writer_Text_T x (strI s)).run = some ((), (((), ((), ())), (strI (s ++ txtN x), ()))) := by
  unfold octet_Writer_Text_T
  refine (run_bnd (countc_w (by omega) s (by omega))).trans ?_
  refine (run_t rfl).trans ?_
  refine (run_bnd (strc_w x (s ++ c4 x.length) (by rw [List.length_append, c4_len]; omega))).trans ?_
  unfold txtN
  rw [← List.append_assoc]; rfl
theorem bytesc_w {s : Str} (h : 0 < s.length) : (octet_Writer_Bytes__T (strI s)).run = some (s, (((), ((), ())), (strI s, ()))) := by
  unfold octet_Writer_Bytes__T strings_Builder_String__T
  refine (run_f rfl).trans ?_
  refine (run_bnd (a := (s, (((), ((), ())), (strI s, ())))) ?_).trans rfl
  refine (run_ask (decide_eq_true (by rw [strI_len]; exact h))).trans ?_
  rw [strB_I]; rfl
theorem bytesd_w {s : Str} (h : 0 < s.length) : (octet_Writer_Bytes___T (strI s)).run = some (s, (((), ((), ())), (strI s, ()))) := by
  unfold octet_Writer_Bytes___T strings_Builder_String___T
  refine (run_f rfl).trans ?_
  refine (run_bnd (a := (s, (((), ((), ())), (strI s, ())))) ?_).trans rfl
  refine (run_ask (decide_eq_true (by rw [strI_len]; exact h))).trans ?_
  rw [strB_I]; rfl
/-- What a token says; a token. -/
def saysN (t u : Str) (n : Int) : Str := txtN t ++ txtN u ++ c8 (u64 n)
def tokN (sec t u : Str) (n : Int) : Str := saysN t u n ++ macN sec (saysN t u n)
theorem saysN_len (t u : Str) (n : Int) : (saysN t u n).length = 16 + t.length + u.length := by
  unfold saysN; rw [List.length_append, List.length_append, txtN_len, txtN_len, c8_len]; omega
theorem tokN_len (sec t u : Str) (n : Int) : (tokN sec t u n).length = 48 + t.length + u.length := by
  unfold tokN; rw [List.length_append, saysN_len, macN_len]; omega
theorem make_run (sec t u : Str) (n : Int) (h1 : sec.length ≤ 10000) (h2 : t.length ≤ 10000) (h3 : u.length ≤ 10000) : (token_Make_T sec t u n).run = some (tokN sec t u n) := by
  unfold token_Make_T
  refine (run_bnd (textc_w t ([] : Str) (by show 0 + _ ≤ _; omega))).trans ?_
  refine (run_bnd (textc_w u (([] : Str) ++ txtN t) (by rw [List.nil_append, txtN_len]; omega))).trans ?_
  refine (run_bnd (intc_w n (([] : Str) ++ txtN t ++ txtN u) (by rw [List.nil_append, List.length_append, txtN_len, txtN_len]; omega))).trans ?_
  have e : ([] : Str) ++ txtN t ++ txtN u ++ c8 (u64 n) = saysN t u n := by rw [List.nil_append]; rfl
  have hs := saysN_len t u n
  refine (run_bnd (show (octet_Writer_Bytes__T (strI (([] : Str) ++ txtN t ++ txtN u ++ c8 (u64 n)))).run = _ from by rw [e]; exact bytesc_w (by omega))).trans ?_
  refine (run_bnd (bytesd_w (by omega))).trans ?_
  refine (run_bnd (mac_run sec (saysN t u n) (by omega) (by omega))).trans ?_
  exact run_ask (decide_eq_true (by show (saysN t u n).length + (macN sec (saysN t u n)).length ≤ _; rw [macN_len]; omega))

/-! The reader. -/
def numB (l : Str) : Nat := l.foldl (fun a b => a * 256 + b.toNat) 0
theorem numB_snoc (l : Str) (b : UInt8) : numB (l ++ [b]) = numB l * 256 + b.toNat := by unfold numB; rw [List.foldl_append]; rfl
theorem numB_fold (l : Str) : ∀ a : Nat, l.foldl (fun a b => a * 256 + b.toNat) a < (a + 1) * 256 ^ l.length := by
  induction l with
  | nil => intro a; show a < (a + 1) * 1; omega
  | cons b l ih =>
    intro a
    have hb := UInt8.toNat_lt b
    have h := ih (a * 256 + b.toNat)
    refine Nat.lt_of_lt_of_le h ?_
    show _ ≤ (a + 1) * 256 ^ (l.length + 1)
    rw [Nat.pow_succ, Nat.mul_comm (256 ^ l.length) 256, ← Nat.mul_assoc]
    exact Nat.mul_le_mul_right _ (by omega)
theorem numB_lt (l : Str) : numB l < 256 ^ l.length := by
  have := numB_fold l 0
  rw [Nat.zero_add, Nat.one_mul] at this
  exact this
def tkR (n : Nat) (r : OctR) : Str × OctR := bif !r.2 || decide (r.1.length < n) then ([], (r.1, false)) else (r.1.take n, (r.1.drop n, r.2))
def numR (k : Nat) (r : OctR) : Int × OctR := (w64 (numB (tkR k r).1 : Int), (tkR k r).2)
def textR (r : OctR) : Str × OctR :=
  bif decide (1048576 < numB (tkR 4 r).1) then ([], ((tkR 4 r).2.1, false)) else tkR (numB (tkR 4 r).1) (tkR 4 r).2
def doneR (r : OctR) : Bool := r.2 && (r.1 == ([] : Str))
abbrev Said : Type := Str × Str × Int × Bool × Unit
def noSaid : Said := ([], [], 0, false, ())
def readN (x : Str) : Said :=
  bif decide (x.length < 32) then noSaid else
  bif doneR (numR 8 (textR (textR (x.take (x.length - 32), true)).2).2).2 then
    ((textR (x.take (x.length - 32), true)).1, (textR (textR (x.take (x.length - 32), true)).2).1, (numR 8 (textR (textR (x.take (x.length - 32), true)).2).2).1, true, ())
  else noSaid
theorem tkR_len (n : Nat) (r : OctR) : (tkR n r).1.length ≤ n := by
  unfold tkR
  cases !r.2 || decide (r.1.length < n) with
  | true => exact Nat.zero_le _
  | false => exact List.length_take_le _ _
theorem tkR_rest (n : Nat) (r : OctR) : (tkR n r).2.1.length ≤ r.1.length := by
  unfold tkR
  cases !r.2 || decide (r.1.length < n) with
  | true => exact Nat.le_refl _
  | false => show (r.1.drop n).length ≤ _; rw [List.length_drop]; omega
theorem textR_rest (r : OctR) : (textR r).2.1.length ≤ r.1.length := by
  have h := tkR_rest 4 r
  unfold textR
  cases decide (1048576 < numB (tkR 4 r).1) with
  | true => exact h
  | false => exact Nat.le_trans (tkR_rest _ _) h
theorem tkR_run (n : Nat) (r : OctR) : (octet_Reader_take_T (n : Int) r).run = some ((tkR n r).1, (((tkR n r).2, ()), ())) := by
  obtain ⟨s, g⟩ := r
  unfold octet_Reader_take_T tkR
  cases g with
  | false =>
    refine (run_t rfl).trans ?_
    exact (run_bnd (run_t rfl)).trans rfl
  | true =>
    by_cases h : s.length < n
    · refine (run_t (by show (false || decide ((s.length : Int) < (n : Int))) = true; rw [decide_eq_true (by omega)]; rfl)).trans ?_
      show _ = some ((bif false || decide (s.length < n) then _ else _ : Str × OctR).1, _)
      rw [decide_eq_true h]
      exact (run_bnd (run_t rfl)).trans rfl
    · refine (run_f (by show (false || decide ((s.length : Int) < (n : Int))) = false; rw [decide_eq_false (by omega)]; rfl)).trans ?_
      refine (run_ask (decide_eq_true (show (0 : Int) ≤ (n : Int) ∧ (n : Int) ≤ (s.length : Int) by omega))).trans ?_
      refine (run_ask (decide_eq_true (show (0 : Int) ≤ (n : Int) ∧ (n : Int) ≤ (s.length : Int) by omega))).trans ?_
      have e : (s.drop n).take (s.length - n) = s.drop n := List.take_of_length_le (by rw [List.length_drop]; omega)
      show some (s.take n, ((((s.drop n).take (s.length - n), true), ()), ())) = some ((bif false || decide (s.length < n) then _ else _ : Str × OctR).1, (((bif false || decide (s.length < n) then _ else _ : Str × OctR).2, ()), ()))
      rw [e, decide_eq_false h]; rfl
theorem bv_w64 (M : Nat) : BitVec.ofInt 64 (w64 (M : Int)) = BitVec.ofNat 64 M := by
  apply BitVec.eq_of_toNat_eq
  rw [BitVec.toNat_ofInt, BitVec.toNat_ofNat]
  show (IntKind.i64.wrap (M : Int) % _).toNat = _
  rw [IntKind.wrap_i64]
  omega
theorem acc_or {N c : Nat} (hN : N < 72057594037927936) (hc : c < 256) : stdArith .or .i64 (w64 ((N : Int) * 256)) (c : Int) = w64 ((N * 256 + c : Nat) : Int) := by
  show w64 ((BitVec.ofInt 64 (w64 ((N : Int) * 256)) ||| BitVec.ofInt 64 (c : Int)).toNat : Int) = _
  have e : (N : Int) * 256 = ((N * 256 : Nat) : Int) := by omega
  rw [e, bv_w64, ofIntN, BitVec.toNat_or, BitVec.toNat_ofNat, BitVec.toNat_ofNat, Nat.mod_eq_of_lt (by omega), Nat.mod_eq_of_lt (by omega)]
  have := Nat.two_pow_add_eq_or_of_lt (i := 8) hc N
  rw [show N * 256 = 2 ^ 8 * N from by omega, ← this]
theorem w64_of {n : Int} (h0 : -9223372036854775808 ≤ n) (h1 : n ≤ 9223372036854775807) : w64 n = n := w64_same h0 h1
theorem acc_step (l : Str) (t : Int) (r : OctR) (i : Nat) (hl : l.length ≤ 8) (ht : t = (l.length : Int)) (hi : i < l.length) :
    (octet_Reader_number_L3_step t r (strI l) (w64 (numB (l.take i) : Int)) (i : Int)).run = some (.inl (w64 (numB (l.take (i + 1)) : Int), ((i + 1 : Nat) : Int))) := by
  have h1 := numB_lt (l.take i)
  have h2 : (l.take i).length ≤ 7 := by rw [List.length_take]; omega
  have h3 : numB (l.take i) < 72057594037927936 := Nat.lt_of_lt_of_le h1 (Nat.le_trans (Nat.pow_le_pow_right (by decide) h2) (by decide))
  have hg : (strI l).getD i 0 = ((l[i].toNat : Nat) : Int) := by rw [strI_get l i hi, getD_lt _ _ _ hi]
  have hb := UInt8.toNat_lt l[i]
  unfold octet_Reader_number_L3_step
  refine (run_t (decide_eq_true (by omega))).trans ?_
  refine (run_ask (inb_in (by rw [strI_len]; omega))).trans ?_
  refine (run_ask rfl).trans ?_
  simp only [Int.toNat_natCast]
  rw [hg, w64_of (n := (numB (l.take i) : Int)) (by omega) (by omega), w64_of (n := ((l[i].toNat : Nat) : Int)) (by omega) (by omega)]
  have e : stdShift .shl .i64 (numB (l.take i) : Int) 8 = w64 ((numB (l.take i) : Int) * 256) := rfl
  rw [e, acc_or h3 hb, w64_nat i (by omega), List.take_succ_eq_append_getElem hi, numB_snoc]
  rfl
theorem num_run (k : Nat) (hk : k ≤ 8) (r : OctR) : (octet_Reader_number_T (k : Int) r).run = some ((numR k r).1, (((numR k r).2, ()), ())) := by
  have hl := tkR_len k r
  unfold octet_Reader_number_T numR
  refine (run_bnd (tkR_run k r)).trans ?_
  generalize tkR k r = p at hl ⊢
  have hb : loopF (fun v => (octet_Reader_number_L3_step ((strI p.1).length : Int) p.2 (strI p.1) v.1 v.2).run) (0, 0) = some (w64 (numB p.1 : Int)) := by
    rw [strI_len]
    refine loopF_run (S := fun i => (w64 (numB (p.1.take i) : Int), (i : Int))) (n := p.1.length) (fun i hi => acc_step p.1 _ p.2 i (by omega) rfl hi) ?_ rfl
    show (octet_Reader_number_L3_step (p.1.length : Int) p.2 (strI p.1) _ (p.1.length : Int)).run = _
    unfold octet_Reader_number_L3_step
    rw [List.take_length]
    exact run_f (decide_eq_false (by omega))
  exact (run_bnd (loop_run hb)).trans rfl
theorem num4_lt (r : OctR) : numB (tkR 4 r).1 < 4294967296 :=
  Nat.lt_of_lt_of_le (numB_lt _) (Nat.le_trans (Nat.pow_le_pow_right (by decide) (tkR_len 4 r)) (by decide))
theorem text_run (r : OctR) : (octet_Reader_Text_T r).run = some ((textR r).1, (((textR r).2, ()), ())) := by
  have hlt := num4_lt r
  unfold octet_Reader_Text_T textR
  have hn : (octet_Reader_number_T 4 r).run = some ((numB (tkR 4 r).1 : Int), (((tkR 4 r).2, ()), ())) := by
    have := num_run 4 (by omega) r
    unfold numR at this
    rw [w64_of (by omega) (by omega)] at this
    exact this
  by_cases h : 1048576 < numB (tkR 4 r).1
  · have hc : (octet_Reader_Count_T 1048576 r).run = some (0, ((((tkR 4 r).2.1, false), ()), ())) := by
      unfold octet_Reader_Count_T
      refine (run_bnd hn).trans ?_
      refine (run_t (decide_eq_true (by omega))).trans ?_
      exact (run_bnd (run_t rfl)).trans rfl
    refine (run_bnd hc).trans ?_
    refine (run_bnd (tkR_run 0 ((tkR 4 r).2.1, false))).trans ?_
    rw [decide_eq_true h]; rfl
  · have hc : (octet_Reader_Count_T 1048576 r).run = some ((numB (tkR 4 r).1 : Int), (((tkR 4 r).2, ()), ())) := by
      unfold octet_Reader_Count_T
      refine (run_bnd hn).trans ?_
      exact run_f (decide_eq_false (by show ¬ (1048576 : Int) < (numB (tkR 4 r).1 : Int); omega))
    refine (run_bnd hc).trans ?_
    refine (run_bnd (tkR_run (numB (tkR 4 r).1) (tkR 4 r).2)).trans ?_
    rw [decide_eq_false h]; rfl
theorem int_run (r : OctR) : (octet_Reader_Int_T r).run = some ((numR 8 r).1, (((numR 8 r).2, ()), ())) := by
  unfold octet_Reader_Int_T
  exact (run_bnd (num_run 8 (by omega) r)).trans rfl
theorem done_run (r : OctR) : (octet_Reader_Done_T r).run = some (doneR r) := by
  obtain ⟨s, g⟩ := r
  unfold octet_Reader_Done_T octet_Reader_Bad_T doneR
  refine (run_bnd rfl).trans ?_
  cases g <;> rfl
theorem read_run (x : Str) (hx : x.length ≤ 1000000) : (token_Read_T x).run = some (readN x) := by
  unfold token_Read_T readN
  by_cases h : x.length < 32
  · refine (run_t (decide_eq_true (by omega))).trans ?_
    rw [decide_eq_true h]; rfl
  · refine (run_f (decide_eq_false (by omega))).trans ?_
    have e : w64 ((x.length : Int) - 32) = ((x.length - 32 : Nat) : Int) := by rw [w64_of (by omega) (by omega)]; omega
    rw [decide_eq_false h, cond_false, e]
    refine (run_ask (decide_eq_true (show (0 : Int) ≤ ((x.length - 32 : Nat) : Int) ∧ ((x.length - 32 : Nat) : Int) ≤ (x.length : Int) by omega))).trans ?_
    have e2 : subS x 0 ((x.length - 32 : Nat) : Int).toNat = x.take (x.length - 32) := by
      show (x.drop 0).take (((x.length - 32 : Nat) : Int).toNat - 0) = _
      rw [Int.toNat_natCast]; rfl
    rw [e2]
    refine (run_bnd (a := ((), (((x.take (x.length - 32), true), ()), ()))) rfl).trans ?_
    refine (run_bnd (text_run _)).trans ?_
    refine (run_bnd (text_run _)).trans ?_
    refine (run_bnd (int_run _)).trans ?_
    refine (run_bnd (done_run _)).trans ?_
    generalize textR (x.take (x.length - 32), true) = a
    generalize textR a.2 = b
    generalize numR 8 b.2 = c
    cases doneR c.2 <;> rfl

/-! What is made is read back. -/
theorem be4_list (v : Nat) : beP 4 v 4 = [v / 16777216 % 256, v / 65536 % 256, v / 256 % 256, v % 256] := by
  simp [beP, List.range_succ]
theorem be8_list (v : Nat) : beP 8 v 8 = [v / 72057594037927936 % 256, v / 281474976710656 % 256, v / 1099511627776 % 256, v / 4294967296 % 256, v / 16777216 % 256, v / 65536 % 256, v / 256 % 256, v % 256] := by
  simp [beP, List.range_succ]
theorem c4_list (v : Nat) : c4 v = [UInt8.ofNat (v / 16777216 % 256), UInt8.ofNat (v / 65536 % 256), UInt8.ofNat (v / 256 % 256), UInt8.ofNat (v % 256)] := by
  unfold c4; rw [be4_list]; rfl
theorem c8_list (v : Nat) : c8 v = [UInt8.ofNat (v / 72057594037927936 % 256), UInt8.ofNat (v / 281474976710656 % 256), UInt8.ofNat (v / 1099511627776 % 256), UInt8.ofNat (v / 4294967296 % 256), UInt8.ofNat (v / 16777216 % 256), UInt8.ofNat (v / 65536 % 256), UInt8.ofNat (v / 256 % 256), UInt8.ofNat (v % 256)] := by
  unfold c8; rw [be8_list]; rfl
theorem of256 (n : Nat) : (UInt8.ofNat (n % 256)).toNat = n % 256 := UInt8.toNat_ofNat_of_lt' (Nat.mod_lt _ (by decide))
theorem numB_c4 {v : Nat} (h : v < 4294967296) : numB (c4 v) = v := by
  rw [c4_list]
  unfold numB
  simp only [List.foldl_cons, List.foldl_nil, of256]
  omega
theorem numB_c8 {v : Nat} (h : v < 18446744073709551616) : numB (c8 v) = v := by
  rw [c8_list]
  unfold numB
  simp only [List.foldl_cons, List.foldl_nil, of256]
  omega
theorem w64_u64 {n : Int} (h : N64 n) : w64 (u64 n : Int) = n := by
  obtain ⟨h0, h1⟩ := h
  show IntKind.i64.wrap (u64 n : Int) = n
  rw [IntKind.wrap_i64]
  unfold u64
  omega
theorem tkR_app (a b : Str) : tkR a.length (a ++ b, true) = (a, (b, true)) := by
  unfold tkR
  show (bif false || decide ((a ++ b).length < a.length) then _ else _ : Str × OctR) = _
  rw [decide_eq_false (by rw [List.length_append]; omega)]
  show ((a ++ b).take a.length, ((a ++ b).drop a.length, true)) = _
  rw [List.take_left, List.drop_left]
theorem textR_app {x : Str} (h : x.length ≤ 1048576) (b : Str) : textR (txtN x ++ b, true) = (x, (b, true)) := by
  have h4 : tkR 4 (txtN x ++ b, true) = (c4 x.length, (x ++ b, true)) := by
    have := tkR_app (c4 x.length) (x ++ b)
    rw [c4_len] at this
    unfold txtN
    rw [List.append_assoc]; exact this
  unfold textR
  rw [h4]
  show (bif decide (1048576 < numB (c4 x.length)) then _ else tkR (numB (c4 x.length)) (x ++ b, true) : Str × OctR) = _
  rw [numB_c4 (by omega), decide_eq_false (by omega)]
  exact tkR_app x b
theorem numR_8 {n : Int} (h : N64 n) : numR 8 (c8 (u64 n), true) = (n, ([], true)) := by
  have := tkR_app (c8 (u64 n)) []
  rw [List.append_nil, c8_len] at this
  unfold numR
  rw [this]
  show (w64 (numB (c8 (u64 n)) : Int), _) = _
  rw [numB_c8 (u64_lt n), w64_u64 h]
theorem read_says {t u : Str} {n : Int} (ht : t.length ≤ 1000) (hu : u.length ≤ 1000) (hn : N64 n) (m : Str) (hm : m.length = 32) : readN (saysN t u n ++ m) = (t, u, n, true, ()) := by
  have hl : (saysN t u n ++ m).length - 32 = (saysN t u n).length := by rw [List.length_append]; omega
  have h1 : textR (saysN t u n, true) = (t, (txtN u ++ c8 (u64 n), true)) := by
    unfold saysN; rw [List.append_assoc]; exact textR_app (by omega) _
  have h2 : textR (txtN u ++ c8 (u64 n), true) = (u, (c8 (u64 n), true)) := textR_app (by omega) _
  unfold readN
  rw [decide_eq_false (by rw [List.length_append]; omega), cond_false, hl, List.take_left, h1]
  show (bif doneR (numR 8 (textR (txtN u ++ c8 (u64 n), true)).2).2 then _ else _ : Said) = _
  rw [h2]
  show (bif doneR (numR 8 (c8 (u64 n), true)).2 then (t, u, (numR 8 (c8 (u64 n), true)).1, true, ()) else noSaid : Said) = _
  rw [numR_8 hn]; rfl

end Go.Eng

