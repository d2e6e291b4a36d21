/- Laws in plain Lean: t24 u24 w24. -/
import Derived.Test.YteoafkipoapjlaaGreatDoorK10
import Derived.Test.YteoafkipoapjlaaGreatDoorM03
namespace Go.Eng
open Go Go.Proofs Go.RowKit

/-- A reader: what is left, and whether it may go on; a bound. -/
abbrev OctR : Type := Str × Bool
abbrev TBnd : Type := Int × Int
/-! Numbers of 64 bits as bytes. -/
def u64 (n : Int) : Nat := (n % 18446744073709551616).toNat
theorem u64_lt (n : Int) : u64 n < 18446744073709551616 := by unfold u64; omega
theorem byte_shr (n : Int) (k : Nat) (hk : k < 8) : IntKind.wrap .u8 (stdShift .shr .i64 n ((8 * k : Nat) : Int)) = ((u64 n / 2 ^ (8 * k) % 256 : Nat) : Int) := by
  have e : stdShift .shr .i64 n ((8 * k : Nat) : Int) = n / (2 ^ (8 * k) : Nat) := by
    show n.fdiv (2 ^ (min ((8 * k : Nat) : Int).toNat 64)) = _
    rw [Int.toNat_natCast, Nat.min_eq_left (by omega), pow2N, Int.fdiv_eq_ediv_of_nonneg _ (Int.natCast_nonneg _)]
  rw [e, IntKind.wrap_u8]
  unfold u64
  match k, hk with
  | 0, _ => show n / ((1 : Nat) : Int) % 256 = (((n % 18446744073709551616).toNat / 1 % 256 : Nat) : Int); omega
  | 1, _ => show n / ((256 : Nat) : Int) % 256 = (((n % 18446744073709551616).toNat / 256 % 256 : Nat) : Int); omega
  | 2, _ => show n / ((65536 : Nat) : Int) % 256 = (((n % 18446744073709551616).toNat / 65536 % 256 : Nat) : Int); omega
  | 3, _ => show n / ((16777216 : Nat) : Int) % 256 = (((n % 18446744073709551616).toNat / 16777216 % 256 : Nat) : Int); omega
  | 4, _ => show n / ((4294967296 : Nat) : Int) % 256 = (((n % 18446744073709551616).toNat / 4294967296 % 256 : Nat) : Int); omega
  | 5, _ => show n / ((1099511627776 : Nat) : Int) % 256 = (((n % 18446744073709551616).toNat / 1099511627776 % 256 : Nat) : Int); omega
  | 6, _ => show n / ((281474976710656 : Nat) : Int) % 256 = (((n % 18446744073709551616).toNat / 281474976710656 % 256 : Nat) : Int); omega
  | 7, _ => show n / ((72057594037927936 : Nat) : Int) % 256 = (((n % 18446744073709551616).toNat / 72057594037927936 % 256 : Nat) : Int); omega

/-! What a claim's writer writes. -/
/-- A text behind its length. -/
def txtN (x : Str) : Str := c4 x.length ++ x
theorem txtN_len (x : Str) : (txtN x).length = 4 + x.length := by unfold txtN; rw [List.length_append, c4_len]
/-- What a token says; a token. -/
def saysN (t u : Str) (n : Int) : Str := txtN t ++ txtN u ++ c8 (u64 n)
def tokN (sec t u : Str) (n : Int) : Str := saysN t u n ++ macN sec (saysN t u n)
theorem saysN_len (t u : Str) (n : Int) : (saysN t u n).length = 16 + t.length + u.length := by
  unfold saysN; rw [List.length_append, List.length_append, txtN_len, txtN_len, c8_len]; omega
theorem tokN_len (sec t u : Str) (n : Int) : (tokN sec t u n).length = 48 + t.length + u.length := by
  unfold tokN; rw [List.length_append, saysN_len, macN_len]; omega
/-! The reader. -/
def numB (l : Str) : Nat := l.foldl (fun a b => a * 256 + b.toNat) 0
theorem numB_snoc (l : Str) (b : UInt8) : numB (l ++ [b]) = numB l * 256 + b.toNat := by unfold numB; rw [List.foldl_append]; rfl
theorem numB_fold (l : Str) : ∀ a : Nat, l.foldl (fun a b => a * 256 + b.toNat) a < (a + 1) * 256 ^ l.length := by
  induction l with
  | nil => intro a; show a < (a + 1) * 1; omega
  | cons b l ih =>
    intro a
    have hb := UInt8.toNat_lt b
    have h := ih (a * 256 + b.toNat)
    refine Nat.lt_of_lt_of_le h ?_
    show _ ≤ (a + 1) * 256 ^ (l.length + 1)
    rw [Nat.pow_succ, Nat.mul_comm (256 ^ l.length) 256, ← Nat.mul_assoc]
    exact Nat.mul_le_mul_right _ (by omega)
theorem numB_lt (l : Str) : numB l < 256 ^ l.length := by
  have := numB_fold l 0
  rw [Nat.zero_add, Nat.one_mul] at this
  exact this
def tkR (n : Nat) (r : OctR) : Str × OctR := bif !r.2 || decide (r.1.length < n) then ([], (r.1, false)) else (r.1.take n, (r.1.drop n, r.2))
def numR (k : Nat) (r : OctR) : Int × OctR := (w64 (numB (tkR k r).1 : Int), (tkR k r).2)
def textR (r : OctR) : Str × OctR :=
  bif decide (1048576 < numB (tkR 4 r).1) then ([], ((tkR 4 r).2.1, false)) else tkR (numB (tkR 4 r).1) (tkR 4 r).2
def doneR (r : OctR) : Bool := r.2 && (r.1 == ([] : Str))
abbrev Said : Type := Str × Str × Int × Bool × Unit
def noSaid : Said := ([], [], 0, false, ())
def readN (x : Str) : Said :=
  bif decide (x.length < 32) then noSaid else
  bif doneR (numR 8 (textR (textR (x.take (x.length - 32), true)).2).2).2 then
    ((textR (x.take (x.length - 32), true)).1, (textR (textR (x.take (x.length - 32), true)).2).1, (numR 8 (textR (textR (x.take (x.length - 32), true)).2).2).1, true, ())
  else noSaid
theorem tkR_len (n : Nat) (r : OctR) : (tkR n r).1.length ≤ n := by
  unfold tkR
  cases !r.2 || decide (r.1.length < n) with
  | true => exact Nat.zero_le _
  | false => exact List.length_take_le _ _
theorem tkR_rest (n : Nat) (r : OctR) : (tkR n r).2.1.length ≤ r.1.length := by
  unfold tkR
  cases !r.2 || decide (r.1.length < n) with
  | true => exact Nat.le_refl _
  | false => show (r.1.drop n).length ≤ _; rw [List.length_drop]; omega
theorem textR_rest (r : OctR) : (textR r).2.1.length ≤ r.1.length := by
  have h := tkR_rest 4 r
  unfold textR
  cases decide (1048576 < numB (tkR 4 r).1) with
  | true => exact h
  | false => exact Nat.le_trans (tkR_rest _ _) h
theorem tkR_run (n : Nat) (r : OctR) : (octet_Reader_take_T (n : Int) r).run = some ((tkR n r).1, (((tkR n r).2, ()), ())) := by
  obtain ⟨s, g⟩ := r
  unfold octet_Reader_take_T tkR
  cases g with
  | false =>
    refine (run_t rfl).trans ?_
    exact (run_bnd (run_t rfl)).trans rfl
  | true =>
    by_cases h : s.length < n
    · refine (run_t (by show (false || decide ((s.length : Int) < (n : Int))) = true; rw [decide_eq_true (by omega)]; rfl)).trans ?_
      show _ = some ((bif false || decide (s.length < n) then _ else _ : Str × OctR).1, _)
      rw [decide_eq_true h]
      exact (run_bnd (run_t rfl)).trans rfl
    · refine (run_f (by show (false || decide ((s.length : Int) < (n : Int))) = false; rw [decide_eq_false (by omega)]; rfl)).trans ?_
      refine (run_ask (decide_eq_true (show (0 : Int) ≤ (n : Int) ∧ (n : Int) ≤ (s.length : Int) by omega))).trans ?_
      refine (run_ask (decide_eq_true (show (0 : Int) ≤ (n : Int) ∧ (n : Int) ≤ (s.length : Int) by omega))).trans ?_
      have e : (s.drop n).take (s.length - n) = s.drop n := List.take_of_length_le (by rw [List.length_drop]; omega)
      show some (s.take n, ((((s.drop n).take (s.length - n), true), ()), ())) = some ((bif false || decide (s.length < n) then _ else _ : Str × OctR).1, (((bif false || decide (s.length < n) then _ else _ : Str × OctR).2, ()), ()))
      rw [e, decide_eq_false h]; rfl
theorem bv_w64 (M : Nat) : BitVec.ofInt 64 (w64 (M : Int)) = BitVec.ofNat 64 M := by
  apply BitVec.eq_of_toNat_eq
  rw [BitVec.toNat_ofInt, BitVec.toNat_ofNat]
  show (IntKind.i64.wrap (M : Int) % _).toNat = _
  rw [IntKind.wrap_i64]
  omega
theorem acc_or {N c : Nat} (hN : N < 72057594037927936) (hc : c < 256) : stdArith .or .i64 (w64 ((N : Int) * 256)) (c : Int) = w64 ((N * 256 + c : Nat) : Int) := by
  show w64 ((BitVec.ofInt 64 (w64 ((N : Int) * 256)) ||| BitVec.ofInt 64 (c : Int)).toNat : Int) = _
  have e : (N : Int) * 256 = ((N * 256 : Nat) : Int) := by omega
  rw [e, bv_w64, ofIntN, BitVec.toNat_or, BitVec.toNat_ofNat, BitVec.toNat_ofNat, Nat.mod_eq_of_lt (by omega), Nat.mod_eq_of_lt (by omega)]
  have := Nat.two_pow_add_eq_or_of_lt (i := 8) hc N
  rw [show N * 256 = 2 ^ 8 * N from by omega, ← this]
theorem w64_of {n : Int} (h0 : -9223372036854775808 ≤ n) (h1 : n ≤ 9223372036854775807) : w64 n = n := w64_same h0 h1
theorem acc_step (l : Str) (t : Int) (r : OctR) (i : Nat) (hl : l.length ≤ 8) (ht : t = (l.length : Int)) (hi : i < l.length) :
    (octet_Reader_number_L3_step t r (strI l) (w64 (numB (l.take i) : Int)) (i : Int)).run = some (.inl (w64 (numB (l.take (i + 1)) : Int), ((i + 1 : Nat) : Int))) := by
  have h1 := numB_lt (l.take i)
  have h2 : (l.take i).length ≤ 7 := by rw [List.length_take]; omega
  have h3 : numB (l.take i) < 72057594037927936 := Nat.lt_of_lt_of_le h1 (Nat.le_trans (Nat.pow_le_pow_right (by decide) h2) (by decide))
  have hg : (strI l).getD i 0 = ((l[i].toNat : Nat) : Int) := by rw [strI_get l i hi, getD_lt _ _ _ hi]
  have hb := UInt8.toNat_lt l[i]
  unfold octet_Reader_number_L3_step
  refine (run_t (decide_eq_true (by omega))).trans ?_
  refine (run_ask (inb_in (by rw [strI_len]; omega))).trans ?_
  refine (run_ask rfl).trans ?_
  simp only [Int.toNat_natCast]
  rw [hg, w64_of (n := (numB (l.take i) : Int)) (by omega) (by omega), w64_of (n := ((l[i].toNat : Nat) : Int)) (by omega) (by omega)]
  have e : stdShift .shl .i64 (numB (l.take i) : Int) 8 = w64 ((numB (l.take i) : Int) * 256) := rfl
  rw [e, acc_or h3 hb, w64_nat i (by omega), List.take_succ_eq_append_getElem hi, numB_snoc]
  rfl
theorem num_run (k : Nat) (hk : k ≤ 8) (r : OctR) : (octet_Reader_number_T (k : Int) r).run = some ((numR k r).1, (((numR k r).2, ()), ())) := by
  have hl := tkR_len k r
  unfold octet_Reader_number_T numR
  refine (run_bnd (tkR_run k r)).trans ?_
  generalize tkR k r = p at hl ⊢
  have hb : loopF (fun v => (octet_Reader_number_L3_step ((strI p.1).length : Int) p.2 (strI p.1) v.1 v.2).run) (0, 0) = some (w64 (numB p.1 : Int)) := by
    rw [strI_len]
    refine loopF_run (S := fun i => (w64 (numB (p.1.take i) : Int), (i : Int))) (n := p.1.length) (fun i hi => acc_step p.1 _ p.2 i (by omega) rfl hi) ?_ rfl
    show (octet_Reader_number_L3_step (p.1.length : Int) p.2 (strI p.1) _ (p.1.length : Int)).run = _
    unfold octet_Reader_number_L3_step
    rw [List.take_length]
    exact run_f (decide_eq_false (by omega))
  exact (run_bnd (loop_run hb)).trans rfl
theorem num4_lt (r : OctR) : numB (tkR 4 r).1 < 4294967296 :=
  Nat.lt_of_lt_of_le (numB_lt _) (Nat.le_trans (Nat.pow_le_pow_right (by decide) (tkR_len 4 r)) (by decide))
theorem text_run (r : OctR) : (octet_Reader_Text_T r).run = some ((textR r).1, (((textR r).2, ()), ())) := by
  have hlt := num4_lt r
  unfold octet_Reader_Text_T textR
  have hn : (octet_Reader_number_T 4 r).run = some ((numB (tkR 4 r).1 : Int), (((tkR 4 r).2, ()), ())) := by
    have := num_run 4 (by omega) r
    unfold numR at this
    rw [w64_of (by omega) (by omega)] at this
    exact this
  by_cases h : 1048576 < numB (tkR 4 r).1
  · have hc : (octet_Reader_Count_T 1048576 r).run = some (0, ((((tkR 4 r).2.1, false), ()), ())) := by
      unfold octet_Reader_Count_T
      refine (run_bnd hn).trans ?_
      refine (run_t (decide_eq_true (by omega))).trans ?_
      exact (run_bnd (run_t rfl)).trans rfl
    refine (run_bnd hc).trans ?_
    refine (run_bnd (tkR_run 0 ((tkR 4 r).2.1, false))).trans ?_
    rw [decide_eq_true h]; rfl
  · have hc : (octet_Reader_Count_T 1048576 r).run = some ((numB (tkR 4 r).1 : Int), (((tkR 4 r).2, ()), ())) := by
      unfold octet_Reader_Count_T
      refine (run_bnd hn).trans ?_
      exact run_f (decide_eq_false (by show ¬ (1048576 : Int) < (numB (tkR 4 r).1 : Int); omega))
    refine (run_bnd hc).trans ?_
    refine (run_bnd (tkR_run (numB (tkR 4 r).1) (tkR 4 r).2)).trans ?_
    rw [decide_eq_false h]; rfl
theorem int_run (r : OctR) : (octet_Reader_Int_T r).run = some ((numR 8 r).1, (((numR 8 r).2, ()), ())) := by
  unfold octet_Reader_Int_T
  exact (run_bnd (num_run 8 (by omega) r)).trans rfl
theorem done_run (r : OctR) : (octet_Reader_Done_T r).run = some (doneR r) := by
  obtain ⟨s, g⟩ := r
  unfold octet_Reader_Done_T octet_Reader_Bad_T doneR
  refine (run_bnd rfl).trans ?_
  cases g <;> rfl
theorem read_run (x : Str) (hx : x.length ≤ 1000000) : (token_Read_T x).run = some (readN x) := by
  unfold token_Read_T readN
  by_cases h : x.length < 32
  · refine (run_t (decide_eq_true (by omega))).trans ?_
    rw [decide_eq_true h]; rfl
  · refine (run_f (decide_eq_false (by omega))).trans ?_
    have e : w64 ((x.length : Int) - 32) = ((x.length - 32 : Nat) : Int) := by rw [w64_of (by omega) (by omega)]; omega
    rw [decide_eq_false h, cond_false, e]
    refine (run_ask (decide_eq_true (show (0 : Int) ≤ ((x.length - 32 : Nat) : Int) ∧ ((x.length - 32 : Nat) : Int) ≤ (x.length : Int) by omega))).trans ?_
    have e2 : subS x 0 ((x.length - 32 : Nat) : Int).toNat = x.take (x.length - 32) := by
      show (x.drop 0).take (((x.length - 32 : Nat) : Int).toNat - 0) = _
      rw [Int.toNat_natCast]; rfl
    rw [e2]
    refine (run_bnd (a := ((), (((x.take (x.length - 32), true), ()), ()))) rfl).trans ?_
    refine (run_bnd (text_run _)).trans ?_
    refine (run_bnd (text_run _)).trans ?_
    refine (run_bnd (int_run _)).trans ?_
    refine (run_bnd (done_run _)).trans ?_
    generalize textR (x.take (x.length - 32), true) = a
    generalize textR a.2 = b
    generalize numR 8 b.2 = c
    cases doneR c.2 <;> rfl

/-! What is made is read back. -/
theorem be4_list (v : Nat) : beP 4 v 4 = [v / 16777216 % 256, v / 65536 % 256, v / 256 % 256, v % 256] := by
  simp [beP, List.range_succ]
theorem be8_list (v : Nat) : beP 8 v 8 = [v / 72057594037927936 % 256, v / 281474976710656 % 256, v / 1099511627776 % 256, v / 4294967296 % 256, v / 16777216 % 256, v / 65536 % 256, v / 256 % 256, v % 256] := by
  simp [beP, List.range_succ]
theorem c4_list (v : Nat) : c4 v = [UInt8.ofNat (v / 16777216 % 256), UInt8.ofNat (v / 65536 % 256), UInt8.ofNat (v / 256 % 256), UInt8.ofNat (v % 256)] := by
  unfold c4; rw [be4_list]; rfl
theorem c8_list (v : Nat) : c8 v = [UInt8.ofNat (v / 72057594037927936 % 256), UInt8.ofNat (v / 281474976710656 % 256), UInt8.ofNat (v / 1099511627776 % 256), UInt8.ofNat (v / 4294967296 % 256), UInt8.ofNat (v / 16777216 % 256), UInt8.ofNat (v / 65536 % 256), UInt8.ofNat (v / 256 % 256), UInt8.ofNat (v % 256)] := by
  unfold c8; rw [be8_list]; rfl
theorem of256 (n : Nat) : (UInt8.ofNat (n % 256)).toNat = n % 256 := UInt8.toNat_ofNat_of_lt' (Nat.mod_lt _ (by decide))
theorem numB_c4 {v : Nat} (h : v < 4294967296) : numB (c4 v) = v := by
  rw [c4_list]
  unfold numB
  simp only [List.foldl_cons, List.foldl_nil, of256]
  omega
theorem numB_c8 {v : Nat} (h : v < 18446744073709551616) : numB (c8 v) = v := by
  rw [c8_list]
  unfold numB
  simp only [List.foldl_cons, List.foldl_nil, of256]
  omega
theorem w64_u64 {n : Int} (h : N64 n) : w64 (u64 n : Int) = n := by
  obtain ⟨h0, h1⟩ := h
  show IntKind.i64.wrap (u64 n : Int) = n
  rw [IntKind.wrap_i64]
  unfold u64
  omega
theorem tkR_app (a b : Str) : tkR a.length (a ++ b, true) = (a, (b, true)) := by
  unfold tkR
  show (bif false || decide ((a ++ b).length < a.length) then _ else _ : Str × OctR) = _
  rw [decide_eq_false (by rw [List.length_append]; omega)]
  show ((a ++ b).take a.length, ((a ++ b).drop a.length, true)) = _
  rw [List.take_left, List.drop_left]
theorem textR_app {x : Str} (h : x.length ≤ 1048576) (b : Str) : textR (txtN x ++ b, true) = (x, (b, true)) := by
  have h4 : tkR 4 (txtN x ++ b, true) = (c4 x.length, (x ++ b, true)) := by
    have := tkR_app (c4 x.length) (x ++ b)
    rw [c4_len] at this
    unfold txtN
    rw [List.append_assoc]; exact this
  unfold textR
  rw [h4]
  show (bif decide (1048576 < numB (c4 x.length)) then _ else tkR (numB (c4 x.length)) (x ++ b, true) : Str × OctR) = _
  rw [numB_c4 (by omega), decide_eq_false (by omega)]
  exact tkR_app x b
theorem numR_8 {n : Int} (h : N64 n) : numR 8 (c8 (u64 n), true) = (n, ([], true)) := by
  have := tkR_app (c8 (u64 n)) []
  rw [List.append_nil, c8_len] at this
  unfold numR
  rw [this]
  show (w64 (numB (c8 (u64 n)) : Int), _) = _
  rw [numB_c8 (u64_lt n), w64_u64 h]
theorem read_says {t u : Str} {n : Int} (ht : t.length ≤ 1000) (hu : u.length ≤ 1000) (hn : N64 n) (m : Str) (hm : m.length = 32) : readN (saysN t u n ++ m) = (t, u, n, true, ()) := by
  have hl : (saysN t u n ++ m).length - 32 = (saysN t u n).length := by rw [List.length_append]; omega
  have h1 : textR (saysN t u n, true) = (t, (txtN u ++ c8 (u64 n), true)) := by
    unfold saysN; rw [List.append_assoc]; exact textR_app (by omega) _
  have h2 : textR (txtN u ++ c8 (u64 n), true) = (u, (c8 (u64 n), true)) := textR_app (by omega) _
  unfold readN
  rw [decide_eq_false (by rw [List.length_append]; omega), cond_false, hl, List.take_left, h1]
  show (bif doneR (numR 8 (textR (txtN u ++ c8 (u64 n), true)).2).2 then _ else _ : Said) = _
  rw [h2]
  show (bif doneR (numR 8 (c8 (u64 n), true)).2 then (t, u, (numR 8 (c8 (u64 n), true)).1, true, ()) else noSaid : Said) = _
  rw [numR_8 hn]; rfl

/-! Tenants. -/
def tenantS : Str := [116, 101, 110, 97, 110, 116]
def secretS : Str := [115, 101, 99, 114, 101, 116]
def bytesS : Str := [98, 121, 116, 101, 115]
def rateS : Str := [114, 97, 116, 101]
def burstS : Str := [98, 117, 114, 115, 116]
def queueS : Str := [113, 117, 101, 117, 101]
def keyT (t f : Str) : Str := (((tenantS ++ [47]) ++ t) ++ [47]) ++ f
theorem keyT_join (t f : Str) : joinS ([47] : Str) [tenantS, t, f] = keyT t f := by unfold joinS keyT; simp
theorem key_run (t f : Str) (ht : t.length ≤ 100000) (hf : f.length ≤ 100000) : (tenant_Key_T t f).run = some (keyT t f) := by
  unfold tenant_Key_T
  refine (run_bnd (path_run [tenantS, t, f] (by show 3 ≤ 1000000; omega) (by simp only [lenAll, List.map_cons, List.map_nil, List.sum_cons, List.sum_nil]; unfold tenantS; simp only [List.length_cons, List.length_nil]; omega))).trans ?_
  rw [keyT_join]; rfl
theorem rKey_run (t f : Str) (ht : t.length ≤ 100000) (hf : f.length ≤ 100000) : (r23_Key_T t f).run = some (keyT t f) := by
  unfold r23_Key_T
  have e : ([116, 101, 110, 97, 110, 116, 47] : Str) = tenantS ++ [47] := rfl
  rw [e]
  refine (run_ask (decide_eq_true (by unfold tenantS; simp only [List.length_append, List.length_cons, List.length_nil]; omega))).trans ?_
  refine (run_ask (decide_eq_true (by unfold tenantS; simp only [List.length_append, List.length_cons, List.length_nil]; omega))).trans ?_
  refine (run_ask (decide_eq_true (by unfold tenantS; simp only [List.length_append, List.length_cons, List.length_nil]; omega))).trans ?_
  rfl
/-- What the register of a tenant's field says. -/
def valT (l : List Entry) (t f : Str) : Str := (getR l (keyT t f)).2.2
theorem get1_run (l : List Entry) (t f : Str) (hl : l.length ≤ 1000000) (ht : t.length ≤ 100000) (hf : f.length ≤ 100000) : (tenant_Of_1_T f l t).run = some (valT l t f) := by
  unfold tenant_Of_1_T
  refine (run_bnd (key_run t f ht hf)).trans ?_
  exact (run_bnd (get_run l _ hl)).trans rfl
def secB (s : Str) : Bool := (!(s == ([] : Str))) && decide (s.length ≤ 64)
theorem isSecret_run (s : Str) : (tenant_isSecret_T s).run = some (secB s) := by
  unfold tenant_isSecret_T secB
  show some _ = some _
  congr 2
  exact decide_eq_decide.2 (by omega)
def limT (b : TBnd) (v : Str) : Int := bif ((!(numS v).2) || decide ((numS v).1 < 0)) || decide (b.1 < (numS v).1) then b.2 else (numS v).1
theorem lim_run (l : List Entry) (t f : Str) (b : TBnd) (g : Bool) (hb : (tenant_bounds_T f).run = some (b, g, ())) (hl : l.length ≤ 1000000) (ht : t.length ≤ 100000) (hf : f.length ≤ 100000) (hv : (valT l t f).length ≤ 1000000) :
    (tenant_Of_2_T f l t).run = some (limT b (valT l t f)) := by
  unfold tenant_Of_2_T
  refine (run_bnd hb).trans ?_
  refine (run_bnd (get1_run l t f hl ht hf)).trans ?_
  generalize valT l t f = v at hv ⊢
  refine (run_bnd (show (name_Num_T v).run = some ((numS v).1, (numS v).2, ()) from run_ask (decide_eq_true (by omega)))).trans ?_
  unfold limT
  show (Tree.ite (((!(numS v).2) || decide ((numS v).1 < 0)) || decide (b.1 < (numS v).1)) _ _).run = _
  cases ((!(numS v).2) || decide ((numS v).1 < 0)) || decide (b.1 < (numS v).1) <;> rfl
/-- What is said of a tenant. -/
def tenT (l : List Entry) (t : Str) : Tenant :=
  (t, (valT l t secretS, (limT (1099511627776, 1048576) (valT l t bytesS), (limT (1048576, 8) (valT l t rateS), (limT (1048576, 16) (valT l t burstS), limT (64, 16) (valT l t queueS))))))
def ofT (l : List Entry) (t : Str) : Tenant × Bool × Unit := bif nameS t && secB (valT l t secretS) then (tenT l t, true, ()) else (([], ([], (0, (0, (0, 0))))), false, ())
/-- Entries of small texts. -/
def SmT (l : List Entry) : Prop := l.length ≤ 1000000 ∧ ∀ x ∈ l, x.2.2.2.length ≤ 1000000
theorem valT_len {l : List Entry} (h : SmT l) (t f : Str) : (valT l t f).length ≤ 1000000 := by
  unfold valT getR
  cases hf : findR l (keyT t f) with
  | none => exact Nat.zero_le _
  | some r => exact h.2 _ (find_mem hf)
theorem of_runT (l : List Entry) (t : Str) (hl : SmT l) (ht : t.length ≤ 100000) : (tenant_Of_T l t).run = some (ofT l t) := by
  have v := fun f => valT_len hl t f
  unfold tenant_Of_T ofT
  refine (run_bnd (nameIs_run t)).trans ?_
  refine (run_grd (show (tenant_Of_1_T secretS l t).run = _ from get1_run l t secretS hl.1 ht (by decide))).trans ?_
  refine (run_grd (isSecret_run _)).trans ?_
  show (Tree.ite ((!nameS t) || (!secB (valT l t secretS))) _ _).run = _
  cases h : nameS t && secB (valT l t secretS) with
  | false =>
    refine (run_t ?_).trans rfl
    revert h; cases nameS t <;> cases secB (valT l t secretS) <;> simp
  | true =>
    refine (run_f ?_).trans ?_
    · revert h; cases nameS t <;> cases secB (valT l t secretS) <;> simp
    · refine (run_bnd (show (tenant_Of_1_T secretS l t).run = _ from get1_run l t secretS hl.1 ht (by decide))).trans ?_
      refine (run_bnd (lim_run l t bytesS (1099511627776, 1048576) true rfl hl.1 ht (by decide) (v _))).trans ?_
      refine (run_bnd (lim_run l t rateS (1048576, 8) true rfl hl.1 ht (by decide) (v _))).trans ?_
      refine (run_bnd (lim_run l t burstS (1048576, 16) true rfl hl.1 ht (by decide) (v _))).trans ?_
      exact (run_bnd (lim_run l t queueS (64, 16) true rfl hl.1 ht (by decide) (v _))).trans rfl

/-! Whose a token is. -/
abbrev Whose : Type := Str × Str × Int × Unit
def noOne : Whose := ([], [], 7, ())
def goodB (l : List Entry) (x : Str) (now : Int) : Bool :=
  (((readN x).2.2.2.1 && (ofT l (readN x).1).2.1) && nameS (readN x).2.1) && !decide ((readN x).2.2.1 < now)
def sumB (l : List Entry) (x : Str) : Bool := macN (ofT l (readN x).1).1.2.1 (x.take (x.length - 32)) == x.drop (x.length - 32)
def checkN (l : List Entry) (x : Str) (now : Int) : Whose := bif goodB l x now && sumB l x then ((readN x).1, (readN x).2.1, 0, ()) else noOne
theorem readN_short {x : Str} (h : x.length < 32) : readN x = noSaid := by unfold readN; rw [decide_eq_true h]; rfl
theorem readN_len (x : Str) : (readN x).1.length ≤ x.length := by
  unfold readN
  cases decide (x.length < 32) with
  | true => exact Nat.zero_le _
  | false =>
    rw [cond_false]
    generalize hd : doneR (numR 8 (textR (textR (x.take (x.length - 32), true)).2).2).2 = d
    cases d with
    | false => exact Nat.zero_le _
    | true =>
      show (textR (x.take (x.length - 32), true)).1.length ≤ _
      have h1 : ∀ (n : Nat) (r : OctR), (tkR n r).1.length ≤ r.1.length := fun n r => by
        unfold tkR
        cases !r.2 || decide (r.1.length < n) with
        | true => exact Nat.zero_le _
        | false => show (r.1.take n).length ≤ _; rw [List.length_take]; omega
      have h2 : (x.take (x.length - 32)).length ≤ x.length := by rw [List.length_take]; omega
      unfold textR
      cases decide (1048576 < numB (tkR 4 (x.take (x.length - 32), true)).1) with
      | true => exact Nat.zero_le _
      | false => exact Nat.le_trans (h1 _ _) (Nat.le_trans (tkR_rest 4 _) h2)
theorem ofT_sec (l : List Entry) (t : Str) : (ofT l t).1.2.1.length ≤ 64 := by
  unfold ofT
  cases h : nameS t && secB (valT l t secretS) with
  | false => exact Nat.zero_le _
  | true =>
    show (valT l t secretS).length ≤ 64
    simp only [Bool.and_eq_true, secB, decide_eq_true_eq] at h
    exact h.2.2
theorem tcheck_run (l : List Entry) (x : Str) (now : Int) (hl : SmT l) (hx : x.length ≤ 100000) : (token_Check_T l x now).run = some (checkN l x now) := by
  have hr := read_run x (by omega)
  have ho := of_runT l (readN x).1 hl (Nat.le_trans (readN_len x) hx)
  have hs := ofT_sec l (readN x).1
  have hn := nameIs_run (readN x).2.1
  by_cases h32 : x.length < 32
  · have hg : goodB l x now = false := by unfold goodB; rw [readN_short h32]; rfl
    unfold token_Check_T checkN
    refine (run_bnd hr).trans ?_
    refine (run_bnd ho).trans ?_
    rw [hg, readN_short h32]; rfl
  · have e : w64 ((x.length : Int) - 32) = ((x.length - 32 : Nat) : Int) := by rw [w64_of (by omega) (by omega)]; omega
    have hk : inbe ((x.length - 32 : Nat) : Int) x.length = true := decide_eq_true (show (0 : Int) ≤ ((x.length - 32 : Nat) : Int) ∧ ((x.length - 32 : Nat) : Int) ≤ (x.length : Int) by omega)
    have e2 : subS x 0 ((x.length - 32 : Nat) : Int).toNat = x.take (x.length - 32) := by
      show (x.drop 0).take (((x.length - 32 : Nat) : Int).toNat - 0) = _
      rw [Int.toNat_natCast]; rfl
    have e3 : subS x ((x.length - 32 : Nat) : Int).toNat x.length = x.drop (x.length - 32) := by
      show (x.drop ((x.length - 32 : Nat) : Int).toNat).take (x.length - ((x.length - 32 : Nat) : Int).toNat) = _
      rw [Int.toNat_natCast]
      exact List.take_of_length_le (by rw [List.length_drop]; omega)
    have hi := is_run (ofT l (readN x).1).1.2.1 (x.take (x.length - 32)) (x.drop (x.length - 32)) (by omega) (by rw [List.length_take]; omega)
    have hsum : (macN (ofT l (readN x).1).1.2.1 (x.take (x.length - 32)) == x.drop (x.length - 32)) = sumB l x := rfl
    rw [hsum] at hi
    unfold token_Check_T checkN goodB
    refine (run_bnd hr).trans ?_
    refine (run_bnd ho).trans ?_
    rw [e, e2, e3]
    generalize sumB l x = sb at hi ⊢
    generalize readN x = q at ho hn hs hi ⊢
    generalize ofT l q.1 = o at ho hs hi ⊢
    obtain ⟨qa, qu, qn, qb, _⟩ := q
    cases qb with
    | false => rfl
    | true =>
      refine (run_f rfl).trans ?_
      cases hob : o.2.1 with
      | false =>
        refine (run_t rfl).trans ?_
        exact (run_t rfl).trans rfl
      | true =>
        refine (run_f rfl).trans ?_
        refine (run_bnd hn).trans ?_
        cases nameS qu with
        | false => rfl
        | true =>
          refine (run_f rfl).trans ?_
          show (Tree.ite (decide (qn < now)) _ _).run = _
          cases decide (qn < now) with
          | true => rfl
          | false =>
            refine (run_f rfl).trans ?_
            refine (run_ask hk).trans ?_
            refine (run_ask hk).trans ?_
            refine (run_bnd hi).trans ?_
            cases sb <;> rfl
theorem of_none (t : Str) : (ofT [] t).2.1 = false := by
  have : valT [] t secretS = [] := rfl
  unfold ofT
  rw [this]
  cases nameS t <;> rfl
/-! The document's bytes of numbers and texts. -/
theorem and255I (a : Int) : stdArith .and .i64 a 255 = a % 256 := by
  show IntKind.i64.wrap ((BitVec.ofInt 64 a &&& BitVec.ofInt 64 255).toNat : Int) = _
  rw [BitVec.toNat_and, BitVec.toNat_ofInt, show (BitVec.ofInt 64 255).toNat = 2 ^ 8 - 1 from rfl, Nat.and_two_pow_sub_one_eq_mod, IntKind.wrap_i64]
  omega
theorem wrapB (a : Int) : IntKind.wrap .u8 (a % 256) = a % 256 := by rw [IntKind.wrap_u8]; omega
theorem rbyte_r (a : Int) : (r01_Byte_T (stdArith .and .i64 a 255)).run = some (strB [a % 256]) := by
  unfold r01_Byte_T
  rw [and255I, and255I, Int.emod_emod_of_dvd a (by decide : (256 : Int) ∣ 256), wrapB]
  rfl
theorem rint_step (n : Int) (i : Nat) (hi : i < 8) (s : Str) (hs : s.length ≤ 900000) :
    (r01_Int_L3_step n s ((8 * (7 - i) : Nat) : Int)).run = some (.inl (s ++ strB (cst [u64 n / 2 ^ (8 * (7 - i)) % 256]), w64 (((8 * (7 - i) : Nat) : Int) - 8))) := by
  have hb := byte_shr n (7 - i) (by omega)
  rw [IntKind.wrap_u8] at hb
  unfold r01_Int_L3_step
  refine (run_t (decide_eq_true (by omega))).trans ?_
  refine (run_ask (decide_eq_true (by omega))).trans ?_
  refine (run_bnd (rbyte_r _)).trans ?_
  rw [hb]
  exact run_ask (decide_eq_true (by show s.length + 1 ≤ _; omega))
theorem rint_r (n : Int) : (r01_Int_T n).run = some (c8 (u64 n)) := by
  have hl : loopF (fun x => (r01_Int_L3_step n x.1 x.2).run) (([] : Str), 56) = some (strB (cst (beP 8 (u64 n) 8))) := by
    refine loopF_run (S := fun i => (strB (cst (beP 8 (u64 n) i)), (56 : Int) - 8 * (i : Int))) (n := 8) (fun i hi => ?_) ?_ rfl
    · have := rint_step n i hi (strB (cst (beP 8 (u64 n) i))) (by rw [strB_len, cst_len, beP_len]; omega)
      have e : ((8 * (7 - i) : Nat) : Int) = (56 : Int) - 8 * (i : Int) := by omega
      have e2 : w64 ((56 : Int) - 8 * (i : Int) - 8) = (56 : Int) - 8 * ((i + 1 : Nat) : Int) := by rw [w64_same (by omega) (by omega)]; omega
      rw [e, e2] at this
      rw [beP_succ, cst_app, strB_app]
      exact this
    · show (r01_Int_L3_step _ _ ((56 : Int) - 8 * ((8 : Nat) : Int))).run = _
      unfold r01_Int_L3_step
      exact run_f (decide_eq_false (by omega))
  unfold r01_Int_T
  exact (run_bnd (loop_run hl)).trans rfl
theorem rtext_r (x : Str) (h : x.length ≤ 800000) : (r01_Text_T x).run = some (txtN x) := by
  unfold r01_Text_T
  refine (run_bnd (count_r (by omega))).trans ?_
  exact run_ask (decide_eq_true (by rw [c4_len]; omega))
theorem rsays_r (t u : Str) (n : Int) (ht : t.length ≤ 10000) (hu : u.length ≤ 10000) : (r24_says_T t u n).run = some (saysN t u n) := by
  unfold r24_says_T
  refine (run_bnd (rtext_r t (by omega))).trans ?_
  refine (run_bnd (rtext_r u (by omega))).trans ?_
  refine (run_ask (decide_eq_true (by rw [txtN_len, txtN_len]; omega))).trans ?_
  refine (run_bnd (rint_r n)).trans ?_
  exact run_ask (decide_eq_true (by rw [List.length_append, txtN_len, txtN_len, c8_len]; omega))

/-! The document's sums with a secret. -/
theorem sget_by (s : Str) (i : Nat) : sgetI s (i : Int) = ((byN s i : Nat) : Int) := rfl
theorem byN_out {s : Str} {i : Nat} (h : s.length ≤ i) : byN s i = 0 := by
  unfold byN
  rw [List.getD_eq_getElem?_getD, List.getElem?_eq_none h]; rfl
def padI (k : Str) (b i : Nat) : List Int := (List.range i).map fun j => ((byN k j ^^^ b : Nat) : Int)
theorem padI_len (k : Str) (b i : Nat) : (padI k b i).length = i := by unfold padI; rw [List.length_map, List.length_range]
theorem padI_succ (k : Str) (b i : Nat) : padI k b (i + 1) = padI k b i ++ [((byN k i ^^^ b : Nat) : Int)] := by unfold padI; rw [List.range_succ, List.map_append]; rfl
theorem padI_str (k : Str) (b : Nat) : strB (padI k b 64) = padB k b := by
  unfold strB padI padB
  rw [List.map_map]; rfl
theorem rpad_run (k : Str) (b : Nat) (hb : b < 256) : (r03_padded_T k (b : Int)).run = some (padB k b) := by
  have hl : loopF (fun v => (r03_padded_L3_step k (b : Int) v.1 v.2).run) (0, ([] : List Int)) = some (padI k b 64) := by
    refine loopF_run (S := fun i => ((i : Int), padI k b i)) (n := 64) (fun i hi => ?_) ?_ rfl
    · show (r03_padded_L3_step k (b : Int) (i : Int) (padI k b i)).run = _
      have hroom : ∀ x : Int, decide ((padI k b i ++ [x]).length * 1 ≤ roomNat) = true := fun x => room_le _ _ (by rw [List.length_append, padI_len]; show i + 1 ≤ _; omega) (by omega)
      unfold r03_padded_L3_step
      refine (run_t (decide_eq_true (by omega))).trans ?_
      rw [sget_by, w64_nat i (by omega)]
      by_cases h : i < k.length
      · refine (run_t (decide_eq_true (by omega))).trans ?_
        refine (run_ask (inb_in (by omega))).trans ?_
        refine (run_ask (hroom _)).trans ?_
        rw [xor8 (byN_lt k i) hb, padI_succ]; rfl
      · refine (run_f (decide_eq_false (by omega))).trans ?_
        refine (run_ask (hroom _)).trans ?_
        have e : stdArith .xor .u8 0 (b : Int) = ((0 ^^^ b : Nat) : Int) := xor8 (x := 0) (by decide) hb
        rw [e, padI_succ, byN_out (by omega)]; rfl
    · show (r03_padded_L3_step k (b : Int) ((64 : Nat) : Int) (padI k b 64)).run = _
      unfold r03_padded_L3_step
      exact run_f rfl
  unfold r03_padded_T
  refine (run_bnd (loop_run hl)).trans ?_
  rw [padI_str]; rfl
theorem rmac_run (secret s : Str) (h1 : secret.length ≤ 700000) (h2 : s.length ≤ 700000) : (r03_Sum_T secret s).run = some (macN secret s) := by
  have tail : ∀ k : Str, (Tree.bnd (r03_padded_T k 92) fun y2 => .bnd (r03_padded_T k 54) fun y3 =>
      ask (decide (y3.length + s.length ≤ 9223372036854775807)) <| .bnd (r02_Sum_T (y3 ++ s)) fun y4 =>
      ask (decide (y2.length + y4.length ≤ 9223372036854775807)) <| .bnd (r02_Sum_T (y2 ++ y4)) fun y5 => .ret y5).run = some (shaN (padB k 92 ++ shaN (padB k 54 ++ s))) := by
    intro k
    refine (run_bnd (rpad_run k 92 (by omega))).trans ?_
    refine (run_bnd (rpad_run k 54 (by omega))).trans ?_
    refine (run_ask (decide_eq_true (by rw [padB_len]; omega))).trans ?_
    refine (run_bnd (rsum_run _ (by rw [List.length_append, padB_len]; omega))).trans ?_
    refine (run_ask (decide_eq_true (by rw [padB_len, shaN_len]; omega))).trans ?_
    refine (run_bnd (rsum_run _ (by rw [List.length_append, padB_len, shaN_len]; omega))).trans rfl
  unfold r03_Sum_T macN macK
  by_cases h : 64 < secret.length
  · refine (run_t (decide_eq_true (by omega))).trans ?_
    refine (run_bnd (rsum_run secret (by omega))).trans ?_
    rw [decide_eq_true h]
    exact tail (shaN secret)
  · refine (run_f (decide_eq_false (by omega))).trans ?_
    rw [decide_eq_false h]
    exact tail secret
theorem rmake_run (sec t u : Str) (n : Int) (h1 : sec.length ≤ 10000) (h2 : t.length ≤ 10000) (h3 : u.length ≤ 10000) : (r24_Make_T sec t u n).run = some (tokN sec t u n) := by
  have hs := saysN_len t u n
  unfold r24_Make_T
  refine (run_bnd (rsays_r t u n h2 h3)).trans ?_
  refine (run_bnd (rmac_run sec (saysN t u n) (by omega) (by omega))).trans ?_
  exact run_ask (decide_eq_true (by rw [macN_len]; omega))

/-! The document's reader. -/
def flipR (r : OctR) : OctR := (r.1, !r.2)
theorem rtk_run (n : Nat) (r : OctR) : ∃ g : Bool, (r01_Reader_take_T (n : Int) (flipR r)).run = some (((tkR n r).1, (g, ())), ((flipR (tkR n r).2, ()), ())) := by
  obtain ⟨s, g⟩ := r
  unfold r01_Reader_take_T tkR flipR
  cases g with
  | false => exact ⟨false, run_t rfl⟩
  | true =>
    by_cases h : s.length < n
    · refine ⟨false, (run_t (by show (false || decide ((s.length : Int) < (n : Int))) = true; rw [decide_eq_true (by omega)]; rfl)).trans ?_⟩
      show _ = some (((bif false || decide (s.length < n) then _ else _ : Str × OctR).1, _), _)
      rw [decide_eq_true h]; rfl
    · refine ⟨true, (run_f (by show (false || decide ((s.length : Int) < (n : Int))) = false; rw [decide_eq_false (by omega)]; rfl)).trans ?_⟩
      refine (run_ask (decide_eq_true (show (0 : Int) ≤ (n : Int) ∧ (n : Int) ≤ (s.length : Int) by omega))).trans ?_
      refine (run_ask (decide_eq_true (show (0 : Int) ≤ (n : Int) ∧ (n : Int) ≤ (s.length : Int) by omega))).trans ?_
      have e : (s.drop n).take (s.length - n) = s.drop n := List.take_of_length_le (by rw [List.length_drop]; omega)
      show some ((s.take n, (true, ())), ((((s.drop n).take (s.length - n), false), ()), ())) = some (((bif false || decide (s.length < n) then _ else _ : Str × OctR).1, (true, ())), (((_, !(bif false || decide (s.length < n) then _ else _ : Str × OctR).2.2), ()), ()))
      rw [e, decide_eq_false h]; rfl
theorem racc_step (l : Str) (i : Nat) (hl : l.length ≤ 8) (hi : i < l.length) :
    (r01_number_L3_step l (w64 (numB (l.take i) : Int)) (i : Int)).run = some (.inl (w64 (numB (l.take (i + 1)) : Int), ((i + 1 : Nat) : Int))) := by
  have h1 := numB_lt (l.take i)
  have h2 : (l.take i).length ≤ 7 := by rw [List.length_take]; omega
  have h3 : numB (l.take i) < 72057594037927936 := Nat.lt_of_lt_of_le h1 (Nat.le_trans (Nat.pow_le_pow_right (by decide) h2) (by decide))
  have hg : sgetI l (i : Int) = ((l[i].toNat : Nat) : Int) := by show (((l.getD i 0).toNat : Nat) : Int) = _; rw [getD_lt _ _ _ hi]
  have hb := UInt8.toNat_lt l[i]
  unfold r01_number_L3_step
  refine (run_t (decide_eq_true (by omega))).trans ?_
  refine (run_ask rfl).trans ?_
  refine (run_ask (inb_in (by omega))).trans ?_
  rw [hg, w64_of (n := (numB (l.take i) : Int)) (by omega) (by omega), w64_of (n := ((l[i].toNat : Nat) : Int)) (by omega) (by omega)]
  have e : stdShift .shl .i64 (numB (l.take i) : Int) 8 = w64 ((numB (l.take i) : Int) * 256) := rfl
  rw [e, acc_or h3 hb, w64_nat i (by omega), List.take_succ_eq_append_getElem hi, numB_snoc]
  rfl
theorem rnumber_run (l : Str) (hl : l.length ≤ 8) : (r01_number_T l).run = some (w64 (numB l : Int)) := by
  have hb : loopF (fun v => (r01_number_L3_step l v.1 v.2).run) (0, 0) = some (w64 (numB l : Int)) := by
    refine loopF_run (S := fun i => (w64 (numB (l.take i) : Int), (i : Int))) (n := l.length) (fun i hi => racc_step l i hl hi) ?_ rfl
    show (r01_number_L3_step l _ (l.length : Int)).run = _
    unfold r01_number_L3_step
    rw [List.take_length]
    exact run_f (decide_eq_false (by omega))
  unfold r01_number_T
  exact (run_bnd (loop_run hb)).trans rfl
theorem rintr_run (r : OctR) : (r01_Reader_Int_T (flipR r)).run = some ((numR 8 r).1, ((flipR (numR 8 r).2, ()), ())) := by
  obtain ⟨g, h⟩ := rtk_run 8 r
  unfold r01_Reader_Int_T numR
  refine (run_bnd h).trans ?_
  exact (run_bnd (rnumber_run _ (tkR_len 8 r))).trans rfl
theorem rtextr_run (r : OctR) : (r01_Reader_Text_T (flipR r)).run = some ((textR r).1, ((flipR (textR r).2, ()), ())) := by
  have hlt := num4_lt r
  obtain ⟨g, h4⟩ := rtk_run 4 r
  have hn : (r01_number_T (tkR 4 r).1).run = some (numB (tkR 4 r).1 : Int) := by
    rw [rnumber_run _ (Nat.le_trans (tkR_len 4 r) (by decide)), w64_of (by omega) (by omega)]
  unfold r01_Reader_Text_T textR
  by_cases h : 1048576 < numB (tkR 4 r).1
  · have hc : (r01_Reader_Count_T 1048576 (flipR r)).run = some (0, ((flipR ((tkR 4 r).2.1, false), ()), ())) := by
      unfold r01_Reader_Count_T
      refine (run_bnd h4).trans ?_
      refine (run_bnd hn).trans ?_
      exact (run_t (decide_eq_true (by show (1048576 : Int) < (numB (tkR 4 r).1 : Int); omega))).trans rfl
    refine (run_bnd hc).trans ?_
    obtain ⟨g2, h0⟩ := rtk_run 0 ((tkR 4 r).2.1, false)
    refine (run_bnd h0).trans ?_
    rw [decide_eq_true h]; rfl
  · have hc : (r01_Reader_Count_T 1048576 (flipR r)).run = some ((numB (tkR 4 r).1 : Int), ((flipR (tkR 4 r).2, ()), ())) := by
      unfold r01_Reader_Count_T
      refine (run_bnd h4).trans ?_
      refine (run_bnd hn).trans ?_
      exact run_f (decide_eq_false (by show ¬ (1048576 : Int) < (numB (tkR 4 r).1 : Int); omega))
    refine (run_bnd hc).trans ?_
    obtain ⟨g2, h0⟩ := rtk_run (numB (tkR 4 r).1) (tkR 4 r).2
    refine (run_bnd h0).trans ?_
    rw [decide_eq_false h]; rfl
theorem rdone_run (r : OctR) : (r01_Reader_Done_T (flipR r)).run = some (doneR r) := by
  obtain ⟨s, g⟩ := r
  unfold r01_Reader_Done_T doneR flipR
  show some ((!(!g)) && (s == ([] : Str))) = _
  rw [Bool.not_not]
theorem rread_run (x : Str) (hx : x.length ≤ 1000000) : (r24_Read_T x).run = some (readN x) := by
  unfold r24_Read_T readN
  by_cases h : x.length < 32
  · refine (run_t (decide_eq_true (by omega))).trans ?_
    rw [decide_eq_true h]; rfl
  · refine (run_f (decide_eq_false (by omega))).trans ?_
    have e : w64 ((x.length : Int) - 32) = ((x.length - 32 : Nat) : Int) := by rw [w64_of (by omega) (by omega)]; omega
    rw [decide_eq_false h, cond_false, e]
    refine (run_ask (decide_eq_true (show (0 : Int) ≤ ((x.length - 32 : Nat) : Int) ∧ ((x.length - 32 : Nat) : Int) ≤ (x.length : Int) by omega))).trans ?_
    have e2 : subS x 0 ((x.length - 32 : Nat) : Int).toNat = x.take (x.length - 32) := by
      show (x.drop 0).take (((x.length - 32 : Nat) : Int).toNat - 0) = _
      rw [Int.toNat_natCast]; rfl
    rw [e2]
    refine (run_bnd (rtextr_run (x.take (x.length - 32), true))).trans ?_
    refine (run_bnd (rtextr_run _)).trans ?_
    refine (run_bnd (rintr_run _)).trans ?_
    refine (run_bnd (rdone_run _)).trans ?_
    generalize textR (x.take (x.length - 32), true) = a
    generalize textR a.2 = b
    generalize numR 8 b.2 = c
    cases doneR c.2 <;> rfl

/-! The document's tenants, and whose a token is. -/
theorem rlim_run (l : List Entry) (t f : Str) (b : TBnd) (hb : (r23_Bounds_T f).run = some (b.1, b.2, ())) (hl : l.length ≤ 1000000) (ht : t.length ≤ 100000) (hf : f.length ≤ 100000) :
    (r23_limit_T l t f).run = some (limT b (valT l t f)) := by
  unfold r23_limit_T
  refine (run_bnd hb).trans ?_
  refine (run_bnd (rKey_run t f ht hf)).trans ?_
  refine (run_bnd (rGet_run l _ hl)).trans ?_
  refine (run_bnd (r05Num_run _)).trans ?_
  unfold limT
  show (Tree.ite (((!(numS (valT l t f)).2) || decide ((numS (valT l t f)).1 < 0)) || decide (b.1 < (numS (valT l t f)).1)) _ _).run = _
  cases ((!(numS (valT l t f)).2) || decide ((numS (valT l t f)).1 < 0)) || decide (b.1 < (numS (valT l t f)).1) <;> rfl
theorem risSecret_run (s : Str) : (r23_isSecret_T s).run = some (secB s) := by
  unfold r23_isSecret_T secB
  show some _ = some _
  congr 1
  have e1 : decide ((1 : Int) ≤ (s.length : Int)) = !(s == ([] : Str)) := by
    cases s with
    | nil => rfl
    | cons a s => rw [decide_eq_true (by rw [List.length_cons]; omega)]; rfl
  rw [e1]
  congr 1
  exact decide_eq_decide.2 (by omega)
theorem rof_runT (l : List Entry) (t : Str) (hl : SmT l) (ht : t.length ≤ 100000) : (r23_Of_T l t).run = some (ofT l t) := by
  unfold r23_Of_T ofT
  refine (run_bnd (rKey_run t secretS ht (by decide))).trans ?_
  refine (run_bnd (rGet_run l _ hl.1)).trans ?_
  refine (run_bnd (r05Is_run t (by omega))).trans ?_
  refine (run_grd (risSecret_run _)).trans ?_
  show (Tree.ite ((!nameS t) || (!secB (valT l t secretS))) _ _).run = _
  cases h : nameS t && secB (valT l t secretS) with
  | false =>
    refine (run_t ?_).trans rfl
    revert h; cases nameS t <;> cases secB (valT l t secretS) <;> simp
  | true =>
    refine (run_f ?_).trans ?_
    · revert h; cases nameS t <;> cases secB (valT l t secretS) <;> simp
    · refine (run_bnd (rlim_run l t bytesS (1099511627776, 1048576) rfl hl.1 ht (by decide))).trans ?_
      refine (run_bnd (rlim_run l t rateS (1048576, 8) rfl hl.1 ht (by decide))).trans ?_
      refine (run_bnd (rlim_run l t burstS (1048576, 16) rfl hl.1 ht (by decide))).trans ?_
      exact (run_bnd (rlim_run l t queueS (64, 16) rfl hl.1 ht (by decide))).trans rfl
theorem ofT_name {l : List Entry} {t : Str} (h : nameS t = false) : (ofT l t).2.1 = false := by unfold ofT; rw [h]; rfl
theorem readN_len2 (x : Str) : (readN x).2.1.length ≤ x.length := by
  unfold readN
  cases decide (x.length < 32) with
  | true => exact Nat.zero_le _
  | false =>
    rw [cond_false]
    generalize hd : doneR (numR 8 (textR (textR (x.take (x.length - 32), true)).2).2).2 = d
    cases d with
    | false => exact Nat.zero_le _
    | true =>
      show (textR (textR (x.take (x.length - 32), true)).2).1.length ≤ _
      have h1 : ∀ (n : Nat) (r : OctR), (tkR n r).1.length ≤ r.1.length := fun n r => by
        unfold tkR
        cases !r.2 || decide (r.1.length < n) with
        | true => exact Nat.zero_le _
        | false => show (r.1.take n).length ≤ _; rw [List.length_take]; omega
      have h3 : ∀ r : OctR, (textR r).1.length ≤ r.1.length := fun r => by
        unfold textR
        cases decide (1048576 < numB (tkR 4 r).1) with
        | true => exact Nat.zero_le _
        | false => exact Nat.le_trans (h1 _ _) (tkR_rest 4 _)
      have h2 : (x.take (x.length - 32)).length ≤ x.length := by rw [List.length_take]; omega
      exact Nat.le_trans (h3 _) (Nat.le_trans (textR_rest _) h2)
theorem rtcheck_run (l : List Entry) (x : Str) (now : Int) (hl : SmT l) (hx : x.length ≤ 100000) : (r24_Check_T l x now).run = some (checkN l x now) := by
  have hr := rread_run x (by omega)
  have ho := rof_runT l (readN x).1 hl (Nat.le_trans (readN_len x) hx)
  have hs := ofT_sec l (readN x).1
  have hn1 := r05Is_run (readN x).1 (Nat.le_trans (readN_len x) (by omega))
  have hn2 := r05Is_run (readN x).2.1 (Nat.le_trans (readN_len2 x) (by omega))
  have hof : nameS (readN x).1 = false → (ofT l (readN x).1).2.1 = false := ofT_name
  by_cases h32 : x.length < 32
  · have hg : goodB l x now = false := by unfold goodB; rw [readN_short h32]; rfl
    unfold r24_Check_T checkN
    refine (run_bnd hr).trans ?_
    refine (run_grd hn1).trans ?_
    refine (run_grd hn2).trans ?_
    rw [hg, readN_short h32]; rfl
  · have e : w64 ((x.length : Int) - 32) = ((x.length - 32 : Nat) : Int) := by rw [w64_of (by omega) (by omega)]; omega
    have hk : inbe ((x.length - 32 : Nat) : Int) x.length = true := decide_eq_true (show (0 : Int) ≤ ((x.length - 32 : Nat) : Int) ∧ ((x.length - 32 : Nat) : Int) ≤ (x.length : Int) by omega)
    have e2 : subS x 0 ((x.length - 32 : Nat) : Int).toNat = x.take (x.length - 32) := by
      show (x.drop 0).take (((x.length - 32 : Nat) : Int).toNat - 0) = _
      rw [Int.toNat_natCast]; rfl
    have e3 : subS x ((x.length - 32 : Nat) : Int).toNat x.length = x.drop (x.length - 32) := by
      show (x.drop ((x.length - 32 : Nat) : Int).toNat).take (x.length - ((x.length - 32 : Nat) : Int).toNat) = _
      rw [Int.toNat_natCast]
      exact List.take_of_length_le (by rw [List.length_drop]; omega)
    have hi := rmac_run (ofT l (readN x).1).1.2.1 (x.take (x.length - 32)) (by omega) (by rw [List.length_take]; omega)
    unfold r24_Check_T checkN goodB sumB
    refine (run_bnd hr).trans ?_
    refine (run_grd hn1).trans ?_
    refine (run_grd hn2).trans ?_
    rw [e, e2, e3]
    generalize macN (ofT l (readN x).1).1.2.1 (x.take (x.length - 32)) = sm at hi ⊢
    generalize x.drop (x.length - 32) = dr
    generalize readN x = q at ho hs hi hof ⊢
    obtain ⟨qa, qu, qn, qb, _⟩ := q
    generalize ofT l qa = o at ho hs hi hof ⊢
    cases qb with
    | false => rfl
    | true =>
      show (Tree.ite (((false || (!nameS qa)) || (!nameS qu)) || decide (qn < now)) _ _).run = some (bif (((true && o.2.1) && nameS qu) && !decide (qn < now)) && (sm == dr) then _ else _ : Whose)
      cases hna : nameS qa with
      | false => rw [hof hna]; rfl
      | true =>
        cases nameS qu with
        | false => rw [Bool.and_false]; rfl
        | true =>
          cases decide (qn < now) with
          | true => rw [Bool.not_true, Bool.and_false]; rfl
          | false =>
            refine (run_f rfl).trans ?_
            refine (run_bnd ho).trans ?_
            refine (run_ask (by rw [hk, Bool.or_true])).trans ?_
            refine (run_grd hi).trans ?_
            refine (run_ask (by rw [hk, Bool.or_true])).trans ?_
            cases o.2.1 with
            | false => rfl
            | true =>
              show (Tree.ite (false || !(sm == dr)) _ _).run = _
              cases sm == dr <;> rfl
