/- SHA-256: bytes of numbers, the filled text, the sum of a text. -/
import Derived.Test.YteoafkipoapjlaaGreatDoorH04
namespace Go.Eng
open Go Go.Proofs

/-! Texts as lists of numbers, and back. -/
theorem strI_app (a b : Str) : strI (a ++ b) = strI a ++ strI b := List.map_append
theorem strB_I (s : Str) : strB (strI s) = s := by
  unfold strB strI
  rw [List.map_map]
  conv => rhs; rw [← List.map_id s]
  apply List.map_congr_left
  intro x _
  show UInt8.ofNat ((x.toNat : Int)).toNat = x
  rw [Int.toNat_natCast]; exact UInt8.ofNat_toNat
theorem strI_B {l : List Nat} (h : ∀ n ∈ l, n < 256) : strI (strB (cst l)) = cst l := by
  unfold strB strI cst
  rw [List.map_map, List.map_map]
  apply List.map_congr_left
  intro x hx
  show (((UInt8.ofNat (Int.ofNat x).toNat).toNat : Nat) : Int) = Int.ofNat x
  have : (Int.ofNat x).toNat = x := rfl
  rw [this, UInt8.toNat_ofNat_of_lt' (h x hx)]; rfl
theorem strB_app (a b : List Int) : strB (a ++ b) = strB a ++ strB b := List.map_append
theorem strB_len (l : List Int) : (strB l).length = l.length := List.length_map _
theorem strI_take (s : Str) (n : Nat) : (strI s).take n = strI (s.take n) := List.map_take.symm
theorem strI_drop (s : Str) (n : Nat) : (strI s).drop n = strI (s.drop n) := List.map_drop.symm
theorem cst_app (a b : List Nat) : cst (a ++ b) = cst a ++ cst b := List.map_append

/-! A number's bytes, the greatest first. -/
def beP (n v i : Nat) : List Nat := (List.range i).map fun j => v / 2 ^ (8 * (n - 1 - j)) % 256
theorem beP_succ (n v i : Nat) : beP n v (i + 1) = beP n v i ++ [v / 2 ^ (8 * (n - 1 - i)) % 256] := by
  unfold beP; rw [List.range_succ, List.map_append]; rfl
theorem beP_len (n v i : Nat) : (beP n v i).length = i := by unfold beP; rw [List.length_map, List.length_range]
theorem beP_mem (n v i : Nat) : ∀ x ∈ beP n v i, x < 256 := by
  intro x hx
  obtain ⟨j, _, rfl⟩ := List.mem_map.1 hx
  exact Nat.mod_lt _ (by decide)
def c4 (v : Nat) : Str := strB (cst (beP 4 v 4))
def c8 (v : Nat) : Str := strB (cst (beP 8 v 8))
theorem c4_len (v : Nat) : (c4 v).length = 4 := by unfold c4; rw [strB_len, cst_len, beP_len]
theorem c8_len (v : Nat) : (c8 v).length = 8 := by unfold c8; rw [strB_len, cst_len, beP_len]
theorem c4_I (v : Nat) : strI (c4 v) = cst (beP 4 v 4) := strI_B (beP_mem 4 v 4)
theorem c8_I (v : Nat) : strI (c8 v) = cst (beP 8 v 8) := strI_B (beP_mem 8 v 8)
theorem wrap8N (n : Nat) : IntKind.wrap .u8 (n : Int) = ((n % 256 : Nat) : Int) := by rw [IntKind.wrap_u8]; omega
theorem pow_le64 {v s : Nat} (h : v < 9223372036854775808) : v / 2 ^ s < 9223372036854775808 := Nat.lt_of_le_of_lt (Nat.div_le_self _ _) h

theorem low_step (v n i : Nat) (hn : n ≤ 8) (hi : i < n) (rows : List Int) (hr : rows.length ≤ 900000) :
    (octet_Writer_low_L2_step (v : Int) ((n - 1 - i : Nat) : Int) rows).run = some (.inl (w64 (((n - 1 - i : Nat) : Int) - 1), rows ++ [((v / 2 ^ (8 * (n - 1 - i)) % 256 : Nat) : Int)])) := by
  have e : w64 ((8 : Int) * ((n - 1 - i : Nat) : Int)) = ((8 * (n - 1 - i) : Nat) : Int) := by rw [w64_same (by omega) (by omega)]; omega
  have es : stdShift .shr .i64 (v : Int) ((8 * (n - 1 - i) : Nat) : Int) = ((v / 2 ^ (8 * (n - 1 - i)) : Nat) : Int) := shr64 (by omega)
  unfold octet_Writer_low_L2_step
  rw [e, es, wrap8N]
  refine (run_t (decide_eq_true (by omega))).trans ?_
  refine (run_ask (decide_eq_true (by omega))).trans ?_
  refine (run_bnd (a := ((), (((), ((), ())), ((rows ++ [((v / 2 ^ (8 * (n - 1 - i)) % 256 : Nat) : Int)]), ())))) ?_).trans rfl
  unfold strings_Builder_WriteByte_T strings_Builder_copyCheck_T
  refine (run_bnd rfl).trans ?_
  exact run_ask (room_le _ _ (by rw [List.length_append]; show rows.length + 1 ≤ _; omega) (by omega))
theorem low_loop (v n : Nat) (hn : n ≤ 8) (h0 : 0 < n) (rows : List Int) (hr : rows.length ≤ 890000) :
    loopF (fun x => (octet_Writer_low_L2_step (v : Int) x.1 x.2).run) (w64 ((n : Int) - 1), rows) = some (rows ++ cst (beP n v n)) := by
  refine loopF_run (S := fun i => ((n : Int) - 1 - (i : Int), rows ++ cst (beP n v i))) (n := n) (fun i hi => ?_) ?_ ?_
  · have := low_step v n i hn hi (rows ++ cst (beP n v i)) (by rw [List.length_append, cst_len, beP_len]; omega)
    have e : ((n - 1 - i : Nat) : Int) = (n : Int) - 1 - (i : Int) := by omega
    have e2 : w64 ((n : Int) - 1 - (i : Int) - 1) = (n : Int) - 1 - ((i + 1 : Nat) : Int) := by rw [w64_same (by omega) (by omega)]; omega
    rw [e, e2] at this
    rw [beP_succ, cst_snoc, ← List.append_assoc]
    exact this
  · show (octet_Writer_low_L2_step _ ((n : Int) - 1 - (n : Int)) _).run = _
    unfold octet_Writer_low_L2_step
    exact run_f (decide_eq_false (by omega))
  · rw [w64_same (by omega) (by omega)]
    show _ = ((n : Int) - 1 - ((0 : Nat) : Int), rows ++ [])
    rw [List.append_nil]
    congr 1
    omega
theorem count_w {v : Nat} (hv : v < 9223372036854775808) (s : Str) (hs : s.length ≤ 890000) : (octet_Writer_Count_T (v : Int) (strI s)).run = some ((), (((), ((), ())), (strI (s ++ c4 v), ()))) := by
  have hl := low_loop v 4 (by omega) (by omega) (strI s) (by rw [strI_len]; exact hs)
  rw [← c4_I, ← strI_app] at hl
  unfold octet_Writer_Count_T octet_Writer_low_T
  refine (run_bnd (a := ((), (((), ((), ())), (strI (s ++ c4 v), ())))) ?_).trans rfl
  refine (run_f rfl).trans ?_
  exact (run_bnd (loop_run hl)).trans rfl
theorem int_w {v : Nat} (hv : v < 9223372036854775808) (s : Str) (hs : s.length ≤ 890000) : (octet_Writer_Int_T (v : Int) (strI s)).run = some ((), (((), ((), ())), (strI (s ++ c8 v), ()))) := by
  have hl := low_loop v 8 (by omega) (by omega) (strI s) (by rw [strI_len]; exact hs)
  rw [← c8_I, ← strI_app] at hl
  unfold octet_Writer_Int_T octet_Writer_low_T
  refine (run_bnd (a := ((), (((), ((), ())), (strI (s ++ c8 v), ())))) ?_).trans rfl
  refine (run_f rfl).trans ?_
  exact (run_bnd (loop_run hl)).trans rfl
theorem bytes_w {s : Str} (h : 0 < s.length) : (octet_Writer_Bytes_T (strI s)).run = some (s, (((), ((), ())), (strI s, ()))) := by
  unfold octet_Writer_Bytes_T strings_Builder_String_T
  refine (run_f rfl).trans ?_
  refine (run_bnd (a := (s, (((), ((), ())), (strI s, ())))) ?_).trans rfl
  refine (run_ask (decide_eq_true (by rw [strI_len]; exact h))).trans ?_
  rw [strB_I]; rfl

theorem and255 {x : Nat} (h : x < 9223372036854775808) : stdArith .and .i64 (x : Int) 255 = ((x % 256 : Nat) : Int) := by
  have := and64 (x := x) (y := 255) h (by decide)
  refine this.trans ?_
  rw [show (255 : Nat) = 2 ^ 8 - 1 from rfl, Nat.and_two_pow_sub_one_eq_mod]
theorem int_step {v : Nat} (hv : v < 9223372036854775808) (i : Nat) (hi : i < 8) (s : Str) (hs : s.length ≤ 900000) :
    (r01_Int_L3_step (v : Int) s ((8 * (7 - i) : Nat) : Int)).run = some (.inl (s ++ strB (cst [v / 2 ^ (8 * (7 - i)) % 256]), w64 (((8 * (7 - i) : Nat) : Int) - 8))) := by
  have hd := pow_le64 (s := 8 * (7 - i)) hv
  unfold r01_Int_L3_step
  rw [show stdShift .shr .i64 (v : Int) ((8 * (7 - i) : Nat) : Int) = _ from shr64 (by omega)]
  generalize v / 2 ^ (8 * (7 - i)) = m at hd ⊢
  rw [and255 hd]
  refine (run_t (decide_eq_true (by omega))).trans ?_
  refine (run_ask (decide_eq_true (by omega))).trans ?_
  have hb : (r01_Byte_T ((m % 256 : Nat) : Int)).run = some (strB (cst [m % 256])) := by
    unfold r01_Byte_T
    rw [and255 (by omega), wrap8N, Nat.mod_mod, Nat.mod_mod]; rfl
  refine (run_bnd hb).trans ?_
  refine (run_ask (decide_eq_true (by rw [strB_len, cst_len]; show _ + 1 ≤ _; omega))).trans ?_
  rfl
theorem int_r {v : Nat} (hv : v < 9223372036854775808) : (r01_Int_T (v : Int)).run = some (c8 v) := by
  have hl : loopF (fun x => (r01_Int_L3_step (v : Int) x.1 x.2).run) (([] : Str), 56) = some (strB (cst (beP 8 v 8))) := by
    refine loopF_run (S := fun i => (strB (cst (beP 8 v i)), (56 : Int) - 8 * (i : Int))) (n := 8) (fun i hi => ?_) ?_ rfl
    · have := int_step hv i hi (strB (cst (beP 8 v i))) (by rw [strB_len, cst_len, beP_len]; omega)
      have e : ((8 * (7 - i) : Nat) : Int) = (56 : Int) - 8 * (i : Int) := by omega
      have e2 : w64 ((56 : Int) - 8 * (i : Int) - 8) = (56 : Int) - 8 * ((i + 1 : Nat) : Int) := by rw [w64_same (by omega) (by omega)]; omega
      rw [e, e2] at this
      rw [beP_succ, cst_app, strB_app]
      exact this
    · show (r01_Int_L3_step _ _ ((56 : Int) - 8 * ((8 : Nat) : Int))).run = _
      unfold r01_Int_L3_step
      exact run_f (decide_eq_false (by omega))
  unfold r01_Int_T
  exact (run_bnd (loop_run hl)).trans rfl
theorem c8_drop (v : Nat) : (c8 v).drop 4 = c4 v := by
  show ((beP 8 v 8).map _ |>.map _).drop 4 = _
  rw [← List.map_drop, ← List.map_drop]
  rfl
theorem count_r {v : Nat} (hv : v < 9223372036854775808) : (r01_Count_T (v : Int)).run = some (c4 v) := by
  unfold r01_Count_T
  refine (run_bnd (int_r hv)).trans ?_
  refine (run_ask (decide_eq_true (show (0 : Int) ≤ 4 ∧ (4 : Int) ≤ ((c8 v).length : Int) by rw [c8_len]; omega))).trans ?_
  show some (((c8 v).drop 4).take ((c8 v).length - 4)) = _
  rw [List.take_of_length_le (by rw [List.length_drop]; omega), c8_drop]

/-! The text is filled to whole blocks. -/
def padN (n : Nat) : Nat := (120 - (n + 1) % 64) % 64
def padA (x : Str) (i : Nat) : Str := (x ++ [128]) ++ List.replicate i 0
theorem padA_len (x : Str) (i : Nat) : (padA x i).length = x.length + 1 + i := by
  unfold padA; rw [List.length_append, List.length_append, List.length_replicate]; rfl
theorem padA_succ (x : Str) (i : Nat) : padA x (i + 1) = padA x i ++ ([0] : Str) := by
  unfold padA; rw [List.replicate_succ', ← List.append_assoc]
def padS (x : Str) : Str := padA x (padN x.length) ++ c8 (8 * x.length)
theorem padS_len (x : Str) : (padS x).length = x.length + 1 + padN x.length + 8 := by unfold padS; rw [List.length_append, padA_len, c8_len]
theorem padS_64 (x : Str) : (padS x).length % 64 = 0 := by rw [padS_len]; unfold padN; omega
theorem padN_lt (n : Nat) : padN n < 64 := Nat.mod_lt _ (by decide)
theorem tmodN (n : Nat) : (n : Int).tmod 64 = ((n % 64 : Nat) : Int) := by
  rw [Int.tmod_eq_emod_of_nonneg (by omega)]; omega
theorem pad_w (x : Str) (hx : x.length ≤ 800000) : loopF (fun v => (sha_Sum_L2_step x v).run) (strI x ++ [128]) = some (strI (padA x (padN x.length))) := by
  have step : ∀ i, i < padN x.length → (sha_Sum_L2_step x (strI (padA x i))).run = some (.inl (strI (padA x (i + 1)))) := by
    intro i hi
    have h6 := padN_lt x.length
    unfold sha_Sum_L2_step
    rw [strI_len, padA_len, tmodN]
    refine (run_ask (by decide)).trans ?_
    refine (run_t (by rw [decide_eq_false]; rfl; unfold padN at hi; omega)).trans ?_
    refine (run_ask (room_le _ _ (by rw [List.length_append, strI_len, padA_len]; show _ + 1 ≤ _; omega) (by omega))).trans ?_
    rw [padA_succ, strI_app]; rfl
  refine loopF_run (S := fun i => strI (padA x i)) (n := padN x.length) step ?_ ?_
  · show (sha_Sum_L2_step _ _).run = _
    unfold sha_Sum_L2_step
    rw [strI_len, padA_len, tmodN]
    refine (run_ask (by decide)).trans ?_
    exact run_f (by rw [decide_eq_true]; rfl; unfold padN; omega)
  · show _ = strI ((x ++ [128]) ++ [])
    rw [List.append_nil, strI_app]; rfl
theorem pad_loop (x : Str) (n : Int) (hx : x.length ≤ 800000) : loopF (fun v => (r02_pad_L3_step n v).run) (x ++ ([128] : Str)) = some (padA x (padN x.length)) := by
  have step : ∀ i, i < padN x.length → (r02_pad_L3_step n (padA x i)).run = some (.inl (padA x (i + 1))) := by
    intro i hi
    have h6 := padN_lt x.length
    unfold r02_pad_L3_step
    rw [padA_len, tmodN]
    refine (run_ask (by decide)).trans ?_
    refine (run_t (by rw [decide_eq_false]; rfl; unfold padN at hi; omega)).trans ?_
    refine (run_ask (decide_eq_true (by show _ + 1 ≤ _; omega))).trans ?_
    rw [padA_succ]; rfl
  refine loopF_run (S := fun i => padA x i) (n := padN x.length) step ?_ ?_
  · show (r02_pad_L3_step _ _).run = _
    unfold r02_pad_L3_step
    rw [padA_len, tmodN]
    refine (run_ask (by decide)).trans ?_
    exact run_f (by rw [decide_eq_true]; rfl; unfold padN; omega)
  · show _ = (x ++ [128]) ++ []
    rw [List.append_nil]
theorem len8 {n : Nat} (h : n ≤ 800000) : w64 ((8 : Int) * (n : Int)) = ((8 * n : Nat) : Int) := by rw [w64_same (by omega) (by omega)]; omega
theorem pad_run (x : Str) (hx : x.length ≤ 800000) : (r02_pad_T x).run = some (padS x) := by
  have h6 := padN_lt x.length
  unfold r02_pad_T
  refine (run_ask (decide_eq_true (by show _ + 1 ≤ _; omega))).trans ?_
  refine (run_bnd (loop_run (pad_loop x _ hx))).trans ?_
  rw [len8 hx]
  refine (run_bnd (int_r (by omega))).trans ?_
  refine (run_ask (decide_eq_true (by rw [padA_len, c8_len]; omega))).trans ?_
  rfl

/-! Block behind block. -/
def BK (p : Str) (s : N8) : Nat → N8
  | 0 => s
  | i + 1 => blockN ((p.drop (64 * i)).take 64) (BK p s i)
theorem BK_ok (p : Str) {s : N8} (h : ok8 s) (i : Nat) : ok8 (BK p s i) := by
  cases i with
  | zero => exact h
  | succ i => exact blockN_ok _ _
def s0N : N8 := (1779033703, (3144134277, (1013904242, (2773480762, (1359893119, (2600822924, (528734635, 1541459225)))))))
theorem s0_ok : ok8 s0N := by unfold ok8 s0N; decide
theorem cut64 {p : Str} {i : Nat} (h64 : p.length % 64 = 0) (hi : i < p.length / 64) : (p.drop (64 * i)).length = p.length - 64 * i ∧ 64 ≤ p.length - 64 * i := by
  rw [List.length_drop]; omega
theorem cut64_len {p : Str} {i : Nat} (h64 : p.length % 64 = 0) (hi : i < p.length / 64) : ((p.drop (64 * i)).take 64).length = 64 := by
  rw [List.length_take, List.length_drop]; omega
theorem sum_step (p : Str) {s : N8} (hs : ok8 s) (h64 : p.length % 64 = 0) (i : Nat) (hi : i < p.length / 64) :
    (sha_Sum_L8_step (strI (p.drop (64 * i))) (up8 s)).run = some (.inl (strI (p.drop (64 * (i + 1))), up8 (blockN ((p.drop (64 * i)).take 64) s))) := by
  obtain ⟨h1, h2⟩ := cut64 h64 hi
  unfold sha_Sum_L8_step
  rw [strI_len, h1]
  refine (run_t (decide_eq_true (by omega))).trans ?_
  refine (run_ask (decide_eq_true (by omega))).trans ?_
  refine (run_bnd (show (sha_take_T (up8 s) ((strI (p.drop (64 * i))).take 64)).run = _ from by rw [strI_take]; exact take_run _ (cut64_len h64 hi) hs)).trans ?_
  refine (run_ask (decide_eq_true (by omega))).trans ?_
  show some (Sum.inl ((strI (p.drop (64 * i))).drop 64, _)) = _
  rw [strI_drop, List.drop_drop]
  rfl
theorem sum_blocks (p : Str) {s : N8} (hs : ok8 s) (h64 : p.length % 64 = 0) : loopF (fun v => (sha_Sum_L8_step v.1 v.2).run) (strI p, up8 s) = some (up8 (BK p s (p.length / 64))) := by
  refine loopF_run (S := fun i => (strI (p.drop (64 * i)), up8 (BK p s i))) (n := p.length / 64) (fun i hi => sum_step p (BK_ok p hs i) h64 i hi) ?_ rfl
  show (sha_Sum_L8_step _ _).run = _
  unfold sha_Sum_L8_step
  rw [strI_len, List.length_drop]
  exact run_f (decide_eq_false (by omega))
theorem ref_step (p : Str) {s : N8} (hs : ok8 s) (h64 : p.length % 64 = 0) (i : Nat) (hi : i < p.length / 64) :
    (r02_Sum_L3_step (p.drop (64 * i)) (up8 s)).run = some (.inl (p.drop (64 * (i + 1)), up8 (blockN ((p.drop (64 * i)).take 64) s))) := by
  obtain ⟨h1, h2⟩ := cut64 h64 hi
  unfold r02_Sum_L3_step
  refine (run_t (decide_eq_true (by rw [h1]; omega))).trans ?_
  refine (run_ask (decide_eq_true (by rw [h1]; omega))).trans ?_
  refine (run_bnd (show (r02_block_T (up8 s) ((p.drop (64 * i)).take 64)).run = _ from block_run _ (cut64_len h64 hi) hs)).trans ?_
  refine (run_ask (decide_eq_true (by rw [h1]; omega))).trans ?_
  show some (Sum.inl (((p.drop (64 * i)).drop 64).take ((p.drop (64 * i)).length - 64), _)) = _
  rw [List.take_of_length_le (by rw [List.length_drop]; omega), List.drop_drop]
  rfl
theorem ref_blocks (p : Str) {s : N8} (hs : ok8 s) (h64 : p.length % 64 = 0) : loopF (fun v => (r02_Sum_L3_step v.1 v.2).run) (p, up8 s) = some (up8 (BK p s (p.length / 64))) := by
  refine loopF_run (S := fun i => (p.drop (64 * i), up8 (BK p s i))) (n := p.length / 64) (fun i hi => ref_step p (BK_ok p hs i) h64 i hi) ?_ rfl
  show (r02_Sum_L3_step _ _).run = _
  unfold r02_Sum_L3_step
  rw [List.length_drop]
  exact run_f (decide_eq_false (by omega))

/-! The last state's bytes. -/
theorem sum_out0 {s : N8} (hs : ok8 s) (o : Str) (ho : o.length ≤ 890000) : (sha_Sum_L13_step (up8 s) ((0 : Nat) : Int) (strI o)).run = some (.inl (((0 + 1 : Nat) : Int), strI (o ++ c4 s.1))) := by
  obtain ⟨h1, h2, h3, h4, h5, h6, h7, h8⟩ := hs
  unfold sha_Sum_L13_step
  refine (run_t (by decide)).trans ?_
  refine (run_t (by decide)).trans ?_
  refine (run_ask rfl).trans ?_
  have hw : w64 ((s.1 : Nat) : Int) = ((s.1 : Nat) : Int) := w64N (by omega)
  refine (run_bnd (show (octet_Writer_Count_T (w64 ((s.1 : Nat) : Int)) (strI o)).run = _ from by rw [hw]; exact count_w (by omega) o ho)).trans ?_
  rfl
theorem sum_out1 {s : N8} (hs : ok8 s) (o : Str) (ho : o.length ≤ 890000) : (sha_Sum_L13_step (up8 s) ((1 : Nat) : Int) (strI o)).run = some (.inl (((1 + 1 : Nat) : Int), strI (o ++ c4 s.2.1))) := by
  obtain ⟨h1, h2, h3, h4, h5, h6, h7, h8⟩ := hs
  unfold sha_Sum_L13_step
  refine (run_t (by decide)).trans ?_
  refine (run_f (by decide)).trans ?_
  refine (run_t (by decide)).trans ?_
  refine (run_ask rfl).trans ?_
  have hw : w64 ((s.2.1 : Nat) : Int) = ((s.2.1 : Nat) : Int) := w64N (by omega)
  refine (run_bnd (show (octet_Writer_Count_T (w64 ((s.2.1 : Nat) : Int)) (strI o)).run = _ from by rw [hw]; exact count_w (by omega) o ho)).trans ?_
  rfl
theorem sum_out2 {s : N8} (hs : ok8 s) (o : Str) (ho : o.length ≤ 890000) : (sha_Sum_L13_step (up8 s) ((2 : Nat) : Int) (strI o)).run = some (.inl (((2 + 1 : Nat) : Int), strI (o ++ c4 s.2.2.1))) := by
  obtain ⟨h1, h2, h3, h4, h5, h6, h7, h8⟩ := hs
  unfold sha_Sum_L13_step
  refine (run_t (by decide)).trans ?_
  refine (run_f (by decide)).trans ?_
  refine (run_f (by decide)).trans ?_
  refine (run_t (by decide)).trans ?_
  refine (run_ask rfl).trans ?_
  have hw : w64 ((s.2.2.1 : Nat) : Int) = ((s.2.2.1 : Nat) : Int) := w64N (by omega)
  refine (run_bnd (show (octet_Writer_Count_T (w64 ((s.2.2.1 : Nat) : Int)) (strI o)).run = _ from by rw [hw]; exact count_w (by omega) o ho)).trans ?_
  rfl
theorem sum_out3 {s : N8} (hs : ok8 s) (o : Str) (ho : o.length ≤ 890000) : (sha_Sum_L13_step (up8 s) ((3 : Nat) : Int) (strI o)).run = some (.inl (((3 + 1 : Nat) : Int), strI (o ++ c4 s.2.2.2.1))) := by
  obtain ⟨h1, h2, h3, h4, h5, h6, h7, h8⟩ := hs
  unfold sha_Sum_L13_step
  refine (run_t (by decide)).trans ?_
  refine (run_f (by decide)).trans ?_
  refine (run_f (by decide)).trans ?_
  refine (run_f (by decide)).trans ?_
  refine (run_t (by decide)).trans ?_
  refine (run_ask rfl).trans ?_
  have hw : w64 ((s.2.2.2.1 : Nat) : Int) = ((s.2.2.2.1 : Nat) : Int) := w64N (by omega)
  refine (run_bnd (show (octet_Writer_Count_T (w64 ((s.2.2.2.1 : Nat) : Int)) (strI o)).run = _ from by rw [hw]; exact count_w (by omega) o ho)).trans ?_
  rfl
theorem sum_out4 {s : N8} (hs : ok8 s) (o : Str) (ho : o.length ≤ 890000) : (sha_Sum_L13_step (up8 s) ((4 : Nat) : Int) (strI o)).run = some (.inl (((4 + 1 : Nat) : Int), strI (o ++ c4 s.2.2.2.2.1))) := by
  obtain ⟨h1, h2, h3, h4, h5, h6, h7, h8⟩ := hs
  unfold sha_Sum_L13_step
  refine (run_t (by decide)).trans ?_
  refine (run_f (by decide)).trans ?_
  refine (run_f (by decide)).trans ?_
  refine (run_f (by decide)).trans ?_
  refine (run_f (by decide)).trans ?_
  refine (run_t (by decide)).trans ?_
  refine (run_ask rfl).trans ?_
  have hw : w64 ((s.2.2.2.2.1 : Nat) : Int) = ((s.2.2.2.2.1 : Nat) : Int) := w64N (by omega)
  refine (run_bnd (show (octet_Writer_Count_T (w64 ((s.2.2.2.2.1 : Nat) : Int)) (strI o)).run = _ from by rw [hw]; exact count_w (by omega) o ho)).trans ?_
  rfl
theorem sum_out5 {s : N8} (hs : ok8 s) (o : Str) (ho : o.length ≤ 890000) : (sha_Sum_L13_step (up8 s) ((5 : Nat) : Int) (strI o)).run = some (.inl (((5 + 1 : Nat) : Int), strI (o ++ c4 s.2.2.2.2.2.1))) := by
  obtain ⟨h1, h2, h3, h4, h5, h6, h7, h8⟩ := hs
  unfold sha_Sum_L13_step
  refine (run_t (by decide)).trans ?_
  refine (run_f (by decide)).trans ?_
  refine (run_f (by decide)).trans ?_
  refine (run_f (by decide)).trans ?_
  refine (run_f (by decide)).trans ?_
  refine (run_f (by decide)).trans ?_
  refine (run_t (by decide)).trans ?_
  refine (run_ask rfl).trans ?_
  have hw : w64 ((s.2.2.2.2.2.1 : Nat) : Int) = ((s.2.2.2.2.2.1 : Nat) : Int) := w64N (by omega)
  refine (run_bnd (show (octet_Writer_Count_T (w64 ((s.2.2.2.2.2.1 : Nat) : Int)) (strI o)).run = _ from by rw [hw]; exact count_w (by omega) o ho)).trans ?_
  rfl
theorem sum_out6 {s : N8} (hs : ok8 s) (o : Str) (ho : o.length ≤ 890000) : (sha_Sum_L13_step (up8 s) ((6 : Nat) : Int) (strI o)).run = some (.inl (((6 + 1 : Nat) : Int), strI (o ++ c4 s.2.2.2.2.2.2.1))) := by
  obtain ⟨h1, h2, h3, h4, h5, h6, h7, h8⟩ := hs
  unfold sha_Sum_L13_step
  refine (run_t (by decide)).trans ?_
  refine (run_f (by decide)).trans ?_
  refine (run_f (by decide)).trans ?_
  refine (run_f (by decide)).trans ?_
  refine (run_f (by decide)).trans ?_
  refine (run_f (by decide)).trans ?_
  refine (run_f (by decide)).trans ?_
  refine (run_t (by decide)).trans ?_
  refine (run_ask rfl).trans ?_
  have hw : w64 ((s.2.2.2.2.2.2.1 : Nat) : Int) = ((s.2.2.2.2.2.2.1 : Nat) : Int) := w64N (by omega)
  refine (run_bnd (show (octet_Writer_Count_T (w64 ((s.2.2.2.2.2.2.1 : Nat) : Int)) (strI o)).run = _ from by rw [hw]; exact count_w (by omega) o ho)).trans ?_
  rfl
theorem sum_out7 {s : N8} (hs : ok8 s) (o : Str) (ho : o.length ≤ 890000) : (sha_Sum_L13_step (up8 s) ((7 : Nat) : Int) (strI o)).run = some (.inl (((7 + 1 : Nat) : Int), strI (o ++ c4 s.2.2.2.2.2.2.2))) := by
  obtain ⟨h1, h2, h3, h4, h5, h6, h7, h8⟩ := hs
  unfold sha_Sum_L13_step
  refine (run_t (by decide)).trans ?_
  refine (run_f (by decide)).trans ?_
  refine (run_f (by decide)).trans ?_
  refine (run_f (by decide)).trans ?_
  refine (run_f (by decide)).trans ?_
  refine (run_f (by decide)).trans ?_
  refine (run_f (by decide)).trans ?_
  refine (run_f (by decide)).trans ?_
  refine (run_t (by decide)).trans ?_
  refine (run_ask rfl).trans ?_
  have hw : w64 ((s.2.2.2.2.2.2.2 : Nat) : Int) = ((s.2.2.2.2.2.2.2 : Nat) : Int) := w64N (by omega)
  refine (run_bnd (show (octet_Writer_Count_T (w64 ((s.2.2.2.2.2.2.2 : Nat) : Int)) (strI o)).run = _ from by rw [hw]; exact count_w (by omega) o ho)).trans ?_
  rfl
theorem ref_out0 {s : N8} (hs : ok8 s) (o : Str) (ho : o.length ≤ 890000) : (r02_Sum_L8_step (up8 s) o ((0 : Nat) : Int)).run = some (.inl (o ++ c4 s.1, ((0 + 1 : Nat) : Int))) := by
  obtain ⟨h1, h2, h3, h4, h5, h6, h7, h8⟩ := hs
  unfold r02_Sum_L8_step
  refine (run_t (by decide)).trans ?_
  refine (run_t (by decide)).trans ?_
  refine (run_ask rfl).trans ?_
  refine (run_bnd (show (r01_Count_T ((s.1 : Nat) : Int)).run = _ from count_r (by omega))).trans ?_
  refine (run_ask (decide_eq_true (by rw [c4_len]; omega))).trans ?_
  rfl
theorem ref_out1 {s : N8} (hs : ok8 s) (o : Str) (ho : o.length ≤ 890000) : (r02_Sum_L8_step (up8 s) o ((1 : Nat) : Int)).run = some (.inl (o ++ c4 s.2.1, ((1 + 1 : Nat) : Int))) := by
  obtain ⟨h1, h2, h3, h4, h5, h6, h7, h8⟩ := hs
  unfold r02_Sum_L8_step
  refine (run_t (by decide)).trans ?_
  refine (run_f (by decide)).trans ?_
  refine (run_t (by decide)).trans ?_
  refine (run_ask rfl).trans ?_
  refine (run_bnd (show (r01_Count_T ((s.2.1 : Nat) : Int)).run = _ from count_r (by omega))).trans ?_
  refine (run_ask (decide_eq_true (by rw [c4_len]; omega))).trans ?_
  rfl
theorem ref_out2 {s : N8} (hs : ok8 s) (o : Str) (ho : o.length ≤ 890000) : (r02_Sum_L8_step (up8 s) o ((2 : Nat) : Int)).run = some (.inl (o ++ c4 s.2.2.1, ((2 + 1 : Nat) : Int))) := by
  obtain ⟨h1, h2, h3, h4, h5, h6, h7, h8⟩ := hs
  unfold r02_Sum_L8_step
  refine (run_t (by decide)).trans ?_
  refine (run_f (by decide)).trans ?_
  refine (run_f (by decide)).trans ?_
  refine (run_t (by decide)).trans ?_
  refine (run_ask rfl).trans ?_
  refine (run_bnd (show (r01_Count_T ((s.2.2.1 : Nat) : Int)).run = _ from count_r (by omega))).trans ?_
  refine (run_ask (decide_eq_true (by rw [c4_len]; omega))).trans ?_
  rfl
theorem ref_out3 {s : N8} (hs : ok8 s) (o : Str) (ho : o.length ≤ 890000) : (r02_Sum_L8_step (up8 s) o ((3 : Nat) : Int)).run = some (.inl (o ++ c4 s.2.2.2.1, ((3 + 1 : Nat) : Int))) := by
  obtain ⟨h1, h2, h3, h4, h5, h6, h7, h8⟩ := hs
  unfold r02_Sum_L8_step
  refine (run_t (by decide)).trans ?_
  refine (run_f (by decide)).trans ?_
  refine (run_f (by decide)).trans ?_
  refine (run_f (by decide)).trans ?_
  refine (run_t (by decide)).trans ?_
  refine (run_ask rfl).trans ?_
  refine (run_bnd (show (r01_Count_T ((s.2.2.2.1 : Nat) : Int)).run = _ from count_r (by omega))).trans ?_
  refine (run_ask (decide_eq_true (by rw [c4_len]; omega))).trans ?_
  rfl
theorem ref_out4 {s : N8} (hs : ok8 s) (o : Str) (ho : o.length ≤ 890000) : (r02_Sum_L8_step (up8 s) o ((4 : Nat) : Int)).run = some (.inl (o ++ c4 s.2.2.2.2.1, ((4 + 1 : Nat) : Int))) := by
  obtain ⟨h1, h2, h3, h4, h5, h6, h7, h8⟩ := hs
  unfold r02_Sum_L8_step
  refine (run_t (by decide)).trans ?_
  refine (run_f (by decide)).trans ?_
  refine (run_f (by decide)).trans ?_
  refine (run_f (by decide)).trans ?_
  refine (run_f (by decide)).trans ?_
  refine (run_t (by decide)).trans ?_
  refine (run_ask rfl).trans ?_
  refine (run_bnd (show (r01_Count_T ((s.2.2.2.2.1 : Nat) : Int)).run = _ from count_r (by omega))).trans ?_
  refine (run_ask (decide_eq_true (by rw [c4_len]; omega))).trans ?_
  rfl
theorem ref_out5 {s : N8} (hs : ok8 s) (o : Str) (ho : o.length ≤ 890000) : (r02_Sum_L8_step (up8 s) o ((5 : Nat) : Int)).run = some (.inl (o ++ c4 s.2.2.2.2.2.1, ((5 + 1 : Nat) : Int))) := by
  obtain ⟨h1, h2, h3, h4, h5, h6, h7, h8⟩ := hs
  unfold r02_Sum_L8_step
  refine (run_t (by decide)).trans ?_
  refine (run_f (by decide)).trans ?_
  refine (run_f (by decide)).trans ?_
  refine (run_f (by decide)).trans ?_
  refine (run_f (by decide)).trans ?_
  refine (run_f (by decide)).trans ?_
  refine (run_t (by decide)).trans ?_
  refine (run_ask rfl).trans ?_
  refine (run_bnd (show (r01_Count_T ((s.2.2.2.2.2.1 : Nat) : Int)).run = _ from count_r (by omega))).trans ?_
  refine (run_ask (decide_eq_true (by rw [c4_len]; omega))).trans ?_
  rfl
theorem ref_out6 {s : N8} (hs : ok8 s) (o : Str) (ho : o.length ≤ 890000) : (r02_Sum_L8_step (up8 s) o ((6 : Nat) : Int)).run = some (.inl (o ++ c4 s.2.2.2.2.2.2.1, ((6 + 1 : Nat) : Int))) := by
  obtain ⟨h1, h2, h3, h4, h5, h6, h7, h8⟩ := hs
  unfold r02_Sum_L8_step
  refine (run_t (by decide)).trans ?_
  refine (run_f (by decide)).trans ?_
  refine (run_f (by decide)).trans ?_
  refine (run_f (by decide)).trans ?_
  refine (run_f (by decide)).trans ?_
  refine (run_f (by decide)).trans ?_
  refine (run_f (by decide)).trans ?_
  refine (run_t (by decide)).trans ?_
  refine (run_ask rfl).trans ?_
  refine (run_bnd (show (r01_Count_T ((s.2.2.2.2.2.2.1 : Nat) : Int)).run = _ from count_r (by omega))).trans ?_
  refine (run_ask (decide_eq_true (by rw [c4_len]; omega))).trans ?_
  rfl
theorem ref_out7 {s : N8} (hs : ok8 s) (o : Str) (ho : o.length ≤ 890000) : (r02_Sum_L8_step (up8 s) o ((7 : Nat) : Int)).run = some (.inl (o ++ c4 s.2.2.2.2.2.2.2, ((7 + 1 : Nat) : Int))) := by
  obtain ⟨h1, h2, h3, h4, h5, h6, h7, h8⟩ := hs
  unfold r02_Sum_L8_step
  refine (run_t (by decide)).trans ?_
  refine (run_f (by decide)).trans ?_
  refine (run_f (by decide)).trans ?_
  refine (run_f (by decide)).trans ?_
  refine (run_f (by decide)).trans ?_
  refine (run_f (by decide)).trans ?_
  refine (run_f (by decide)).trans ?_
  refine (run_f (by decide)).trans ?_
  refine (run_t (by decide)).trans ?_
  refine (run_ask rfl).trans ?_
  refine (run_bnd (show (r01_Count_T ((s.2.2.2.2.2.2.2 : Nat) : Int)).run = _ from count_r (by omega))).trans ?_
  refine (run_ask (decide_eq_true (by rw [c4_len]; omega))).trans ?_
  rfl
def l8 (s : N8) : List Nat := [s.1, s.2.1, s.2.2.1, s.2.2.2.1, s.2.2.2.2.1, s.2.2.2.2.2.1, s.2.2.2.2.2.2.1, s.2.2.2.2.2.2.2]
def outS (s : N8) : Nat → Str
  | 0 => []
  | i + 1 => outS s i ++ c4 ((l8 s).getD i 0)
theorem outS_len (s : N8) (i : Nat) : (outS s i).length = 4 * i := by
  induction i with
  | zero => rfl
  | succ i ih => rw [outS, List.length_append, ih, c4_len]; omega
theorem sum_out {s : N8} (hs : ok8 s) (o : Str) (ho : o.length ≤ 890000) (i : Nat) (hi : i < 8) : (sha_Sum_L13_step (up8 s) (i : Int) (strI o)).run = some (.inl (((i + 1 : Nat) : Int), strI (o ++ c4 ((l8 s).getD i 0)))) :=
  match i, hi with
  | 0, _ => sum_out0 hs o ho
  | 1, _ => sum_out1 hs o ho
  | 2, _ => sum_out2 hs o ho
  | 3, _ => sum_out3 hs o ho
  | 4, _ => sum_out4 hs o ho
  | 5, _ => sum_out5 hs o ho
  | 6, _ => sum_out6 hs o ho
  | 7, _ => sum_out7 hs o ho
theorem ref_out {s : N8} (hs : ok8 s) (o : Str) (ho : o.length ≤ 890000) (i : Nat) (hi : i < 8) : (r02_Sum_L8_step (up8 s) o (i : Int)).run = some (.inl (o ++ c4 ((l8 s).getD i 0), ((i + 1 : Nat) : Int))) :=
  match i, hi with
  | 0, _ => ref_out0 hs o ho
  | 1, _ => ref_out1 hs o ho
  | 2, _ => ref_out2 hs o ho
  | 3, _ => ref_out3 hs o ho
  | 4, _ => ref_out4 hs o ho
  | 5, _ => ref_out5 hs o ho
  | 6, _ => ref_out6 hs o ho
  | 7, _ => ref_out7 hs o ho
theorem sum_out_end (s : I8) (r : List Int) : (sha_Sum_L13_step s ((8 : Nat) : Int) r).run = some (.inr r) := by
  unfold sha_Sum_L13_step
  exact run_f (by decide)
theorem ref_out_end (s : I8) (r : Str) : (r02_Sum_L8_step s r ((8 : Nat) : Int)).run = some (.inr r) := by
  unfold r02_Sum_L8_step
  exact run_f (by decide)
theorem sum_outs {s : N8} (hs : ok8 s) : loopF (fun v => (sha_Sum_L13_step (up8 s) v.1 v.2).run) (0, ([] : List Int)) = some (strI (outS s 8)) :=
  loopF_run (S := fun i => ((i : Int), strI (outS s i))) (n := 8) (fun i hi => sum_out hs (outS s i) (by rw [outS_len]; omega) i hi) (sum_out_end _ _) rfl
theorem ref_outs {s : N8} (hs : ok8 s) : loopF (fun v => (r02_Sum_L8_step (up8 s) v.1 v.2).run) (([] : Str), 0) = some (outS s 8) :=
  loopF_run (S := fun i => (outS s i, (i : Int))) (n := 8) (fun i hi => ref_out hs (outS s i) (by rw [outS_len]; omega) i hi) (ref_out_end _ _) rfl

/-- The sum of a text. -/
def shaN (x : Str) : Str := outS (BK (padS x) s0N ((padS x).length / 64)) 8
theorem shaN_len (x : Str) : (shaN x).length = 32 := outS_len _ 8
theorem sum_run (x : Str) (hx : x.length ≤ 800000) : (sha_Sum_T x).run = some (shaN x) := by
  have h6 := padN_lt x.length
  have hs := BK_ok (padS x) s0_ok ((padS x).length / 64)
  unfold sha_Sum_T
  refine (run_ask (room_le _ _ (by rw [List.length_append, strI_len]; show _ + 1 ≤ _; omega) (by omega))).trans ?_
  refine (run_bnd (loop_run (pad_w x hx))).trans ?_
  rw [len8 hx]
  refine (run_bnd (int_w (by omega) ([] : Str) (by show 0 ≤ _; omega))).trans ?_
  refine (run_bnd (bytes_w (by rw [List.nil_append, c8_len]; omega))).trans ?_
  have e : strI (padA x (padN x.length)) ++ strI (([] : Str) ++ c8 (8 * x.length)) = strI (padS x) := by rw [List.nil_append, ← strI_app]; rfl
  refine (run_ask (room_le _ _ (by rw [List.length_append, strI_len, strI_len, padA_len, List.nil_append, c8_len]; omega) (by omega))).trans ?_
  refine (run_bnd (a := up8 (BK (padS x) s0N ((padS x).length / 64))) (loop_run (show loopF _ (strI (padA x (padN x.length)) ++ strI (([] : Str) ++ c8 (8 * x.length)), _) = _ from by rw [e]; exact sum_blocks (padS x) s0_ok (padS_64 x)))).trans ?_
  refine (run_bnd (loop_run (sum_outs hs))).trans ?_
  refine (run_bnd (bytes_w (by rw [outS_len]; omega))).trans ?_
  rfl
theorem rsum_run (x : Str) (hx : x.length ≤ 800000) : (r02_Sum_T x).run = some (shaN x) := by
  have hs := BK_ok (padS x) s0_ok ((padS x).length / 64)
  unfold r02_Sum_T
  refine (run_bnd (pad_run x hx)).trans ?_
  refine (run_bnd (loop_run (ref_blocks (padS x) s0_ok (padS_64 x)))).trans ?_
  refine (run_bnd (loop_run (ref_outs hs))).trans ?_
  rfl
end Go.Eng

