/- Laws in plain Lean: w24. -/
import Derived.Test.YtampopnjbccdiaaGreatDoorU24
namespace Go.Eng
open Go Go.Proofs Go.RowKit

/-! The document's bytes of numbers and texts. -/
theorem and255I (a : Int) : stdArith .and .i64 a 255 = a % 256 := by
  show IntKind.i64.wrap ((BitVec.ofInt 64 a &&& BitVec.ofInt 64 255).toNat : Int) = _
  rw [BitVec.toNat_and, BitVec.toNat_ofInt, show (BitVec.ofInt 64 255).toNat = 2 ^ 8 - 1 from rfl, Nat.and_two_pow_sub_one_eq_mod, IntKind.wrap_i64]
  omega
theorem wrapB (a : Int) : IntKind.wrap .u8 (a % 256) = a % 256 := by rw [IntKind.wrap_u8]; omega
theorem rbyte_r (a : Int) : (r01_Byte_T (stdArith .and .i64 a 255)).run = some (strB [a % 256]) := by
  unfold r01_Byte_T
  rw [and255I, and255I, Int.emod_emod_of_dvd a (by decide : (256 : Int) ∣ 256), wrapB]
  rfl
theorem rint_step (n : Int) (i : Nat) (hi : i < 8) (s : Str) (hs : s.length ≤ 900000) :
    (r01_Int_L3_step n s ((8 * (7 - i) : Nat) : Int)).run = some (.inl (s ++ strB (cst [u64 n / 2 ^ (8 * (7 - i)) % 256]), w64 (((8 * (7 - i) : Nat) : Int) - 8))) := by
  have hb := byte_shr n (7 - i) (by omega)
  rw [IntKind.wrap_u8] at hb
  unfold r01_Int_L3_step
  refine (run_t (decide_eq_true (by omega))).trans ?_
  refine (run_ask (decide_eq_true (by omega))).trans ?_
  refine (run_bnd (rbyte_r _)).trans ?_
  rw [hb]
  exact run_ask (decide_eq_true (by show s.length + 1 ≤ _; omega))
theorem rint_r (n : Int) : (r01_Int_T n).run = some (c8 (u64 n)) := by
  have hl : loopF (fun x => (r01_Int_L3_step n x.1 x.2).run) (([] : Str), 56) = some (strB (cst (beP 8 (u64 n) 8))) := by
    refine loopF_run (S := fun i => (strB (cst (beP 8 (u64 n) i)), (56 : Int) - 8 * (i : Int))) (n := 8) (fun i hi => ?_) ?_ rfl
    · have := rint_step n i hi (strB (cst (beP 8 (u64 n) i))) (by rw [strB_len, cst_len, beP_len]; omega)
      have e : ((8 * (7 - i) : Nat) : Int) = (56 : Int) - 8 * (i : Int) := by omega
      have e2 : w64 ((56 : Int) - 8 * (i : Int) - 8) = (56 : Int) - 8 * ((i + 1 : Nat) : Int) := by rw [w64_same (by omega) (by omega)]; omega
      rw [e, e2] at this
      rw [beP_succ, cst_app, strB_app]
      exact this
    · show (r01_Int_L3_step _ _ ((56 : Int) - 8 * ((8 : Nat) : Int))).run = _
      unfold r01_Int_L3_step
      exact run_f (decide_eq_false (by omega))
  unfold r01_Int_T
  exact (run_bnd (loop_run hl)).trans rfl
theorem rtext_r (x : Str) (h : x.length ≤ 800000) : (r01_Text_T x).run = some (txtN x) := by
  unfold r01_Text_T
  refine (run_bnd (count_r (by omega))).trans ?_
  exact run_ask (decide_eq_true (by rw [c4_len]; omega))
theorem rsays_r (t u : Str) (n : Int) (ht : t.length ≤ 10000) (hu : u.length ≤ 10000) : (r24_says_T t u n).run = some (saysN t u n) := by
  unfold r24_says_T
  refine (run_bnd (rtext_r t (by omega))).trans ?_
  refine (run_bnd (rtext_r u (by omega))).trans ?_
  refine (run_ask (decide_eq_true (by rw [txtN_len, txtN_len]; omega))).trans ?_
  refine (run_bnd (rint_r n)).trans ?_
  exact run_ask (decide_eq_true (by rw [List.length_append, txtN_len, txtN_len, c8_len]; omega))

/-! The document's sums with a secret. -/
theorem sget_by (s : Str) (i : Nat) : sgetI s (i : Int) = ((byN s i : Nat) : Int) := rfl
theorem byN_out {s : Str} {i : Nat} (h : s.length ≤ i) : byN s i = 0 := by
  unfold byN
  rw [List.getD_eq_getElem?_getD, List.getElem?_eq_none h]; rfl
def padI (k : Str) (b i : Nat) : List Int := (List.range i).map fun j => ((byN k j ^^^ b : Nat) : Int)
theorem padI_len (k : Str) (b i : Nat) : (padI k b i).length = i := by unfold padI; rw [List.length_map, List.length_range]
theorem padI_succ (k : Str) (b i : Nat) : padI k b (i + 1) = padI k b i ++ [((byN k i ^^^ b : Nat) : Int)] := by unfold padI; rw [List.range_succ, List.map_append]; rfl
theorem padI_str (k : Str) (b : Nat) : strB (padI k b 64) = padB k b := by
  unfold strB padI padB
  rw [List.map_map]; rfl
theorem rpad_run (k : Str) (b : Nat) (hb : b < 256) : (r03_padded_T k (b : Int)).run = some (padB k b) := by
  have hl : loopF (fun v => (r03_padded_L3_step k (b : Int) v.1 v.2).run) (0, ([] : List Int)) = some (padI k b 64) := by
    refine loopF_run (S := fun i => ((i : Int), padI k b i)) (n := 64) (fun i hi => ?_) ?_ rfl
    · show (r03_padded_L3_step k (b : Int) (i : Int) (padI k b i)).run = _
      have hroom : ∀ x : Int, decide ((padI k b i ++ [x]).length * 1 ≤ roomNat) = true := fun x => room_le _ _ (by rw [List.length_append, padI_len]; show i + 1 ≤ _; omega) (by omega)
      unfold r03_padded_L3_step
      refine (run_t (decide_eq_true (by omega))).trans ?_
      rw [sget_by, w64_nat i (by omega)]
      by_cases h : i < k.length
      · refine (run_t (decide_eq_true (by omega))).trans ?_
        refine (run_ask (inb_in (by omega))).trans ?_
        refine (run_ask (hroom _)).trans ?_
        rw [xor8 (byN_lt k i) hb, padI_succ]; rfl
      · refine (run_f (decide_eq_false (by omega))).trans ?_
        refine (run_ask (hroom _)).trans ?_
        have e : stdArith .xor .u8 0 (b : Int) = ((0 ^^^ b : Nat) : Int) := xor8 (x := 0) (by decide) hb
        rw [e, padI_succ, byN_out (by omega)]; rfl
    · show (r03_padded_L3_step k (b : Int) ((64 : Nat) : Int) (padI k b 64)).run = _
      unfold r03_padded_L3_step
      exact run_f rfl
  unfold r03_padded_T
  refine (run_bnd (loop_run hl)).trans ?_
  rw [padI_str]; rfl
theorem rmac_run (secret s : Str) (h1 : secret.length ≤ 700000) (h2 : s.length ≤ 700000) : (r03_Sum_T secret s).run = some (macN secret s) := by
  have tail : ∀ k : Str, (Tree.bnd (r03_padded_T k 92) fun y2 => .bnd (r03_padded_T k 54) fun y3 =>
      ask (decide (y3.length + s.length ≤ 9223372036854775807)) <| .bnd (r02_Sum_T (y3 ++ s)) fun y4 =>
      ask (decide (y2.length + y4.length ≤ 9223372036854775807)) <| .bnd (r02_Sum_T (y2 ++ y4)) fun y5 => .ret y5).run = some (shaN (padB k 92 ++ shaN (padB k 54 ++ s))) := by
    intro k
    refine (run_bnd (rpad_run k 92 (by omega))).trans ?_
    refine (run_bnd (rpad_run k 54 (by omega))).trans ?_
    refine (run_ask (decide_eq_true (by rw [padB_len]; omega))).trans ?_
    refine (run_bnd (rsum_run _ (by rw [List.length_append, padB_len]; omega))).trans ?_
    refine (run_ask (decide_eq_true (by rw [padB_len, shaN_len]; omega))).trans ?_
    refine (run_bnd (rsum_run _ (by rw [List.length_append, padB_len, shaN_len]; omega))).trans rfl
  unfold r03_Sum_T macN macK
  by_cases h : 64 < secret.length
  · refine (run_t (decide_eq_true (by omega))).trans ?_
    refine (run_bnd (rsum_run secret (by omega))).trans ?_
    rw [decide_eq_true h]
    exact tail (shaN secret)
  · refine (run_f (decide_eq_false (by omega))).trans ?_
    rw [decide_eq_false h]
    exact tail secret
theorem rmake_run (sec t u : Str) (n : Int) (h1 : sec.length ≤ 10000) (h2 : t.length ≤ 10000) (h3 : u.length ≤ 10000) : (r24_Make_T sec t u n).run = some (tokN sec t u n) := by
  have hs := saysN_len t u n
  unfold r24_Make_T
  refine (run_bnd (rsays_r t u n h2 h3)).trans ?_
  refine (run_bnd (rmac_run sec (saysN t u n) (by omega) (by omega))).trans ?_
  exact run_ask (decide_eq_true (by rw [macN_len]; omega))

/-! The document's reader. -/
def flipR (r : OctR) : OctR := (r.1, !r.2)
theorem rtk_run (n : Nat) (r : OctR) : ∃ g : Bool, (r01_Reader_take_T (n : Int) (flipR r)).run = some (((tkR n r).1, (g, ())), ((flipR (tkR n r).2, ()), ())) := by
  obtain ⟨s, g⟩ := r
  unfold r01_Reader_take_T tkR flipR
  cases g with
  | false => exact ⟨false, run_t rfl⟩
  | true =>
    by_cases h : s.length < n
    · refine ⟨false, (run_t (by show (false || decide ((s.length : Int) < (n : Int))) = true; rw [decide_eq_true (by omega)]; rfl)).trans ?_⟩
      show _ = some (((bif false || decide (s.length < n) then _ else _ : Str × OctR).1, _), _)
      rw [decide_eq_true h]; rfl
    · refine ⟨true, (run_f (by show (false || decide ((s.length : Int) < (n : Int))) = false; rw [decide_eq_false (by omega)]; rfl)).trans ?_⟩
      refine (run_ask (decide_eq_true (show (0 : Int) ≤ (n : Int) ∧ (n : Int) ≤ (s.length : Int) by omega))).trans ?_
      refine (run_ask (decide_eq_true (show (0 : Int) ≤ (n : Int) ∧ (n : Int) ≤ (s.length : Int) by omega))).trans ?_
      have e : (s.drop n).take (s.length - n) = s.drop n := List.take_of_length_le (by rw [List.length_drop]; omega)
      show some ((s.take n, (true, ())), ((((s.drop n).take (s.length - n), false), ()), ())) = some (((bif false || decide (s.length < n) then _ else _ : Str × OctR).1, (true, ())), (((_, !(bif false || decide (s.length < n) then _ else _ : Str × OctR).2.2), ()), ()))
      rw [e, decide_eq_false h]; rfl
theorem racc_step (l : Str) (i : Nat) (hl : l.length ≤ 8) (hi : i < l.length) :
    (r01_number_L3_step l (w64 (numB (l.take i) : Int)) (i : Int)).run = some (.inl (w64 (numB (l.take (i + 1)) : Int), ((i + 1 : Nat) : Int))) := by
  have h1 := numB_lt (l.take i)
  have h2 : (l.take i).length ≤ 7 := by rw [List.length_take]; omega
  have h3 : numB (l.take i) < 72057594037927936 := Nat.lt_of_lt_of_le h1 (Nat.le_trans (Nat.pow_le_pow_right (by decide) h2) (by decide))
  have hg : sgetI l (i : Int) = ((l[i].toNat : Nat) : Int) := by show (((l.getD i 0).toNat : Nat) : Int) = _; rw [getD_lt _ _ _ hi]
  have hb := UInt8.toNat_lt l[i]
  unfold r01_number_L3_step
  refine (run_t (decide_eq_true (by omega))).trans ?_
  refine (run_ask rfl).trans ?_
  refine (run_ask (inb_in (by omega))).trans ?_
  rw [hg, w64_of (n := (numB (l.take i) : Int)) (by omega) (by omega), w64_of (n := ((l[i].toNat : Nat) : Int)) (by omega) (by omega)]
  have e : stdShift .shl .i64 (numB (l.take i) : Int) 8 = w64 ((numB (l.take i) : Int) * 256) := rfl
  rw [e, acc_or h3 hb, w64_nat i (by omega), List.take_succ_eq_append_getElem hi, numB_snoc]
  rfl
theorem rnumber_run (l : Str) (hl : l.length ≤ 8) : (r01_number_T l).run = some (w64 (numB l : Int)) := by
  have hb : loopF (fun v => (r01_number_L3_step l v.1 v.2).run) (0, 0) = some (w64 (numB l : Int)) := by
    refine loopF_run (S := fun i => (w64 (numB (l.take i) : Int), (i : Int))) (n := l.length) (fun i hi => racc_step l i hl hi) ?_ rfl
    show (r01_number_L3_step l _ (l.length : Int)).run = _
    unfold r01_number_L3_step
    rw [List.take_length]
    exact run_f (decide_eq_false (by omega))
  unfold r01_number_T
  exact (run_bnd (loop_run hb)).trans rfl
theorem rintr_run (r : OctR) : (r01_Reader_Int_T (flipR r)).run = some ((numR 8 r).1, ((flipR (numR 8 r).2, ()), ())) := by
  obtain ⟨g, h⟩ := rtk_run 8 r
  unfold r01_Reader_Int_T numR
  refine (run_bnd h).trans ?_
  exact (run_bnd (rnumber_run _ (tkR_len 8 r))).trans rfl
theorem rtextr_run (r : OctR) : (r01_Reader_Text_T (flipR r)).run = some ((textR r).1, ((flipR (textR r).2, ()), ())) := by
  have hlt := num4_lt r
  obtain ⟨g, h4⟩ := rtk_run 4 r
  have hn : (r01_number_T (tkR 4 r).1).run = some (numB (tkR 4 r).1 : Int) := by
    rw [rnumber_run _ (Nat.le_trans (tkR_len 4 r) (by decide)), w64_of (by omega) (by omega)]
  unfold r01_Reader_Text_T textR
  by_cases h : 1048576 < numB (tkR 4 r).1
  · have hc : (r01_Reader_Count_T 1048576 (flipR r)).run = some (0, ((flipR ((tkR 4 r).2.1, false), ()), ())) := by
      unfold r01_Reader_Count_T
      refine (run_bnd h4).trans ?_
      refine (run_bnd hn).trans ?_
      exact (run_t (decide_eq_true (by show (1048576 : Int) < (numB (tkR 4 r).1 : Int); omega))).trans rfl
    refine (run_bnd hc).trans ?_
    obtain ⟨g2, h0⟩ := rtk_run 0 ((tkR 4 r).2.1, false)
    refine (run_bnd h0).trans ?_
    rw [decide_eq_true h]; rfl
  · have hc : (r01_Reader_Count_T 1048576 (flipR r)).run = some ((numB (tkR 4 r).1 : Int), ((flipR (tkR 4 r).2, ()), ())) := by
      unfold r01_Reader_Count_T
      refine (run_bnd h4).trans ?_
      refine (run_bnd hn).trans ?_
      exact run_f (decide_eq_false (by show ¬ (1048576 : Int) < (numB (tkR 4 r).1 : Int); omega))
    refine (run_bnd hc).trans ?_
    obtain ⟨g2, h0⟩ := rtk_run (numB (tkR 4 r).1) (tkR 4 r).2
    refine (run_bnd h0).trans ?_
    rw [decide_eq_false h]; rfl
theorem rdone_run (r : OctR) : (r01_Reader_Done_T (flipR r)).run = some (doneR r) := by
  obtain ⟨s, g⟩ := r
  unfold r01_Reader_Done_T doneR flipR
  show some ((!(!g)) && (s == ([] : Str))) = _
  rw [Bool.not_not]
theorem rread_run (x : Str) (hx : x.length ≤ 1000000) : (r24_Read_T x).run = some (readN x) := by
  unfold r24_Read_T readN
  by_cases h : x.length < 32
  · refine (run_t (decide_eq_true (by omega))).trans ?_
    rw [decide_eq_true h]; rfl
  · refine (run_f (decide_eq_false (by omega))).trans ?_
    have e : w64 ((x.length : Int) - 32) = ((x.length - 32 : Nat) : Int) := by rw [w64_of (by omega) (by omega)]; omega
    rw [decide_eq_false h, cond_false, e]
    refine (run_ask (decide_eq_true (show (0 : Int) ≤ ((x.length - 32 : Nat) : Int) ∧ ((x.length - 32 : Nat) : Int) ≤ (x.length : Int) by omega))).trans ?_
    have e2 : subS x 0 ((x.length - 32 : Nat) : Int).toNat = x.take (x.length - 32) := by
      show (x.drop 0).take (((x.length - 32 : Nat) : Int).toNat - 0) = _
      rw [Int.toNat_natCast]; rfl
    rw [e2]
    refine (run_bnd (rtextr_run (x.take (x.length - 32), true))).trans ?_
    refine (run_bnd (rtextr_run _)).trans ?_
    refine (run_bnd (rintr_run _)).trans ?_
    refine (run_bnd (rdone_run _)).trans ?_
    generalize textR (x.take (x.length - 32), true) = a
    generalize textR a.2 = b
    generalize numR 8 b.2 = c
    cases doneR c.2 <;> rfl

/-! The document's tenants, and whose a token is. -/
theorem rlim_run (l : List Entry) (t f : Str) (b : TBnd) (hb : (r23_Bounds_T f).run = some (b.1, b.2, ())) (hl : l.length ≤ 1000000) (ht : t.length ≤ 100000) (hf : f.length ≤ 100000) :
    (r23_limit_T l t f).run = some (limT b (valT l t f)) := by
  unfold r23_limit_T
  refine (run_bnd hb).trans ?_
  refine (run_bnd (rKey_run t f ht hf)).trans ?_
  refine (run_bnd (rGet_run l _ hl)).trans ?_
  refine (run_bnd (r05Num_run _)).trans ?_
  unfold limT
  show (Tree.ite (((!(numS (valT l t f)).2) || decide ((numS (valT l t f)).1 < 0)) || decide (b.1 < (numS (valT l t f)).1)) _ _).run = _
  cases ((!(numS (valT l t f)).2) || decide ((numS (valT l t f)).1 < 0)) || decide (b.1 < (numS (valT l t f)).1) <;> rfl
theorem risSecret_run (s : Str) : (r23_isSecret_T s).run = some (secB s) := by
  unfold r23_isSecret_T secB
  show some _ = some _
  congr 1
  have e1 : decide ((1 : Int) ≤ (s.length : Int)) = !(s == ([] : Str)) := by
    cases s with
    | nil => rfl
    | cons a s => rw [decide_eq_true (by rw [List.length_cons]; omega)]; rfl
  rw [e1]
  congr 1
  exact decide_eq_decide.2 (by omega)
theorem rof_runT (l : List Entry) (t : Str) (hl : SmT l) (ht : t.length ≤ 100000) : (r23_Of_T l t).run = some (ofT l t) := by
  unfold r23_Of_T ofT
  refine (run_bnd (rKey_run t secretS ht (by decide))).trans ?_
  refine (run_bnd (rGet_run l _ hl.1)).trans ?_
  refine (run_bnd (r05Is_run t (by omega))).trans ?_
  refine (run_grd (risSecret_run _)).trans ?_
  show (Tree.ite ((!nameS t) || (!secB (valT l t secretS))) _ _).run = _
  cases h : nameS t && secB (valT l t secretS) with
  | false =>
    refine (run_t ?_).trans rfl
    revert h; cases nameS t <;> cases secB (valT l t secretS) <;> simp
  | true =>
    refine (run_f ?_).trans ?_
    · revert h; cases nameS t <;> cases secB (valT l t secretS) <;> simp
    · refine (run_bnd (rlim_run l t bytesS (1099511627776, 1048576) rfl hl.1 ht (by decide))).trans ?_
      refine (run_bnd (rlim_run l t rateS (1048576, 8) rfl hl.1 ht (by decide))).trans ?_
      refine (run_bnd (rlim_run l t burstS (1048576, 16) rfl hl.1 ht (by decide))).trans ?_
      exact (run_bnd (rlim_run l t queueS (64, 16) rfl hl.1 ht (by decide))).trans rfl
theorem ofT_name {l : List Entry} {t : Str} (h : nameS t = false) : (ofT l t).2.1 = false := by unfold ofT; rw [h]; rfl
theorem readN_len2 (x : Str) : (readN x).2.1.length ≤ x.length := by
  unfold readN
  cases decide (x.length < 32) with
  | true => exact Nat.zero_le _
  | false =>
    rw [cond_false]
    generalize hd : doneR (numR 8 (textR (textR (x.take (x.length - 32), true)).2).2).2 = d
    cases d with
    | false => exact Nat.zero_le _
    | true =>
      show (textR (textR (x.take (x.length - 32), true)).2).1.length ≤ _
      have h1 : ∀ (n : Nat) (r : OctR), (tkR n r).1.length ≤ r.1.length := fun n r => by
        unfold tkR
        cases !r.2 || decide (r.1.length < n) with
        | true => exact Nat.zero_le _
        | false => show (r.1.take n).length ≤ _; rw [List.length_take]; omega
      have h3 : ∀ r : OctR, (textR r).1.length ≤ r.1.length := fun r => by
        unfold textR
        cases decide (1048576 < numB (tkR 4 r).1) with
        | true => exact Nat.zero_le _
        | false => exact Nat.le_trans (h1 _ _) (tkR_rest 4 _)
      have h2 : (x.take (x.length - 32)).length ≤ x.length := by rw [List.length_take]; omega
      exact Nat.le_trans (h3 _) (Nat.le_trans (textR_rest _) h2)
theorem rtcheck_run (l : List Entry) (x : Str) (now : Int) (hl : SmT l) (hx : x.length ≤ 100000) : (r24_Check_T l x now).run = some (checkN l x now) := by
  have hr := rread_run x (by omega)
  have ho := rof_runT l (readN x).1 hl (Nat.le_trans (readN_len x) hx)
  have hs := ofT_sec l (readN x).1
  have hn1 := r05Is_run (readN x).1 (Nat.le_trans (readN_len x) (by omega))
  have hn2 := r05Is_run (readN x).2.1 (Nat.le_trans (readN_len2 x) (by omega))
  have hof : nameS (readN x).1 = false → (ofT l (readN x).1).2.1 = false := ofT_name
  by_cases h32 : x.length < 32
  · have hg : goodB l x now = false := by unfold goodB; rw [readN_short h32]; rfl
    unfold r24_Check_T checkN
    refine (run_bnd hr).trans ?_
    refine (run_grd hn1).trans ?_
    refine (run_grd hn2).trans ?_
    rw [hg, readN_short h32]; rfl
  · have e : w64 ((x.length : Int) - 32) = ((x.length - 32 : Nat) : Int) := by rw [w64_of (by omega) (by omega)]; omega
    have hk : inbe ((x.length - 32 : Nat) : Int) x.length = true := decide_eq_true (show (0 : Int) ≤ ((x.length - 32 : Nat) : Int) ∧ ((x.length - 32 : Nat) : Int) ≤ (x.length : Int) by omega)
    have e2 : subS x 0 ((x.length - 32 : Nat) : Int).toNat = x.take (x.length - 32) := by
      show (x.drop 0).take (((x.length - 32 : Nat) : Int).toNat - 0) = _
      rw [Int.toNat_natCast]; rfl
    have e3 : subS x ((x.length - 32 : Nat) : Int).toNat x.length = x.drop (x.length - 32) := by
      show (x.drop ((x.length - 32 : Nat) : Int).toNat).take (x.length - ((x.length - 32 : Nat) : Int).toNat) = _
      rw [Int.toNat_natCast]
      exact List.take_of_length_le (by rw [List.length_drop]; omega)
    have hi := rmac_run (ofT l (readN x).1).1.2.1 (x.take (x.length - 32)) (by omega) (by rw [List.length_take]; omega)
    unfold r24_Check_T checkN goodB sumB
    refine (run_bnd hr).trans ?_
    refine (run_grd hn1).trans ?_
    refine (run_grd hn2).trans ?_
    rw [e, e2, e3]
    generalize macN (ofT l (readN x).1).1.2.1 (x.take (x.length - 32)) = sm at hi ⊢
    generalize x.drop (x.length - 32) = dr
    generalize readN x = q at ho hs hi hof ⊢
    obtain ⟨qa, qu, qn, qb, _⟩ := q
    generalize ofT l qa = o at ho hs hi hof ⊢
    cases qb with
    | false => rfl
    | true =>
      show (Tree.ite (((false || (!nameS qa)) || (!nameS qu)) || decide (qn < now)) _ _).run = some (bif (((true && o.2.1) && nameS qu) && !decide (qn < now)) && (sm == dr) then _ else _ : Whose)
      cases hna : nameS qa with
      | false => rw [hof hna]; rfl
      | true =>
        cases nameS qu with
        | false => rw [Bool.and_false]; rfl
        | true =>
          cases decide (qn < now) with
          | true => rw [Bool.not_true, Bool.and_false]; rfl
          | false =>
            refine (run_f rfl).trans ?_
            refine (run_bnd ho).trans ?_
            refine (run_ask (by rw [hk, Bool.or_true])).trans ?_
            refine (run_grd hi).trans ?_
            refine (run_ask (by rw [hk, Bool.or_true])).trans ?_
            cases o.2.1 with
            | false => rfl
            | true =>
              show (Tree.ite (false || !(sm == dr)) _ _).run = _
              cases sm == dr <;> rfl
theorem tokenIs_law (x : ElP l24_TokenIs_g.ps) (hx : okP l24_TokenIs_g.ps x) : (l24_TokenIs_g.f x).run = some true := by
  obtain ⟨l, ⟨a, b, c⟩, ⟨now, until_⟩, _⟩ := x
  show (l24_TokenIs_T l (a, (b, c)) (now, until_)).run = _
  unfold l24_TokenIs_T
  refine (run_bnd (few10_run l 30 (by omega) 30 rfl)).trans ?_
  refine (run_ask (Bool.or_true _)).trans ?_
  refine (run_ask (Bool.or_true _)).trans ?_
  refine (run_ask (Bool.or_true _)).trans ?_
  by_cases hc : ((((!(fewB q10 30 l)) || (decide ((100 : Int) < (a.length : Int)))) || (decide ((100 : Int) < (b.length : Int)))) || (decide ((300 : Int) < (c.length : Int)))) = true
  · exact (run_t hc).trans ((run_bnd awake24).trans rfl)
  · have hc := Bool.not_eq_true _ ▸ hc
    refine (run_f hc).trans ?_
    simp only [Bool.or_eq_false_iff, Bool.not_eq_false', decide_eq_false_iff_not] at hc
    obtain ⟨⟨⟨hf, h1⟩, h2⟩, h3⟩ := hc
    have hs := few10_small (by omega) hf
    have hl : SmT l := ⟨by have := hs.1; omega, fun x hx => by have := (hs.2 x hx).2.2; omega⟩
    refine (run_ask rfl).trans ?_
    refine (run_bnd (read_run c (by omega))).trans ?_
    refine (run_ask rfl).trans ?_
    refine (run_bnd (rread_run c (by omega))).trans ?_
    refine (run_ask rfl).trans ?_
    refine (run_ask rfl).trans ?_
    refine (run_bnd (tcheck_run l c now hl (by omega))).trans ?_
    refine (run_ask rfl).trans ?_
    refine (run_ask rfl).trans ?_
    refine (run_bnd (rtcheck_run l c now hl (by omega))).trans ?_
    refine (run_ask rfl).trans ?_
    refine (run_ask rfl).trans ?_
    refine (run_ask rfl).trans ?_
    refine (run_ask rfl).trans ?_
    refine (run_bnd (make_run a b a until_ (by omega) (by omega) (by omega))).trans ?_
    refine (run_ask rfl).trans ?_
    refine (run_ask rfl).trans ?_
    refine (run_ask rfl).trans ?_
    refine (run_ask rfl).trans ?_
    refine (run_bnd (rmake_run a b a until_ (by omega) (by omega) (by omega))).trans ?_
    refine (run_grd awake24).trans ?_
    generalize tokN a b a until_ = t
    generalize readN c = r
    generalize checkN l c now = k
    simp [Tree.run]

end Go.Eng

