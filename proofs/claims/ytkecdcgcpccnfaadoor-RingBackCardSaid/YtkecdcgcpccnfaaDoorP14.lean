/- Laws in plain Lean: p14 p14laws p14a. -/
import Derived.Test.YtkecdcgcpccnfaaDoorK10
import Derived.Test.YtkecdcgcpccnfaaDoorH06
import Derived.Test.YtkecdcgcpccnfaaDoorTrT
namespace Go.Eng
open Go Go.Proofs Go.RowKit

/-! A partition's key; the entries of owners; the owners of entries; the partition of a place. -/
def ringK (n : Int) : Str := ([114, 105, 110, 103, 47] : Str) ++ decS n
theorem n64N {n : Nat} (h : n ≤ 1000000) : N64 (n : Int) := ⟨by omega, by omega⟩
theorem ringKey_run {n : Int} (h : N64 n) : (ring_Key_T n).run = some (ringK n) := by
  have hl := (decS_len h).1
  have hd : (name_Dec_T n).run = some (decS n) := rfl
  unfold ring_Key_T
  refine (run_bnd hd).trans ?_
  refine (run_bnd (path_run [([114, 105, 110, 103] : Str), decS n] (by show 2 ≤ _; omega) (by show 4 + ((decS n).length + 0) ≤ _; omega))).trans ?_
  show some (([114, 105, 110, 103] : Str) ++ ((([47] : Str) ++ decS n) ++ [])) = some (([114, 105, 110, 103, 47] : Str) ++ decS n)
  rw [List.append_nil]; rfl
theorem r14Key_run {n : Int} (h : N64 n) : (r14_Key_T n).run = some (ringK n) := by
  have hl := (decS_len h).1
  unfold r14_Key_T
  refine (run_bnd (r05Dec_run n h)).trans ?_
  exact run_ask (decide_eq_true (by show 5 + _ ≤ _; omega))
theorem ringK_inj {m n : Int} (hm : N64 m) (hn : N64 n) (h : ringK m = ringK n) : m = n :=
  decS_inj hm hn (List.append_cancel_left h)
theorem ringK_len {n : Int} (h : N64 n) : 1 ≤ (ringK n).length ∧ (ringK n).length ≤ 25 := by
  have hl := (decS_len h).1
  unfold ringK
  rw [List.length_append]
  show 1 ≤ 5 + _ ∧ 5 + _ ≤ 25
  omega

/-! The entries of owners. -/
def ent1 (k : Nat) (s : Str) : List Entry := bif nameS s then [(ringK (k : Int), ((1 : Int), (([] : Str), s)))] else []
def outE : Nat → List Str → List Entry
  | _, [] => []
  | k, s :: l => ent1 k s ++ outE (k + 1) l
theorem outE_app (k : Nat) (a b : List Str) : outE k (a ++ b) = outE k a ++ outE (k + a.length) b := by
  induction a generalizing k with
  | nil => rfl
  | cons s a ih =>
    show ent1 k s ++ outE (k + 1) (a ++ b) = (ent1 k s ++ outE (k + 1) a) ++ outE (k + (a.length + 1)) b
    rw [ih, List.append_assoc, show k + 1 + a.length = k + (a.length + 1) by omega]
theorem outE_succ {l : List Str} {i : Nat} (h : i < l.length) : outE 0 (l.take (i + 1)) = outE 0 (l.take i) ++ ent1 i l[i] := by
  rw [List.take_succ_eq_append_getElem h, outE_app, List.length_take, Nat.min_eq_left (by omega), Nat.zero_add]
  show _ ++ (ent1 i l[i] ++ []) = _
  rw [List.append_nil]
theorem ent1_len (k : Nat) (s : Str) : (ent1 k s).length ≤ 1 := by unfold ent1; cases nameS s <;> simp
theorem outE_len (k : Nat) (l : List Str) : (outE k l).length ≤ l.length := by
  induction l generalizing k with
  | nil => exact Nat.le_refl _
  | cons s l ih =>
    have h1 := ent1_len k s
    have h2 := ih (k + 1)
    show (ent1 k s ++ outE (k + 1) l).length ≤ l.length + 1
    rw [List.length_append]; omega
theorem outE_mem {k : Nat} {l : List Str} {x : Entry} (h : x ∈ outE k l) : ∃ i, ∃ hi : i < l.length, x = (ringK ((k + i : Nat) : Int), ((1 : Int), (([] : Str), l[i]))) ∧ nameS l[i] = true := by
  induction l generalizing k with
  | nil => cases h
  | cons s l ih =>
    rcases List.mem_append.1 (show x ∈ ent1 k s ++ outE (k + 1) l from h) with h | h
    · unfold ent1 at h
      cases hn : nameS s with
      | false => rw [hn] at h; cases h
      | true => rw [hn] at h; exact ⟨0, by simp, List.mem_singleton.1 h, hn⟩
    · obtain ⟨i, hi, e, hn⟩ := ih h
      exact ⟨i + 1, by simp; omega, by rw [e, show k + 1 + i = k + (i + 1) by omega]; rfl, hn⟩
theorem mem_outE {k : Nat} {l : List Str} {i : Nat} (hi : i < l.length) (hn : nameS l[i] = true) : (ringK ((k + i : Nat) : Int), ((1 : Int), (([] : Str), l[i]))) ∈ outE k l := by
  induction l generalizing k i with
  | nil => exact absurd hi (Nat.not_lt_zero _)
  | cons s l ih =>
    refine List.mem_append.2 ?_
    cases i with
    | zero => left; unfold ent1; rw [show nameS s = true from hn]; exact List.mem_singleton.2 rfl
    | succ i =>
      right
      have := ih (k := k + 1) (i := i) (by simpa using hi) hn
      rw [show k + 1 + i = k + (i + 1) by omega] at this
      exact this
theorem outE_apart (k : Nat) (l : List Str) (h : k + l.length ≤ 1000000) : apartB ((outE k l).map fun z => z.1) = true := by
  induction l generalizing k with
  | nil => rfl
  | cons s l ih =>
    have h : k + (l.length + 1) ≤ 1000000 := h
    have hi := ih (k + 1) (by omega)
    show apartB ((ent1 k s ++ outE (k + 1) l).map fun z => z.1) = true
    unfold ent1
    cases nameS s with
    | false => exact hi
    | true =>
      show (!(((outE (k + 1) l).map fun z => z.1).any fun y => eqS (ringK (k : Int)) y) && apartB ((outE (k + 1) l).map fun z => z.1)) = true
      rw [hi, Bool.and_true, Bool.not_eq_true', List.any_eq_false]
      intro y hy
      obtain ⟨x, hx, rfl⟩ := List.mem_map.1 hy
      obtain ⟨i, hi, e, _⟩ := outE_mem hx
      rw [eqS_iff, e]
      intro he
      have := ringK_inj (n64N (by omega)) (n64N (by omega)) he
      omega
def entsS (l : List Str) : List Entry := srtK (fun z : Entry => z.1) (outE 0 l)
theorem entsS_mem {l : List Str} {x : Entry} : x ∈ entsS l ↔ x ∈ outE 0 l := (isortB_perm _ _).mem_iff
theorem entsS_len (l : List Str) : (entsS l).length ≤ l.length := by rw [show (entsS l).length = (outE 0 l).length from (isortB_perm _ _).length_eq]; exact outE_len 0 l
theorem ents_run (l : List Str) (h : l.length ≤ 4096) : (ring_Entries_T l).run = some (entsS l) := by
  have step : ∀ i : Nat, i < l.length → (ring_Entries_L5_step l (l.length : Int) (i : Int) (outE 0 (l.take i))).run = some (.inl (((i + 1 : Nat) : Int), outE 0 (l.take (i + 1)))) := by
    intro i hi
    have hol := outE_len 0 (l.take i)
    rw [List.length_take] at hol
    have e : l.getD (i : Int).toNat ([] : Str) = l[i] := by rw [Int.toNat_natCast, getD_lt _ _ _ hi]
    unfold ring_Entries_L5_step
    rw [e]
    refine (run_t (decide_eq_true (by omega))).trans ?_
    refine (run_ask (inb_in (by omega))).trans ?_
    refine (run_bnd (nameIs_run _)).trans ?_
    rw [w64_nat i (by omega), outE_succ hi]
    unfold ent1
    cases nameS l[i] with
    | false => refine (run_f rfl).trans ?_; show some (Sum.inl (_, outE 0 (l.take i))) = some (Sum.inl (_, outE 0 (l.take i) ++ [])); rw [List.append_nil]
    | true =>
      refine (run_t rfl).trans ?_
      refine (run_bnd (ringKey_run (n64N (by omega)))).trans ?_
      refine (run_ask (room_le _ _ (by rw [List.length_append]; show _ + 1 ≤ _; omega) (by omega))).trans ?_
      rfl
  unfold ring_Entries_T
  refine (run_f (decide_eq_false (by omega))).trans ?_
  refine (run_bnd (loop_run (loopF_run (a := outE 0 l) (S := fun i => ((i : Int), outE 0 (l.take i))) (n := l.length) step ?_ rfl))).trans ?_
  · show (ring_Entries_L5_step _ _ _ _).run = _
    unfold ring_Entries_L5_step
    rw [List.take_of_length_le (Nat.le_refl _)]
    exact run_f (decide_eq_false (by omega))
  have hol := outE_len 0 l
  have hs : (slices_SortFunc_Entry_ring_Entries_1_T (outE 0 l)).run = some ((), (entsS l, ())) := by
    unfold slices_SortFunc_Entry_ring_Entries_1_T
    refine (run_ask (decide_eq_true (by omega))).trans ?_
    exact (run_ask (outE_apart 0 l (by omega))).trans rfl
  exact (run_bnd hs).trans rfl

/-! The owners of entries. -/
def own1 (l : List Entry) (k : Nat) : Str := bif nameS (getR l (ringK (k : Int))).2.2 then (getR l (ringK (k : Int))).2.2 else []
def ownS (l : List Entry) (n : Nat) : List Str := (List.range n).map (own1 l)
theorem ownS_len (l : List Entry) (n : Nat) : (ownS l n).length = n := by unfold ownS; rw [List.length_map, List.length_range]
def outO (l : List Entry) (n i : Nat) : List Str := ownS l i ++ List.replicate (n - i) []
theorem outO_len (l : List Entry) {n i : Nat} (h : i ≤ n) : (outO l n i).length = n := by unfold outO; rw [List.length_append, ownS_len, List.length_replicate]; omega
theorem outO_set (l : List Entry) {n i : Nat} (h : i < n) : (outO l n i).set i (own1 l i) = outO l n (i + 1) := by
  have hr : List.replicate (n - i) ([] : Str) = [] :: List.replicate (n - (i + 1)) [] := by
    rw [show n - i = (n - (i + 1)) + 1 by omega]; rfl
  unfold outO
  rw [List.set_append_right _ _ (by rw [ownS_len]; exact Nat.le_refl _), ownS_len, Nat.sub_self, hr, List.set_cons_zero]
  unfold ownS
  rw [List.range_succ, List.map_append, List.append_assoc]
  rfl
theorem outO_same (l : List Entry) {n i : Nat} (h : i < n) (h1 : own1 l i = []) : outO l n i = outO l n (i + 1) := by
  rw [← outO_set l h, h1]
  have hr : List.replicate (n - i) ([] : Str) = [] :: List.replicate (n - (i + 1)) [] := by
    rw [show n - i = (n - (i + 1)) + 1 by omega]; rfl
  unfold outO
  rw [List.set_append_right _ _ (by rw [ownS_len]; exact Nat.le_refl _), ownS_len, Nat.sub_self, hr, List.set_cons_zero]
theorem owners_run (l : List Entry) (n : Nat) (hl : l.length ≤ 1000000) (h1 : 1 ≤ n) (h2 : n ≤ 4096) : (ring_Owners_T l (n : Int)).run = some (ownS l n) := by
  have step : ∀ i : Nat, i < n → (ring_Owners_L5_step l (n : Int) (i : Int) (outO l n i)).run = some (.inl (((i + 1 : Nat) : Int), outO l n (i + 1))) := by
    intro i hi
    unfold ring_Owners_L5_step
    refine (run_t (decide_eq_true (by omega))).trans ?_
    refine (run_bnd (ringKey_run (n64N (by omega)))).trans ?_
    refine (run_bnd (get_run l _ hl)).trans ?_
    refine (run_bnd (nameIs_run _)).trans ?_
    rw [w64_nat i (by omega)]
    cases hn : nameS (getR l (ringK (i : Int))).2.2 with
    | false =>
      refine (run_f rfl).trans ?_
      rw [← outO_same l hi (by unfold own1; rw [hn]; rfl)]
      rfl
    | true =>
      refine (run_t rfl).trans ?_
      refine (run_ask (inb_in (by rw [outO_len l (by omega)]; omega))).trans ?_
      rw [← outO_set l hi, Int.toNat_natCast, show own1 l i = (getR l (ringK (i : Int))).2.2 from by unfold own1; rw [hn]; rfl]
      rfl
  have hm : (ring_may_T (n : Int)).run = some true := by
    unfold ring_may_T
    show some _ = some true
    rw [decide_eq_true (show (1 : Int) ≤ (n : Int) by omega), decide_eq_true (show (n : Int) ≤ 4096 by omega)]; rfl
  have e : (List.replicate (n : Int).toNat ([] : Str)) = outO l n 0 := by unfold outO ownS; rw [Int.toNat_natCast]; rfl
  have e2 : ((outO l n 0).length : Int) = (n : Int) := by rw [outO_len l (Nat.zero_le _)]
  unfold ring_Owners_T
  refine (run_bnd hm).trans ?_
  refine (run_f rfl).trans ?_
  refine (run_ask (decide_eq_true (by omega))).trans ?_
  refine (run_ask (decide_eq_true (by omega))).trans ?_
  refine (run_ask (room_le _ _ (by rw [Int.toNat_natCast]; omega) (by omega))).trans ?_
  rw [e, e2]
  refine (run_bnd (loop_run (loopF_run (a := ownS l n) (S := fun i => ((i : Int), outO l n i)) (n := n) step ?_ rfl))).trans rfl
  show (ring_Owners_L5_step _ _ _ _).run = _
  unfold ring_Owners_L5_step
  refine (run_f (decide_eq_false (by omega))).trans ?_
  show some (Sum.inr (ownS l n ++ List.replicate (n - n) [])) = _
  rw [Nat.sub_self, List.replicate_zero, List.append_nil]
theorem owners_none (l : List Entry) (n : Int) (h : ¬ (1 ≤ n ∧ n ≤ 4096)) : (ring_Owners_T l n).run = some [] := by
  have hm : (ring_may_T n).run = some false := by
    unfold ring_may_T
    show some _ = some false
    congr 1
    rw [Bool.and_eq_false_iff, decide_eq_false_iff_not, decide_eq_false_iff_not]; omega
  unfold ring_Owners_T
  refine (run_bnd hm).trans ?_
  exact (run_t rfl).trans rfl

/-! The partition of a place. -/
def vN (a b : Str) : Nat := be4 (shaN (textsS [a, b])) 0
def partN (a b : Str) (n : Int) : Int := if 1 ≤ n ∧ n ≤ 4096 then ((vN a b * n.toNat / 2 ^ 32 : Nat) : Int) else 0
theorem texts2_len (a b : Str) : (textsB [a, b]).length = (4 + a.length) + ((4 + b.length) + 0) := by
  show (txt a ++ (txt b ++ [])).length = _
  rw [List.length_append, List.length_append, txt_len, txt_len]; rfl
theorem part_small (a b : Str) {m : Nat} (h : m ≤ 4096) : w64 ((vN a b : Int) * (m : Int)) = ((vN a b * m : Nat) : Int) ∧ vN a b * m < 4294967296 * 4097 := by
  have hv : vN a b < 4294967296 := be4_lt _ _
  have hb : vN a b * m < 4294967296 * 4097 := by
    calc vN a b * m ≤ vN a b * 4096 := Nat.mul_le_mul_left _ h
      _ < _ := by omega
  exact ⟨by rw [← Int.natCast_mul]; exact w64N (by omega), hb⟩
theorem part_run (a b : Str) (n : Int) (ha : a.length ≤ 1000) (hb : b.length ≤ 1000) : (ring_Part_T a b n).run = some (partN a b n) := by
  unfold ring_Part_T partN
  by_cases h : 1 ≤ n ∧ n ≤ 4096
  · obtain ⟨m, rfl⟩ : ∃ m : Nat, n = (m : Int) := ⟨n.toNat, by omega⟩
    have hm : (ring_may_T (m : Int)).run = some true := by
      unfold ring_may_T
      show some _ = some true
      rw [decide_eq_true h.1, decide_eq_true h.2]; rfl
    rw [if_pos h, Int.toNat_natCast]
    refine (run_bnd hm).trans ?_
    refine (run_f rfl).trans ?_
    refine (run_bnd (of_run [a, b] (by rw [texts2_len]; omega))).trans ?_
    refine (run_bnd (a := ((), (((shaN (textsS [a, b]), true), ()), ()))) rfl).trans ?_
    refine (run_bnd (rcount_run _ (by rw [shaN_len]; omega))).trans ?_
    refine (run_ask rfl).trans ?_
    obtain ⟨e, hl⟩ := part_small a b (show m ≤ 4096 by omega)
    show some (stdShift .shr .i64 (w64 ((vN a b : Int) * (m : Int))) 32) = _
    rw [e]
    exact congrArg some (shr64 (s := 32) (by omega))
  · have hm : (ring_may_T n).run = some false := by
      unfold ring_may_T
      show some _ = some false
      congr 1
      rw [Bool.and_eq_false_iff, decide_eq_false_iff_not, decide_eq_false_iff_not]; omega
    rw [if_neg h]
    refine (run_bnd hm).trans ?_
    exact (run_t rfl).trans rfl
theorem rPart_run (a b : Str) (n : Int) (ha : a.length ≤ 1000) (hb : b.length ≤ 1000) : (r14_Part_T a b n).run = some (partN a b n) := by
  unfold r14_Part_T partN
  by_cases h : 1 ≤ n ∧ n ≤ 4096
  · obtain ⟨m, rfl⟩ : ∃ m : Nat, n = (m : Int) := ⟨n.toNat, by omega⟩
    rw [if_pos h, Int.toNat_natCast]
    refine (run_f (by rw [decide_eq_false (by omega), decide_eq_false (by omega)]; rfl)).trans ?_
    refine (run_bnd (rof_run [a, b] (by rw [texts2_len]; omega))).trans ?_
    have hl : (shaN (textsS [a, b])).length = 32 := shaN_len _
    refine (run_ask (inb_in (by rw [hl]; omega))).trans ?_
    refine (run_ask rfl).trans ?_
    refine (run_ask (inb_in (by rw [hl]; omega))).trans ?_
    refine (run_ask rfl).trans ?_
    refine (run_ask (inb_in (by rw [hl]; omega))).trans ?_
    refine (run_ask rfl).trans ?_
    refine (run_ask (inb_in (by rw [hl]; omega))).trans ?_
    refine (run_ask rfl).trans ?_
    obtain ⟨e, hl⟩ := part_small a b (show m ≤ 4096 by omega)
    have ho := or4N_i64 (byN_lt (shaN (textsS [a, b])) 0) (byN_lt (shaN (textsS [a, b])) 1) (byN_lt (shaN (textsS [a, b])) 2) (byN_lt (shaN (textsS [a, b])) 3)
    show some (stdShift .shr .i64 (w64 (stdArith .or .i64 (stdArith .or .i64 (stdArith .or .i64 (stdShift .shl .i64 (w64 ((byN (shaN (textsS [a, b])) 0 : Nat) : Int)) 24) (stdShift .shl .i64 (w64 ((byN (shaN (textsS [a, b])) 1 : Nat) : Int)) 16)) (stdShift .shl .i64 (w64 ((byN (shaN (textsS [a, b])) 2 : Nat) : Int)) 8)) (w64 ((byN (shaN (textsS [a, b])) 3 : Nat) : Int)) * (m : Int))) 32) = _
    rw [ho]
    show some (stdShift .shr .i64 (w64 ((vN a b : Int) * (m : Int))) 32) = _
    rw [e]
    exact congrArg some (shr64 (s := 32) (by omega))
  · rw [if_neg h]
    refine (run_t ?_).trans rfl
    rw [Bool.or_eq_true, decide_eq_true_eq, decide_eq_true_eq]; omega
theorem partN_in (a b : Str) (n : Int) : ((decide (partN a b n = 0)) || ((decide ((0 : Int) < partN a b n)) && (decide (partN a b n < n)))) = true := by
  unfold partN
  by_cases h : 1 ≤ n ∧ n ≤ 4096
  · rw [if_pos h]
    obtain ⟨m, rfl⟩ : ∃ m : Nat, n = (m : Int) := ⟨n.toNat, by omega⟩
    rw [Int.toNat_natCast]
    have hv : vN a b < 4294967296 := be4_lt _ _
    have hd : vN a b * m / 2 ^ 32 < m := by
      rw [Nat.div_lt_iff_lt_mul (by decide), Nat.mul_comm m]
      exact Nat.mul_lt_mul_of_pos_right hv (by omega)
    rw [Bool.or_eq_true, Bool.and_eq_true, decide_eq_true_eq, decide_eq_true_eq, decide_eq_true_eq]
    omega
  · rw [if_neg h]; rfl

theorem awake14 : l14_awake_T.run = some true := by
  have hk := ringKey_run (n := 12) (n64N (n := 12) (by omega))
  have ho : (ring_Owners_T (entsS [([97] : Str), ([98] : Str), ([97] : Str)]) 4).run = some [([97] : Str), ([98] : Str), ([97] : Str), ([] : Str)] :=
    (owners_run (entsS [([97] : Str), ([98] : Str), ([97] : Str)]) 4 (Nat.le_trans (entsS_len _) (by show 3 ≤ _; omega)) (by omega) (by omega)).trans (by kernel_rfl)
  unfold l14_awake_T
  refine (run_bnd (ents_run _ (by show 3 ≤ _; omega))).trans ?_
  refine (run_bnd hk).trans ?_
  refine (run_ask (by kernel_rfl)).trans ?_
  refine (run_grd ho).trans ?_
  refine (run_grd (sameTexts_run _ _ (by show 4 ≤ _; omega) rfl)).trans ?_
  refine (run_grd (part_run _ _ _ (by show 1 ≤ _; omega) (by show 3 ≤ _; omega))).trans ?_
  refine (run_grd (rPart_run _ _ _ (by show 1 ≤ _; omega) (by show 3 ≤ _; omega))).trans ?_
  generalize partN ([116] : Str) ([98, 47, 107] : Str) 16 = q
  rw [decide_eq_true (rfl : q = q)]
  show some _ = some true
  kernel_rfl

theorem ringPart_law (x : ElP l14_RingPart_g.ps) (hx : okP l14_RingPart_g.ps x) : (l14_RingPart_g.f x).run = some true := by
  obtain ⟨a, b, n, _⟩ := x
  have hn : N64 n := by
    have h : (Lit.int .i64 n).wf = true := hx.2.2.1
    have e1 : IntKind.i64.min = -9223372036854775808 := rfl
    have e2 : IntKind.i64.max = 9223372036854775807 := rfl
    simpa [Lit.wf, N64, e1, e2] using h
  show (l14_RingPart_T a b n).run = _
  unfold l14_RingPart_T
  by_cases hc : ((decide ((200 : Int) < (a.length : Int))) || (decide ((200 : Int) < (b.length : Int)))) = true
  · exact (run_t hc).trans ((run_bnd awake14).trans rfl)
  · have hc := Bool.not_eq_true _ ▸ hc
    refine (run_f hc).trans ?_
    simp only [Bool.or_eq_false_iff, decide_eq_false_iff_not] at hc
    refine (run_bnd (part_run a b n (by omega) (by omega))).trans ?_
    refine (run_bnd (rPart_run a b n (by omega) (by omega))).trans ?_
    rw [partN_in, decide_eq_true (rfl : partN a b n = partN a b n)]
    refine (run_grd (ringKey_run hn)).trans ?_
    refine (run_grd (r14Key_run hn)).trans ?_
    refine (run_grd awake14).trans ?_
    simp only [Tree.run, beq_self_eq_true, Bool.and_true]
theorem get_ents {l : List Str} (hl : l.length ≤ 1000) {i : Nat} (hi : i < l.length) (hn : nameS l[i] = true) : getR (entsS l) (ringK (i : Int)) = ((1 : Int), (([] : Str), l[i])) := by
  have hap := outE_apart 0 l (by omega)
  have hm := mem_outE (k := 0) hi hn
  rw [Nat.zero_add] at hm
  unfold getR
  cases hf : findR (entsS l) (ringK (i : Int)) with
  | some r =>
    have h1 := entsS_mem.1 (find_mem hf)
    have := apart_inj hap h1 hm rfl
    exact congrArg Prod.snd this
  | none =>
    exfalso
    unfold findR at hf
    rw [Option.map_eq_none_iff, List.find?_eq_none] at hf
    have := hf _ (entsS_mem.2 hm)
    simp at this
theorem ownS_get (l : List Entry) (n i : Nat) (h : i < (ownS l n).length) : (ownS l n)[i] = own1 l i := by simp [ownS]
theorem own_ents {l : List Str} (hl : l.length ≤ 1000) (h : ∀ x ∈ l, nameS x = true) : ownS (entsS l) l.length = l := by
  apply List.ext_getElem
  · rw [ownS_len]
  · intro i h1 h2
    rw [ownS_get]
    unfold own1
    have hn := h _ (List.getElem_mem h2)
    rw [get_ents hl h2 hn]
    show (bif nameS l[i] then l[i] else []) = l[i]
    rw [hn]; rfl
theorem outE_all {k : Nat} {l : List Str} (h : ∀ x ∈ l, nameS x = true) : (outE k l).length = l.length := by
  induction l generalizing k with
  | nil => rfl
  | cons s l ih =>
    show (ent1 k s ++ outE (k + 1) l).length = l.length + 1
    rw [List.length_append, ih fun x hx => h x (List.mem_cons_of_mem _ hx)]
    unfold ent1
    rw [h s List.mem_cons_self]
    show 1 + _ = _
    omega
theorem apart_pair {α : Type} {key : α → Str} {d : List α} (h : apartB (d.map key) = true) : d.Pairwise fun x y => key x ≠ key y := by
  induction d with
  | nil => exact List.Pairwise.nil
  | cons a d ih =>
    simp only [List.map_cons, apartB, Bool.and_eq_true, Bool.not_eq_true'] at h
    refine List.Pairwise.cons (fun z hz e => ?_) (ih h.2)
    exact List.any_eq_false.1 h.1 (key z) (List.mem_map_of_mem hz) ((eqS_iff _ _).2 e)
theorem ents_srt {l : List Str} (hl : l.length ≤ 1000) : Srt (entsS l) := by
  have hp := isortB_perm (fun a b : Entry => leS a.1 b.1) (outE 0 l)
  have h1 : (entsS l).Pairwise fun x y => leS x.1 y.1 = true := isortB_sorted (le := fun a b : Entry => leS a.1 b.1) (fun a b c => leS_trans _ _ _) (fun a b => leS_total _ _) _
  have h2 : (entsS l).Pairwise fun x y => x.1 ≠ y.1 := hp.symm.pairwise (apart_pair (outE_apart 0 l (by omega))) fun h => h.symm
  refine (h1.and h2).imp ?_
  rintro x y ⟨ha, hb⟩
  cases hlt : ltS x.1 y.1 with
  | true => rfl
  | false =>
    unfold leS at ha
    exact absurd (less_total hlt (by simpa using ha)) hb
theorem ents_ent {l : List Str} (hl : l.length ≤ 1000) {x : Entry} (hx : x ∈ entsS l) : entB x = true ∧ x.1.length ≤ 1000 ∧ x.2.2.1.length ≤ 1000 ∧ x.2.2.2.length ≤ 1000 := by
  obtain ⟨i, hi, e, hn⟩ := outE_mem (entsS_mem.1 hx)
  have hk := ringK_len (n64N (n := 0 + i) (by omega))
  have hs := nameS_len hn
  subst e
  refine ⟨?_, Nat.le_trans hk.2 (by omega), Nat.zero_le _, Nat.le_trans hs (by omega)⟩
  have hr : regB ((1 : Int), (([] : Str), l[i])) = true := by
    show (true && true && true && decide (l[i].length ≤ 256)) = true
    rw [decide_eq_true (by omega)]; rfl
  show ((decide (1 ≤ (ringK ((0 + i : Nat) : Int)).length) && decide ((ringK ((0 + i : Nat) : Int)).length ≤ 128)) && regB ((1 : Int), (([] : Str), l[i]))) = true
  rw [hr, decide_eq_true hk.1, decide_eq_true (show _ ≤ 128 by omega)]; rfl
theorem ringBack_law (x : ElP l14_RingBack_g.ps) (hx : okP l14_RingBack_g.ps x) : (l14_RingBack_g.f x).run = some true := by
  obtain ⟨l, _⟩ := x
  have hok : l.length ≤ maxLen ∧ ∀ x ∈ l, x.length ≤ maxLen := hx.1
  show (l14_RingBack_T l).run = _
  unfold l14_RingBack_T
  by_cases hc : ((decide ((30 : Int) < (l.length : Int))) || (decide ((l.length : Int) = 0))) = true
  · exact (run_t hc).trans ((run_bnd awake14).trans rfl)
  · have hc := Bool.not_eq_true _ ▸ hc
    refine (run_f hc).trans ?_
    simp only [Bool.or_eq_false_iff, decide_eq_false_iff_not] at hc
    have hany := any_loopB l (fun s => !nameS s) (fun v => l14_RingBack_L4_step l v) (Sum.inl true : Bool ⊕ Unit) (.inr ()) (by omega) (fun i hi => by
      have e : l.getD (i : Int).toNat ([] : Str) = l[i] := by rw [Int.toNat_natCast, getD_lt _ _ _ hi]
      have hm := hok.2 _ (List.getElem_mem hi)
      unfold l14_RingBack_L4_step
      rw [e]
      refine (run_t (decide_eq_true (by omega))).trans ?_
      refine (run_ask (inb_in (by omega))).trans ?_
      refine (run_bnd (r05Is_runB _ (by have e : maxLen = 9223372036854775807 := rfl; omega))).trans ?_
      cases nameS l[i] with
      | true => exact (run_f rfl).trans rfl
      | false => exact (run_t rfl).trans ((run_bnd awake14).trans rfl)) (by
      unfold l14_RingBack_L4_step
      exact (run_f (decide_eq_false (by omega))).trans rfl)
    refine (run_bnd (loop_run hany)).trans ?_
    cases ha : l.any fun s => !nameS s with
    | true => rfl
    | false =>
      have hn : ∀ x ∈ l, nameS x = true := fun x hx => by simpa using List.any_eq_false.1 ha x hx
      have hel := entsS_len l
      have hlen : (entsS l).length = l.length := ((isortB_perm _ _).length_eq).trans (outE_all hn)
      have hmay : mayB (entsS l) = true := (mayB_iff _).2 ⟨by omega, ents_srt (by omega), fun x hx => (ents_ent (by omega) hx).1⟩
      show (Tree.bnd (ring_Entries_T l) _).run = _
      refine (run_bnd (ents_run l (by omega))).trans ?_
      refine (run_bnd (regM_run _ ⟨by omega, fun x hx => (ents_ent (by omega) hx).2⟩)).trans ?_
      rw [hmay, hlen, decide_eq_true (rfl : (l.length : Int) = (l.length : Int))]
      refine (run_grd (owners_run (entsS l) l.length (by omega) (by omega) (by omega))).trans ?_
      rw [own_ents (by omega) hn]
      refine (run_grd (sameTexts_run _ _ (by omega) rfl)).trans ?_
      exact (run_grd awake14).trans rfl

end Go.Eng

