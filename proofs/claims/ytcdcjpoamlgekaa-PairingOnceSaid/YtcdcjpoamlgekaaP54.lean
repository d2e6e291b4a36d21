/- The plain laws of pairing: whom anybody meets, by the document's definition; all rounds. -/
import Derived.Test.YtcdcjpoamlgekaaL54
import Derived.Test.YtcdcjpoamlgekaaTrI
namespace Go.Eng
open Go Go.Proofs

theorem w64_in {x : Int} (h0 : -9223372036854775808 ≤ x) (h1 : x ≤ 9223372036854775807) : w64 x = x := by
  show IntKind.i64.wrap x = x
  rw [IntKind.wrap_i64]; omega
theorem tmod_nat (a b : Nat) : ((a : Int)).tmod (b : Int) = ((a % b : Nat) : Int) := by
  rw [Int.tmod_eq_emod_of_nonneg (Int.natCast_nonneg a)]; exact (Int.natCast_emod a b).symm
theorem count_nat : ∀ m : Fin 65, 2 ≤ m.val → countV (m.val : Int) = ((m.val + m.val % 2 - 1 : Nat) : Int) := by decide +kernel
theorem count_of {m : Nat} (h : 2 ≤ m) (h' : m ≤ 64) : countV (m : Int) = ((m + m % 2 - 1 : Nat) : Int) := count_nat ⟨m, by omega⟩ h

theorem refCount_run (m : Int) : (r54_Count_T m).run = some (countV m) := by
  unfold r54_Count_T r54_even_T countV
  cases hc : (decide (m < 2)) || (decide ((64 : Int) < m))
  · rfl
  · rfl

/-- What a number comes to, less than four times the other one. -/
theorem mod4 (v n : Nat) (h : v < 4 * n) : v % n = if v < n then v else if v < 2 * n then v - n else if v < 3 * n then v - 2 * n else v - 3 * n := by
  have hn : 0 < n := by omega
  split
  · rename_i h1; exact Nat.mod_eq_of_lt h1
  · rename_i h1
    rw [Nat.mod_eq_sub_mod (by omega)]
    split
    · rename_i h2; exact Nat.mod_eq_of_lt (by omega)
    · rename_i h2
      rw [Nat.mod_eq_sub_mod (by omega)]
      split
      · rename_i h3; rw [Nat.mod_eq_of_lt (by omega)]; omega
      · rename_i h3
        rw [Nat.mod_eq_sub_mod (by omega), Nat.mod_eq_of_lt (by omega)]; omega

/-- What has been found after so many tries. -/
def oV (R A N : Nat) : Nat → Nat
  | 0 => 0
  | i + 1 => if (R + (i + 1)) % N = A ∨ (R + N - (i + 1)) % N = A then (2 * R + 2 * N - A) % N else oV R A N i
theorem oV_hit {R A N j : Nat} (hj : 1 ≤ j) (hh : (R + j) % N = A ∨ (R + N - j) % N = A) : ∀ i, j ≤ i → oV R A N i = (2 * R + 2 * N - A) % N := by
  intro i
  induction i with
  | zero => intro h; omega
  | succ i ih =>
    intro h
    unfold oV
    split
    · rfl
    · rename_i hn
      by_cases e : j = i + 1
      · subst e; exact absurd hh hn
      · exact ih (by omega)
theorem oV_end {R A N : Nat} (hN : N % 2 = 1) (hR : R < N) (hA : A < N) (hne : A ≠ R) : oV R A N (N / 2) = (2 * R + 2 * N - A) % N := by
  by_cases h : A > R
  · by_cases h2 : A - R ≤ N / 2
    · exact oV_hit (j := A - R) (by omega) (.inl (by rw [mod4 _ _ (by omega)]; (repeat' split) <;> omega)) _ h2
    · exact oV_hit (j := N - (A - R)) (by omega) (.inr (by rw [mod4 _ _ (by omega)]; (repeat' split) <;> omega)) _ (by omega)
  · by_cases h2 : R - A ≤ N / 2
    · exact oV_hit (j := R - A) (by omega) (.inr (by rw [mod4 _ _ (by omega)]; (repeat' split) <;> omega)) _ h2
    · exact oV_hit (j := N - (R - A)) (by omega) (.inl (by rw [mod4 _ _ (by omega)]; (repeat' split) <;> omega)) _ (by omega)
theorem hit_up {R A N k : Nat} (hR : R < N) (hk : k < N) (h : (R + k) % N = A) : (R + N - k) % N = (2 * R + 2 * N - A) % N := by
  subst h
  rw [mod4 (R + k) _ (by omega)]
  rw [mod4 (R + N - k) _ (by omega)]
  (repeat' split) <;> (rw [mod4 _ _ (by omega)]; (repeat' split) <;> omega)
theorem hit_down {R A N k : Nat} (hR : R < N) (hk : k < N) (h : (R + N - k) % N = A) : (R + k) % N = (2 * R + 2 * N - A) % N := by
  subst h
  rw [mod4 (R + k) _ (by omega)]
  rw [mod4 (R + N - k) _ (by omega)]
  (repeat' split) <;> (rw [mod4 _ _ (by omega)]; (repeat' split) <;> omega)

theorem meets_step (m : Int) (R A N o k : Nat) (hN : N ≤ 63) (hR : R < N) (hk : k ≤ N / 2) (hk0 : 1 ≤ k) :
    (r54_Meets_L6_step m (R : Int) (A : Int) (N : Int) (o : Int) (k : Int)).run = some (.inl (((if (R + k) % N = A ∨ (R + N - k) % N = A then (2 * R + 2 * N - A) % N else o : Nat) : Int), ((k + 1 : Nat) : Int))) := by
  have e1 : w64 ((N : Int).tdiv 2) = ((N / 2 : Nat) : Int) := by
    rw [Int.tdiv_eq_ediv_of_nonneg (by omega), w64_in (by omega) (by omega)]; omega
  have e2 : (w64 ((R : Int) + (k : Int))).tmod (N : Int) = (((R + k) % N : Nat) : Int) := by
    rw [w64_in (by omega) (by omega), ← Int.natCast_add]; exact tmod_nat _ _
  have e3 : (w64 ((w64 ((R : Int) - (k : Int))) + (N : Int))).tmod (N : Int) = (((R + N - k) % N : Nat) : Int) := by
    rw [w64_in (x := (R : Int) - (k : Int)) (by omega) (by omega), w64_in (by omega) (by omega), show (R : Int) - (k : Int) + (N : Int) = ((R + N - k : Nat) : Int) from by omega]; exact tmod_nat _ _
  have e4 : w64 ((k : Int) + 1) = ((k + 1 : Nat) : Int) := w64_i k (by omega)
  have e5 : (N : Int) ≠ 0 := by omega
  have e6 : (k : Int) ≤ ((N / 2 : Nat) : Int) := by omega
  have hu := hit_up (A := A) hR (show k < N by omega)
  have hd := hit_down (A := A) hR (show k < N by omega)
  unfold r54_Meets_L6_step
  simp only [e1, e2, e3, e4]
  generalize (R + k) % N = x at *
  generalize (R + N - k) % N = y at *
  generalize (2 * R + 2 * N - A) % N = z at *
  have c1 : decide ((2 : Int) = 0) = false := by decide
  have q : ∀ u : Nat, decide ((u : Int) = (A : Int)) = decide (u = A) := fun u => decide_eq_decide.2 (by omega)
  simp only [Tree.run, c1, e5, e6, decide_true, decide_false, Bool.not_false, cond_true, q]
  by_cases h1 : x = A <;> by_cases h2 : y = A <;> simp only [h1, h2, decide_true, decide_false, cond_true, cond_false, true_or, or_true, or_self, if_true, if_false]
  · rw [← hd h2, h1]
  · rw [← hu h1]
  · rw [← hd h2]
theorem meets_stop (m : Int) (R A N o k : Nat) (hN : N ≤ 63) (hk : N / 2 < k) : (r54_Meets_L6_step m (R : Int) (A : Int) (N : Int) (o : Int) (k : Int)).run = some (.inr (o : Int)) := by
  have e1 : w64 ((N : Int).tdiv 2) = ((N / 2 : Nat) : Int) := by
    rw [Int.tdiv_eq_ediv_of_nonneg (by omega), w64_in (by omega) (by omega)]; omega
  have c1 : decide ((2 : Int) = 0) = false := by decide
  have e6 : ¬ ((k : Int) ≤ ((N / 2 : Nat) : Int)) := by omega
  unfold r54_Meets_L6_step
  simp only [Tree.run, e1, c1, e6, decide_false, Bool.not_false, cond_true, cond_false]
theorem meets_loop (m : Int) (R A N : Nat) (hN : N % 2 = 1) (hN' : N ≤ 63) (hR : R < N) (hA : A < N) (hne : A ≠ R) :
    loopF (fun v => (r54_Meets_L6_step m (R : Int) (A : Int) (N : Int) v.1 v.2).run) ((0 : Int), (1 : Int)) = some (((2 * R + 2 * N - A) % N : Nat) : Int) :=
  loopF_run (st := fun v => (r54_Meets_L6_step m (R : Int) (A : Int) (N : Int) v.1 v.2).run) (S := fun i => ((oV R A N i : Int), ((i + 1 : Nat) : Int))) (n := N / 2)
    (fun i hi => meets_step m R A N (oV R A N i) (i + 1) hN' hR (by omega) (by omega))
    (by rw [← oV_end hN hR hA hne]; exact meets_stop m R A N _ _ hN' (by omega)) rfl

/-- What lies in the bounds, as natural numbers. -/
theorem in_bounds {m r a : Int} (hc : ((((decide (r < 0)) || (decide (countV m ≤ r))) || (decide (a < 0))) || (decide (m ≤ a))) = false) :
    ∃ M R A N : Nat, m = M ∧ r = R ∧ a = A ∧ countV m = N ∧ N = M + M % 2 - 1 ∧ 2 ≤ M ∧ M ≤ 64 ∧ R < N ∧ A < M := by
  simp only [Bool.or_eq_false_iff, decide_eq_false_iff_not] at hc
  obtain ⟨⟨⟨h1, h2⟩, h3⟩, h4⟩ := hc
  have hm : 2 ≤ m ∧ m ≤ 64 := by
    constructor <;> (apply Int.not_lt.1; intro h'; have := count_zero (m := m) (by omega); omega)
  have e := count_of (m := m.toNat) (by omega) (by omega)
  rw [show ((m.toNat : Nat) : Int) = m from by omega] at e
  exact ⟨m.toNat, r.toNat, a.toNat, m.toNat + m.toNat % 2 - 1, by omega, by omega, by omega, e, rfl, by omega, by omega, by omega, by omega⟩
theorem other_val {R A N : Nat} (hN : N ≤ 63) (hR : R < N) (hA : A ≤ N) : (w64 ((w64 ((w64 ((2 : Int) * (R : Int))) - (A : Int))) + (w64 ((2 : Int) * (N : Int))))).tmod (N : Int) = (((2 * R + 2 * N - A) % N : Nat) : Int) := by
  rw [w64_in (x := (2 : Int) * (R : Int)) (by omega) (by omega), w64_in (x := (2 : Int) * (R : Int) - (A : Int)) (by omega) (by omega), w64_in (x := (2 : Int) * (N : Int)) (by omega) (by omega), w64_in (by omega) (by omega),
    show (2 : Int) * (R : Int) - (A : Int) + (2 : Int) * (N : Int) = ((2 * R + 2 * N - A : Nat) : Int) from by omega]
  exact tmod_nat _ _
theorem refMeets_run (m r a : Int) : (r54_Meets_T m r a).run = some ((meetsV m r a).1, (meetsV m r a).2, ()) := by
  unfold r54_Meets_T
  rw [run_bnd (refCount_run m)]
  unfold meetsV
  cases hc : ((((decide (r < 0)) || (decide (countV m ≤ r))) || (decide (a < 0))) || (decide (m ≤ a)))
  · obtain ⟨M, R, A, N, rfl, rfl, rfl, hn, hN, h2, h64, hR, hA⟩ := in_bounds hc
    rw [hn]
    refine (run_f rfl).trans ?_
    rw [cond_false]
    by_cases h1 : (A : Int) = (N : Int)
    · rw [decide_eq_true h1, cond_true]
      refine (run_t rfl).trans ?_
      cases decide ((M : Int) ≤ (R : Int)) <;> rfl
    · rw [decide_eq_false h1, cond_false]
      refine (run_f rfl).trans ?_
      by_cases h3 : (A : Int) = (R : Int)
      · rw [decide_eq_true h3, cond_true]
        refine (run_t rfl).trans ?_
        cases decide ((M : Int) ≤ (N : Int)) <;> rfl
      · rw [decide_eq_false h3, cond_false]
        refine (run_f rfl).trans ?_
        rw [other_val (by omega) hR (by omega)]
        have hl : (Tree.loop (fun v => r54_Meets_L6_step (M : Int) (R : Int) (A : Int) (N : Int) v.1 v.2) ((0 : Int), (1 : Int))).run = some (((2 * R + 2 * N - A) % N : Nat) : Int) :=
          meets_loop (M : Int) R A N (by omega) (by omega) hR (by omega) (by omega)
        rw [run_bnd hl]
        cases decide ((M : Int) ≤ (((2 * R + 2 * N - A) % N : Nat) : Int)) <;> rfl
  · rw [cond_true]; exact run_t rfl

theorem awake54 : l54_awake_T.run = some true := Tree.runN_run (n := 10) (by kernel_rfl)

theorem is_run (m r a : Int) : (l54_PairingIs_T m r a).run = some true := by
  unfold l54_PairingIs_T
  rw [run_bnd (meets_run m r a), run_bnd (refMeets_run m r a)]
  refine (run_grd (count_run m)).trans ?_
  refine (run_grd (refCount_run m)).trans ?_
  refine (run_grd awake54).trans ?_
  simp [Tree.run]
theorem pairingIs_law (x : ElP l54_PairingIs_g.ps) (_ : okP l54_PairingIs_g.ps x) : (l54_PairingIs_g.f x).run = some true := is_run _ _ _

/-! All rounds. -/
def roundsL (m : Int) : List (List (Int × Int)) := (List.range (countV m).toNat).map fun (r : Nat) => pairsL m r
theorem rounds_upto (m : Int) (i : Nat) : (List.range (i + 1)).map (fun (r : Nat) => pairsL m r) = (List.range i).map (fun (r : Nat) => pairsL m r) ++ [pairsL m i] := by
  rw [List.range_succ, List.map_append]; rfl
theorem count_le (m : Int) : 0 ≤ countV m ∧ countV m ≤ 63 := by
  by_cases h : 2 ≤ m ∧ m ≤ 64
  · have e := count_of (m := m.toNat) (by omega) (by omega)
    rw [show ((m.toNat : Nat) : Int) = m from by omega] at e
    omega
  · rw [count_zero (by omega)]; omega
theorem rounds_run (m : Int) : (pairing_Rounds_T m).run = some (roundsL m) := by
  unfold pairing_Rounds_T
  rw [run_bnd (count_run m)]
  have hc := count_le m
  refine (run_bnd (t := Tree.loop (fun v => pairing_Rounds_L3_step m (countV m) v.1 v.2) ((0 : Int), ([] : List LP))) (a := roundsL m) ?_).trans rfl
  refine loopF_run (st := fun v => (pairing_Rounds_L3_step m (countV m) v.1 v.2).run) (S := fun i => (((i : Nat) : Int), (List.range i).map fun (r : Nat) => pairsL m r)) (n := (countV m).toNat) (fun i hi => ?_) ?_ rfl
  · have e4 : w64 ((i : Int) + 1) = ((i + 1 : Nat) : Int) := w64_i i (by omega)
    unfold pairing_Rounds_L3_step
    refine (run_t (decide_eq_true (by omega))).trans ?_
    rw [run_bnd (a := ((), m, (i : Int), ())) rfl]
    refine (run_ask (by decide)).trans ?_
    refine (run_ask (room_le _ 24 (by rw [List.length_append]; simp; omega) (by omega))).trans ?_
    rw [rounds_upto, e4]; rfl
  · unfold pairing_Rounds_L3_step
    exact run_f (decide_eq_false (by omega))
theorem refPairs_run (m : Int) (r : Int) (out : List LP) (h64 : m ≤ 64) : (Tree.loop (fun v => r54_Rounds_L7_step m r out v.1 v.2) ((0 : Int), ([] : LP))).run = some (pairsL m r) := by
  refine loopF_run (st := fun v => (r54_Rounds_L7_step m r out v.1 v.2).run) (S := fun i => (((i : Nat) : Int), pairsUpto m r i)) (n := m.toNat) (fun i hi => ?_) ?_ rfl
  · have e4 : w64 ((i : Int) + 1) = ((i + 1 : Nat) : Int) := w64_i i (by omega)
    unfold r54_Rounds_L7_step
    refine (run_t (decide_eq_true (by omega))).trans ?_
    rw [run_bnd (refMeets_run m r i)]
    cases h : (meetsV m r i).2 && decide ((i : Int) < (meetsV m r i).1) with
    | true =>
      refine (run_t rfl).trans ?_
      refine (run_ask (room_le _ 16 (by have := pairsUpto_len m r i; rw [List.length_append]; simp; omega) (by omega))).trans ?_
      rw [pairsUpto_hit h, e4]; rfl
    | false =>
      refine (run_f rfl).trans ?_
      rw [pairsUpto_miss h, e4]; rfl
  · unfold r54_Rounds_L7_step
    exact run_f (decide_eq_false (by omega))
theorem refRounds_run (m : Int) (h64 : m ≤ 64) : (r54_Rounds_T m).run = some (roundsL m) := by
  unfold r54_Rounds_T
  have hc := count_le m
  refine (run_bnd (t := Tree.loop (fun v => r54_Rounds_L3_step m v.1 v.2) ((0 : Int), ([] : List LP))) (a := roundsL m) ?_).trans rfl
  refine loopF_run (st := fun v => (r54_Rounds_L3_step m v.1 v.2).run) (S := fun i => (((i : Nat) : Int), (List.range i).map fun (r : Nat) => pairsL m r)) (n := (countV m).toNat) (fun i hi => ?_) ?_ rfl
  · have e4 : w64 ((i : Int) + 1) = ((i + 1 : Nat) : Int) := w64_i i (by omega)
    unfold r54_Rounds_L3_step
    rw [run_bnd (refCount_run m)]
    refine (run_t (decide_eq_true (by omega))).trans ?_
    rw [run_bnd (refPairs_run m i _ h64)]
    refine (run_ask (room_le _ 24 (by rw [List.length_append]; simp; omega) (by omega))).trans ?_
    rw [rounds_upto, e4]; rfl
  · unfold r54_Rounds_L3_step
    rw [run_bnd (refCount_run m)]
    exact run_f (decide_eq_false (by omega))
theorem same_inner (l : List LP) (i : Nat) (hi : i < l.length) (hl : l[i].length ≤ 1000000) : (Tree.loop (fun v => r54_Same_L9_step l l (i : Int) v) (0 : Int)).run = some (.inr ()) := by
  refine same_loop (β := Bool ⊕ Unit) l[i].length _ (Sum.inr ()) (by omega) (fun k hk => ?_) ?_
  · unfold r54_Same_L9_step
    have g : l.getD ((i : Int).toNat) ([] : LP) = l[i] := getD_lt _ _ _ hi
    simp only [g]
    refine (run_ask (by rw [inb_nat]; exact decide_eq_true hi)).trans ?_
    refine (run_ask (by rw [inb_nat, decide_eq_true hi, Bool.or_true])).trans ?_
    refine (run_t (by simp; omega)).trans ?_
    refine (run_ask (by rw [inb_nat]; exact decide_eq_true hi)).trans ?_
    refine (run_ask (by rw [inb_nat]; exact decide_eq_true hk)).trans ?_
    refine (run_ask (by rw [inb_nat]; exact decide_eq_true hi)).trans ?_
    refine (run_ask (by rw [inb_nat]; exact decide_eq_true hk)).trans ?_
    exact run_f (by simp)
  · unfold r54_Same_L9_step
    have g : l.getD ((i : Int).toNat) ([] : LP) = l[i] := getD_lt _ _ _ hi
    simp only [g]
    refine (run_ask (by rw [inb_nat]; exact decide_eq_true hi)).trans ?_
    refine (run_ask (by rw [inb_nat, decide_eq_true hi, Bool.or_true])).trans ?_
    exact run_f (by simp)
theorem same_run (l : List LP) (hl : l.length ≤ 1000000) (hl' : ∀ x ∈ l, x.length ≤ 1000000) : (r54_Same_T l l).run = some true := by
  unfold r54_Same_T
  refine (run_f (by simp)).trans ?_
  have h : (Tree.loop (fun v => r54_Same_L4_step l l v) (0 : Int)).run = some (.inr ()) := by
    refine same_loop (β := Bool ⊕ Unit) l.length _ (Sum.inr ()) (by omega) (fun i hi => ?_) ?_
    · unfold r54_Same_L4_step
      refine (run_t (by simp; omega)).trans ?_
      refine (run_ask (by rw [inb_nat]; exact decide_eq_true hi)).trans ?_
      refine (run_ask (by rw [inb_nat]; exact decide_eq_true hi)).trans ?_
      refine (run_f (by simp)).trans ?_
      rw [run_bnd (same_inner l i hi (hl' _ (List.getElem_mem hi)))]; rfl
    · unfold r54_Same_L4_step
      exact run_f (by simp)
  rw [run_bnd h]; rfl
theorem rounds_len (m : Int) : (roundsL m).length = (countV m).toNat := by simp [roundsL]
theorem rounds_small {m : Int} (h : m ≤ 64) : ∀ x ∈ roundsL m, x.length ≤ 64 := by
  intro x hx
  obtain ⟨r, _, rfl⟩ := List.mem_map.1 hx
  have := pairsUpto_len m r m.toNat
  unfold pairsL; omega
theorem rounds54_run (x : Int) (h0 : 0 ≤ x) (h1 : x ≤ 255) : (l54_PairingRounds_T x).run = some true := by
  unfold l54_PairingRounds_T
  refine (run_ask (by decide)).trans ?_
  have hm : (w64 x).tmod 21 ≤ 64 := by
    rw [w64_in (by omega) (by omega), Int.tmod_eq_emod_of_nonneg h0]; omega
  generalize (w64 x).tmod 21 = m at *
  rw [run_bnd (rounds_run m), run_bnd (refRounds_run m hm)]
  have hc := count_le m
  rw [run_bnd (same_run _ (by rw [rounds_len]; omega) (fun y hy => Nat.le_trans (rounds_small hm y hy) (by omega)))]
  refine (run_grd awake54).trans rfl
theorem u8_of {x : Int} (h : okE (.int .u8) x) : 0 ≤ x ∧ x ≤ 255 := by
  have h := (wf_iff .u8 x).1 h
  simp [IntKind.min, IntKind.max, IntKind.signed, IntKind.bits] at h
  exact h
theorem pairingRounds_law (x : ElP l54_PairingRounds_g.ps) (hx : okP l54_PairingRounds_g.ps x) : (l54_PairingRounds_g.f x).run = some true := by
  obtain ⟨n, _⟩ := x
  have := u8_of hx.1
  exact rounds54_run n this.1 this.2
end Go.Eng

