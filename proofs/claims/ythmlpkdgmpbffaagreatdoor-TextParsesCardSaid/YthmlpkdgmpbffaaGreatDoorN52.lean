/- Laws in plain Lean: num. -/
import Derived.Test.YthmlpkdgmpbffaaGreatDoorL52z
import Derived.Test.YthmlpkdgmpbffaaGreatDoorK05
import Derived.Test.YthmlpkdgmpbffaaGreatDoorTrL
namespace Go.Eng
open Go Go.Proofs Go.RowKit

/-! The reference's digits and numbers: the runs of Dec and Num. -/
theorem w64_id {n : Int} (h : N64 n) : w64 n = n := by
  obtain ⟨h0, h1⟩ := h
  show IntKind.i64.wrap n = n
  rw [IntKind.wrap_i64]; omega
theorem w64_in (n : Int) : N64 (w64 n) := by
  show N64 (IntKind.i64.wrap n)
  rw [IntKind.wrap_i64]
  constructor <;> omega
theorem dig_sub : ∀ d : Nat, d < 10 → subS ([48, 49, 50, 51, 52, 53, 54, 55, 56, 57] : Str) d (d + 1) = [UInt8.ofNat (48 + d)]
  | 0, _ => rfl | 1, _ => rfl | 2, _ => rfl | 3, _ => rfl | 4, _ => rfl | 5, _ => rfl | 6, _ => rfl | 7, _ => rfl | 8, _ => rfl | 9, _ => rfl
  | d + 10, h => absurd h (by omega)
theorem tmod_nat (m : Nat) : (m : Int).tmod 10 = ((m % 10 : Nat) : Int) := by
  rw [Int.tmod_eq_emod_of_nonneg (by omega)]; omega
theorem tdiv_nat (m : Nat) : (m : Int).tdiv 10 = ((m / 10 : Nat) : Int) := by
  rw [Int.tdiv_eq_ediv_of_nonneg (by omega)]; omega
theorem dec_step (n k : Int) (s : Str) (hk : N64 k) (h0 : k ≠ 0) (hs : s.length ≤ 1000) :
    (r05_Dec_L5_step n s k).run = some (.inl (UInt8.ofNat (48 + k.natAbs % 10) :: s, k.tdiv 10)) := by
  have hlen : ([48, 49, 50, 51, 52, 53, 54, 55, 56, 57] : Str).length = 10 := rfl
  obtain ⟨hk0, hk1⟩ := hk
  have hd0 : decide (k = 0) = false := decide_eq_false h0
  have h10 : decide ((10 : Int) = 0) = false := rfl
  rcases Int.eq_nat_or_neg k with ⟨m, rfl | rfl⟩
  · have e1 := tmod_nat m
    have e2 := tdiv_nat m
    have hj : m % 10 < 10 := Nat.mod_lt _ (by omega)
    have en : (m : Int).natAbs = m := Int.natAbs_natCast m
    rw [en]
    generalize m % 10 = j at e1 hj
    have w1 : w64 ((j : Int) + 1) = ((j + 1 : Nat) : Int) := by rw [w64_id ⟨by omega, by omega⟩]; omega
    have w2 : w64 ((m : Int).tdiv 10) = (m : Int).tdiv 10 := by rw [e2]; exact w64_id ⟨by omega, by omega⟩
    have hn : decide ((j : Int) < 0) = false := decide_eq_false (by omega)
    have i1 : inbe ((j + 1 : Nat) : Int) 10 = true := by rw [inbe_nat, decide_eq_true (by omega)]
    have i2 : inbe (j : Int) (j + 1) = true := by rw [inbe_nat, decide_eq_true (by omega)]
    have q : decide (([UInt8.ofNat (48 + j)] : Str).length + s.length ≤ 9223372036854775807) = true := decide_eq_true (by simp only [List.length_cons, List.length_nil]; omega)
    unfold r05_Dec_L5_step
    simp only [Tree.run, hd0, h10, e1, hn, w1, w2, hlen, i1, i2, Int.toNat_natCast, dig_sub j hj, q, Bool.not_false, cond_true, cond_false]
    rfl
  · have e1 : (-(m : Int)).tmod 10 = -((m % 10 : Nat) : Int) := by rw [Int.neg_tmod, tmod_nat]
    have e2 : (-(m : Int)).tdiv 10 = -((m / 10 : Nat) : Int) := by rw [Int.neg_tdiv, tdiv_nat]
    have hj : m % 10 < 10 := Nat.mod_lt _ (by omega)
    have en : (-(m : Int)).natAbs = m := by omega
    rw [en]
    have w2 : w64 ((-(m : Int)).tdiv 10) = (-(m : Int)).tdiv 10 := by rw [e2]; exact w64_id ⟨by omega, by omega⟩
    generalize m % 10 = j at e1 hj
    have w1 : w64 ((j : Int) + 1) = ((j + 1 : Nat) : Int) := by rw [w64_id ⟨by omega, by omega⟩]; omega
    have i1 : inbe ((j + 1 : Nat) : Int) 10 = true := by rw [inbe_nat, decide_eq_true (by omega)]
    have i2 : inbe (j : Int) (j + 1) = true := by rw [inbe_nat, decide_eq_true (by omega)]
    have q : decide (([UInt8.ofNat (48 + j)] : Str).length + s.length ≤ 9223372036854775807) = true := decide_eq_true (by simp only [List.length_cons, List.length_nil]; omega)
    unfold r05_Dec_L5_step
    cases j with
    | zero =>
      have e1 : (-(m : Int)).tmod 10 = ((0 : Nat) : Int) := by rw [e1]; rfl
      have hn : decide (((0 : Nat) : Int) < 0) = false := rfl
      simp only [Tree.run, hd0, h10, e1, hn, w1, w2, hlen, i1, i2, Int.toNat_natCast, dig_sub 0 hj, q, Bool.not_false, cond_true, cond_false]
      rfl
    | succ j =>
      have hn : decide (-((j + 1 : Nat) : Int) < 0) = true := decide_eq_true (by omega)
      have w3 : w64 ((0 : Int) - -((j + 1 : Nat) : Int)) = ((j + 1 : Nat) : Int) := by rw [w64_id ⟨by omega, by omega⟩]; omega
      simp only [Tree.run, hd0, h10, e1, hn, w3, w1, w2, hlen, i1, i2, Int.toNat_natCast, dig_sub (j + 1) hj, q, Bool.not_false, cond_true, cond_false]
      rfl
theorem dec_loop (n : Int) : ∀ (m : Nat) (k : Int) (s : Str), k.natAbs = m → N64 k → k ≠ 0 → (Lib.decDigits m).length + s.length ≤ 1000 →
    loopF (fun v => (r05_Dec_L5_step n v.1 v.2).run) (s, k) = some (Lib.decDigits m ++ s) := by
  intro m
  induction m using Nat.strongRecOn with
  | ind m ih =>
    intro k s hm hk h0 hs
    have hs' : s.length ≤ 1000 := by omega
    rw [loopF_eq, dec_step n k s hk h0 hs', hm]
    show loopF _ (UInt8.ofNat (48 + m % 10) :: s, k.tdiv 10) = _
    have hq : (k.tdiv 10).natAbs = m / 10 := by rw [Int.natAbs_tdiv, hm]; rfl
    by_cases hm10 : m < 10
    · have hz : k.tdiv 10 = 0 := Int.natAbs_eq_zero.1 (by rw [hq]; omega)
      rw [hz, loopF_eq]
      rw [decDigits_small hm10, Nat.mod_eq_of_lt hm10]
      unfold r05_Dec_L5_step
      simp only [Tree.run, decide_true, Bool.not_true, cond_false]
      rfl
    · have hne : k.tdiv 10 ≠ 0 := fun e => by rw [e] at hq; simp at hq; omega
      have hb : N64 (k.tdiv 10) := by
        obtain ⟨a, b⟩ := hk
        have : (k.tdiv 10).natAbs ≤ 9223372036854775807 := by rw [hq]; omega
        constructor <;> omega
      rw [decDigits_big hm10] at hs ⊢
      rw [ih (m / 10) (by omega) _ _ hq hb hne (by simp only [List.length_append, List.length_cons, List.length_nil] at hs ⊢; omega)]
      simp
theorem r05Dec_run (n : Int) (h : N64 n) : (r05_Dec_T n).run = some (decS n) := by
  rw [decS_eq h]
  unfold r05_Dec_T Lib.itoa
  by_cases h0 : n = 0
  · subst h0
    simp only [Tree.run, decide_true, cond_true]
    rw [if_neg (by omega)]
    show _ = some (Lib.decDigits 0)
    rw [decDigits_small (by omega)]; rfl
  · have hl : (Lib.decDigits n.natAbs).length ≤ 20 := decDigits_len _ 19 (by
      obtain ⟨a, b⟩ := h
      have : (10 : Nat) ^ (19 + 1) = 100000000000000000000 := by decide
      omega)
    have hloop := dec_loop n n.natAbs n [] rfl h h0 (by simp only [List.length_nil]; omega)
    rw [List.append_nil] at hloop
    simp only [Tree.run, decide_eq_false h0, cond_false]
    rw [hloop]
    simp only [Option.bind_some]
    by_cases hn : n < 0
    · rw [if_pos hn]
      have q : decide (([45] : Str).length + (Lib.decDigits n.natAbs).length ≤ 9223372036854775807) = true := decide_eq_true (by simp only [List.length_cons, List.length_nil]; omega)
      simp only [decide_eq_true hn, cond_true, q]
      rfl
    · rw [if_neg hn]
      simp only [decide_eq_false hn, cond_false]
      have : n.natAbs = n.toNat := by omega
      rw [this]

def digB (c : UInt8) : Bool := !(decide ((c.toNat : Int) < 48) || decide ((57 : Int) < (c.toNat : Int)))
def accI (n : Int) (c : UInt8) : Int := w64 (w64 (n * 10) - w64 (IntKind.wrap .u8 ((c.toNat : Int) - 48)))
theorem num_loop (s : Str) (from_ : Int) : ∀ (d i : Nat) (n : Int), i + d = s.length → s.length ≤ 1000 →
    loopF (fun v => (r05_Num_L7_step s from_ v.1 v.2).run) (n, (i : Int)) = some (bif (s.drop i).all digB then .inr ((s.drop i).foldl accI n) else .inl (0, false)) := by
  intro d
  induction d with
  | zero =>
    intro i n hi hl
    have hi : i = s.length := hi
    subst hi
    rw [loopF_eq, List.drop_length]
    unfold r05_Num_L7_step
    simp only [Tree.run, Int.ofNat_lt, Nat.lt_irrefl, decide_false, cond_false]
    rfl
  | succ d ih =>
    intro i n hi hl
    have hlt : i < s.length := by omega
    have e : sgetI s (i : Int) = (s[i].toNat : Int) := by simp [sgetI, std, List.getD, hlt]
    rw [loopF_eq, List.drop_eq_getElem_cons hlt]
    have hi' : ((i : Int) + 1) = ((i + 1 : Nat) : Int) := by omega
    have hw : w64 ((i : Int) + 1) = ((i + 1 : Nat) : Int) := by rw [w64_id ⟨by omega, by omega⟩]; omega
    cases hb : digB s[i] with
    | false =>
      have hb' : (decide ((s[i].toNat : Int) < 48) || decide ((57 : Int) < (s[i].toNat : Int))) = true := by
        unfold digB at hb
        cases hx : (decide ((s[i].toNat : Int) < 48) || decide ((57 : Int) < (s[i].toNat : Int))) with
        | true => rfl
        | false => rw [hx] at hb; cases hb
      unfold r05_Num_L7_step
      simp only [Tree.run, Int.ofNat_lt, hlt, decide_true, cond_true, inb_nat, Bool.or_true, e, hb', List.all_cons, hb, Bool.false_and, cond_false]
      rfl
    | true =>
      have hb' : (decide ((s[i].toNat : Int) < 48) || decide ((57 : Int) < (s[i].toNat : Int))) = false := by unfold digB at hb; simpa using hb
      have hst : (r05_Num_L7_step s from_ n (i : Int)).run = some (.inl (accI n s[i], ((i + 1 : Nat) : Int))) := by
        unfold r05_Num_L7_step
        simp only [Tree.run, Int.ofNat_lt, hlt, decide_true, cond_true, inb_nat, Bool.or_true, e, hb', cond_false, hw]
        rfl
      show Option.bind (r05_Num_L7_step s from_ n (i : Int)).run _ = _
      rw [hst]
      show loopF _ (accI n s[i], ((i + 1 : Nat) : Int)) = _
      rw [ih (i + 1) _ (by omega) hl, List.all_cons, hb, Bool.true_and, List.foldl_cons]
theorem dec_digs (u : Nat) : (Lib.decDigits u).all digB = true := by
  have one : ∀ d, d < 10 → digB (UInt8.ofNat (48 + d)) = true := fun d hd => by
    unfold digB
    rw [dig_toNat d hd]
    simp only [Bool.not_eq_true', Bool.or_eq_false_iff, decide_eq_false_iff_not]
    omega
  induction u using Nat.strongRecOn with
  | ind u ih =>
    by_cases hu : u < 10
    · rw [decDigits_small hu, List.all_cons, one u hu]; rfl
    · rw [decDigits_big hu, List.all_append, ih _ (by omega), List.all_cons, one _ (by omega)]; rfl
theorem acc_dec (u : Nat) (hu : u ≤ 9223372036854775808) : (Lib.decDigits u).foldl accI 0 = -(u : Int) := by
  have one : ∀ (a d : Nat), d < 10 → a * 10 + d ≤ 9223372036854775808 → accI (-(a : Int)) (UInt8.ofNat (48 + d)) = -((a * 10 + d : Nat) : Int) := fun a d hd h => by
    unfold accI
    rw [dig_toNat d hd]
    have e1 : ((48 + d : Nat) : Int) - 48 = (d : Int) := by omega
    have e2 : IntKind.wrap .u8 (d : Int) = (d : Int) := by rw [IntKind.wrap_u8]; omega
    rw [e1, e2, w64_id (n := (d : Int)) ⟨by omega, by omega⟩, w64_id (n := -(a : Int) * 10) ⟨by omega, by omega⟩, w64_id ⟨by omega, by omega⟩]
    omega
  induction u using Nat.strongRecOn with
  | ind u ih =>
    by_cases hs : u < 10
    · rw [decDigits_small hs]
      have := one 0 u hs (by omega)
      simpa using this
    · rw [decDigits_big hs, List.foldl_append, ih _ (by omega) (by omega)]
      show accI _ _ = _
      rw [one (u / 10) (u % 10) (by omega) (by omega)]
      omega
theorem numS_none {s : Str} (h : ∀ n, N64 n → decS n ≠ s) : numS s = (0, false) := by
  rcases numS_cases s with ⟨n, h1, h2, _⟩ | ⟨_, h2⟩
  · exact absurd h2 (h n h1)
  · exact h2
theorem r05Num_run (s : Str) : (r05_Num_T s).run = some ((numS s).1, (numS s).2, ()) := by
  unfold r05_Num_T
  by_cases hl : 20 < s.length ∨ s = []
  · have hc : ((decide ((20 : Int) < (s.length : Int))) || (s == ([] : Str))) = true := by
      rcases hl with h | h
      · rw [decide_eq_true (by omega)]; rfl
      · subst h; rfl
    rw [run_t hc, numS_none fun n hn e => ?_]
    · rfl
    · have := decS_len hn
      rw [e] at this
      rcases hl with h | h
      · omega
      · exact this.2 h
  · have hl1 : s.length ≤ 20 := by omega
    have hne : s ≠ [] := fun e => hl (.inr e)
    have hc : ((decide ((20 : Int) < (s.length : Int))) || (s == ([] : Str))) = false := by
      rw [decide_eq_false (by omega), Bool.false_or, beq_eq_false_iff_ne]; exact hne
    have hpos : 0 < s.length := List.length_pos_iff.2 hne
    rw [run_f hc, run_ask (by rw [inb_zero]; exact decide_eq_true hpos)]
    obtain ⟨c, r, rfl⟩ := List.exists_cons_of_ne_nil hne
    have eg : sgetI (c :: r) 0 = (c.toNat : Int) := rfl
    -- what Dec says of a number, of these bytes
    have fin : ∀ (m : Int), N64 m → (∀ n, N64 n → decS n = c :: r → n = m) → ((Tree.bnd (r05_Dec_T m) fun y => Tree.ite (!(y == (c :: r))) (Tree.ret ((0 : Int), false, ())) (Tree.ret (m, true, ()))).run = some ((numS (c :: r)).1, (numS (c :: r)).2, ())) := fun m hm hu => by
      rw [run_bnd (r05Dec_run m hm)]
      cases hb : decS m == (c :: r) with
      | true =>
        have e := (numS_iff (c :: r) m).2 ⟨hm, by simpa using hb⟩
        rw [e]; rfl
      | false =>
        rw [numS_none fun n hn e => ?_]
        · rfl
        · have := hu n hn e
          subst this
          rw [e, beq_self_eq_true] at hb; cases hb
    have nodig : ∀ n, N64 n → decS n = c :: r → (n < 0 ∧ c = 45 ∧ r = Lib.decDigits n.natAbs) ∨ (0 ≤ n ∧ c ≠ 45 ∧ c :: r = Lib.decDigits n.toNat) := fun n hn e => by
      rw [decS_eq hn] at e
      unfold Lib.itoa at e
      by_cases hn0 : n < 0
      · rw [if_pos hn0] at e
        exact .inl ⟨hn0, (List.cons.inj e).1.symm, (List.cons.inj e).2.symm⟩
      · rw [if_neg hn0] at e
        refine .inr ⟨by omega, ?_, e.symm⟩
        rintro rfl
        have := dec_digs n.toNat
        rw [e] at this
        cases this
    by_cases hm : c = 45
    · subst hm
      have hd : decide (sgetI (45 :: r) 0 = 45) = true := by rw [eg]; rfl
      rw [run_t hd]
      have hloop := num_loop (45 :: r) 1 r.length 1 0 (by simp only [List.length_cons]; omega) (by omega)
      rw [show List.drop 1 (45 :: r) = r from rfl] at hloop
      cases hall : r.all digB with
      | false =>
        rw [hall, cond_false] at hloop
        rw [run_bnd (a := (.inl (0, false) : (Int × Bool) ⊕ Int)) (by simp only [Tree.run]; exact hloop)]
        rw [numS_none fun n hn e => ?_]
        · rfl
        · rcases nodig n hn e with ⟨_, _, h⟩ | ⟨_, h, _⟩
          · rw [h, dec_digs] at hall; cases hall
          · exact h rfl
      | true =>
        rw [hall, cond_true] at hloop
        rw [run_bnd (a := (.inr (r.foldl accI 0) : (Int × Bool) ⊕ Int)) (by simp only [Tree.run]; exact hloop)]
        have h10 : decide ((1 : Int) = 0) = false := rfl
        show (Tree.ite (decide ((1 : Int) = 0)) _ _).run = _
        rw [run_f h10]
        have hN : N64 (r.foldl accI 0) := by
          rcases List.eq_nil_or_concat r with h | ⟨l, x, h⟩
          · rw [h]; exact ⟨by decide, by decide⟩
          · rw [h, List.concat_eq_append, List.foldl_append]; exact w64_in _
        refine fin _ hN fun n hn e => ?_
        rcases nodig n hn e with ⟨h1, _, h⟩ | ⟨_, h, _⟩
        · rw [h, acc_dec _ (by obtain ⟨a, b⟩ := hn; omega)]; omega
        · exact absurd rfl h
    · have hd : decide (sgetI (c :: r) 0 = 45) = false := by
        rw [eg]
        refine decide_eq_false fun e => hm ?_
        exact UInt8.toNat_inj.1 (by have : ((45 : UInt8).toNat : Int) = 45 := rfl; omega)
      rw [run_f hd]
      have hloop := num_loop (c :: r) 0 (c :: r).length 0 0 (by omega) (by omega)
      rw [List.drop_zero] at hloop
      cases hall : (c :: r).all digB with
      | false =>
        rw [hall, cond_false] at hloop
        rw [run_bnd (a := (.inl (0, false) : (Int × Bool) ⊕ Int)) (by simp only [Tree.run]; exact hloop)]
        rw [numS_none fun n hn e => ?_]
        · rfl
        · rcases nodig n hn e with ⟨_, h, _⟩ | ⟨_, _, h⟩
          · exact hm h
          · rw [h, dec_digs] at hall; cases hall
      | true =>
        rw [hall, cond_true] at hloop
        rw [run_bnd (a := (.inr ((c :: r).foldl accI 0) : (Int × Bool) ⊕ Int)) (by simp only [Tree.run]; exact hloop)]
        have h00 : decide ((0 : Int) = 0) = true := rfl
        show (Tree.ite (decide ((0 : Int) = 0)) _ _).run = _
        rw [run_t h00]
        refine fin _ (w64_in _) fun n hn e => ?_
        rcases nodig n hn e with ⟨_, h, _⟩ | ⟨h1, _, h⟩
        · exact absurd h hm
        · rw [h, acc_dec _ (by obtain ⟨a, b⟩ := hn; omega), w64_id ⟨by obtain ⟨a, b⟩ := hn; omega, by obtain ⟨a, b⟩ := hn; omega⟩]; omega

end Go.Eng

