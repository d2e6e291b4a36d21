/- Laws in plain Lean: g52. -/
import Derived.Test.YthmlpkdgmpbffaaGreatDoorF52
namespace Go.Eng
open Go Go.Proofs Go.RowKit

/-! Kinds. -/
def knames : List Str := [[99, 97, 108, 108], [100, 101, 108, 105, 118, 101, 114], [108, 111, 115, 101], [116, 119, 105, 99, 101], [102, 108, 117, 115, 104], [116, 105, 99, 107], [99, 114, 97, 115, 104], [115, 116, 97, 114, 116], [103, 111, 115, 115, 105, 112], [101, 120, 99, 104, 97, 110, 103, 101], [104, 97, 110, 100], [114, 101, 97, 112], [99, 111, 109, 112, 97, 99, 116], [97, 100, 109, 105, 110]]
def kindW : Str := [107, 105, 110, 100]
def isKnown (k : Int) : Bool := (decide ((1 : Int) ≤ k)) && (decide (k ≤ 14))
def kindS (k : Int) : Str := bif isKnown k then knames.getD (k - 1).toNat [] else kindW ++ decS k
theorem known_cases {k : Int} (h : isKnown k = true) : ∃ j : Fin 14, k = ((j.1 + 1 : Nat) : Int) := by
  unfold isKnown at h
  simp only [Bool.and_eq_true, decide_eq_true_eq] at h
  exact ⟨⟨(k - 1).toNat, by omega⟩, by show k = (((k - 1).toNat + 1 : Nat) : Int); omega⟩
theorem kind_known (j : Fin 14) : kindS ((j.1 + 1 : Nat) : Int) = knames.getD j.1 [] := by
  have key : ∀ j : Fin 14, kindS ((j.1 + 1 : Nat) : Int) = knames.getD j.1 [] := by decide +kernel
  exact key j
theorem nameDec_run (n : Int) : (name_Dec_T n).run = some (decS n) := rfl
theorem kind_run (k : Int) (hk : N64 k) : (text_kind_T k).run = some (kindS k) := by
  cases h : isKnown k with
  | true =>
    obtain ⟨j, rfl⟩ := known_cases h
    have key : ∀ j : Fin 14, (text_kind_T ((j.1 + 1 : Nat) : Int)).runN 5 = some (kindS ((j.1 + 1 : Nat) : Int)) := by decide +kernel
    exact Tree.runN_run (key j)
  | false =>
    have hl := (decS_len hk).1
    unfold text_kind_T kindS
    refine (run_bnd rfl).trans ?_
    refine (run_f h).trans ?_
    refine (run_bnd (nameDec_run k)).trans ?_
    refine (run_ask (decide_eq_true (by show 4 + _ ≤ _; omega))).trans ?_
    rw [h]; rfl
theorem rkind_run (k : Int) (hk : N64 k) : (r52_kind_T k).run = some (kindS k) := by
  cases h : isKnown k with
  | true =>
    obtain ⟨j, rfl⟩ := known_cases h
    have key : ∀ j : Fin 14, (r52_kind_T ((j.1 + 1 : Nat) : Int)).runN 30 = some (kindS ((j.1 + 1 : Nat) : Int)) := by decide +kernel
    exact Tree.runN_run (key j)
  | false =>
    have hl := (decS_len hk).1
    unfold r52_kind_T kindS
    refine (run_f h).trans ?_
    refine (run_bnd (r05Dec_run k hk)).trans ?_
    refine (run_ask (decide_eq_true (by show 4 + _ ≤ _; omega))).trans ?_
    rw [h]; rfl
theorem kindS_sep {b : UInt8} (hb : sepB b) (k : Int) : b ∉ kindS k := by
  cases h : isKnown k with
  | true =>
    obtain ⟨j, rfl⟩ := known_cases h
    have key : ∀ j : Fin 14, 32 ∉ kindS ((j.1 + 1 : Nat) : Int) ∧ 10 ∉ kindS ((j.1 + 1 : Nat) : Int) ∧ 44 ∉ kindS ((j.1 + 1 : Nat) : Int) ∧ 58 ∉ kindS ((j.1 + 1 : Nat) : Int) ∧ 43 ∉ kindS ((j.1 + 1 : Nat) : Int) := by decide +kernel
    obtain ⟨h1, h2, h3, h4, h5⟩ := key j
    rcases hb with rfl | rfl | rfl | rfl | rfl <;> assumption
  | false =>
    unfold kindS
    rw [h, cond_false, List.mem_append, not_or]
    refine ⟨?_, decS_sep hb k⟩
    rcases hb with rfl | rfl | rfl | rfl | rfl <;> decide
theorem kindS_len {k : Int} (hk : N64 k) : (kindS k).length ≤ 24 := by
  cases h : isKnown k with
  | true =>
    obtain ⟨j, rfl⟩ := known_cases h
    have key : ∀ j : Fin 14, (kindS ((j.1 + 1 : Nat) : Int)).length ≤ 24 := by decide +kernel
    exact key j
  | false =>
    have := (decS_len hk).1
    unfold kindS
    rw [h, cond_false, List.length_append]
    show 4 + _ ≤ _; omega
/-- The place of a text in a list. -/
def idxW (v : Str) : List Str → Nat → Int ⊕ Unit
  | [], _ => .inr ()
  | x :: r, i => bif v == x then .inl (i : Int) else idxW v r (i + 1)
theorem index_loop (l : List Str) (v : Str) (hl : l.length ≤ 1000) : ∀ d i : Nat, i + d = l.length → loopF (fun t => (slices_Index_string_L2_step l v (l.length : Int) t).run) (i : Int) = some (idxW v (l.drop i) i) := by
  intro d
  induction d with
  | zero =>
    intro i hi
    obtain rfl : i = l.length := by omega
    rw [loopF_eq, List.drop_length]
    have s0 : (slices_Index_string_L2_step l v (l.length : Int) (l.length : Int)).run = some (.inr (.inr ())) := by
      unfold slices_Index_string_L2_step
      exact run_f (decide_eq_false (by omega))
    rw [s0]; rfl
  | succ d ih =>
    intro i hi
    have hlt : i < l.length := by omega
    rw [loopF_eq, List.drop_eq_getElem_cons hlt]
    unfold idxW
    cases hb : v == l[i] with
    | true =>
      have s0 : (slices_Index_string_L2_step l v (l.length : Int) (i : Int)).run = some (.inr (.inl (i : Int))) := by
        unfold slices_Index_string_L2_step
        rw [Int.toNat_natCast, getD_lt _ _ _ hlt, hb]
        refine (run_t (decide_eq_true (by omega))).trans ?_
        refine (run_ask (xin (by omega) (by omega))).trans ?_
        exact run_t rfl
      rw [s0]; rfl
    | false =>
      have s0 : (slices_Index_string_L2_step l v (l.length : Int) (i : Int)).run = some (.inl ((i + 1 : Nat) : Int)) := by
        unfold slices_Index_string_L2_step
        rw [Int.toNat_natCast, getD_lt _ _ _ hlt, hb, xw64 i (by omega)]
        refine (run_t (decide_eq_true (by omega))).trans ?_
        refine (run_ask (xin (by omega) (by omega))).trans ?_
        exact run_f rfl
      rw [s0]; exact ih (i + 1) (by omega)
theorem idxW_none {v : Str} : ∀ {l : List Str} (i : Nat), (∀ x ∈ l, x ≠ v) → idxW v l i = .inr ()
  | [], _, _ => rfl
  | x :: r, i, h => by
    have : (v == x) = false := by rw [beq_eq_false_iff_ne]; exact fun e => h x List.mem_cons_self e.symm
    unfold idxW
    rw [this]; exact idxW_none (i + 1) fun y hy => h y (List.mem_cons_of_mem _ hy)
theorem idxW_in {v : Str} : ∀ {l : List Str} {i : Nat} {k : Int}, idxW v l i = .inl k → (i : Int) ≤ k ∧ k < (i : Int) + l.length
  | [], _, _, h => by cases h
  | x :: r, i, k, h => by
    unfold idxW at h
    rw [List.length_cons]
    cases hb : v == x with
    | true => rw [hb, cond_true] at h; injection h with h; omega
    | false =>
      rw [hb, cond_false] at h
      have := idxW_in h
      omega
theorem knames_k : ∀ x ∈ knames, ∀ r : Str, x ≠ 107 :: r := by
  intro x hx r e
  have key : ∀ x ∈ knames, x.headD 0 ≠ 107 := by decide +kernel
  have := key x hx
  rw [e] at this; exact this rfl
theorem idx_known (j : Fin 14) : idxW (knames.getD j.1 []) knames 0 = .inl (j.1 : Int) := by
  have key : ∀ j : Fin 14, idxW (knames.getD j.1 []) knames 0 = .inl (j.1 : Int) := by
    intro j
    have : ∀ j : Fin 14, (match idxW (knames.getD j.1 []) knames 0 with | .inl k => some k | .inr _ => none) = some (j.1 : Int) := by decide +kernel
    have := this j
    cases h : idxW (knames.getD j.1 []) knames 0 with
    | inl k => rw [h] at this; injection this with this; rw [this]
    | inr u => rw [h] at this; cases this
  exact key j
/-- The kind of a word, and whether it is none: the program's. -/
def hasK (w : Str) : Bool := (decide ((4 : Int) ≤ (w.length : Int))) && ((subS w 0 4) == kindW)
def kindP (w : Str) : Int × Bool := match idxW w knames 0 with
  | .inl k => (k + 1, false)
  | .inr _ => bif hasK w then ((numS (w.drop 4)).1, !(numS (w.drop 4)).2) else ((numS w).1, true)
/-! The reader of words. -/
def rdW : Text_reader → Str × Text_reader
  | ([], _) => ([], ([], true))
  | (w :: t, b) => (w, (t, b))
def SmW (r : Text_reader) : Prop := ∀ w ∈ r.1, w.length ≤ 100000
theorem rdW_sm {r : Text_reader} (h : SmW r) : (rdW r).1.length ≤ 100000 ∧ SmW (rdW r).2 := by
  match r, h with
  | ([], b), _ => exact ⟨Nat.zero_le _, fun w hw => absurd hw List.not_mem_nil⟩
  | (w :: t, b), h => exact ⟨h w List.mem_cons_self, fun x hx => h x (List.mem_cons_of_mem _ hx)⟩
theorem rword2_run (r : Text_reader) : (text_reader_word_T r).run = some ((rdW r).1, (((rdW r).2, ()), ())) := by
  match r with
  | ([], b) => rfl
  | (w :: t, b) =>
    unfold text_reader_word_T
    refine (run_f (decide_eq_false (by show ¬((t.length + 1 : Nat) : Int) = 0; omega))).trans ?_
    refine (run_ask (xin (by omega) (by show (0 : Int) < ((t.length + 1 : Nat) : Int); omega))).trans ?_
    exact run_ask (xine (by omega) (by show (1 : Int) ≤ ((t.length + 1 : Nat) : Int); omega))
theorem num_run (w : Str) (hw : w.length ≤ 1000000) : (name_Num_T w).run = some ((numS w).1, (numS w).2, ()) := by
  show (numT w).run = _
  exact run_ask (decide_eq_true (by omega))
theorem digs_run (w : Str) (r : Text_reader) (hw : w.length ≤ 1000000) : (text_reader_digits_T w r).run = some ((numS w).1, (((r.1, r.2 || !(numS w).2), ()), ())) := by
  unfold text_reader_digits_T
  exact run_bnd (num_run w hw)
def rdN (r : Text_reader) : Int × Text_reader := ((numS (rdW r).1).1, ((rdW r).2.1, (rdW r).2.2 || !(numS (rdW r).1).2))
theorem number_run (r : Text_reader) (h : SmW r) : (text_reader_number_T r).run = some ((rdN r).1, (((rdN r).2, ()), ())) := by
  have := rdW_sm h
  unfold text_reader_number_T
  refine (run_bnd (rword2_run r)).trans ?_
  exact (run_bnd (digs_run _ _ (by show (rdW r).1.length ≤ _; omega))).trans rfl
def rdTx (r : Text_reader) : Str × Text_reader := ((readW (rdW r).1).1, ((rdW r).2.1, (rdW r).2.2 || !(readW (rdW r).1).2.1))
theorem text1_run (r : Text_reader) (h : SmW r) : (text_reader_text_T r).run = some ((rdTx r).1, (((rdTx r).2, ()), ())) := by
  have := rdW_sm h
  unfold text_reader_text_T
  refine (run_bnd (rword2_run r)).trans ?_
  exact (run_bnd (read_word_run _ (by show (rdW r).1.length ≤ _; omega))).trans rfl
def rdK (r : Text_reader) : Int × Text_reader := ((kindP (rdW r).1).1, ((rdW r).2.1, (rdW r).2.2 || (kindP (rdW r).1).2))
theorem hasP_run (w : Str) : (stringslite_HasPrefix_T w kindW).run = some (hasK w) := by
  unfold stringslite_HasPrefix_T
  refine (run_ask ?_).trans rfl
  by_cases h4 : (4 : Int) ≤ (w.length : Int)
  · rw [xine (by show (0 : Int) ≤ 4; omega) (by show (4 : Int) ≤ _; omega), Bool.or_true]
  · rw [decide_eq_false (by show ¬(4 : Int) ≤ _; omega)]; rfl
theorem cutP_run (w : Str) : (strings_CutPrefix_T w kindW).run = some (bif hasK w then (w.drop 4, true, ()) else (w, false, ())) := by
  unfold strings_CutPrefix_T
  refine (run_bnd (a := bif hasK w then (w.drop 4, true, ()) else (w, false, ())) ?_).trans ?_
  · unfold stringslite_CutPrefix_T
    refine (run_bnd (hasP_run w)).trans ?_
    cases h : hasK w with
    | false => rfl
    | true =>
      have h4 : (4 : Int) ≤ (w.length : Int) := by
        unfold hasK at h
        rw [Bool.and_eq_true, decide_eq_true_eq] at h; exact h.1
      refine (run_f rfl).trans ?_
      refine (run_ask (xine (by show (0 : Int) ≤ 4; omega) (by show (4 : Int) ≤ _; omega))).trans ?_
      show some (subS w 4 w.length, true, ()) = _
      rw [subS_tail]; rfl
  · cases hasK w <;> rfl
theorem kindr_run (r : Text_reader) (h : SmW r) : (text_reader_kind_T r).run = some ((rdK r).1, (((rdK r).2, ()), ())) := by
  have hs := (rdW_sm h).1
  have hl := index_loop knames (rdW r).1 (by show 14 ≤ _; omega) 14 0 rfl
  rw [List.drop_zero] at hl
  have hi : (slices_Index_string_T knames (rdW r).1).run = some (match idxW (rdW r).1 knames 0 with | .inl k => k | .inr _ => -1) := by
    unfold slices_Index_string_T
    refine (run_bnd (xloop hl)).trans ?_
    cases idxW (rdW r).1 knames 0 <;> rfl
  unfold text_reader_kind_T
  refine (run_bnd (rword2_run r)).trans ?_
  refine (run_bnd rfl).trans ?_
  refine (run_ask rfl).trans ?_
  refine (run_bnd hi).trans ?_
  unfold rdK kindP
  cases hx : idxW (rdW r).1 knames 0 with
  | inl k =>
    have hk := idxW_in hx
    have hk2 : k < 14 := by have := hk.2; rw [show knames.length = 14 from rfl] at this; omega
    refine (run_t (decide_eq_true (by show (0 : Int) ≤ k; omega))).trans ?_
    show some (w64 (k + 1), ((((rdW r).2, ()), ()))) = some (k + 1, ((((rdW r).2.1, (rdW r).2.2 || false), ()), ()))
    rw [w64_id ⟨by omega, by omega⟩, Bool.or_false]
  | inr u =>
    refine (run_f rfl).trans ?_
    refine (run_bnd (cutP_run _)).trans ?_
    cases hh : hasK (rdW r).1 with
    | true =>
      refine (run_bnd (digs_run _ _ (by show (List.drop 4 (rdW r).1).length ≤ _; rw [List.length_drop]; omega))).trans ?_
      show some (_, ((((rdW r).2.1, ((rdW r).2.2 || false) || _), ()), ())) = some (_, ((((rdW r).2.1, (rdW r).2.2 || _), ()), ()))
      rw [Bool.or_false]; rfl
    | false =>
      refine (run_bnd (digs_run _ _ (by show (rdW r).1.length ≤ _; omega))).trans ?_
      show some (_, ((((rdW r).2.1, ((rdW r).2.2 || true) || _), ()), ())) = some (_, ((((rdW r).2.1, (rdW r).2.2 || true), ()), ()))
      rw [Bool.or_true, Bool.true_or]; rfl
theorem kindP_of {k : Int} (hk : N64 k) : kindP (kindS k) = (k, false) := by
  cases h : isKnown k with
  | true =>
    obtain ⟨j, rfl⟩ := known_cases h
    unfold kindP
    rw [kind_known, idx_known]
    show ((j.1 : Int) + 1, false) = _
    congr 1
  | false =>
    have e : kindS k = kindW ++ decS k := by unfold kindS; rw [h]; rfl
    unfold kindP
    rw [e, idxW_none (v := kindW ++ decS k) 0 (fun x hx => knames_k x hx _)]
    have hh : hasK (kindW ++ decS k) = true := by
      unfold hasK
      rw [Bool.and_eq_true]
      exact ⟨decide_eq_true (by rw [List.length_append]; show (4 : Int) ≤ ((4 + _ : Nat) : Int); omega), rfl⟩
    show (bif hasK _ then _ else _ : Int × Bool) = _
    rw [hh, cond_true]
    show ((numS (decS k)).1, !(numS (decS k)).2) = _
    rw [numS_dec hk]; rfl
theorem kindP_in (w : Str) : N64 (kindP w).1 := by
  unfold kindP
  cases h : idxW w knames 0 with
  | inl k =>
    have := idxW_in h
    have h2 := this.2
    rw [show knames.length = 14 from rfl] at h2
    exact ⟨by show _ ≤ k + 1; omega, by show k + 1 ≤ _; omega⟩
  | inr u =>
    show N64 (bif hasK w then _ else _ : Int × Bool).1
    cases hasK w with
    | true => exact numS_in _
    | false => exact numS_in _
end Go.Eng

