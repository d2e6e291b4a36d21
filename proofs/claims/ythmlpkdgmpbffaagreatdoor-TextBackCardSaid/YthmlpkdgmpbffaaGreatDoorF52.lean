/- Laws in plain Lean: f52. -/
import Derived.Test.YthmlpkdgmpbffaaGreatDoorE52
import Derived.Test.YthmlpkdgmpbffaaGreatDoorN52
namespace Go.Eng
open Go Go.Proofs Go.RowKit

/-! Parts between bytes; numbers and words have none of the bytes that part a line. -/
theorem splitC_no {c : UInt8} : ∀ {s : Str}, c ∉ s → splitC c s = [s]
  | [], _ => rfl
  | x :: r, h => by
    rw [List.mem_cons, not_or] at h
    rw [splitC_miss (fun e => h.1 e.symm), splitC_no h.2]; rfl
theorem splitC_app {c : UInt8} : ∀ {s r : Str}, c ∉ s → splitC c (s ++ c :: r) = s :: splitC c r
  | [], r, _ => splitC_hit c r
  | x :: s, r, h => by
    rw [List.mem_cons, not_or] at h
    rw [List.cons_append, splitC_miss (fun e => h.1 e.symm), splitC_app h.2]; rfl
theorem cutC_app {c : UInt8} : ∀ {s r : Str}, c ∉ s → cutC c (s ++ c :: r) = (s, r, true)
  | [], r, _ => cutC_hit c r
  | x :: s, r, h => by
    rw [List.mem_cons, not_or] at h
    rw [List.cons_append, cutC_miss (fun e => h.1 e.symm), cutC_app h.2]
theorem splitC_ne (c : UInt8) (s : Str) : splitC c s ≠ [] := by
  cases s with
  | nil => exact List.cons_ne_nil _ _
  | cons x r =>
    by_cases h : x = c
    · subst h; rw [splitC_hit]; exact List.cons_ne_nil _ _
    · rw [splitC_miss h]; exact List.cons_ne_nil _ _
theorem splitC_num (c : UInt8) : ∀ s : Str, (splitC c s).length ≤ s.length + 1
  | [] => Nat.le_refl _
  | x :: r => by
    have ih := splitC_num c r
    by_cases h : x = c
    · subst h; rw [splitC_hit]; simp only [List.length_cons]; omega
    · rw [splitC_miss h]; simp only [List.length_cons, List.length_tail]; omega
/-- Parts with a byte behind each but the last. -/
def tailC (c : UInt8) (l : List Str) : Str := l.flatMap fun y => c :: y
theorem joinS_tail (c : UInt8) (x : Str) (l : List Str) : joinS [c] (x :: l) = x ++ tailC c l := by
  show x ++ (l.map fun y => [c] ++ y).flatten = _
  rw [← List.flatMap_def]; rfl
theorem split_tail {c : UInt8} : ∀ {x : Str} {l : List Str}, c ∉ x → (∀ y ∈ l, c ∉ y) → splitC c (x ++ tailC c l) = x :: l
  | x, [], h, _ => by
    show splitC c (x ++ []) = _
    rw [List.append_nil, splitC_no h]
  | x, y :: l, h, hl => by
    show splitC c (x ++ c :: (y ++ tailC c l)) = _
    rw [splitC_app h, split_tail (hl y List.mem_cons_self) fun z hz => hl z (List.mem_cons_of_mem _ hz)]
theorem split_join {c : UInt8} {x : Str} {l : List Str} (h : c ∉ x) (hl : ∀ y ∈ l, c ∉ y) : splitC c (joinS [c] (x :: l)) = x :: l := by
  rw [joinS_tail]; exact split_tail h hl
theorem tailC_len (c : UInt8) (B : Nat) : ∀ l : List Str, (∀ y ∈ l, y.length ≤ B) → (tailC c l).length ≤ l.length * (B + 1)
  | [], _ => Nat.zero_le _
  | y :: l, h => by
    have ih := tailC_len c B l fun z hz => h z (List.mem_cons_of_mem _ hz)
    have hy := h y List.mem_cons_self
    show (c :: (y ++ tailC c l)).length ≤ _
    rw [List.length_cons, List.length_append, List.length_cons, Nat.add_mul, Nat.one_mul]; omega
/-- Is a byte a digit or a minus? -/
def numB (b : UInt8) : Prop := 48 ≤ b.toNat ∧ b.toNat ≤ 57 ∨ b.toNat = 45
theorem decF_num (k : Nat) : ∀ u : Nat, ∀ b ∈ decF k u, numB b := by
  have h0 : ∀ d, d < 10 → numB (UInt8.ofNat (48 + d)) := fun d hd => by
    have key : ∀ d : Fin 10, 48 ≤ (UInt8.ofNat (48 + d.1)).toNat ∧ (UInt8.ofNat (48 + d.1)).toNat ≤ 57 := by decide
    exact .inl (key ⟨d, hd⟩)
  induction k with
  | zero => intro u b hb; rw [List.mem_singleton.1 hb]; exact h0 _ (Nat.mod_lt _ (by omega))
  | succ k ih =>
    intro u b hb
    unfold decF at hb
    by_cases hu : u < 10
    · rw [decide_eq_true hu, cond_true] at hb; rw [List.mem_singleton.1 hb]; exact h0 _ hu
    · rw [decide_eq_false hu, cond_false, List.mem_append] at hb
      rcases hb with hb | hb
      · exact ih _ b hb
      · rw [List.mem_singleton.1 hb]; exact h0 _ (Nat.mod_lt _ (by omega))
theorem decS_num (n : Int) : ∀ b ∈ decS n, numB b := by
  intro b hb
  unfold decS at hb
  by_cases hn : n < 0
  · rw [decide_eq_true hn, cond_true] at hb
    rcases List.mem_cons.1 hb with rfl | hb
    · exact .inr rfl
    · exact decF_num _ _ b hb
  · rw [decide_eq_false hn, cond_false] at hb
    exact decF_num _ _ b hb
/-- The bytes that part. -/
def sepB (b : UInt8) : Prop := b = 32 ∨ b = 10 ∨ b = 44 ∨ b = 58 ∨ b = 43
theorem num_sep {b : UInt8} (h : sepB b) : ¬ numB b := by
  rcases h with rfl | rfl | rfl | rfl | rfl <;> (unfold numB; decide)
theorem decS_sep {b : UInt8} (h : sepB b) (n : Int) : b ∉ decS n := fun hb => num_sep h (decS_num n b hb)
theorem hexd_sep {b : UInt8} (h : sepB b) (n : Nat) : b ≠ hexd n := by
  have key : ∀ n : Fin 16, hexd n.1 ≠ 32 ∧ hexd n.1 ≠ 10 ∧ hexd n.1 ≠ 44 ∧ hexd n.1 ≠ 58 ∧ hexd n.1 ≠ 43 := by decide
  by_cases hn : n < 16
  · obtain ⟨a, b, c, d, e⟩ := key ⟨n, hn⟩
    rcases h with rfl | rfl | rfl | rfl | rfl
    · exact a.symm
    · exact b.symm
    · exact c.symm
    · exact d.symm
    · exact e.symm
  · have : hexd n = 0 := by
      unfold hexd
      rw [List.getD_eq_getElem?_getD, List.getElem?_eq_none (by show 16 ≤ n; omega)]; rfl
    rw [this]
    rcases h with rfl | rfl | rfl | rfl | rfl <;> decide
theorem encB_sep {b : UInt8} (h : sepB b) (x : UInt8) : b ∉ encB x := by
  unfold encB
  cases hp : plB x with
  | true =>
    have := pl_not hp
    intro hb
    rw [cond_true, List.mem_singleton] at hb
    subst hb
    rcases h with rfl | rfl | rfl | rfl | rfl <;> simp at this
  | false =>
    intro hb
    rw [cond_false] at hb
    simp only [List.mem_cons, List.not_mem_nil, or_false] at hb
    rcases hb with hb | hb | hb
    · subst hb; rcases h with h | h | h | h | h <;> exact absurd h (by decide)
    · exact hexd_sep h _ hb
    · exact hexd_sep h _ hb
theorem wordS_sep {b : UInt8} (h : sepB b) (s : Str) : b ∉ wordS s := by
  unfold wordS
  cases s == ([] : Str) with
  | true => intro hb; rw [cond_true, List.mem_singleton] at hb; subst hb; rcases h with h | h | h | h | h <;> exact absurd h (by decide)
  | false =>
    intro hb
    rw [cond_false] at hb
    obtain ⟨x, _, hx⟩ := List.mem_flatMap.1 hb
    exact encB_sep h x hx
theorem numS_in (s : Str) : N64 (numS s).1 := by
  rcases numS_cases s with ⟨n, h1, _, h3⟩ | ⟨_, h2⟩
  · rw [h3]; exact h1
  · rw [h2]; exact ⟨by decide, by decide⟩

/-! What each side splits. -/
theorem xroomk {α : Type} (l : List α) (k : Nat) (h : l.length ≤ 1000000) (hk : k ≤ 1000) : decide (l.length * k ≤ roomNat) = true := by
  refine decide_eq_true ?_
  have : l.length * k ≤ 1000000 * 1000 := Nat.mul_le_mul h hk
  unfold roomNat; omega
theorem split_run (c : UInt8) (s : Str) (hs : s.length ≤ 1000000) : (strings_Split_T s [c]).run = some (splitC c s) := by
  show (ask (decide (s.length < 4294967281)) (.ret (splitC c s))).run = _
  exact run_ask (decide_eq_true (by omega))
end Go.Eng

