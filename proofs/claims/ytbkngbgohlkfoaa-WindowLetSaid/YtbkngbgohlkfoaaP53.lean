/- Laws in plain Lean: win bucket w53. -/
import Derived.Test.YtbkngbgohlkfoaaM53
namespace Go.Eng
open Go Go.Proofs Go.RowKit

/-! The greatest of some numbers. -/
def maxN (l : List Nat) : Nat := l.foldl max 0
theorem foldl_max_le {l : List Nat} {a b : Nat} : l.foldl max a ≤ b ↔ a ≤ b ∧ ∀ x ∈ l, x ≤ b := by
  induction l generalizing a with
  | nil => simp
  | cons x l ih =>
    simp only [List.foldl_cons, ih, List.mem_cons, forall_eq_or_imp, Nat.max_le, and_assoc]
theorem maxN_le {l : List Nat} {b : Nat} : maxN l ≤ b ↔ ∀ x ∈ l, x ≤ b := by
  unfold maxN; rw [foldl_max_le]; simp
theorem le_maxN {l : List Nat} {x : Nat} (h : x ∈ l) : x ≤ maxN l := maxN_le.1 (Nat.le_refl _) x h

/-! Windows. -/
def btw (w f x : Int) : Bool := decide (x = f) || (decide (f < x) && (decide (0 < w) && decide (x - f ≤ w)))
def cnt (l : List Int) (w f : Int) : Nat := l.countP (btw w f)
def mostL (l : List Int) (w : Int) : Nat := maxN (l.map (cnt l w))
def pushL (far : Int) : List Int → List (Int × Nat)
  | [] => []
  | a :: l => (a, (a :: l).countP fun x => decide (x - a ≤ far)) :: pushL far l
theorem btw_iff (w f x : Int) : btw w f x = true ↔ x = f ∨ (f < x ∧ 0 < w ∧ x - f ≤ w) := by
  unfold btw; simp
theorem btw_ge {w f x : Int} (h : f ≤ x) : btw w f x = decide (x - f ≤ max w 0) := by
  rw [Bool.eq_iff_iff, btw_iff, decide_eq_true_eq]
  omega
theorem cnt_perm {l m : List Int} (h : l.Perm m) (w f : Int) : cnt l w f = cnt m w f := h.countP_eq _
theorem mostL_perm {l m : List Int} (h : l.Perm m) (w : Int) : mostL l w = mostL m w := by
  unfold mostL
  apply Nat.le_antisymm <;> rw [maxN_le] <;> intro x hx <;> obtain ⟨y, hy, rfl⟩ := List.mem_map.1 hx
  · rw [cnt_perm h]; exact le_maxN (List.mem_map.2 ⟨y, h.mem_iff.1 hy, rfl⟩)
  · rw [← cnt_perm h]; exact le_maxN (List.mem_map.2 ⟨y, h.mem_iff.2 hy, rfl⟩)

theorem push_head {a : Int} {l : List Int} (h : ∀ x ∈ l, a ≤ x) (w : Int) : (a :: l).countP (fun x => decide (x - a ≤ max w 0)) = cnt (a :: l) w a := by
  unfold cnt
  refine List.countP_congr fun x hx => ?_
  rw [btw_ge]
  rcases List.mem_cons.1 hx with rfl | hx
  · exact Int.le_refl _
  · exact h x hx
theorem push_le {s : List Int} (hs : s.Pairwise (· ≤ ·)) (w : Int) : ∀ p ∈ pushL (max w 0) s, p.1 ∈ s ∧ p.2 ≤ cnt s w p.1 := by
  induction s with
  | nil => intro p hp; exact absurd hp List.not_mem_nil
  | cons a l ih =>
    obtain ⟨h1, h2⟩ := List.pairwise_cons.1 hs
    intro p hp
    rcases List.mem_cons.1 hp with rfl | hp
    · exact ⟨List.mem_cons_self, Nat.le_of_eq (push_head h1 w)⟩
    · obtain ⟨k1, k2⟩ := ih h2 p hp
      refine ⟨List.mem_cons_of_mem _ k1, Nat.le_trans k2 ?_⟩
      unfold cnt; rw [List.countP_cons]; omega
theorem push_at {s : List Int} (hs : s.Pairwise (· ≤ ·)) (w : Int) {x : Int} (hx : x ∈ s) : ∃ pre post, pushL (max w 0) s = pre ++ (x, cnt s w x) :: post ∧ ∀ p ∈ pre, p.1 < x := by
  induction s with
  | nil => exact absurd hx List.not_mem_nil
  | cons a l ih =>
    obtain ⟨h1, h2⟩ := List.pairwise_cons.1 hs
    by_cases e : x = a
    · subst e
      exact ⟨[], pushL (max w 0) l, by simp only [pushL, push_head h1 w, List.nil_append], fun p hp => absurd hp List.not_mem_nil⟩
    · have hl : x ∈ l := by simpa [e] using hx
      obtain ⟨pre, post, k1, k2⟩ := ih h2 hl
      have hlt : a < x := by have := h1 x hl; omega
      refine ⟨(a, (a :: l).countP fun x => decide (x - a ≤ max w 0)) :: pre, post, ?_, fun p hp => ?_⟩
      · have : cnt (a :: l) w x = cnt l w x := by
          unfold cnt
          rw [List.countP_cons_of_neg]
          rw [btw_iff]; omega
        rw [this, pushL, k1]; rfl
      · rcases List.mem_cons.1 hp with rfl | hp
        · exact hlt
        · exact k2 p hp
theorem push_most {s : List Int} (hs : s.Pairwise (· ≤ ·)) (w : Int) : maxN ((pushL (max w 0) s).map (·.2)) = mostL s w := by
  unfold mostL
  apply Nat.le_antisymm <;> rw [maxN_le] <;> intro n hn
  · obtain ⟨p, hp, rfl⟩ := List.mem_map.1 hn
    obtain ⟨k1, k2⟩ := push_le hs w p hp
    exact Nat.le_trans k2 (le_maxN (List.mem_map.2 ⟨_, k1, rfl⟩))
  · obtain ⟨x, hx, rfl⟩ := List.mem_map.1 hn
    obtain ⟨pre, post, k1, _⟩ := push_at hs w hx
    exact le_maxN (List.mem_map.2 ⟨(x, cnt s w x), by rw [k1]; simp, rfl⟩)

/-! Where the window begins that has the most. -/
def best (a p : Int × Nat) : Int × Nat := if a.2 < p.2 then p else a
theorem best_fold (L : List (Int × Nat)) (a : Int × Nat) : (L.foldl best a).2 = max a.2 (maxN (L.map (·.2))) ∧ (L.foldl best a = a ∨ ∃ pre post, L = pre ++ L.foldl best a :: post ∧ (∀ p ∈ pre, p.2 < (L.foldl best a).2) ∧ a.2 < (L.foldl best a).2) := by
  induction L generalizing a with
  | nil => exact ⟨by simp [maxN], .inl rfl⟩
  | cons p L ih =>
    obtain ⟨h1, h2⟩ := ih (best a p)
    have hm : maxN (((p :: L).map (·.2))) = max p.2 (maxN (L.map (·.2))) := by
      apply Nat.le_antisymm
      · rw [maxN_le]; intro x hx
        rcases List.mem_cons.1 hx with rfl | hx
        · exact Nat.le_max_left _ _
        · have := le_maxN hx; omega
      · have h3 : p.2 ≤ maxN (((p :: L).map (·.2))) := le_maxN (by simp)
        have h4 : maxN (L.map (·.2)) ≤ maxN (((p :: L).map (·.2))) := by
          rw [maxN_le]; intro x hx; exact le_maxN (by simp only [List.map_cons, List.mem_cons]; exact .inr hx)
        omega
    rw [List.foldl_cons, hm]
    by_cases hlt : a.2 < p.2
    · have e : best a p = p := by unfold best; rw [if_pos hlt]
      rw [e] at h1 h2 ⊢
      refine ⟨by rw [h1]; omega, .inr ?_⟩
      rcases h2 with h2 | ⟨pre, post, k1, k2, k3⟩
      · rw [h2]; exact ⟨[], L, rfl, fun _ h => absurd h List.not_mem_nil, hlt⟩
      · refine ⟨p :: pre, post, by rw [List.cons_append, ← k1], fun q hq => ?_, by omega⟩
        rcases List.mem_cons.1 hq with rfl | hq
        · exact k3
        · exact k2 q hq
    · have e : best a p = a := by unfold best; rw [if_neg hlt]
      rw [e] at h1 h2 ⊢
      refine ⟨by rw [h1]; omega, ?_⟩
      rcases h2 with h2 | ⟨pre, post, k1, k2, k3⟩
      · exact .inl h2
      · refine .inr ⟨p :: pre, post, by rw [List.cons_append, ← k1], fun q hq => ?_, k3⟩
        rcases List.mem_cons.1 hq with rfl | hq
        · omega
        · exact k2 q hq
def bestR (q : Int → Bool) (a : Int × Bool) (x : Int) : Int × Bool := if (q x && (!a.2 || decide (x < a.1))) = true then (x, true) else a
theorem bestR_fold (q : Int → Bool) (l : List Int) (a : Int × Bool) (ha : a.2 = false → a.1 = 0) : (l.foldl (bestR q) a).2 = (a.2 || l.any q) ∧ ((l.foldl (bestR q) a).2 = false → (l.foldl (bestR q) a).1 = 0) ∧ (l.foldl (bestR q) a = a ∨ ((l.foldl (bestR q) a).1 ∈ l ∧ q (l.foldl (bestR q) a).1 = true)) ∧ (∀ x ∈ l, q x = true → (l.foldl (bestR q) a).1 ≤ x) ∧ (a.2 = true → (l.foldl (bestR q) a).1 ≤ a.1) := by
  induction l generalizing a with
  | nil => exact ⟨by simp, ha, .inl rfl, fun x hx => absurd hx List.not_mem_nil, fun _ => Int.le_refl _⟩
  | cons y l ih =>
    rw [List.foldl_cons]
    by_cases hy : (q y && (!a.2 || decide (y < a.1))) = true
    · have e : bestR q a y = (y, true) := by unfold bestR; rw [if_pos hy]
      rw [e]
      obtain ⟨h1, h2, h3, h4, h5⟩ := ih (y, true) (fun h => by cases h)
      simp only [Bool.and_eq_true, Bool.or_eq_true, Bool.not_eq_true', decide_eq_true_eq] at hy
      refine ⟨by rw [h1]; simp [hy.1], h2, .inr ?_, fun x hx hq => ?_, fun ht => ?_⟩
      · rcases h3 with h3 | ⟨h3, h3'⟩
        · rw [h3]; exact ⟨List.mem_cons_self, hy.1⟩
        · exact ⟨List.mem_cons_of_mem _ h3, h3'⟩
      · rcases List.mem_cons.1 hx with rfl | hx
        · exact h5 rfl
        · exact h4 x hx hq
      · have := h5 rfl
        rcases hy.2 with hy | hy
        · rw [ht] at hy; cases hy
        · simp only at this; omega
    · have e : bestR q a y = a := by unfold bestR; rw [if_neg hy]
      rw [e]
      obtain ⟨h1, h2, h3, h4, h5⟩ := ih a ha
      have hy' : q y = true → a.2 = true ∧ a.1 ≤ y := fun h => by
        simp only [h, Bool.true_and, Bool.or_eq_true, Bool.not_eq_true', decide_eq_true_eq, not_or, Bool.not_eq_false] at hy
        exact ⟨hy.1, by omega⟩
      refine ⟨?_, h2, ?_, fun x hx hq => ?_, h5⟩
      · rw [h1, List.any_cons]
        cases hq : q y with
        | false => rfl
        | true => rw [(hy' hq).1]; rfl
      · rcases h3 with h3 | ⟨h3, h3'⟩
        · exact .inl h3
        · exact .inr ⟨List.mem_cons_of_mem _ h3, h3'⟩
      · rcases List.mem_cons.1 hx with rfl | hx
        · have := hy' hq; have := h5 this.1; omega
        · exact h4 x hx hq
theorem cnt_self {l : List Int} {x : Int} (h : x ∈ l) (w : Int) : 1 ≤ cnt l w x := by
  unfold cnt
  exact List.countP_pos_iff.2 ⟨x, h, by rw [btw_iff]; exact .inl rfl⟩
def worstL (l : List Int) (w : Int) : Int × Bool := l.foldl (bestR fun x => decide (cnt l w x = mostL l w)) (0, false)
theorem worst_eq {s l : List Int} (hs : s.Pairwise (· ≤ ·)) (hp : s.Perm l) (w : Int) : ((pushL (max w 0) s).foldl best (0, 0)).1 = (worstL l w).1 ∧ decide (0 < ((pushL (max w 0) s).foldl best (0, 0)).2) = (worstL l w).2 := by
  unfold worstL
  obtain ⟨r1, r2, r3, r4, _⟩ := bestR_fold (fun x => decide (cnt l w x = mostL l w)) l (0, false) (fun _ => rfl)
  obtain ⟨b1, b2⟩ := best_fold (pushL (max w 0) s) (0, 0)
  rw [push_most hs w, mostL_perm hp w] at b1
  generalize hr : l.foldl (bestR fun x => decide (cnt l w x = mostL l w)) (0, false) = r at *
  generalize hb : (pushL (max w 0) s).foldl best (0, 0) = b at *
  simp only [Bool.false_or] at r1
  by_cases hne : l = []
  · subst hne
    have : s = [] := List.perm_nil.1 hp
    subst this
    have e1 : b = (0, 0) := by rw [← hb]; rfl
    have e2 : r = (0, false) := by rw [← hr]; rfl
    rw [e1, e2]; exact ⟨rfl, rfl⟩
  · have hM : 1 ≤ mostL l w := by
      cases l with
      | nil => exact absurd rfl hne
      | cons x t => exact Nat.le_trans (cnt_self List.mem_cons_self w) (le_maxN (List.mem_map.2 ⟨x, List.mem_cons_self, rfl⟩))
    have b1 : b.2 = mostL l w := by rw [b1]; omega
    rcases b2 with b2 | ⟨pre, post, k1, k2, _⟩
    · rw [b2] at b1; simp only at b1; omega
    have hbm : b ∈ pushL (max w 0) s := by rw [k1]; simp
    obtain ⟨m1, m2⟩ := push_le hs w b hbm
    have m1 : b.1 ∈ l := hp.mem_iff.1 m1
    have hq : decide (cnt l w b.1 = mostL l w) = true := by
      rw [decide_eq_true_eq]
      rw [cnt_perm hp] at m2
      have : cnt l w b.1 ≤ mostL l w := le_maxN (List.mem_map.2 ⟨_, m1, rfl⟩)
      omega
    have r1 : r.2 = true := by rw [r1]; exact List.any_eq_true.2 ⟨_, m1, hq⟩
    refine ⟨?_, by rw [r1, b1, decide_eq_true_eq]; exact hM⟩
    have hle := r4 _ m1 hq
    rcases r3 with r3 | ⟨r3, r3'⟩
    · rw [r3] at r1; cases r1
    have r3' : cnt l w r.1 = mostL l w := of_decide_eq_true r3'
    obtain ⟨pre', post', j1, j2⟩ := push_at hs w (hp.mem_iff.2 r3)
    rw [cnt_perm hp, r3'] at j1
    have hj := k1.symm.trans j1
    rcases Nat.lt_trichotomy pre.length pre'.length with h | h | h
    · have : b ∈ pre' := by
        have h1 : (pre ++ b :: post)[pre.length]? = some b := by simp
        rw [hj, List.getElem?_append_left h] at h1
        exact List.mem_of_getElem? h1
      have := j2 b this
      omega
    · obtain ⟨_, h2⟩ := List.append_inj hj h
      injection h2 with h2 _
      rw [h2]
    · have : (r.1, mostL l w) ∈ pre := by
        have h1 : (pre' ++ (r.1, mostL l w) :: post')[pre'.length]? = some (r.1, mostL l w) := by simp
        rw [← hj, List.getElem?_append_left h] at h1
        exact List.mem_of_getElem? h1
      have := k2 _ this
      simp only at this; omega

/-! A wider window. -/
theorem cnt_mono (l : List Int) {a b : Int} (h : a ≤ b) (x : Int) : cnt l a x ≤ cnt l b x := by
  unfold cnt
  refine List.countP_mono_left fun y _ hy => ?_
  rw [btw_iff] at hy ⊢; omega
theorem mostL_mono (l : List Int) {a b : Int} (h : a ≤ b) : mostL l a ≤ mostL l b := by
  unfold mostL
  rw [maxN_le]; intro n hn
  obtain ⟨x, hx, rfl⟩ := List.mem_map.1 hn
  exact Nat.le_trans (cnt_mono l h x) (le_maxN (List.mem_map.2 ⟨x, hx, rfl⟩))
theorem mostL_one {l : List Int} (h : l ≠ []) (w : Int) : 1 ≤ mostL l w := by
  cases l with
  | nil => exact absurd rfl h
  | cons x t => exact Nat.le_trans (cnt_self List.mem_cons_self w) (le_maxN (List.mem_map.2 ⟨x, List.mem_cons_self, rfl⟩))
theorem mostL_all {l : List Int} {w : Int} (hw : ∀ x ∈ l, 0 ≤ x ∧ x ≤ w) : mostL l w = l.length := by
  apply Nat.le_antisymm
  · unfold mostL; rw [maxN_le]; intro n hn
    obtain ⟨x, _, rfl⟩ := List.mem_map.1 hn
    exact List.countP_le_length
  · have key : ∀ (s : List Int), s ≠ [] → ∃ m ∈ s, ∀ x ∈ s, m ≤ x := by
      intro s
      induction s with
      | nil => intro h; exact absurd rfl h
      | cons a t ih =>
        intro _
        by_cases ht : t = []
        · subst ht; exact ⟨a, by simp, fun x hx => by simp at hx; omega⟩
        · obtain ⟨m, hm, hx⟩ := ih ht
          by_cases h : a ≤ m
          · refine ⟨a, by simp, fun x h' => ?_⟩
            rcases List.mem_cons.1 h' with rfl | h'
            · exact Int.le_refl _
            · have := hx x h'; omega
          · refine ⟨m, by simp [hm], fun x h' => ?_⟩
            rcases List.mem_cons.1 h' with rfl | h'
            · omega
            · exact hx x h'
    by_cases hl : l = []
    · subst hl; simp
    · obtain ⟨m, hm, hx⟩ := key l hl
      refine Nat.le_trans (Nat.le_of_eq ?_) (le_maxN (List.mem_map.2 ⟨m, hm, rfl⟩))
      unfold cnt
      symm
      rw [List.countP_eq_length]
      intro x h
      rw [btw_iff]
      have h1 := hx x h; have h2 := hw x h; have h3 := hw m hm; omega

/-! Within a rate. -/
theorem idx_countP {p : Int → Bool} (hd : ∀ x y, x ≤ y → p y = true → p x = true) {s : List Int} (hs : s.Pairwise (· ≤ ·)) (i : Nat) (hi : i < s.length) : p s[i] = true ↔ i < s.countP p := by
  induction s generalizing i with
  | nil => exact absurd hi (Nat.not_lt_zero _)
  | cons a l ih =>
    obtain ⟨h1, h2⟩ := List.pairwise_cons.1 hs
    cases ha : p a with
    | true =>
      rw [List.countP_cons_of_pos ha]
      cases i with
      | zero => simp [ha]
      | succ i => rw [List.getElem_cons_succ, ih h2 i (by simpa using hi)]; omega
    | false =>
      have h0 : l.countP p = 0 := by
        rw [List.countP_eq_zero]
        intro x hx hpx
        rw [hd a x (h1 x hx) hpx] at ha; cases ha
      rw [List.countP_cons_of_neg (by simp [ha]), h0]
      simp only [Nat.not_lt_zero, iff_false]
      intro hpi
      have : a ≤ (a :: l)[i] := by
        cases i with
        | zero => exact Int.le_refl _
        | succ i => exact h1 _ (List.getElem_mem _)
      rw [hd a _ this hpi] at ha; cases ha
theorem count_split (l : List Int) {a b : Int} (h : a ≤ b) : l.countP (fun x => decide (a ≤ x) && decide (x ≤ b)) + l.countP (fun x => decide (x < a)) = l.countP fun x => decide (x ≤ b) := by
  induction l with
  | nil => rfl
  | cons x l ih =>
    simp only [List.countP_cons]
    by_cases h1 : a ≤ x <;> by_cases h2 : x ≤ b
    · have : ¬ x < a := by omega
      simp [h1, h2, this]; omega
    · have : ¬ x < a := by omega
      simp [h1, h2, this]; omega
    · have : x < a := by omega
      simp [h1, h2, this]; omega
    · omega
theorem sorted_le {s : List Int} (hs : s.Pairwise (· ≤ ·)) {i k : Nat} (h : i ≤ k) (hk : k < s.length) : s[i] ≤ s[k] := by
  rcases Nat.lt_or_eq_of_le h with h | h
  · exact List.pairwise_iff_getElem.1 hs i k (by omega) hk h
  · subst h; exact Int.le_refl _
theorem within_eq {s l : List Int} (hs : s.Pairwise (· ≤ ·)) (hp : s.Perm l) (M : Int → Int → Int) :
    (∀ i k (h : i ≤ k) (hk : k < s.length), ((k - i + 1 : Nat) : Int) ≤ M s[i] s[k]) ↔ (∀ a ∈ l, ∀ b ∈ l, a ≤ b → ((l.countP (fun x => decide (a ≤ x) && decide (x ≤ b)) : Nat) : Int) ≤ M a b) := by
  have d1 : ∀ a x y : Int, x ≤ y → decide (y < a) = true → decide (x < a) = true := fun a x y h k => by
    rw [decide_eq_true_eq] at *; omega
  have d2 : ∀ b x y : Int, x ≤ y → decide (y ≤ b) = true → decide (x ≤ b) = true := fun a x y h k => by
    rw [decide_eq_true_eq] at *; omega
  constructor
  · intro h a ha b hb hab
    obtain ⟨ja, hja, ea⟩ := List.mem_iff_getElem.1 (hp.mem_iff.2 ha)
    obtain ⟨jb, hjb, eb⟩ := List.mem_iff_getElem.1 (hp.mem_iff.2 hb)
    rw [← hp.countP_eq]
    have hc := count_split s hab
    generalize hi : s.countP (fun x => decide (x < a)) = i at *
    generalize hk : s.countP (fun x => decide (x ≤ b)) = k at *
    have h1 : ¬ ja < i := by
      rw [← hi, ← idx_countP (d1 a) hs ja hja, ea]; simp
    have h2 : jb < k := by rw [← hk, ← idx_countP (d2 b) hs jb hjb, eb]; simp
    have h3 : ja < k := by rw [← hk, ← idx_countP (d2 b) hs ja hja, ea]; simpa using hab
    have hkl : k ≤ s.length := by rw [← hk]; exact List.countP_le_length
    have e1 : s[i]'(by omega) = a := by
      have q1 : ¬ decide (s[i]'(by omega) < a) = true := by rw [idx_countP (d1 a) hs i (by omega), hi]; omega
      rw [decide_eq_true_eq] at q1
      have q2 := sorted_le hs (i := i) (k := ja) (by omega) hja
      omega
    have e2 : s[k - 1]'(by omega) = b := by
      have q1 : decide (s[k - 1]'(by omega) ≤ b) = true := by rw [idx_countP (d2 b) hs (k - 1) (by omega), hk]; omega
      rw [decide_eq_true_eq] at q1
      have q2 := sorted_le hs (i := jb) (k := k - 1) (by omega) (by omega)
      omega
    have := h i (k - 1) (by omega) (by omega)
    rw [e1, e2] at this
    omega
  · intro h i k hik hk
    have hab := sorted_le hs hik hk
    have := h s[i] (hp.mem_iff.1 (List.getElem_mem _)) s[k] (hp.mem_iff.1 (List.getElem_mem _)) hab
    rw [← hp.countP_eq] at this
    have hc := count_split s hab
    have h1 : ¬ i < s.countP (fun x => decide (x < s[i])) := by
      rw [← idx_countP (d1 _) hs i (by omega)]; simp
    have h2 : k < s.countP (fun x => decide (x ≤ s[k])) := by
      rw [← idx_countP (d2 _) hs k hk]; simp
    omega

/-! A bucket: what is let is within its rate. -/
def MR : Int := 1048576
def MT : Int := 1099511627776
def inR (n m : Int) : Int := max 0 (min n m)
def mostY (r b f t : Int) : Int := inR b MR + max 0 (inR t MT - inR f MT) * inR r MR
/-- The bucket after a try at a time: what is left, and whether it was let. -/
def takeB (r b left at' now : Int) : Int × Bool :=
  if min (left + (now - at') * r) b = 0 then (0, false) else (min (left + (now - at') * r) b - 1, true)
/-- What stands of a bucket, and of the times of those that were let. -/
def BOk (r b left at' : Int) (l : List Int) : Prop :=
  0 ≤ left ∧ left ≤ b ∧ (∀ x ∈ l, 0 ≤ x ∧ x ≤ at') ∧ l.Pairwise (· ≤ ·) ∧
  (∀ i (h : i < l.length), ((l.length - i : Nat) : Int) + left ≤ b + (at' - l[i]) * r) ∧
  (∀ i k (h : i ≤ k) (hk : k < l.length), ((k - i + 1 : Nat) : Int) ≤ b + (l[k] - l[i]) * r)
theorem BOk.step {r b left at' now : Int} {l : List Int} (h : BOk r b left at' l) (hr : 0 ≤ r) (hat : 0 ≤ at') (hn : at' ≤ now) :
    BOk r b (takeB r b left at' now).1 now (if (takeB r b left at' now).2 = true then l ++ [now] else l) := by
  obtain ⟨h1, h2, h3, h4, h5, h6⟩ := h
  have hm : 0 ≤ (now - at') * r := Int.mul_nonneg (by omega) hr
  have hsp : ∀ x : Int, (now - x) * r = (at' - x) * r + (now - at') * r := fun x => by
    rw [← Int.add_mul]; congr 1; omega
  unfold takeB
  generalize (now - at') * r = q at *
  by_cases hz : min (left + q) b = 0
  · rw [if_pos hz]
    simp only [Bool.false_eq_true, if_false]
    refine ⟨Int.le_refl _, by omega, fun x hx => ?_, h4, fun i hi => ?_, h6⟩
    · have := h3 x hx; omega
    · have := h5 i hi; rw [hsp]; omega
  · rw [if_neg hz]
    simp only [if_true]
    refine ⟨by omega, by omega, fun x hx => ?_, ?_, fun i hi => ?_, fun i k hik hk => ?_⟩
    · rcases List.mem_append.1 hx with hx | hx
      · have := h3 x hx; omega
      · simp at hx; omega
    · rw [List.pairwise_append]
      refine ⟨h4, List.pairwise_singleton _ _, fun x hx y hy => ?_⟩
      have := h3 x hx
      simp at hy; omega
    · rw [List.length_append] at hi ⊢
      simp only [List.length_singleton] at hi ⊢
      by_cases e : i < l.length
      · rw [List.getElem_append_left e]
        have := h5 i e; rw [hsp]; omega
      · have : i = l.length := by omega
        subst this
        rw [List.getElem_append_right (Nat.le_refl _)]
        simp only [Nat.sub_self, List.getElem_singleton, Int.sub_self, Int.zero_mul]
        omega
    · rw [List.length_append] at hk
      simp only [List.length_singleton] at hk
      by_cases e : k < l.length
      · rw [List.getElem_append_left e, List.getElem_append_left (by omega)]
        exact h6 i k hik e
      · have : k = l.length := by omega
        subst this
        rw [List.getElem_append_right (Nat.le_refl _)]
        simp only [Nat.sub_self, List.getElem_singleton]
        by_cases e' : i < l.length
        · rw [List.getElem_append_left e']
          have := h5 i e'; rw [hsp]; omega
        · have : i = l.length := by omega
          subst this
          rw [List.getElem_append_right (Nat.le_refl _)]
          simp only [Nat.sub_self, List.getElem_singleton, Int.sub_self, Int.zero_mul]
          omega

def I64 (x : Int) : Prop := -9223372036854775808 ≤ x ∧ x ≤ 9223372036854775807
theorem i64_of {x : Int} (h : okE (.int .i64) x) : I64 x := by
  have h := (wf_iff .i64 x).1 h
  simp [IntKind.min, IntKind.max, IntKind.signed, IntKind.bits] at h
  exact h
theorem u8_of {x : Int} (h : okE (.int .u8) x) : 0 ≤ x ∧ x ≤ 255 := by
  have h := (wf_iff .u8 x).1 h
  simp [IntKind.min, IntKind.max, IntKind.signed, IntKind.bits] at h
  exact h
theorem wrapU (x : Int) : IntKind.wrap .u64 x = x % 18446744073709551616 := by simp [IntKind.wrap, IntKind.bits, IntKind.signed]
theorem u64sub {x f : Int} (hx : I64 x) (hf : I64 f) (h : f ≤ x) : IntKind.wrap .u64 (IntKind.wrap .u64 x - IntKind.wrap .u64 f) = x - f := by
  rw [wrapU, wrapU, wrapU]; unfold I64 at *; omega
theorem wrapU_max {w : Int} (hw : I64 w) : IntKind.wrap .u64 (std.imax w 0) = max w 0 := by
  rw [wrapU]; unfold I64 at hw
  show (if (0 : Int) > w then 0 else w) % _ = _
  split <;> omega
theorem imax_eq (a b : Int) : std.imax a b = max a b := by
  show (if b > a then b else a) = _
  split <;> omega
theorem imin_eq (a b : Int) : std.imin a b = min a b := by
  show (if b < a then b else a) = _
  split <;> omega
theorem w64_in {x : Int} (h0 : -9223372036854775808 ≤ x) (h1 : x ≤ 9223372036854775807) : w64 x = x := by
  show IntKind.i64.wrap _ = _
  rw [IntKind.wrap_i64]; omega
theorem sortI_sorted (l : List Int) : (sortI l).Pairwise (· ≤ ·) := by
  have := isortB_sorted (le := leI) (fun a b c h k => by unfold leI at *; simp only [decide_eq_true_eq] at *; omega) (fun a b h => by unfold leI at *; simp only [decide_eq_true_eq, decide_eq_false_iff_not] at *; omega) l
  exact this.imp fun {a b} h => of_decide_eq_true h
theorem sortI_perm (l : List Int) : (sortI l).Perm l := isortB_perm _ l
theorem sortI_len (l : List Int) : (sortI l).length = l.length := (sortI_perm l).length_eq
theorem sorted_run (l : List Int) (hl : l.length ≤ 1000000) : (window_sorted_T l).run = some (sortI l) := by
  unfold window_sorted_T slices_Sort_int_T
  have h : decide (l.length < 4611686018427387904) = true := by rw [decide_eq_true_eq]; omega
  simp only [Tree.run, slices_Clone_int_run l hl, Option.bind_some, h, cond_true]

/-! The windows of a sorted list. -/
def farP (s : List Int) (far : Int) (k : Nat) : Int → Bool := fun x => decide (x - s.getD k 0 ≤ far)
theorem farP_down (s : List Int) (far : Int) (k : Nat) : ∀ x y, x ≤ y → farP s far k y = true → farP s far k x = true := fun x y h hy => by
  unfold farP at *; simp only [decide_eq_true_eq] at *; omega
def cP (s : List Int) (far : Int) (k : Nat) : Nat := s.countP (farP s far k)
theorem cP_iff {s : List Int} (hs : s.Pairwise (· ≤ ·)) (far : Int) (k j : Nat) (hj : j < s.length) : farP s far k s[j] = true ↔ j < cP s far k := idx_countP (farP_down s far k) hs j hj
theorem cP_ge {s : List Int} (hs : s.Pairwise (· ≤ ·)) {far : Int} (hf : 0 ≤ far) {k : Nat} (hk : k < s.length) : k < cP s far k := by
  rw [← cP_iff hs far k k hk]
  unfold farP; rw [getD_lt _ _ _ hk, decide_eq_true_eq]; omega
theorem cP_mono {s : List Int} (hs : s.Pairwise (· ≤ ·)) (far : Int) {k : Nat} (hk : k + 1 < s.length) : cP s far k ≤ cP s far (k + 1) := by
  unfold cP
  refine List.countP_mono_left fun x _ hx => ?_
  have := sorted_le hs (i := k) (k := k + 1) (by omega) hk
  unfold farP at *
  rw [getD_lt _ _ _ (by omega)] at hx
  rw [getD_lt _ _ _ hk]
  simp only [decide_eq_true_eq] at *; omega
theorem push_get (far : Int) (s : List Int) (k : Nat) (hk : k < s.length) : (pushL far s)[k]? = some (s[k], (s.drop k).countP fun x => decide (x - s[k] ≤ far)) := by
  induction s generalizing k with
  | nil => exact absurd hk (Nat.not_lt_zero _)
  | cons a l ih =>
    cases k with
    | zero => rfl
    | succ k =>
      simp only [List.length_cons] at hk
      simp only [pushL, List.getElem?_cons_succ, List.drop_succ_cons, List.getElem_cons_succ]
      exact ih k (by omega)
theorem push_len (far : Int) (s : List Int) : (pushL far s).length = s.length := by
  induction s with
  | nil => rfl
  | cons a l ih => simp [pushL, ih]
theorem push_cP {s : List Int} (hs : s.Pairwise (· ≤ ·)) {far : Int} (hf : 0 ≤ far) (k : Nat) (hk : k < s.length) : (pushL far s)[k]? = some (s[k], cP s far k - k) := by
  rw [push_get far s k hk]
  congr 2
  unfold cP
  have e : s.countP (farP s far k) = (s.take k).countP (farP s far k) + (s.drop k).countP (farP s far k) := by
    rw [← List.countP_append, List.take_append_drop]
  have h1 : (s.take k).countP (farP s far k) = k := by
    have : (s.take k).countP (farP s far k) = (s.take k).length := by
      rw [List.countP_eq_length]
      intro x hx
      obtain ⟨j, hj, rfl⟩ := List.mem_iff_getElem.1 hx
      rw [List.length_take] at hj
      rw [List.getElem_take]
      have := sorted_le hs (i := j) (k := k) (by omega) hk
      unfold farP; rw [getD_lt _ _ _ hk, decide_eq_true_eq]; omega
    rw [this, List.length_take]; omega
  rw [e, h1, Nat.add_sub_cancel_left]
  unfold farP
  rw [getD_lt _ _ _ hk]

/-- Where the window ends that begins with one. -/
theorem inner_run {s : List Int} (hs : s.Pairwise (· ≤ ·)) (hi : ∀ x ∈ s, I64 x) (hn : s.length ≤ 1000000) {far : Int} (hf : 0 ≤ far) {k : Nat} (hk : k < s.length) {e : Nat} (he : k ≤ e) (hec : e ≤ cP s far k) (st : Int → Tree (Int ⊕ Int))
    (h : ∀ v : Int, st v = (ask ((!(decide (v < (s.length : Int)))) || inb v s.length) <|
      .ite ((decide (v < (s.length : Int))) && (decide ((IntKind.wrap .u64 ((IntKind.wrap .u64 ((s.getD v.toNat (0 : Int)))) - (IntKind.wrap .u64 ((s.getD (k : Int).toNat (0 : Int)))))) ≤ far))) (.ret (.inl (w64 (v + 1)))) (.ret (.inr v)))) :
    loopF (fun v => (st v).run) (e : Int) = some ((cP s far k : Nat) : Int) := by
  have hle : cP s far k ≤ s.length := List.countP_le_length
  refine loopF_run (S := fun i => ((e + i : Nat) : Int)) (n := cP s far k - e) (fun i hi' => ?_) ?_ rfl
  · have h1 : e + i < s.length := by omega
    have hp := (cP_iff hs far k (e + i) h1).2 (by omega)
    have hsl := sorted_le hs (i := k) (k := e + i) (by omega) h1
    rw [h]
    simp only [Tree.run, Int.ofNat_lt, h1, decide_true, inb_nat, Bool.not_true, Bool.or_true, cond_true, Int.toNat_natCast, getD_lt _ _ _ h1, getD_lt _ _ _ hk, Bool.true_and]
    rw [u64sub (hi _ (List.getElem_mem _)) (hi _ (List.getElem_mem _)) hsl]
    unfold farP at hp
    rw [getD_lt _ _ _ hk] at hp
    rw [hp, cond_true, w64_i _ (by omega)]; rfl
  · have e1 : e + (cP s far k - e) = cP s far k := by omega
    rw [e1, h]
    by_cases h1 : cP s far k < s.length
    · have hp : ¬ farP s far k s[cP s far k] = true := by rw [cP_iff hs far k _ h1]; omega
      have hsl := sorted_le hs (i := k) (k := cP s far k) (by omega) h1
      simp only [Tree.run, Int.ofNat_lt, h1, decide_true, inb_nat, Bool.not_true, Bool.or_true, cond_true, Int.toNat_natCast, getD_lt _ _ _ h1, getD_lt _ _ _ hk, Bool.true_and]
      rw [u64sub (hi _ (List.getElem_mem _)) (hi _ (List.getElem_mem _)) hsl]
      unfold farP at hp
      rw [getD_lt _ _ _ hk, Bool.not_eq_true] at hp
      rw [hp]; rfl
    · have h2 : decide (((cP s far k : Nat) : Int) < (s.length : Int)) = false := by rw [decide_eq_false_iff_not]; omega
      simp only [Tree.run, h2, Bool.not_false, Bool.true_or, cond_true, Bool.false_and, cond_false]
def endK (s : List Int) (far : Int) : Nat → Nat
  | 0 => 0
  | k + 1 => cP s far k
theorem endK_ok {s : List Int} (hs : s.Pairwise (· ≤ ·)) {far : Int} (hf : 0 ≤ far) {k : Nat} (hk : k < s.length) : k ≤ endK s far k ∧ endK s far k ≤ cP s far k := by
  cases k with
  | zero => exact ⟨Nat.le_refl _, Nat.zero_le _⟩
  | succ k => exact ⟨cP_ge hs hf (by omega), cP_mono hs far hk⟩
theorem take_push {s : List Int} (hs : s.Pairwise (· ≤ ·)) {far : Int} (hf : 0 ≤ far) {k : Nat} (hk : k < s.length) : (pushL far s).take (k + 1) = (pushL far s).take k ++ [(s[k], cP s far k - k)] := by
  rw [List.take_add_one, push_cP hs hf k hk]; rfl

theorem most_run (l : List Int) (w : Int) (hi : ∀ x ∈ l, I64 x) (hw : I64 w) (hl : l.length ≤ 1000000) : (window_Most_T l w).run = some ((mostL l w : Nat) : Int) := by
  have hs := sortI_sorted l
  have hn : (sortI l).length ≤ 1000000 := by rw [sortI_len]; exact hl
  have hi' : ∀ x ∈ sortI l, I64 x := fun x hx => hi x ((sortI_perm l).mem_iff.1 hx)
  have hf : (0 : Int) ≤ max w 0 := by omega
  unfold window_Most_T window_push_window_Most_1_T
  simp only [Tree.run, sorted_run l hl, Option.bind_some, wrapU_max hw]
  rw [loopF_run (S := fun k => (((endK (sortI l) (max w 0) k : Nat) : Int), (k : Int), ((maxN ((((pushL (max w 0) (sortI l)).take k)).map (·.2)) : Nat) : Int))) (n := (sortI l).length) (a := ((maxN ((pushL (max w 0) (sortI l)).map (·.2)) : Nat) : Int)) (fun k hk => ?_) ?_ (s0 := ((0 : Int), (0 : Int), (0 : Int))) rfl]
  · simp only [Option.bind_some]
    rw [push_most hs w, mostL_perm (sortI_perm l)]
  · unfold window_push_window_Most_1_L4_step
    have h2 : decide ((((sortI l).length : Nat) : Int) < ((sortI l).length : Int)) = false := by rw [decide_eq_false_iff_not]; omega
    simp only [Tree.run, h2, cond_false]
    rw [List.take_of_length_le (by rw [push_len]; exact Nat.le_refl _)]
  · obtain ⟨e1, e2⟩ := endK_ok hs hf hk
    unfold window_push_window_Most_1_L4_step
    simp only [Tree.run, Int.ofNat_lt, hk, decide_true, cond_true, inb_nat]
    rw [inner_run hs hi' hn hf hk e1 e2 (fun v => window_push_window_Most_1_L6_step (max w 0) (k : Int) ((sortI l).getD (k : Int).toNat 0) ((sortI l).length : Int) (k : Int) ((maxN ((((pushL (max w 0) (sortI l)).take k)).map (·.2)) : Nat) : Int) (sortI l) v) (fun v => by unfold window_push_window_Most_1_L6_step; rfl)]
    have hge := cP_ge hs hf hk
    have hle : cP (sortI l) (max w 0) k ≤ (sortI l).length := List.countP_le_length
    have e3 : w64 (((cP (sortI l) (max w 0) k : Nat) : Int) - (k : Int)) = ((cP (sortI l) (max w 0) k - k : Nat) : Int) := by
      rw [w64_in (by omega) (by omega)]; omega
    simp only [Option.bind_some, e3, window_Most_1_T, Tree.run, w64_i k (by omega), imax_eq]
    rw [take_push hs hf hk, List.map_append]
    unfold maxN
    rw [List.foldl_append]
    simp only [List.map_cons, List.map_nil, List.foldl_cons, List.foldl_nil]
    congr 4
    omega

theorem worst_run (l : List Int) (w : Int) (hi : ∀ x ∈ l, I64 x) (hw : I64 w) (hl : l.length ≤ 1000000) : (window_Worst_T l w).run = some ((worstL l w).1, (worstL l w).2, ()) := by
  have hs := sortI_sorted l
  have hn : (sortI l).length ≤ 1000000 := by rw [sortI_len]; exact hl
  have hi' : ∀ x ∈ sortI l, I64 x := fun x hx => hi x ((sortI_perm l).mem_iff.1 hx)
  have hf : (0 : Int) ≤ max w 0 := by omega
  unfold window_Worst_T window_push_window_Worst_1_T
  simp only [Tree.run, sorted_run l hl, Option.bind_some, wrapU_max hw]
  rw [loopF_run (S := fun k => (((endK (sortI l) (max w 0) k : Nat) : Int), (k : Int), ((((pushL (max w 0) (sortI l)).take k).foldl best (0, 0)).2 : Int), (((pushL (max w 0) (sortI l)).take k).foldl best (0, 0)).1)) (n := (sortI l).length) (a := ((((pushL (max w 0) (sortI l)).foldl best (0, 0)).2 : Int), ((pushL (max w 0) (sortI l)).foldl best (0, 0)).1)) (fun k hk => ?_) ?_ (s0 := ((0 : Int), (0 : Int), (0 : Int), (0 : Int))) rfl]
  · simp only [Option.bind_some]
    obtain ⟨h1, h2⟩ := worst_eq hs (sortI_perm l) w
    rw [h1, ← h2]
    congr 3
    rw [decide_eq_decide]; omega
  · unfold window_push_window_Worst_1_L4_step
    have h2 : decide ((((sortI l).length : Nat) : Int) < ((sortI l).length : Int)) = false := by rw [decide_eq_false_iff_not]; omega
    simp only [Tree.run, h2, cond_false]
    rw [List.take_of_length_le (by rw [push_len]; exact Nat.le_refl _)]
  · obtain ⟨e1, e2⟩ := endK_ok hs hf hk
    unfold window_push_window_Worst_1_L4_step
    simp only [Tree.run, Int.ofNat_lt, hk, decide_true, cond_true, inb_nat]
    rw [inner_run hs hi' hn hf hk e1 e2 (fun v => window_push_window_Worst_1_L6_step (max w 0) (k : Int) ((sortI l).getD (k : Int).toNat 0) ((sortI l).length : Int) (k : Int) ((((pushL (max w 0) (sortI l)).take k).foldl best (0, 0)).2 : Int) (((pushL (max w 0) (sortI l)).take k).foldl best (0, 0)).1 (sortI l) v) (fun v => by unfold window_push_window_Worst_1_L6_step; rfl)]
    have hge := cP_ge hs hf hk
    have hle : cP (sortI l) (max w 0) k ≤ (sortI l).length := List.countP_le_length
    have e3 : w64 (((cP (sortI l) (max w 0) k : Nat) : Int) - (k : Int)) = ((cP (sortI l) (max w 0) k - k : Nat) : Int) := by
      rw [w64_in (by omega) (by omega)]; omega
    simp only [Option.bind_some, e3, window_Worst_1_T, w64_i k (by omega)]
    rw [take_push hs hf hk, List.foldl_append]
    simp only [List.foldl_cons, List.foldl_nil, Int.toNat_natCast, getD_lt _ _ _ hk]
    generalize ((pushL (max w 0) (sortI l)).take k).foldl best (0, 0) = b
    unfold best
    by_cases hb : b.2 < cP (sortI l) (max w 0) k - k
    · have hb' : decide (((b.2 : Nat) : Int) < ((cP (sortI l) (max w 0) k - k : Nat) : Int)) = true := by rw [decide_eq_true_eq]; omega
      simp only [Tree.run, hb', cond_true, if_pos hb, Option.bind_some]; rfl
    · have hb' : decide (((b.2 : Nat) : Int) < ((cP (sortI l) (max w 0) k - k : Nat) : Int)) = false := by rw [decide_eq_false_iff_not]; omega
      simp only [Tree.run, hb', cond_false, if_neg hb, Option.bind_some]; rfl

/-! The reference's. -/
theorem between_run (x f w : Int) (hx : I64 x) (hf : I64 f) (hw : I64 w) : (r53_between_T x f w).run = some (btw w f x) := by
  unfold r53_between_T btw
  simp only [Tree.run]
  by_cases h : f < x
  · rw [u64sub hx hf (by omega)]
    by_cases h0 : 0 < w
    · have : IntKind.wrap .u64 w = w := by rw [wrapU]; unfold I64 at hw; omega
      rw [this]; simp [h, h0]
    · simp [h0]
  · simp [h]
theorem count_run (l : List Int) (f w : Int) (hi : ∀ x ∈ l, I64 x) (hf : I64 f) (hw : I64 w) (hl : l.length ≤ 1000000) : (r53_count_T l f w).run = some ((cnt l w f : Nat) : Int) := by
  unfold r53_count_T cnt
  simp only [Tree.run]
  rw [count_loop l (btw w f) (fun v => r53_count_L3_step l f w v.1 v.2) hl (fun i n h hn => by
    unfold r53_count_L3_step
    simp only [Tree.run, Int.ofNat_lt, h, decide_true, cond_true, inb_nat, Int.toNat_natCast, getD_lt _ _ _ h, between_run _ _ _ (hi _ (List.getElem_mem h)) hf hw, Option.bind_some]
    cases btw w f l[i] <;> rfl) (fun n => by unfold r53_count_L3_step; simp [Tree.run])]
  rfl
theorem maxN_map (l : List Int) (g : Int → Nat) : maxN (l.map g) = l.foldl (fun n x => max n (g x)) 0 := by
  unfold maxN; rw [List.foldl_map]
theorem rMost_run (l : List Int) (w : Int) (hi : ∀ x ∈ l, I64 x) (hw : I64 w) (hl : l.length ≤ 1000000) : (r53_Most_T l w).run = some ((mostL l w : Nat) : Int) := by
  unfold r53_Most_T
  simp only [Tree.run]
  rw [fold_loop (st := fun v => (r53_Most_L3_step l w v.1 v.2).run) l (fun (n : Nat) x => max n (cnt l w x)) (fun n => (n : Int)) (fun i (n : Nat) => ((n : Int), (i : Int))) (fun _ _ => True) (fun i n h _ => ⟨by
    unfold r53_Most_L3_step
    simp only [Tree.run, Int.ofNat_lt, h, decide_true, cond_true, inb_nat, Int.toNat_natCast, getD_lt _ _ _ h, count_run l _ w hi (hi _ (List.getElem_mem h)) hw hl, Option.bind_some, imax_eq, w64_i i (by omega)]
    congr 3; omega, trivial⟩) (fun n _ => by unfold r53_Most_L3_step; simp [Tree.run]) 0 trivial (s0 := ((0 : Int), (0 : Int))) rfl]
  unfold mostL
  rw [maxN_map]; rfl
theorem rWorst_run (l : List Int) (w : Int) (hi : ∀ x ∈ l, I64 x) (hw : I64 w) (hl : l.length ≤ 1000000) : (r53_Worst_T l w).run = some ((worstL l w).1, (worstL l w).2, ()) := by
  unfold r53_Worst_T worstL
  simp only [Tree.run, rMost_run l w hi hw hl, Option.bind_some]
  rw [fold_loop (st := fun v => (r53_Worst_L4_step l w ((mostL l w : Nat) : Int) v.1 v.2.1 v.2.2).run) l (bestR fun x => decide (cnt l w x = mostL l w)) id (fun i (c : Int × Bool) => (c.1, c.2, (i : Int))) (fun _ _ => True) (fun i c h _ => ⟨by
    unfold r53_Worst_L4_step bestR
    have e : decide (((cnt l w l[i] : Nat) : Int) = ((mostL l w : Nat) : Int)) = decide (cnt l w l[i] = mostL l w) := by rw [decide_eq_decide]; omega
    simp only [Tree.run, Int.ofNat_lt, h, decide_true, cond_true, inb_nat, Int.toNat_natCast, getD_lt _ _ _ h, count_run l _ w hi (hi _ (List.getElem_mem h)) hw hl, Option.bind_some, Bool.or_true, w64_i i (by omega), e]
    cases hb : decide (cnt l w l[i] = mostL l w) && (!c.2 || decide (l[i] < c.1)) <;> rfl, trivial⟩) (fun n _ => by unfold r53_Worst_L4_step; simp [Tree.run]) (0, false) trivial (s0 := ((0 : Int), false, (0 : Int))) rfl]
  rfl

/-! Rates. -/
theorem inR_run (x m : Int) : (r30_in_T x m).run = some (inR x m) := by
  unfold r30_in_T inR; simp only [Tree.run, imax_eq, imin_eq]
theorem inR_le {x m : Int} (hm : 0 ≤ m) : 0 ≤ inR x m ∧ inR x m ≤ m := by unfold inR; omega
theorem most_small (r b f t : Int) : 0 ≤ max 0 (inR t MT - inR f MT) * inR r MR ∧ max 0 (inR t MT - inR f MT) * inR r MR ≤ 1152921504606846976 := by
  have h1 := inR_le (x := t) (m := MT) (by decide)
  have h2 := inR_le (x := f) (m := MT) (by decide)
  have h3 := inR_le (x := r) (m := MR) (by decide)
  have h4 : (0 : Int) ≤ max 0 (inR t MT - inR f MT) := by omega
  refine ⟨Int.mul_nonneg h4 h3.1, ?_⟩
  have h5 : max 0 (inR t MT - inR f MT) ≤ 1099511627776 := by unfold MT at *; omega
  have h6 : inR r MR ≤ 1048576 := h3.2
  calc _ ≤ 1099511627776 * inR r MR := Int.mul_le_mul_of_nonneg_right h5 h3.1
    _ ≤ 1099511627776 * 1048576 := Int.mul_le_mul_of_nonneg_left h6 (by omega)
    _ = _ := by rfl
theorem rMostY_run (f t r b : Int) : (r30_Most_T f t r b).run = some (mostY r b f t) := by
  have h1 := inR_le (x := t) (m := MT) (by decide)
  have h2 := inR_le (x := f) (m := MT) (by decide)
  have h3 := most_small r b f t
  have h4 := inR_le (x := b) (m := MR) (by decide)
  have e1 : (1099511627776 : Int) = MT := rfl
  have e2 : (1048576 : Int) = MR := rfl
  unfold r30_Most_T mostY
  rw [e1, e2]
  simp only [Tree.run, inR_run, Option.bind_some, imax_eq]
  rw [w64_in (x := inR t MT - inR f MT) (by unfold MT at *; omega) (by unfold MT at *; omega), w64_in (x := max 0 (inR t MT - inR f MT) * inR r MR) (by omega) (by omega), w64_in (by omega) (by unfold MR at *; omega)]
theorem mostY_run (f t r b : Int) : (rate_Most_T f t r b).run = some (mostY r b f t) := by
  have h1 := inR_le (x := t) (m := MT) (by decide)
  have h2 := inR_le (x := f) (m := MT) (by decide)
  have h3 := most_small r b f t
  have h4 := inR_le (x := b) (m := MR) (by decide)
  have e1 : (1099511627776 : Int) = MT := rfl
  have e2 : (1048576 : Int) = MR := rfl
  unfold rate_Most_T mostY rate_gone_T rate_calls_T rate_ticks_T rate_bounds_hold_T
  rw [e1, e2]
  simp only [Tree.run, Option.bind_some, imax_eq, imin_eq]
  have q : ∀ x m, max 0 (min x m) = inR x m := fun _ _ => rfl
  simp only [q]
  rw [w64_in (x := inR t MT - inR f MT) (by unfold MT at *; omega) (by unfold MT at *; omega), w64_in (x := max 0 (inR t MT - inR f MT) * inR r MR) (by omega) (by omega), w64_in (by omega) (by unfold MR at *; omega)]

/-! Within a rate. -/
/-- A loop that looks for one that is not so, over numbers. -/
theorem all_loop {β : Type} (n : Nat) (p : Nat → Bool) (st : Int → Tree (Int ⊕ β)) (y z : β) (hn : n ≤ 1000000) (h : ∀ i, i < n → (st (i : Int)).run = some (bif p i then .inl (w64 ((i : Int) + 1)) else .inr y)) (h0 : (st (n : Int)).run = some (.inr z)) :
    ∀ k, k ≤ n → loopF (fun v => (st v).run) (k : Int) = some (bif (List.range n).all (fun i => decide (i < k) || p i) then z else y) := by
  have key : ∀ d k, k + d = n → loopF (fun v => (st v).run) (k : Int) = some (bif (List.range n).all (fun i => decide (i < k) || p i) then z else y) := by
    intro d
    induction d with
    | zero =>
      intro k hk
      have : k = n := hk
      subst this
      rw [loopF_eq, h0]
      have : (List.range k).all (fun i => decide (i < k) || p i) = true := by
        rw [List.all_eq_true]; intro i hi; rw [List.mem_range] at hi; simp [hi]
      rw [this]; rfl
    | succ d ih =>
      intro k hk
      rw [loopF_eq, h k (by omega)]
      cases hp : p k with
      | false =>
        have : (List.range n).all (fun i => decide (i < k) || p i) = false := by
          rw [List.all_eq_false]; exact ⟨k, List.mem_range.2 (by omega), by simp [hp]⟩
        rw [this]; rfl
      | true =>
        have e : (List.range n).all (fun i => decide (i < k + 1) || p i) = (List.range n).all (fun i => decide (i < k) || p i) := by
          refine all_congr fun i _ => ?_
          by_cases hik : i = k
          · subst hik; simp [hp]
          · have : decide (i < k + 1) = decide (i < k) := by rw [decide_eq_decide]; omega
            rw [this]
        rw [w64_i k (by omega), ← e]
        exact ih (k + 1) (by omega)
  intro k hk
  exact key (n - k) k (by omega)
def withinS (s : List Int) (r b : Int) : Bool := (List.range s.length).all fun i => (List.range s.length).all fun k => decide (k < i) || decide ((k : Int) - (i : Int) + 1 ≤ mostY r b (s.getD i 0) (s.getD k 0))
def withinL (l : List Int) (r b : Int) : Bool := l.all fun a => l.all fun c => decide (c < a) || decide (((l.countP (fun x => decide (a ≤ x) && decide (x ≤ c)) : Nat) : Int) ≤ mostY r b a c)
theorem withinS_iff (s : List Int) (r b : Int) : withinS s r b = true ↔ ∀ i k (h : i ≤ k) (hk : k < s.length), ((k - i + 1 : Nat) : Int) ≤ mostY r b s[i] s[k] := by
  unfold withinS
  simp only [List.all_eq_true, List.mem_range, Bool.or_eq_true, decide_eq_true_eq]
  constructor
  · intro h i k hik hk
    have := h i (by omega) k hk
    rw [getD_lt _ _ _ hk, getD_lt _ _ _ (by omega)] at this
    omega
  · intro h i hi k hk
    by_cases hik : i ≤ k
    · right
      have := h i k hik hk
      rw [getD_lt _ _ _ hk, getD_lt _ _ _ hi]; omega
    · left; omega
theorem within_same {s l : List Int} (hs : s.Pairwise (· ≤ ·)) (hp : s.Perm l) (r b : Int) : withinS s r b = withinL l r b := by
  rw [Bool.eq_iff_iff, withinS_iff, within_eq hs hp (fun a c => mostY r b a c)]
  unfold withinL
  simp only [List.all_eq_true, Bool.or_eq_true, decide_eq_true_eq]
  constructor
  · intro h a ha c hc
    by_cases hac : c < a
    · exact .inl hac
    · exact .inr (h a ha c hc (by omega))
  · intro h a ha c hc hac
    rcases h a ha c hc with h | h
    · omega
    · exact h
theorem within_run (l : List Int) (r b : Int) (hl : l.length ≤ 1000000) : (window_Within_T l r b).run = some (withinS (sortI l) r b) := by
  have hn : (sortI l).length ≤ 1000000 := by rw [sortI_len]; exact hl
  unfold window_Within_T
  simp only [Tree.run, sorted_run l hl, Option.bind_some]
  generalize sortI l = s at *
  have h := all_loop (β := Bool ⊕ Unit) s.length (fun i => (List.range s.length).all fun k => decide (k < i) || decide ((k : Int) - (i : Int) + 1 ≤ mostY r b (s.getD i 0) (s.getD k 0))) (fun v => window_Within_L3_step r b (s.length : Int) s v) (.inl false) (.inr ()) hn (fun i hi => by
    have hin := all_loop (β := Bool ⊕ Unit) s.length (fun k => decide ((k : Int) - (i : Int) + 1 ≤ mostY r b (s.getD i 0) (s.getD k 0))) (fun v => window_Within_L6_step r b (i : Int) (s.getD (i : Int).toNat (0 : Int)) (s.length : Int) (i : Int) s v) (.inl false) (.inr ()) hn (fun k hk => by
      unfold window_Within_L6_step
      have e : decide (mostY r b (s.getD i 0) (s.getD k 0) < w64 (w64 ((k : Int) - (i : Int)) + 1)) = !decide ((k : Int) - (i : Int) + 1 ≤ mostY r b (s.getD i 0) (s.getD k 0)) := by
        rw [w64_in (x := (k : Int) - (i : Int)) (by omega) (by omega), w64_in (by omega) (by omega), ← decide_not, decide_eq_decide]; omega
      simp only [Tree.run, Int.ofNat_lt, hk, decide_true, cond_true, inb_nat, mostY_run, Option.bind_some, Int.toNat_natCast, e]
      cases decide ((k : Int) - (i : Int) + 1 ≤ mostY r b (s.getD i 0) (s.getD k 0)) <;> rfl) (by unfold window_Within_L6_step; simp [Tree.run]) i (by omega)
    unfold window_Within_L3_step
    simp only [Tree.run, Int.ofNat_lt, hi, decide_true, cond_true, inb_nat, hin, Option.bind_some]
    cases (List.range s.length).all fun k => decide (k < i) || decide ((k : Int) - (i : Int) + 1 ≤ mostY r b (s.getD i 0) (s.getD k 0)) <;> rfl) (by unfold window_Within_L3_step; simp [Tree.run]) 0 (Nat.zero_le _)
  rw [show (0 : Int) = ((0 : Nat) : Int) from rfl, h]
  have e : (List.range s.length).all (fun i => decide (i < 0) || (List.range s.length).all fun k => decide (k < i) || decide ((k : Int) - (i : Int) + 1 ≤ mostY r b (s.getD i 0) (s.getD k 0))) = withinS s r b := by
    unfold withinS
    exact all_congr fun i _ => by simp
  rw [e]
  cases withinS s r b <;> rfl
theorem rWithin_run (l : List Int) (r b : Int) (hl : l.length ≤ 1000000) : (r53_Within_T l r b).run = some (withinL l r b) := by
  unfold r53_Within_T
  simp only [Tree.run]
  rw [any_loop l (fun a => l.any fun c => !(decide (c < a) || decide (((l.countP (fun x => decide (a ≤ x) && decide (x ≤ c)) : Nat) : Int) ≤ mostY r b a c))) (fun v => r53_Within_L2_step l r b v) (Sum.inl false : Bool ⊕ Unit) (.inr ()) hl (fun i hi => by
    unfold r53_Within_L2_step
    simp only [Tree.run, Int.ofNat_lt, hi, decide_true, cond_true]
    rw [any_loop l (fun c => !(decide (c < l[i]) || decide (((l.countP (fun x => decide (l[i] ≤ x) && decide (x ≤ c)) : Nat) : Int) ≤ mostY r b l[i] c))) (fun v => r53_Within_L5_step l r b (i : Int) v) (Sum.inl false : Bool ⊕ Unit) (.inr ()) hl (fun k hk => by
      unfold r53_Within_L5_step
      simp only [Tree.run, Int.ofNat_lt, hi, hk, decide_true, cond_true, inb_nat, Int.toNat_natCast, getD_lt _ _ _ hi, getD_lt _ _ _ hk]
      cases hlt : decide (l[k] < l[i]) with
      | true => rfl
      | false =>
        simp only [cond_false, Bool.false_or]
        rw [count_loop l (fun x => decide (l[i] ≤ x) && decide (x ≤ l[k])) (fun v => r53_Within_L10_step l r b (i : Int) (k : Int) v.1 v.2) hl (fun j n hj hn => by
          unfold r53_Within_L10_step
          simp only [Tree.run, Int.ofNat_lt, hi, hk, hj, decide_true, cond_true, inb_nat, Int.toNat_natCast, getD_lt _ _ _ hi, getD_lt _ _ _ hk, getD_lt _ _ _ hj, Bool.or_true]
          cases decide (l[i] ≤ l[j]) && decide (l[j] ≤ l[k]) <;> rfl) (fun n => by unfold r53_Within_L10_step; simp [Tree.run])]
        simp only [Option.bind_some, rMostY_run]
        have e : decide (mostY r b l[i] l[k] < ((l.countP (fun x => decide (l[i] ≤ x) && decide (x ≤ l[k])) : Nat) : Int)) = !decide (((l.countP (fun x => decide (l[i] ≤ x) && decide (x ≤ l[k])) : Nat) : Int) ≤ mostY r b l[i] l[k]) := by
          rw [← decide_not, decide_eq_decide]; omega
        rw [e]
        cases decide (((l.countP (fun x => decide (l[i] ≤ x) && decide (x ≤ l[k])) : Nat) : Int) ≤ mostY r b l[i] l[k]) <;> rfl) (by unfold r53_Within_L5_step; simp [Tree.run])]
    cases l.any fun c => !(decide (c < l[i]) || decide (((l.countP (fun x => decide (l[i] ≤ x) && decide (x ≤ c)) : Nat) : Int) ≤ mostY r b l[i] c)) <;> rfl) (by unfold r53_Within_L2_step; simp [Tree.run])]
  have e : withinL l r b = !(l.any fun a => l.any fun c => !(decide (c < a) || decide (((l.countP (fun x => decide (a ≤ x) && decide (x ≤ c)) : Nat) : Int) ≤ mostY r b a c))) := by
    unfold withinL
    rw [List.all_eq_not_any_not]
    congr 1
    refine any_congr fun a _ => ?_
    rw [List.all_eq_not_any_not, Bool.not_not]
  rw [e]
  cases l.any fun a => l.any fun c => !(decide (c < a) || decide (((l.countP (fun x => decide (a ≤ x) && decide (x ≤ c)) : Nat) : Int) ≤ mostY r b a c)) <;> rfl

end Go.Eng
