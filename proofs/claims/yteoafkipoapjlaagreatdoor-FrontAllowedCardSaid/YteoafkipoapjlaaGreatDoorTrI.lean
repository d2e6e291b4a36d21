/- Go's library over lists, as plain functions: what the lifted loops come to. -/
import Derived.Test.YteoafkipoapjlaaGreatDoorTrH
namespace Go.Eng
open Go

theorem w64_i (i : Nat) (h : i ≤ 1000000) : w64 ((i : Int) + 1) = ((i + 1 : Nat) : Int) := w64_nat i (by omega)
theorem room_le (n k : Nat) (h : n ≤ 1000000) (hk : k ≤ 100000) : decide (n * k ≤ roomNat) = true := by
  rw [decide_eq_true_eq]; unfold roomNat
  calc n * k ≤ 1000000 * 100000 := Nat.mul_le_mul h hk
    _ ≤ _ := by omega

/-- The place of the first one that is such, or -1. -/
def idxI {α : Type} (p : α → Bool) (l : List α) : Int := match l.findIdx? p with
  | some i => (i : Int)
  | none => -1
theorem idxI_of {α : Type} {p : α → Bool} {l : List α} {i : Nat} (hi : i < l.length) (h : p l[i] = true) (hk : ∀ k (hk : k < i), p (l[k]'(by omega)) = false) : idxI p l = (i : Int) := by
  unfold idxI
  rw [List.findIdx?_eq_some_iff_getElem.2 ⟨hi, h, fun j hj => by rw [hk j hj]; exact Bool.false_ne_true⟩]
theorem idxI_none {α : Type} {p : α → Bool} {l : List α} (h : l.any p = false) : idxI p l = -1 := by
  unfold idxI
  rw [List.findIdx?_eq_none_iff.2 fun x hx => by have := List.any_eq_false.1 h x hx; simpa using this]
theorem idxI_cases {α : Type} (p : α → Bool) (l : List α) : (idxI p l = -1 ∧ l.any p = false) ∨ ∃ i, ∃ hi : i < l.length, idxI p l = (i : Int) ∧ p l[i] = true ∧ l.any p = true ∧ ∀ k (hk : k < i), p (l[k]'(by omega)) = false := by
  cases h : l.any p with
  | false => exact .inl ⟨idxI_none h, rfl⟩
  | true =>
    cases hf : l.findIdx? p with
    | none =>
      obtain ⟨x, hx, hp⟩ := List.any_eq_true.1 h
      rw [List.findIdx?_eq_none_iff.1 hf x hx] at hp; cases hp
    | some i =>
      obtain ⟨hi, h1, h2⟩ := List.findIdx?_eq_some_iff_getElem.1 hf
      have h2 : ∀ k (hk : k < i), p (l[k]'(by omega)) = false := fun k hk => by have := h2 k hk; simpa using this
      exact .inr ⟨i, hi, idxI_of hi h1 h2, h1, rfl, h2⟩

/-- slices.Index, slices.IndexFunc. -/
theorem index_tree {α : Type} (l : List α) (p : α → Bool) (st : Int → Tree (Int ⊕ (Int ⊕ Unit))) (hl : l.length ≤ 1000000)
    (h : ∀ i (hi : i < l.length), (st (i : Int)).run = some (bif p l[i] then .inr (.inl (i : Int)) else .inl (w64 ((i : Int) + 1)))) (h0 : (st (l.length : Int)).run = some (.inr (.inr ()))) :
    (Tree.bnd (.loop st 0) fun r1 => .sum r1 (fun r2 => .ret r2) fun _ => .ret (-1)).run = some (idxI p l) := by
  have hf := loopF_find (st := fun v => (st v).run) l p (fun i => (i : Int)) (fun i => (Sum.inl (i : Int) : Int ⊕ Unit)) (.inr ()) (fun i hi => by
    rw [h i hi, w64_i i (by omega)]) h0 (s0 := (0 : Int)) rfl
  simp only [Tree.run]
  rcases hf with ⟨h1, h2⟩ | ⟨i, hi, h1, h2, h3, h4⟩
  · rw [h1, idxI_none h2]; rfl
  · rw [h1, idxI_of hi h2 h4]; rfl

/-- 'Are there few': all of the first ones are such, and there are not more. -/
def fewB {α : Type} (q : α → Bool) (most : Nat) (l : List α) : Bool := !(l.take most).any q && decide (l.length ≤ most)
theorem fewB_len {α : Type} {q : α → Bool} {most : Nat} {l : List α} (h : fewB q most l = true) : l.length ≤ most := by
  unfold fewB at h; simp only [Bool.and_eq_true, decide_eq_true_eq] at h; exact h.2
theorem fewB_mem {α : Type} {q : α → Bool} {most : Nat} {l : List α} (h : fewB q most l = true) {x : α} (hx : x ∈ l) : q x = false := by
  have hl := fewB_len h
  unfold fewB at h
  simp only [Bool.and_eq_true, Bool.not_eq_true'] at h
  have := List.any_eq_false.1 h.1 x (by rw [List.take_of_length_le hl]; exact hx)
  simpa using this
theorem few_tree {α : Type} (l : List α) (most : Nat) (q : α → Bool) (st : Int → Tree (Int ⊕ (Bool ⊕ Unit))) (hm : most ≤ 1000000) (m' : Int) (hm' : m' = (most : Int))
    (h : ∀ i (hi : i < l.length), i < most → (st (i : Int)).run = some (bif q l[i] then .inr (.inl false) else .inl (w64 ((i : Int) + 1))))
    (h0 : ∀ i : Nat, ¬ (i < l.length ∧ i < most) → (st (i : Int)).run = some (.inr (.inr ()))) :
    (Tree.bnd (.loop st 0) fun r1 => .sum r1 (fun r2 => .ret r2) fun _ => .ret (decide ((l.length : Int) ≤ m'))).run = some (fewB q most l) := by
  subst hm'
  have hlen : (l.take most).length = min most l.length := List.length_take
  have hf := loopF_any (st := fun v => (st v).run) (l.take most) q (fun i => (i : Int)) (Sum.inl false : Bool ⊕ Unit) (.inr ()) (fun i hi => by
    have h1 : i < l.length := by omega
    rw [h i h1 (by omega), w64_i i (by omega), List.getElem_take]) (h0 _ (by omega)) (s0 := (0 : Int)) rfl
  simp only [Tree.run]
  rw [hf]
  unfold fewB
  cases (l.take most).any q with
  | true => rfl
  | false => simp only [cond_false, Option.bind_some, Bool.not_false, Bool.true_and, Int.ofNat_le]; rfl

/-- One behind another: each is good by what was ahead of it. -/
def chain {α γ : Type} (good : γ → α → Bool) (next : γ → α → γ) : γ → List α → Bool
  | _, [] => true
  | c, x :: l => good c x && chain good next (next c x) l
theorem chain_loop {α γ σ β : Type} {st : σ → Option (σ ⊕ β)} (l : List α) (good : γ → α → Bool) (next : γ → α → γ) (S : Nat → γ → σ) (I : Nat → γ → Prop) (bad done : β)
    (h1 : ∀ i c (hi : i < l.length), I i c → st (S i c) = some (bif good c l[i] then .inl (S (i + 1) (next c l[i])) else .inr bad) ∧ (good c l[i] = true → I (i + 1) (next c l[i])))
    (h0 : ∀ c, I l.length c → st (S l.length c) = some (.inr done)) (c0 : γ) (hc : I 0 c0) {s0 : σ} (hs : s0 = S 0 c0) : loopF st s0 = some (bif chain good next c0 l then done else bad) := by
  rw [loopF_listI l S (fun _ x c => bif good c x then .inl (next c x) else .inr bad) (fun _ => done) I (fun i c hi hI => by
    obtain ⟨k1, k2⟩ := h1 i c hi hI
    rw [k1]
    cases hg : good c l[i] with
    | false => exact ⟨rfl, fun c' h => by cases h⟩
    | true => exact ⟨rfl, fun c' h => by injection h with h; subst h; exact k2 hg⟩) h0 c0 hc hs]
  have key : ∀ (l : List α) (i : Nat) (c : γ), foldX (β := α) (fun _ x c => bif good c x then .inl (next c x) else .inr bad) (fun _ => done) i l c = bif chain good next c l then done else bad := by
    intro l
    induction l with
    | nil => intro i c; rfl
    | cons x l ih =>
      intro i c
      simp only [foldX, chain]
      cases good c x with
      | false => rfl
      | true => exact ih (i + 1) _
  rw [key]
end Go.Eng
