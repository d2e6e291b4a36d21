/- The order of a list by insertion; each once: plain functions that can be reckoned. -/
import Derived.Test.YtapnoaalcbcmaaaTrI
namespace Go.Eng
open Go

/-! The order, by insertion: a plain function that can be reckoned. -/
def insB {α : Type} (le : α → α → Bool) (x : α) : List α → List α
  | [] => [x]
  | y :: l => match le x y with | true => x :: y :: l | false => y :: insB le x l
def isortB {α : Type} (le : α → α → Bool) : List α → List α
  | [] => []
  | x :: l => insB le x (isortB le l)
theorem insB_perm {α : Type} (le : α → α → Bool) (x : α) (l : List α) : (insB le x l).Perm (x :: l) := by
  induction l with
  | nil => exact List.Perm.refl _
  | cons y l ih =>
    simp only [insB]
    cases le x y with
    | true => exact List.Perm.refl _
    | false => exact (List.Perm.cons y ih).trans (List.Perm.swap x y l)
theorem isortB_perm {α : Type} (le : α → α → Bool) (l : List α) : (isortB le l).Perm l := by
  induction l with
  | nil => exact List.Perm.refl _
  | cons x l ih => exact (insB_perm le x _).trans (List.Perm.cons x ih)
theorem insB_sorted {α : Type} {le : α → α → Bool} (ht : ∀ a b c, le a b = true → le b c = true → le a c = true) (hto : ∀ a b, le a b = false → le b a = true) (x : α) {l : List α} (h : l.Pairwise fun a b => le a b = true) : (insB le x l).Pairwise fun a b => le a b = true := by
  induction l with
  | nil => exact List.pairwise_singleton _ _
  | cons y l ih =>
    have h' := List.pairwise_cons.1 h
    simp only [insB]
    cases hx : le x y with
    | true =>
      refine List.Pairwise.cons (fun z hz => ?_) h
      rcases List.mem_cons.1 hz with rfl | hz
      · exact hx
      · exact ht _ _ _ hx (h'.1 z hz)
    | false =>
      refine List.Pairwise.cons (fun z hz => ?_) (ih h'.2)
      rcases List.mem_cons.1 ((insB_perm le x l).mem_iff.1 hz) with rfl | hz
      · exact hto _ _ hx
      · exact h'.1 z hz
theorem isortB_sorted {α : Type} {le : α → α → Bool} (ht : ∀ a b c, le a b = true → le b c = true → le a c = true) (hto : ∀ a b, le a b = false → le b a = true) (l : List α) : (isortB le l).Pairwise fun a b => le a b = true := by
  induction l with
  | nil => exact List.Pairwise.nil
  | cons x l ih => exact insB_sorted ht hto x ih
theorem mergeSort_isortB {α : Type} {le : α → α → Bool} (ht : ∀ a b c, le a b = true → le b c = true → le a c = true) (hto : ∀ a b, le a b = false → le b a = true) (ha : ∀ a b, le a b = true → le b a = true → a = b) (l : List α) : l.mergeSort le = isortB le l := by
  refine List.Perm.eq_of_pairwise (le := fun a b => le a b = true) (fun a b _ _ h1 h2 => ha a b h1 h2) ?_ (isortB_sorted ht hto l) ((List.mergeSort_perm l le).trans (isortB_perm le l).symm)
  exact List.pairwise_mergeSort ht (fun a b => by cases h : le a b <;> simp [hto a b, h]) l

def leI (a b : Int) : Bool := decide (a ≤ b)
def leS (a b : Str) : Bool := !ltS b a
abbrev sortI (l : List Int) : List Int := isortB leI l
abbrev sortS (l : List Str) : List Str := isortB leS l
theorem leS_trans (a b c : Str) (h : leS a b = true) (k : leS b c = true) : leS a c = true := by
  unfold leS at *
  simp only [Bool.not_eq_true'] at *
  cases hca : ltS c a with
  | false => rfl
  | true =>
    exfalso
    -- c < a; b is not less than a: so c < a ≤ b
    cases hab : ltS a b with
    | true => have := less_trans hca hab; rw [show ltS c b = true from this] at k; cases k
    | false => have e : a = b := less_total hab h; subst e; rw [hca] at k; cases k
theorem leS_total (a b : Str) (h : leS a b = false) : leS b a = true := by
  unfold leS at *
  simp only [Bool.not_eq_false', Bool.not_eq_true'] at *
  exact less_asymm h
theorem leS_anti (a b : Str) (h : leS a b = true) (k : leS b a = true) : a = b := by
  unfold leS at *
  simp only [Bool.not_eq_true'] at *
  exact less_total k h

/-! Each once. -/
def compFrom {α : Type} (eq : α → α → Bool) (x : α) : List α → List α
  | [] => []
  | y :: l => match eq y x with | true => compFrom eq x l | false => y :: compFrom eq y l
def compL {α : Type} (eq : α → α → Bool) : List α → List α
  | [] => []
  | x :: l => x :: compFrom eq x l
theorem compL_sub {α : Type} (eq : α → α → Bool) (l : List α) : (compL eq l).length ≤ l.length ∧ ∀ x, x ∈ compL eq l → x ∈ l := by
  have key : ∀ (l : List α) (x : α), (compFrom eq x l).length ≤ l.length ∧ ∀ z, z ∈ compFrom eq x l → z ∈ l := by
    intro l
    induction l with
    | nil => intro x; exact ⟨Nat.le_refl _, fun z h => h⟩
    | cons y l ih =>
      intro x
      simp only [compFrom]
      cases eq y x with
      | true => exact ⟨by have := (ih x).1; simp; omega, fun z h => List.mem_cons_of_mem _ ((ih x).2 z h)⟩
      | false =>
        refine ⟨by have := (ih y).1; simp; omega, fun z h => ?_⟩
        rcases List.mem_cons.1 h with rfl | h
        · exact List.mem_cons_self
        · exact List.mem_cons_of_mem _ ((ih y).2 z h)
  cases l with
  | nil => exact ⟨Nat.le_refl _, fun x h => h⟩
  | cons x l =>
    refine ⟨by have := (key l x).1; simp [compL]; omega, fun z h => ?_⟩
    rcases List.mem_cons.1 h with rfl | h
    · exact List.mem_cons_self
    · exact List.mem_cons_of_mem _ ((key l x).2 z h)
def eqI (a b : Int) : Bool := decide (a = b)
def eqS (a b : Str) : Bool := a == b

end Go.Eng
