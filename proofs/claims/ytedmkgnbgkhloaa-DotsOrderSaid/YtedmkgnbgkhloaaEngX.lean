/- What is read as data stands for abstract values of its type. -/
import Derived.Test.YtedmkgnbgkhloaaEngW
namespace Go.Eng
open Go Go.RowKit

variable {H : Type} {enc : TypeId × Value → H} {P : Program} {T : Tab} {w : World} {base : Nat} {spare : Nat → Bool} {held : Bool}

theorem cellsOf_sz (hT : TabOk P T) {t : Nat} (h : 1 ≤ (tyi T t).sz) : P.cellsOf t = (tyi T t).sz := by
  obtain ⟨d, i, z, f⟩ := hT.of_sz h
  unfold Program.cellsOf
  rw [f.info, f.sz]; rfl

theorem add_add (a : Addr) (x k : Nat) : (a.add x).add k = a.add (x + k) := by
  unfold Addr.add
  by_cases hx : x = 0
  · subst hx; simp
  · by_cases hk : k = 0
    · subst hk; simp [hx]
    · simp [hx, hk, Nat.add_assoc]

theorem mapM_some {α β : Type} {f : α → Option β} : ∀ {l : List α} {r : List β}, l.mapM f = some r → r.length = l.length ∧ ∀ (i : Nat) (x : α), l[i]? = some x → ∃ y, r[i]? = some y ∧ f x = some y := by
  intro l
  induction l with
  | nil => intro r h; simp at h; subst h; exact ⟨rfl, fun i x h => by simp at h⟩
  | cons a l ih =>
    intro r h
    rw [List.mapM_cons] at h
    cases ha : f a with
    | none => rw [ha] at h; simp at h
    | some b =>
      rw [ha] at h
      cases hl : l.mapM f with
      | none => rw [hl] at h; simp at h
      | some k =>
        rw [hl] at h
        simp at h
        subst h
        obtain ⟨h1, h2⟩ := ih hl
        refine ⟨by simp [h1], fun i x hx => ?_⟩
        cases i with
        | zero => simp at hx; subst hx; exact ⟨b, rfl, ha⟩
        | succ i => simpa using h2 i x (by simpa using hx)

theorem cells_at {a : Addr} {n : Nat} {vs : List Value} (h : w.cells? base a n = some vs) : vs.length = n ∧ ∀ k, k < n → w.cell? (a.add k) = some (vs.getD k Go.undef) := by
  unfold World.cells? at h
  split at h
  · obtain ⟨h1, h2⟩ := mapM_some h
    refine ⟨by simpa using h1, fun k hk => ?_⟩
    obtain ⟨y, hy, hf⟩ := h2 k k (by simp [hk])
    rw [hf, List.getD_eq_getElem?_getD, hy]; rfl
  · cases h

theorem consec_cover : ∀ (fs : List (Nat × Nat)) (o n : Nat), consec T fs o n = true → ∀ j, o ≤ j → j < n → ∃ x ∈ fs, fieldAt T fs j = some x ∧ x.2 ≤ j ∧ j < x.2 + (tyi T x.1).sz := by
  intro fs
  induction fs with
  | nil => intro o n h j h1 h2; have := Nat.eq_of_beq_eq_true h; omega
  | cons y fs ih =>
    obtain ⟨t, o'⟩ := y
    intro o n h j h1 h2
    simp only [consec, Bool.and_eq_true] at h
    have e := Nat.eq_of_beq_eq_true h.1
    subst e
    by_cases hj : j < o + (tyi T t).sz
    · exact ⟨(t, o), by simp, by simp only [fieldAt]; rw [if_pos hj], h1, hj⟩
    · obtain ⟨x, hx, hf, a1, a2⟩ := ih _ _ h.2 j (by omega) h2
      exact ⟨x, List.mem_cons_of_mem _ hx, by simp only [fieldAt]; rw [if_neg hj]; exact hf, a1, a2⟩

end Go.Eng
