/- RegisterOrder as a call. -/
import Derived.Test.YtpbpmbfgcgjgdaaRegI
namespace Go.Eng
open Go Go.Proofs Go.RowKit
set_option maxHeartbeats 4000000

theorem bytesLess_irrefl (a : List UInt8) : Op.bytesLess a a = false := by
  induction a with
  | nil => rfl
  | cons x a ih => simp [Op.bytesLess, ih]
theorem bytesLess_trans {a b c : List UInt8} (h1 : Op.bytesLess a b = true) (h2 : Op.bytesLess b c = true) : Op.bytesLess a c = true := by
  induction a generalizing b c with
  | nil => cases b <;> cases c <;> simp_all [Op.bytesLess]
  | cons x a ih =>
    cases b with
    | nil => simp [Op.bytesLess] at h1
    | cons y b =>
      cases c with
      | nil => simp [Op.bytesLess] at h2
      | cons z c =>
        simp only [Op.bytesLess, Bool.or_eq_true, Bool.and_eq_true, decide_eq_true_eq, beq_iff_eq] at h1 h2 ⊢
        rcases h1 with h1 | ⟨e1, h1⟩ <;> rcases h2 with h2 | ⟨e2, h2⟩
        · exact .inl (UInt8.lt_trans h1 h2)
        · subst e2; exact .inl h1
        · subst e1; exact .inl h2
        · subst e1 e2; exact .inr ⟨rfl, ih h1 h2⟩
theorem bytesLess_tri (a b : List UInt8) : Op.bytesLess a b = true ∨ a = b ∨ Op.bytesLess b a = true := by
  induction a generalizing b with
  | nil => cases b <;> simp [Op.bytesLess]
  | cons x a ih =>
    cases b with
    | nil => simp [Op.bytesLess]
    | cons y b =>
      simp only [Op.bytesLess, Bool.or_eq_true, Bool.and_eq_true, decide_eq_true_eq, beq_iff_eq]
      by_cases hxy : x < y
      · exact .inl (.inl hxy)
      · by_cases hyx : y < x
        · exact .inr (.inr (.inl hyx))
        · have he : x = y := UInt8.le_antisymm (UInt8.not_lt.1 hyx) (UInt8.not_lt.1 hxy)
          subst he
          rcases ih b with h | h | h
          · exact .inl (.inr ⟨rfl, h⟩)
          · subst h; exact .inr (.inl rfl)
          · exact .inr (.inr (.inr ⟨rfl, h⟩))

abbrev Reg3 := Int × List UInt8 × List UInt8
def lt3 (a b : Reg3) : Prop := a.1 < b.1 ∨ a.1 = b.1 ∧ (Op.bytesLess a.2.1 b.2.1 = true ∨ a.2.1 = b.2.1 ∧ Op.bytesLess a.2.2 b.2.2 = true)
theorem newerR_lt (n : Int) (y v : List UInt8) (n' : Int) (y' v' : List UInt8) : newerR n y v n' y' v' = true ↔ lt3 (n', y', v') (n, y, v) := by
  have key : ∀ a b : List UInt8, (!(Op.bytesLess a b || a == b)) = true ↔ Op.bytesLess b a = true := by
    intro a b
    rcases bytesLess_tri a b with h | h | h
    · have : Op.bytesLess b a = false := by
        cases hb : Op.bytesLess b a with
        | false => rfl
        | true => have := bytesLess_trans h hb; rw [bytesLess_irrefl] at this; cases this
      simp [h, this]
    · subst h; simp [bytesLess_irrefl]
    · have h1 : Op.bytesLess a b = false := by
        cases hb : Op.bytesLess a b with
        | false => rfl
        | true => have := bytesLess_trans h hb; rw [bytesLess_irrefl] at this; cases this
      have h2 : (a == b) = false := by
        cases he : a == b with
        | false => rfl
        | true => rw [beq_iff_eq] at he; subst he; rw [bytesLess_irrefl] at h; cases h
      simp [h, h1, h2]
  unfold newerR lt3
  by_cases hn : n = n'
  · subst hn
    by_cases hy : y = y'
    · subst hy
      simp only [decide_true, Bool.not_true, Bool.false_eq_true, if_false, beq_self_eq_true, key]
      simp [bytesLess_irrefl]
    · have h1 : (!(y == y')) = true := by simpa using hy
      have h2 : ¬ y' = y := fun e => hy e.symm
      rw [if_neg (by simp), if_pos h1, key]
      simp [h2]
  · rw [if_pos (by simpa using hn)]
    have : ¬ n' = n := fun e => hn e.symm
    simp [this]
theorem lt3_irrefl (a : Reg3) : ¬ lt3 a a := by
  unfold lt3; simp [bytesLess_irrefl]
theorem lt3_trans {a b c : Reg3} (h1 : lt3 a b) (h2 : lt3 b c) : lt3 a c := by
  unfold lt3 at *
  rcases h1 with h1 | ⟨e1, h1⟩ <;> rcases h2 with h2 | ⟨e2, h2⟩
  · left; omega
  · left; omega
  · left; omega
  · right
    refine ⟨by omega, ?_⟩
    rcases h1 with h1 | ⟨f1, h1⟩ <;> rcases h2 with h2 | ⟨f2, h2⟩
    · exact .inl (bytesLess_trans h1 h2)
    · exact .inl (f2 ▸ h1)
    · exact .inl (f1 ▸ h2)
    · exact .inr ⟨f1.trans f2, bytesLess_trans h1 h2⟩
theorem lt3_tri (a b : Reg3) : lt3 a b ∨ a = b ∨ lt3 b a := by
  obtain ⟨n, y, v⟩ := a
  obtain ⟨n', y', v'⟩ := b
  unfold lt3
  by_cases h1 : n < n'
  · exact .inl (.inl h1)
  · by_cases h2 : n' < n
    · exact .inr (.inr (.inl h2))
    · have e : n = n' := by omega
      subst e
      rcases bytesLess_tri y y' with h | h | h
      · exact .inl (.inr ⟨rfl, .inl h⟩)
      · subst h
        rcases bytesLess_tri v v' with h | h | h
        · exact .inl (.inr ⟨rfl, .inr ⟨rfl, h⟩⟩)
        · subst h; exact .inr (.inl rfl)
        · exact .inr (.inr (.inr ⟨rfl, .inr ⟨rfl, h⟩⟩))
      · exact .inr (.inr (.inr ⟨rfl, .inl h⟩))

/-- The newer one of two. -/
def newer3 (a b : Reg3) : Bool := newerR a.1 a.2.1 a.2.2 b.1 b.2.1 b.2.2
def join3 (a b : Reg3) : Reg3 := if newer3 b a then b else a
theorem newer3_lt (a b : Reg3) : newer3 a b = true ↔ lt3 b a := newerR_lt _ _ _ _ _ _
theorem join3_parts (a b : Reg3) : joinN newerR a.1 a.2.1 a.2.2 b.1 b.2.1 b.2.2 = (join3 a b).1 ∧ joinY newerR a.1 a.2.1 a.2.2 b.1 b.2.1 b.2.2 = (join3 a b).2.1 ∧ joinV newerR a.1 a.2.1 a.2.2 b.1 b.2.1 b.2.2 = (join3 a b).2.2 := by
  unfold joinN joinY joinV join3 newer3 selI selL
  split <;> exact ⟨rfl, rfl, rfl⟩
theorem join3_comm (a b : Reg3) : join3 a b = join3 b a := by
  unfold join3
  rcases lt3_tri a b with h | h | h
  · have h1 : newer3 b a = true := (newer3_lt _ _).2 h
    have h2 : ¬ newer3 a b = true := fun e => lt3_irrefl a (lt3_trans h ((newer3_lt _ _).1 e))
    rw [if_pos h1, if_neg h2]
  · subst h; rfl
  · have h1 : newer3 a b = true := (newer3_lt _ _).2 h
    have h2 : ¬ newer3 b a = true := fun e => lt3_irrefl b (lt3_trans h ((newer3_lt _ _).1 e))
    rw [if_pos h1, if_neg h2]
theorem join3_idem (a : Reg3) : join3 a a = a := by unfold join3; split <;> rfl
theorem join3_assoc (a b c : Reg3) : join3 (join3 a b) c = join3 a (join3 b c) := by
  unfold join3
  have tr : ∀ {x y z}, newer3 x y = true → newer3 y z = true → newer3 x z = true := fun {x y z} h1 h2 => (newer3_lt _ _).2 (lt3_trans ((newer3_lt _ _).1 h2) ((newer3_lt _ _).1 h1))
  by_cases h1 : newer3 b a = true
  · rw [if_pos h1]
    by_cases h2 : newer3 c b = true
    · rw [if_pos h2, if_pos (tr h2 h1)]
    · rw [if_neg h2, if_pos h1]
  · rw [if_neg h1]
    by_cases h2 : newer3 c b = true
    · rw [if_pos h2]
    · rw [if_neg h2, if_neg h1]
      by_cases h3 : newer3 c a = true
      · exfalso
        rcases lt3_tri b a with h | h | h
        · exact h2 (tr h3 ((newer3_lt _ _).2 h))
        · subst h; exact h2 h3
        · exact h1 ((newer3_lt _ _).2 h)
      · rw [if_neg h3]
theorem join3_either (a b : Reg3) : join3 a b = a ∨ join3 a b = b := by unfold join3; split; exact .inr rfl; exact .inl rfl
theorem newer3_both (a b : Reg3) : ¬ (newer3 a b = true ∧ newer3 b a = true) := fun ⟨h1, h2⟩ => lt3_irrefl a (lt3_trans ((newer3_lt _ _).1 h2) ((newer3_lt _ _).1 h1))
theorem newer3_tri (a b : Reg3) (h1 : newer3 a b = false) (h2 : newer3 b a = false) : a = b := by
  rcases lt3_tri a b with h | h | h
  · rw [(newer3_lt _ _).2 h] at h2; cases h2
  · exact h
  · rw [(newer3_lt _ _).2 h] at h1; cases h1

end Go.Eng
