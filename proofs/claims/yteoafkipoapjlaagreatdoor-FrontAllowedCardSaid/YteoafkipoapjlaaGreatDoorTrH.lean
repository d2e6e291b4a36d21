/- Loops over lists, as plain functions. -/
import Derived.Test.YteoafkipoapjlaaGreatDoorTrE
import Derived.Lib.Bytealg
namespace Go.Eng
open Go

theorem run_ask {α : Type} {k : Bool} {t : Tree α} (h : k = true) : (ask k t).run = t.run := by subst h; rfl
theorem run_bnd {α β : Type} {t : Tree α} {k : α → Tree β} {a : α} (h : t.run = some a) : (Tree.bnd t k).run = (k a).run := by simp only [Tree.run, h, Option.bind_some]
theorem run_grd {α β : Type} {g : Bool} {t : Tree α} {d : α} {k : α → Tree β} {a : α} (h : t.run = some a) : (Tree.grd g t d k).run = (k a).run := by simp [Tree.run, h]
theorem run_off {α β : Type} {g : Bool} {t : Tree α} {d : α} {k : α → Tree β} (h : g = false) : (Tree.grd g t d k).run = (k (t.run.getD d)).run := by subst h; simp [Tree.run]
theorem run_t {α : Type} {c : Bool} {t e : Tree α} (h : c = true) : (Tree.ite c t e).run = t.run := by subst h; rfl
theorem run_f {α : Type} {c : Bool} {t e : Tree α} (h : c = false) : (Tree.ite c t e).run = e.run := by subst h; rfl
theorem prod_eta {α β : Type} (p : α × β) : (p.1, p.2) = p := rfl
theorem inb_nat (i n : Nat) : inb (i : Int) n = decide (i < n) := by
  show decide ((0 : Int) ≤ i ∧ (i : Int) < n) = _
  simp
theorem inb_zero (n : Nat) : inb 0 n = decide (0 < n) := inb_nat 0 n
theorem inbe_nat (i n : Nat) : inbe (i : Int) n = decide (i ≤ n) := by
  show decide ((0 : Int) ≤ i ∧ (i : Int) ≤ n) = _
  simp
theorem w64_nat (i : Nat) (h : i + 1 ≤ 9223372036854775807) : w64 ((i : Int) + 1) = ((i + 1 : Nat) : Int) := by
  show IntKind.i64.wrap _ = _
  rw [IntKind.wrap_i64]; omega

/-- The loop goes from state to state, and ends. -/
theorem loopF_run {σ α : Type} {st : σ → Option (σ ⊕ α)} {S : Nat → σ} {n : Nat} {a : α} (h : ∀ i, i < n → st (S i) = some (.inl (S (i + 1)))) (h0 : st (S n) = some (.inr a)) {s0 : σ} (hs : s0 = S 0) : loopF st s0 = some a := by
  subst hs
  have key : ∀ d i, i + d = n → loopF st (S i) = some a := by
    intro d
    induction d with
    | zero => intro i hi; have : i = n := hi; subst this; rw [loopF_eq, h0]; rfl
    | succ d ih => intro i hi; rw [loopF_eq, h i (by omega)]; exact ih (i + 1) (by omega)
  exact key n 0 (by omega)

/-- Through a list, till an answer is found. -/
def foldX {β γ α : Type} (f : Nat → β → γ → γ ⊕ α) (e : γ → α) : Nat → List β → γ → α
  | _, [], c => e c
  | i, x :: l, c => match f i x c with
    | .inl c' => foldX f e (i + 1) l c'
    | .inr a => a

def nextX {σ γ α : Type} (S : γ → σ) : γ ⊕ α → σ ⊕ α
  | .inl c => .inl (S c)
  | .inr a => .inr a

theorem loopF_listI {β γ σ α : Type} {st : σ → Option (σ ⊕ α)} (l : List β) (S : Nat → γ → σ) (f : Nat → β → γ → γ ⊕ α) (e : γ → α) (I : Nat → γ → Prop)
    (h1 : ∀ i c (hi : i < l.length), I i c → st (S i c) = some (nextX (S (i + 1)) (f i l[i] c)) ∧ ∀ c', f i l[i] c = .inl c' → I (i + 1) c') (h0 : ∀ c, I l.length c → st (S l.length c) = some (.inr (e c))) (c : γ) (hc : I 0 c) {s0 : σ} (hs : s0 = S 0 c) : loopF st s0 = some (foldX f e 0 l c) := by
  subst hs
  have key : ∀ (d i : Nat) (c : γ), i + d = l.length → I i c → loopF st (S i c) = some (foldX f e i (l.drop i) c) := by
    intro d
    induction d with
    | zero => intro i c hi hI; have : i = l.length := hi; subst this; rw [loopF_eq, h0 c hI, List.drop_length]; rfl
    | succ d ih =>
      intro i c hi hI
      have hlt : i < l.length := by omega
      obtain ⟨k1, k2⟩ := h1 i c hlt hI
      rw [loopF_eq, k1, List.drop_eq_getElem_cons hlt]
      simp only [foldX]
      cases hf : f i l[i] c with
      | inl c' => exact ih (i + 1) c' (by omega) (k2 c' hf)
      | inr a => rfl
  have := key l.length 0 c (by omega) hc
  rwa [List.drop_zero] at this
/-- The first one that is such. -/
theorem loopF_find {β σ α : Type} {st : σ → Option (σ ⊕ α)} (l : List β) (p : β → Bool) (S : Nat → σ) (A : Nat → α) (z : α)
    (h1 : ∀ i (hi : i < l.length), st (S i) = some (bif p l[i] then .inr (A i) else .inl (S (i + 1)))) (h0 : st (S l.length) = some (.inr z)) {s0 : σ} (hs : s0 = S 0) :
    (loopF st s0 = some z ∧ l.any p = false) ∨ ∃ i, ∃ hi : i < l.length, loopF st s0 = some (A i) ∧ p l[i] = true ∧ l.any p = true ∧ ∀ k (hk : k < i), p (l[k]'(by omega)) = false := by
  subst hs
  have key : ∀ (d i : Nat), i + d = l.length → (∀ k (hk : k < i) (hl : k < l.length), p l[k] = false) → (loopF st (S i) = some z ∧ l.any p = false) ∨ ∃ i', ∃ hi : i' < l.length, loopF st (S i) = some (A i') ∧ p l[i'] = true ∧ l.any p = true ∧ ∀ k (hk : k < i'), p (l[k]'(by omega)) = false := by
    intro d
    induction d with
    | zero =>
      intro i hi hx
      have : i = l.length := hi
      subst this
      refine .inl ⟨by rw [loopF_eq, h0]; rfl, ?_⟩
      rw [List.any_eq_false]
      intro x hm
      obtain ⟨k, hk, rfl⟩ := List.mem_iff_getElem.1 hm
      rw [hx k hk hk]; exact Bool.false_ne_true
    | succ d ih =>
      intro i hi hx
      have hlt : i < l.length := by omega
      rw [loopF_eq, h1 i hlt]
      cases hp : p l[i] with
      | true => exact .inr ⟨i, hlt, rfl, hp, List.any_eq_true.2 ⟨_, List.getElem_mem hlt, hp⟩, fun k hk => hx k hk (by omega)⟩
      | false =>
        refine ih (i + 1) (by omega) fun k hk hl => ?_
        by_cases e : k = i
        · subst e; exact hp
        · exact hx k (by omega) hl
  exact key l.length 0 (by omega) fun k hk => absurd hk (Nat.not_lt_zero k)
/-- A text or another one, as all of a list goes by. -/
theorem loopF_any {β σ α : Type} {st : σ → Option (σ ⊕ α)} (l : List β) (p : β → Bool) (S : Nat → σ) (y z : α)
    (h1 : ∀ i (hi : i < l.length), st (S i) = some (bif p l[i] then .inr y else .inl (S (i + 1)))) (h0 : st (S l.length) = some (.inr z)) {s0 : σ} (hs : s0 = S 0) : loopF st s0 = some (bif l.any p then y else z) := by
  rcases loopF_find l p S (fun _ => y) z h1 h0 hs with ⟨h, k⟩ | ⟨i, hi, h, _, k, _⟩
  · rw [h, k]; rfl
  · rw [h, k]; rfl

theorem getD_lt {α : Type} (l : List α) (i : Nat) (d : α) (h : i < l.length) : l.getD i d = l[i] := by simp [List.getD, h]

/-! The order of texts is one. -/
/-! slices.DeleteFunc: what stays is laid ahead. -/
end Go.Eng
