/- Loops over lists, as plain functions. -/
import Derived.Test.YthmlpkdgmpbffaaGreatDoorTrE
import Derived.Lib.Bytealg
namespace Go.Eng
open Go

theorem run_ask {α : Type} {k : Bool} {t : Tree α} (h : k = true) : (ask k t).run = t.run := by subst h; rfl
theorem run_bnd {α β : Type} {t : Tree α} {k : α → Tree β} {a : α} (h : t.run = some a) : (Tree.bnd t k).run = (k a).run := by simp only [Tree.run, h, Option.bind_some]
theorem run_grd {α β : Type} {g : Bool} {t : Tree α} {d : α} {k : α → Tree β} {a : α} (h : t.run = some a) : (Tree.grd g t d k).run = (k a).run := by simp [Tree.run, h]
theorem run_t {α : Type} {c : Bool} {t e : Tree α} (h : c = true) : (Tree.ite c t e).run = t.run := by subst h; rfl
theorem run_f {α : Type} {c : Bool} {t e : Tree α} (h : c = false) : (Tree.ite c t e).run = e.run := by subst h; rfl
theorem inbe_nat (i n : Nat) : inbe (i : Int) n = decide (i ≤ n) := by
  show decide ((0 : Int) ≤ i ∧ (i : Int) ≤ n) = _
  simp
/-- The loop goes from state to state, and ends. -/
theorem loopF_run {σ α : Type} {st : σ → Option (σ ⊕ α)} {S : Nat → σ} {n : Nat} {a : α} (h : ∀ i, i < n → st (S i) = some (.inl (S (i + 1)))) (h0 : st (S n) = some (.inr a)) {s0 : σ} (hs : s0 = S 0) : loopF st s0 = some a := by
  subst hs
  have key : ∀ d i, i + d = n → loopF st (S i) = some a := by
    intro d
    induction d with
    | zero => intro i hi; have : i = n := hi; subst this; rw [loopF_eq, h0]; rfl
    | succ d ih => intro i hi; rw [loopF_eq, h i (by omega)]; exact ih (i + 1) (by omega)
  exact key n 0 (by omega)

theorem getD_lt {α : Type} (l : List α) (i : Nat) (d : α) (h : i < l.length) : l.getD i d = l[i] := by simp [List.getD, h]

/-! The order of texts is one. -/
/-! slices.DeleteFunc: what stays is laid ahead. -/
end Go.Eng
