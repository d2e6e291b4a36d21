/- Loops over lists, as plain functions. -/
import Derived.Test.YtapnoaalcbcmaaaTrE
import Derived.Lib.Bytealg
namespace Go.Eng
open Go

theorem run_ask {α : Type} {k : Bool} {t : Tree α} (h : k = true) : (ask k t).run = t.run := by subst h; rfl
theorem run_bnd {α β : Type} {t : Tree α} {k : α → Tree β} {a : α} (h : t.run = some a) : (Tree.bnd t k).run = (k a).run := by simp only [Tree.run, h, Option.bind_some]
theorem run_grd {α β : Type} {g : Bool} {t : Tree α} {d : α} {k : α → Tree β} {a : α} (h : t.run = some a) : (Tree.grd g t d k).run = (k a).run := by simp [Tree.run, h]
theorem run_off {α β : Type} {g : Bool} {t : Tree α} {d : α} {k : α → Tree β} (h : g = false) : (Tree.grd g t d k).run = (k (t.run.getD d)).run := by subst h; simp [Tree.run]
theorem run_t {α : Type} {c : Bool} {t e : Tree α} (h : c = true) : (Tree.ite c t e).run = t.run := by subst h; rfl
theorem run_f {α : Type} {c : Bool} {t e : Tree α} (h : c = false) : (Tree.ite c t e).run = e.run := by subst h; rfl
theorem run_grd_ff {α β : Type} {t : Tree α} {d : α} {k : α → Tree β} {r : β} (h : ∀ a, (k a).run = some r) : (Tree.grd false t d k).run = some r := by simp [Tree.run, h]

theorem prod_eta {α β : Type} (p : α × β) : (p.1, p.2) = p := rfl
theorem inb_nat (i n : Nat) : inb (i : Int) n = decide (i < n) := by
  show decide ((0 : Int) ≤ i ∧ (i : Int) < n) = _
  simp
theorem inb_zero (n : Nat) : inb 0 n = decide (0 < n) := inb_nat 0 n
theorem inbe_nat (i n : Nat) : inbe (i : Int) n = decide (i ≤ n) := by
  show decide ((0 : Int) ≤ i ∧ (i : Int) ≤ n) = _
  simp
theorem w64_nat (i : Nat) (h : i + 1 ≤ 9223372036854775807) : w64 ((i : Int) + 1) = ((i + 1 : Nat) : Int) := by
  show IntKind.i64.wrap _ = _
  rw [IntKind.wrap_i64]; omega

/-- The loop goes from state to state, and ends. -/
theorem loopF_run {σ α : Type} {st : σ → Option (σ ⊕ α)} {S : Nat → σ} {n : Nat} {a : α} (h : ∀ i, i < n → st (S i) = some (.inl (S (i + 1)))) (h0 : st (S n) = some (.inr a)) {s0 : σ} (hs : s0 = S 0) : loopF st s0 = some a := by
  subst hs
  have key : ∀ d i, i + d = n → loopF st (S i) = some a := by
    intro d
    induction d with
    | zero => intro i hi; have : i = n := hi; subst this; rw [loopF_eq, h0]; rfl
    | succ d ih => intro i hi; rw [loopF_eq, h i (by omega)]; exact ih (i + 1) (by omega)
  exact key n 0 (by omega)

/-- The loop comes to an end, in the one way or the other. -/
theorem loopF_tot {σ α : Type} {st : σ → Option (σ ⊕ α)} (S : Nat → σ) (n : Nat) (Q : α → Prop) (h : ∀ i, i < n → st (S i) = some (.inl (S (i + 1))) ∨ ∃ a, st (S i) = some (.inr a) ∧ Q a) (h0 : ∃ a, st (S n) = some (.inr a) ∧ Q a) {s0 : σ} (hs : s0 = S 0) : ∃ a, loopF st s0 = some a ∧ Q a := by
  subst hs
  have key : ∀ d i, i + d = n → ∃ a, loopF st (S i) = some a ∧ Q a := by
    intro d
    induction d with
    | zero => intro i hi; have : i = n := hi; subst this; obtain ⟨a, h1, h2⟩ := h0; exact ⟨a, by rw [loopF_eq, h1]; rfl, h2⟩
    | succ d ih =>
      intro i hi
      rcases h i (by omega) with h1 | ⟨a, h1, h2⟩
      · obtain ⟨a, k1, k2⟩ := ih (i + 1) (by omega); exact ⟨a, by rw [loopF_eq, h1]; exact k1, k2⟩
      · exact ⟨a, by rw [loopF_eq, h1]; rfl, h2⟩
  exact key n 0 (by omega)

/-- Through a list, till an answer is found. -/
def foldX {β γ α : Type} (f : Nat → β → γ → γ ⊕ α) (e : γ → α) : Nat → List β → γ → α
  | _, [], c => e c
  | i, x :: l, c => match f i x c with
    | .inl c' => foldX f e (i + 1) l c'
    | .inr a => a

def nextX {σ γ α : Type} (S : γ → σ) : γ ⊕ α → σ ⊕ α
  | .inl c => .inl (S c)
  | .inr a => .inr a

theorem loopF_listI {β γ σ α : Type} {st : σ → Option (σ ⊕ α)} (l : List β) (S : Nat → γ → σ) (f : Nat → β → γ → γ ⊕ α) (e : γ → α) (I : Nat → γ → Prop)
    (h1 : ∀ i c (hi : i < l.length), I i c → st (S i c) = some (nextX (S (i + 1)) (f i l[i] c)) ∧ ∀ c', f i l[i] c = .inl c' → I (i + 1) c') (h0 : ∀ c, I l.length c → st (S l.length c) = some (.inr (e c))) (c : γ) (hc : I 0 c) {s0 : σ} (hs : s0 = S 0 c) : loopF st s0 = some (foldX f e 0 l c) := by
  subst hs
  have key : ∀ (d i : Nat) (c : γ), i + d = l.length → I i c → loopF st (S i c) = some (foldX f e i (l.drop i) c) := by
    intro d
    induction d with
    | zero => intro i c hi hI; have : i = l.length := hi; subst this; rw [loopF_eq, h0 c hI, List.drop_length]; rfl
    | succ d ih =>
      intro i c hi hI
      have hlt : i < l.length := by omega
      obtain ⟨k1, k2⟩ := h1 i c hlt hI
      rw [loopF_eq, k1, List.drop_eq_getElem_cons hlt]
      simp only [foldX]
      cases hf : f i l[i] c with
      | inl c' => exact ih (i + 1) c' (by omega) (k2 c' hf)
      | inr a => rfl
  have := key l.length 0 c (by omega) hc
  rwa [List.drop_zero] at this
theorem loopF_list {β γ σ α : Type} {st : σ → Option (σ ⊕ α)} (l : List β) (S : Nat → γ → σ) (f : Nat → β → γ → γ ⊕ α) (e : γ → α)
    (h1 : ∀ i c (hi : i < l.length), st (S i c) = some (nextX (S (i + 1)) (f i l[i] c))) (h0 : ∀ c, st (S l.length c) = some (.inr (e c))) (c : γ) {s0 : σ} (hs : s0 = S 0 c) : loopF st s0 = some (foldX f e 0 l c) :=
  loopF_listI l S f e (fun _ _ => True) (fun i c hi _ => ⟨h1 i c hi, fun _ _ => trivial⟩) (fun c _ => h0 c) c trivial hs

/-- The first one that is such. -/
theorem loopF_find {β σ α : Type} {st : σ → Option (σ ⊕ α)} (l : List β) (p : β → Bool) (S : Nat → σ) (A : Nat → α) (z : α)
    (h1 : ∀ i (hi : i < l.length), st (S i) = some (bif p l[i] then .inr (A i) else .inl (S (i + 1)))) (h0 : st (S l.length) = some (.inr z)) {s0 : σ} (hs : s0 = S 0) :
    (loopF st s0 = some z ∧ l.any p = false) ∨ ∃ i, ∃ hi : i < l.length, loopF st s0 = some (A i) ∧ p l[i] = true ∧ l.any p = true ∧ ∀ k (hk : k < i), p (l[k]'(by omega)) = false := by
  subst hs
  have key : ∀ (d i : Nat), i + d = l.length → (∀ k (hk : k < i) (hl : k < l.length), p l[k] = false) → (loopF st (S i) = some z ∧ l.any p = false) ∨ ∃ i', ∃ hi : i' < l.length, loopF st (S i) = some (A i') ∧ p l[i'] = true ∧ l.any p = true ∧ ∀ k (hk : k < i'), p (l[k]'(by omega)) = false := by
    intro d
    induction d with
    | zero =>
      intro i hi hx
      have : i = l.length := hi
      subst this
      refine .inl ⟨by rw [loopF_eq, h0]; rfl, ?_⟩
      rw [List.any_eq_false]
      intro x hm
      obtain ⟨k, hk, rfl⟩ := List.mem_iff_getElem.1 hm
      rw [hx k hk hk]; exact Bool.false_ne_true
    | succ d ih =>
      intro i hi hx
      have hlt : i < l.length := by omega
      rw [loopF_eq, h1 i hlt]
      cases hp : p l[i] with
      | true => exact .inr ⟨i, hlt, rfl, hp, List.any_eq_true.2 ⟨_, List.getElem_mem hlt, hp⟩, fun k hk => hx k hk (by omega)⟩
      | false =>
        refine ih (i + 1) (by omega) fun k hk hl => ?_
        by_cases e : k = i
        · subst e; exact hp
        · exact hx k (by omega) hl
  exact key l.length 0 (by omega) fun k hk => absurd hk (Nat.not_lt_zero k)
/-- A text or another one, as all of a list goes by. -/
theorem loopF_any {β σ α : Type} {st : σ → Option (σ ⊕ α)} (l : List β) (p : β → Bool) (S : Nat → σ) (y z : α)
    (h1 : ∀ i (hi : i < l.length), st (S i) = some (bif p l[i] then .inr y else .inl (S (i + 1)))) (h0 : st (S l.length) = some (.inr z)) {s0 : σ} (hs : s0 = S 0) : loopF st s0 = some (bif l.any p then y else z) := by
  rcases loopF_find l p S (fun _ => y) z h1 h0 hs with ⟨h, k⟩ | ⟨i, hi, h, _, k, _⟩
  · rw [h, k]; rfl
  · rw [h, k]; rfl

theorem getD_lt {α : Type} (l : List α) (i : Nat) (d : α) (h : i < l.length) : l.getD i d = l[i] := by simp [List.getD, h]

theorem compare_bytes (a b : List UInt8) : Lib.compareBytes a b = if a = b then 0 else if Op.bytesLess a b then -1 else 1 := by
  induction a generalizing b with
  | nil => cases b <;> simp [Lib.compareBytes, Op.bytesLess]
  | cons x a ih =>
    cases b with
    | nil => simp [Lib.compareBytes, Op.bytesLess]
    | cons y b =>
      simp only [Lib.compareBytes, Op.bytesLess, ih]
      by_cases h1 : x < y
      · have hne : x ≠ y := fun e => by subst e; exact absurd h1 (UInt8.lt_irrefl x)
        simp [h1, hne]
      · by_cases h2 : y < x
        · have hne : x ≠ y := fun e => by subst e; exact absurd h2 (UInt8.lt_irrefl x)
          simp [h1, h2, hne]
        · have he : x = y := UInt8.le_antisymm (UInt8.not_lt.1 h2) (UInt8.not_lt.1 h1)
          subst he
          simp

/-! The order of texts is one. -/
theorem less_cons (x y : UInt8) (s t : List UInt8) : Op.bytesLess (x :: s) (y :: t) = true ↔ x.toNat < y.toNat ∨ (x.toNat = y.toNat ∧ Op.bytesLess s t = true) := by
  simp only [Op.bytesLess, Bool.or_eq_true, decide_eq_true_eq, Bool.and_eq_true, beq_iff_eq, UInt8.lt_iff_toNat_lt, ← UInt8.toNat_inj]
theorem less_irrefl (s : List UInt8) : Op.bytesLess s s = false := by
  induction s with
  | nil => rfl
  | cons x l ih => simp [Op.bytesLess, ih]
theorem less_asymm {s t : List UInt8} (h : Op.bytesLess s t = true) : Op.bytesLess t s = false := by
  cases k : Op.bytesLess t s with
  | false => rfl
  | true =>
    exfalso
    induction s generalizing t with
    | nil => cases t <;> simp [Op.bytesLess] at h k
    | cons x s ih =>
      cases t with
      | nil => simp [Op.bytesLess] at h
      | cons y t =>
        rw [less_cons] at h k
        rcases h with h | ⟨h1, h⟩ <;> rcases k with k | ⟨k1, k⟩
        · omega
        · omega
        · omega
        · exact ih h k
theorem less_trans {s t u : List UInt8} (h : Op.bytesLess s t = true) (k : Op.bytesLess t u = true) : Op.bytesLess s u = true := by
  induction s generalizing t u with
  | nil => cases u with
    | nil => cases t <;> simp [Op.bytesLess] at k
    | cons => rfl
  | cons x s ih =>
    cases t with
    | nil => simp [Op.bytesLess] at h
    | cons y t =>
      cases u with
      | nil => simp [Op.bytesLess] at k
      | cons z u =>
        rw [less_cons] at h k ⊢
        rcases h with h | ⟨h1, h⟩ <;> rcases k with k | ⟨k1, k⟩
        · left; omega
        · left; omega
        · left; omega
        · right; exact ⟨by omega, ih h k⟩
theorem less_total {s t : List UInt8} (h : Op.bytesLess s t = false) (k : Op.bytesLess t s = false) : s = t := by
  induction s generalizing t with
  | nil => cases t with
    | nil => rfl
    | cons => simp [Op.bytesLess] at h
  | cons x s ih =>
    cases t with
    | nil => simp [Op.bytesLess] at k
    | cons y t =>
      have h' : ¬ _ := fun e => by rw [(less_cons x y s t).2 e] at h; cases h
      have k' : ¬ _ := fun e => by rw [(less_cons y x t s).2 e] at k; cases k
      have e : x.toNat = y.toNat := by
        have h1 : ¬ x.toNat < y.toNat := fun e => h' (.inl e)
        have h2 : ¬ y.toNat < x.toNat := fun e => k' (.inl e)
        omega
      have e' : x = y := UInt8.toNat_inj.1 e
      subst e'
      rw [ih (by cases q : Op.bytesLess s t with | false => rfl | true => exact absurd (.inr ⟨rfl, q⟩) h') (by cases q : Op.bytesLess t s with | false => rfl | true => exact absurd (.inr ⟨rfl, q⟩) k')]

/-! slices.DeleteFunc: what stays is laid ahead. -/
def delStep {α : Type} (p : α → Bool) (i j : Nat) (s : List α) (x : α) : Nat × Nat × List α := match p x with
  | true => (i, j + 1, s)
  | false => (i + 1, j + 1, s.set i x)

theorem loopF_delete {α : Type} {p : α → Bool} {st : (Int × Int × List α) → Option ((Int × Int × List α) ⊕ (Int × List α))} (l : List α)
    (h1 : ∀ (i j : Nat) (s : List α) (hj : j < s.length), i < j → s.length = l.length → st ((i : Int), (j : Int), s) = some (.inl (match p s[j] with | true => ((i : Int), ((j + 1 : Nat) : Int), s) | false => (((i + 1 : Nat) : Int), ((j + 1 : Nat) : Int), s.set i s[j]))))
    (h0 : ∀ (i j : Nat) (s : List α), s.length = l.length → j = s.length → st ((i : Int), (j : Int), s) = some (.inr ((i : Int), s)))
    {i0 : Nat} (hi : i0 < l.length) (hx : ∀ k (hk : k < i0), p (l[k]'(by omega)) = false) (hp : p l[i0] = true) {s0 : Int × Int × List α} (hs : s0 = ((i0 : Int), ((i0 + 1 : Nat) : Int), l)) :
    ∃ (k : Nat) (s : List α), loopF st s0 = some ((k : Int), s) ∧ s.length = l.length ∧ k ≤ l.length ∧ s.take k = l.filter fun x => !p x := by
  subst hs
  have key : ∀ (d i j : Nat) (s : List α), j + d = l.length → i < j → s.length = l.length → s.drop j = l.drop j → s.take i = (l.take j).filter (fun x => !p x) →
      ∃ (k : Nat) (s' : List α), loopF st ((i : Int), (j : Int), s) = some ((k : Int), s') ∧ s'.length = l.length ∧ k ≤ l.length ∧ s'.take k = l.filter fun x => !p x := by
    intro d
    induction d with
    | zero =>
      intro i j s hj hij hs hd ht
      refine ⟨i, s, ?_, hs, by omega, ?_⟩
      · rw [loopF_eq, h0 i j s hs (by omega)]; rfl
      · rw [ht, List.take_of_length_le (by omega)]
    | succ d ih =>
      intro i j s hj hij hs hd ht
      have hjs : j < s.length := by omega
      have hjl : j < l.length := by omega
      have hsj : s[j] = l[j] := by
        have := congrArg (fun k => k[0]?) hd
        simpa [List.getElem?_drop, hjs, hjl] using this
      have hdrop : s.drop (j + 1) = l.drop (j + 1) := by
        have := congrArg (List.drop 1) hd
        simpa [List.drop_drop] using this
      have htk : l.take (j + 1) = l.take j ++ [l[j]] := by rw [List.take_add_one]; simp [hjl]
      rw [loopF_eq, h1 i j s hjs hij hs]
      cases hpj : p s[j] with
      | true =>
        refine ih i (j + 1) s (by omega) (by omega) hs hdrop ?_
        rw [ht, htk, List.filter_append, ← hsj]
        simp [hpj]
      | false =>
        refine ih (i + 1) (j + 1) (s.set i s[j]) (by omega) (by omega) (by rw [List.length_set]; exact hs) ?_ ?_
        · rw [List.drop_set_of_lt (by omega)]; exact hdrop
        · rw [htk, List.filter_append, ← ht, ← hsj]
          have hlt : i < s.length := by omega
          rw [List.take_add_one, List.take_set_of_le (by omega)]
          simp [hlt, hpj]
  refine key (l.length - (i0 + 1)) i0 (i0 + 1) l (by omega) (by omega) rfl rfl ?_
  have htk : l.take (i0 + 1) = l.take i0 ++ [l[i0]] := by rw [List.take_add_one]; simp [hi]
  rw [htk, List.filter_append]
  have h2 : (l.take i0).filter (fun x => !p x) = l.take i0 := by
    rw [List.filter_eq_self]
    intro a ha
    obtain ⟨k, hk, rfl⟩ := List.mem_iff_getElem.1 ha
    have hk' : k < i0 := by rw [List.length_take] at hk; omega
    simp [hx k hk']
  rw [h2]
  simp [hp]

theorem take_clearL {α : Type} (k n : Nat) (z : α) (l : List α) : (clearL k n z l).take k = l.take k := by
  apply List.ext_getElem?
  intro i
  simp only [List.getElem?_take]
  split
  · unfold clearL
    rw [List.getElem?_mapIdx]
    have : decide (k ≤ i ∧ i < k + n) = false := by simp; omega
    cases l[i]? with
    | none => rfl
    | some x => simp only [Option.map_some, this]
  · rfl
theorem length_clearL {α : Type} (k n : Nat) (z : α) (l : List α) : (clearL k n z l).length = l.length := by unfold clearL; simp

end Go.Eng
