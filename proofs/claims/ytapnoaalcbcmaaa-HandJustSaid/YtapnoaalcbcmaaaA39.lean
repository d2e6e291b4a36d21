/- Laws in plain Lean: setl ins a39 b39. -/
import Derived.Test.YtapnoaalcbcmaaaM39
import Derived.Test.YtapnoaalcbcmaaaTrS
import Derived.Test.YtapnoaalcbcmaaaTrI
import Derived.Test.YtapnoaalcbcmaaaTrH
namespace Go.Eng
open Go Go.Proofs Go.RowKit

/-! Orders, and rising lists. -/
structure SO {α : Type} (lt : α → α → Bool) : Prop where
  irr : ∀ a, lt a a = false
  tr : ∀ a b c, lt a b = true → lt b c = true → lt a c = true
  tot : ∀ a b, lt a b = false → lt b a = false → a = b
theorem SO.asym {α : Type} {lt : α → α → Bool} (h : SO lt) {a b : α} (k : lt a b = true) : lt b a = false := by
  cases e : lt b a with
  | false => rfl
  | true => have := h.tr _ _ _ k e; rw [h.irr] at this; cases this
theorem soI : SO (fun a b : Int => decide (a < b)) := ⟨fun a => by simp, fun a b c h k => by simp only [decide_eq_true_eq] at *; omega, fun a b h k => by simp only [decide_eq_false_iff_not] at *; omega⟩
theorem soS : SO ltS := ⟨less_irrefl, fun a b c h k => less_trans h k, fun a b h k => less_total h k⟩
/-- Two rising lists of the same are one. -/
theorem SO.uniq {α : Type} {lt : α → α → Bool} (h : SO lt) {a b : List α} (ha : a.Pairwise fun x y => lt x y = true) (hb : b.Pairwise fun x y => lt x y = true) (hm : ∀ x, x ∈ a ↔ x ∈ b) : a = b := by
  induction a generalizing b with
  | nil =>
    cases b with
    | nil => rfl
    | cons y b => exact absurd ((hm y).2 List.mem_cons_self) List.not_mem_nil
  | cons x a ih =>
    cases b with
    | nil => exact absurd ((hm x).1 List.mem_cons_self) List.not_mem_nil
    | cons y b =>
      obtain ⟨a1, a2⟩ := List.pairwise_cons.1 ha
      obtain ⟨b1, b2⟩ := List.pairwise_cons.1 hb
      have e : x = y := by
        rcases List.mem_cons.1 ((hm x).1 List.mem_cons_self) with e | hx
        · exact e
        rcases List.mem_cons.1 ((hm y).2 List.mem_cons_self) with e | hy
        · exact e.symm
        have h1 := b1 x hx
        have h2 := a1 y hy
        rw [h.asym h1] at h2; cases h2
      subst e
      rw [ih a2 b2 fun z => ⟨fun hz => ?_, fun hz => ?_⟩]
      · rcases List.mem_cons.1 ((hm z).1 (List.mem_cons_of_mem _ hz)) with e | k
        · subst e; have := a1 z hz; rw [h.irr] at this; cases this
        · exact k
      · rcases List.mem_cons.1 ((hm z).2 (List.mem_cons_of_mem _ hz)) with e | k
        · subst e; have := b1 z hz; rw [h.irr] at this; cases this
        · exact k
theorem compFrom_ok {α : Type} {lt eq : α → α → Bool} (h : SO lt) (he : ∀ a b, eq a b = true ↔ a = b) (x : α) (l : List α) (hs : (x :: l).Pairwise fun a b => lt b a = false) :
    (x :: compFrom eq x l).Pairwise (fun a b => lt a b = true) ∧ (∀ z, z ∈ x :: compFrom eq x l ↔ z ∈ x :: l) ∧ (compFrom eq x l).length ≤ l.length := by
  induction l generalizing x with
  | nil => exact ⟨List.pairwise_singleton _ _, fun z => Iff.rfl, Nat.le_refl _⟩
  | cons y l ih =>
    obtain ⟨h1, h2⟩ := List.pairwise_cons.1 hs
    obtain ⟨h3, h4⟩ := List.pairwise_cons.1 h2
    simp only [compFrom]
    cases hq : eq y x with
    | true =>
      have e := (he y x).1 hq
      subst e
      obtain ⟨k1, k2, k3⟩ := ih y (List.pairwise_cons.2 ⟨h3, h4⟩)
      refine ⟨k1, fun z => ?_, by simp; omega⟩
      rw [k2 z]; simp
    | false =>
      obtain ⟨k1, k2, k3⟩ := ih y h2
      have hxy : lt x y = true := by
        cases hb : lt x y with
        | true => rfl
        | false =>
          have e := h.tot x y hb (h1 y List.mem_cons_self)
          subst e
          rw [(he x x).2 rfl] at hq; cases hq
      refine ⟨List.pairwise_cons.2 ⟨fun z hz => ?_, k1⟩, fun z => ?_, by simp; omega⟩
      · rcases List.mem_cons.1 hz with e | hz
        · subst e; exact hxy
        · exact h.tr _ _ _ hxy ((List.pairwise_cons.1 k1).1 z hz)
      · rw [List.mem_cons, k2 z, List.mem_cons (b := x)]
theorem compL_ok {α : Type} {lt eq : α → α → Bool} (h : SO lt) (he : ∀ a b, eq a b = true ↔ a = b) (l : List α) (hs : l.Pairwise fun a b => lt b a = false) :
    (compL eq l).Pairwise (fun a b => lt a b = true) ∧ (∀ z, z ∈ compL eq l ↔ z ∈ l) ∧ (compL eq l).length ≤ l.length := by
  cases l with
  | nil => exact ⟨List.Pairwise.nil, fun z => Iff.rfl, Nat.le_refl _⟩
  | cons x l =>
    obtain ⟨k1, k2, k3⟩ := compFrom_ok h he x l hs
    exact ⟨k1, k2, by simp [compL]; omega⟩
def setI (l : List Int) : List Int := compL eqI (sortI l)
def setS (l : List Str) : List Str := compL eqS (sortS l)
theorem setI_ok (l : List Int) : (setI l).Pairwise (fun a b => decide (a < b) = true) ∧ (∀ z, z ∈ setI l ↔ z ∈ l) ∧ (setI l).length ≤ l.length := by
  have hs := isortB_sorted (le := leI) (fun a b c h k => by unfold leI at *; simp only [decide_eq_true_eq] at *; omega) (fun a b h => by unfold leI at *; simp only [decide_eq_true_eq, decide_eq_false_iff_not] at *; omega) l
  obtain ⟨k1, k2, k3⟩ := compL_ok soI (eq := eqI) (fun a b => by unfold eqI; simp) (sortI l) (hs.imp fun {a b} h => by unfold leI at h; simp only [decide_eq_true_eq, decide_eq_false_iff_not] at *; omega)
  exact ⟨k1, fun z => (k2 z).trans (isortB_perm _ l).mem_iff, by rw [(isortB_perm leI l).length_eq] at k3; exact k3⟩
theorem setS_ok (l : List Str) : (setS l).Pairwise (fun a b => ltS a b = true) ∧ (∀ z, z ∈ setS l ↔ z ∈ l) ∧ (setS l).length ≤ l.length := by
  have hs := isortB_sorted (le := leS) leS_trans leS_total l
  obtain ⟨k1, k2, k3⟩ := compL_ok soS (eq := eqS) (fun a b => by unfold eqS; simp) (sortS l) (hs.imp fun {a b} h => by unfold leS at h; simpa using h)
  exact ⟨k1, fun z => (k2 z).trans (isortB_perm _ l).mem_iff, by rw [(isortB_perm leS l).length_eq] at k3; exact k3⟩
/-- One more, in its place, once. -/
def insL {α : Type} (lt : α → α → Bool) (x : α) : List α → List α
  | [] => [x]
  | y :: l => match lt y x with | true => y :: insL lt x l | false => match lt x y with | true => x :: y :: l | false => y :: l
theorem insL_ok {α : Type} {lt : α → α → Bool} (h : SO lt) (x : α) {l : List α} (hs : l.Pairwise fun a b => lt a b = true) :
    (insL lt x l).Pairwise (fun a b => lt a b = true) ∧ (∀ z, z ∈ insL lt x l ↔ z = x ∨ z ∈ l) ∧ (insL lt x l).length ≤ l.length + 1 := by
  induction l with
  | nil => exact ⟨List.pairwise_singleton _ _, fun z => by simp [insL], by simp [insL]⟩
  | cons y l ih =>
    obtain ⟨h1, h2⟩ := List.pairwise_cons.1 hs
    obtain ⟨k1, k2, k3⟩ := ih h2
    simp only [insL]
    cases hb : lt y x with
    | true =>
      refine ⟨List.pairwise_cons.2 ⟨fun z hz => ?_, k1⟩, fun z => ?_, by simp; omega⟩
      · rcases (k2 z).1 hz with rfl | hz
        · exact hb
        · exact h1 z hz
      · rw [List.mem_cons, k2 z, List.mem_cons]
        constructor
        · rintro (h | h | h)
          · exact .inr (.inl h)
          · exact .inl h
          · exact .inr (.inr h)
        · rintro (h | h | h)
          · exact .inr (.inl h)
          · exact .inl h
          · exact .inr (.inr h)
    | false =>
      cases hc : lt x y with
      | true =>
        refine ⟨List.pairwise_cons.2 ⟨fun z hz => ?_, hs⟩, fun z => by simp, by simp⟩
        rcases List.mem_cons.1 hz with rfl | hz
        · exact hc
        · exact h.tr _ _ _ hc (h1 z hz)
      | false =>
        have e := h.tot x y hc hb
        subst e
        exact ⟨hs, fun z => by simp, by simp⟩
def insAll {α : Type} (lt : α → α → Bool) (acc l : List α) : List α := l.foldl (fun acc x => insL lt x acc) acc
theorem insAll_ok {α : Type} {lt : α → α → Bool} (h : SO lt) (l : List α) {acc : List α} (hs : acc.Pairwise fun a b => lt a b = true) :
    (insAll lt acc l).Pairwise (fun a b => lt a b = true) ∧ (∀ z, z ∈ insAll lt acc l ↔ z ∈ acc ∨ z ∈ l) ∧ (insAll lt acc l).length ≤ acc.length + l.length := by
  induction l generalizing acc with
  | nil => exact ⟨hs, fun z => by simp [insAll], by simp [insAll]⟩
  | cons x l ih =>
    obtain ⟨k1, k2, k3⟩ := insL_ok h x hs
    obtain ⟨j1, j2, j3⟩ := ih k1
    refine ⟨j1, fun z => ?_, ?_⟩
    · show z ∈ insAll lt (insL lt x acc) l ↔ _
      rw [j2 z, k2 z, List.mem_cons]
      constructor
      · rintro ((h | h) | h)
        · exact .inr (.inl h)
        · exact .inl h
        · exact .inr (.inr h)
      · rintro (h | h | h)
        · exact .inl (.inr h)
        · exact .inl (.inl h)
        · exact .inr h
    · show (insAll lt (insL lt x acc) l).length ≤ _
      simp only [List.length_cons]; omega
theorem insAll_setI (l : List Int) : insAll (fun a b => decide (a < b)) [] l = setI l := by
  obtain ⟨k1, k2, _⟩ := insAll_ok soI l (acc := []) List.Pairwise.nil
  obtain ⟨j1, j2, _⟩ := setI_ok l
  exact soI.uniq k1 j1 fun z => by rw [k2, j2]; simp
theorem insAll_setS (l : List Str) : insAll ltS [] l = setS l := by
  obtain ⟨k1, k2, _⟩ := insAll_ok soS l (acc := []) List.Pairwise.nil
  obtain ⟨j1, j2, _⟩ := setS_ok l
  exact soS.uniq k1 j1 fun z => by rw [k2, j2]; simp

/-! Loops, once more. -/
theorem loopF_mu {σ α : Type} {st : σ → Option (σ ⊕ α)} (I : σ → Prop) (mu : σ → Nat) (Q : α → Prop) (h : ∀ s, I s → (∃ s', st s = some (.inl s') ∧ I s' ∧ mu s' < mu s) ∨ ∃ a, st s = some (.inr a) ∧ Q a) {s0 : σ} (h0 : I s0) : ∃ a, loopF st s0 = some a ∧ Q a := by
  have key : ∀ n s, mu s ≤ n → I s → ∃ a, loopF st s = some a ∧ Q a := by
    intro n
    induction n with
    | zero =>
      intro s hn hs
      rcases h s hs with ⟨s', _, _, h3⟩ | ⟨a, h1, h2⟩
      · omega
      · exact ⟨a, by rw [loopF_eq, h1]; rfl, h2⟩
    | succ n ih =>
      intro s hn hs
      rcases h s hs with ⟨s', h1, h2, h3⟩ | ⟨a, h1, h2⟩
      · obtain ⟨a, k1, k2⟩ := ih s' (by omega) h2
        exact ⟨a, by rw [loopF_eq, h1]; exact k1, k2⟩
      · exact ⟨a, by rw [loopF_eq, h1]; rfl, h2⟩
  exact key _ s0 (Nat.le_refl _) h0
theorem imax_eq (a b : Int) : std.imax a b = max a b := by
  show (if b > a then b else a) = _
  split <;> omega
/-- The place of the first one that is not less. -/
def geI {α : Type} (lt : α → α → Bool) (x : α) : List α → Nat
  | [] => 0
  | y :: l => match lt y x with | true => geI lt x l + 1 | false => 0
theorem geI_le {α : Type} (lt : α → α → Bool) (x : α) (l : List α) : geI lt x l ≤ l.length := by
  induction l with
  | nil => exact Nat.le_refl _
  | cons y l ih => simp only [geI]; cases lt y x <;> simp; omega
theorem geI_lt {α : Type} (lt : α → α → Bool) (x : α) (l : List α) (i : Nat) (hi : i < geI lt x l) (hl : i < l.length) : lt l[i] x = true := by
  induction l generalizing i with
  | nil => exact absurd hl (Nat.not_lt_zero _)
  | cons y l ih =>
    simp only [geI] at hi
    cases hy : lt y x with
    | false => rw [hy] at hi; exact absurd hi (Nat.not_lt_zero _)
    | true =>
      rw [hy] at hi
      cases i with
      | zero => exact hy
      | succ i => exact ih i (by have hi : i + 1 < geI lt x l + 1 := hi; omega) (by simpa using hl)
theorem geI_at {α : Type} (lt : α → α → Bool) (x : α) (l : List α) (hl : geI lt x l < l.length) : lt l[geI lt x l] x = false := by
  induction l with
  | nil => exact absurd hl (Nat.not_lt_zero _)
  | cons y l ih =>
    cases hy : lt y x with
    | false =>
      have e : geI lt x (y :: l) = 0 := by simp only [geI, hy]
      simp only [e, List.getElem_cons_zero, hy]
    | true =>
      have e : geI lt x (y :: l) = geI lt x l + 1 := by simp only [geI, hy]
      simp only [e, List.getElem_cons_succ]
      exact ih (by rw [e] at hl; simpa using hl)
theorem ge_loop {α : Type} (lt : α → α → Bool) (x : α) (l : List α) (st : Int → Tree (Int ⊕ Int)) (hl : l.length ≤ 1000000)
    (h : ∀ i (hi : i < l.length), (st (i : Int)).run = some (bif lt l[i] x then .inl (w64 ((i : Int) + 1)) else .inr (i : Int))) (h0 : (st (l.length : Int)).run = some (.inr (l.length : Int))) :
    loopF (fun v => (st v).run) 0 = some ((geI lt x l : Nat) : Int) := by
  have hle := geI_le lt x l
  refine loopF_run (S := fun i => (i : Int)) (n := geI lt x l) (fun i hi => ?_) ?_ rfl
  · rw [h i (by omega), geI_lt lt x l i hi (by omega), w64_i i (by omega)]; rfl
  · by_cases hlt : geI lt x l < l.length
    · rw [h _ hlt, geI_at lt x l hlt]; rfl
    · have : geI lt x l = l.length := by omega
      rw [this]; exact h0
theorem insL_ge {α : Type} {lt : α → α → Bool} (x : α) (l : List α) : insL lt x l = if h : geI lt x l < l.length then (if lt x l[geI lt x l] = true then l.take (geI lt x l) ++ x :: l.drop (geI lt x l) else l) else l ++ [x] := by
  induction l with
  | nil => rfl
  | cons y l ih =>
    simp only [insL]
    cases hy : lt y x with
    | false =>
      have e : geI lt x (y :: l) = 0 := by simp only [geI, hy]
      simp only [e, List.length_cons, Nat.zero_lt_succ, dite_true, List.getElem_cons_zero, List.take_zero, List.drop_zero, List.nil_append]
      cases lt x y <;> rfl
    | true =>
      have e : geI lt x (y :: l) = geI lt x l + 1 := by simp only [geI, hy]
      simp only [e, List.length_cons, Nat.add_lt_add_iff_right, List.getElem_cons_succ, List.take_succ_cons, List.drop_succ_cons, List.cons_append]
      rw [ih]
      split
      · split <;> rfl
      · rfl
theorem sameL_dec {α : Type} [DecidableEq α] {e : α → α → Bool} (a b : List α) (h : ∀ x ∈ a, ∀ y, e x y = decide (x = y)) : sameL e a b = decide (a = b) := by
  induction a generalizing b with
  | nil => cases b <;> simp [sameL]
  | cons x a ih =>
    cases b with
    | nil => simp [sameL]
    | cons y b =>
      simp only [sameL, h x List.mem_cons_self, ih b fun z hz => h z (List.mem_cons_of_mem _ hz)]
      by_cases h1 : x = y <;> by_cases h2 : a = b <;> simp [h1, h2]


/-! Maps by texts, of any elements. -/
section
variable {u : Ty}
def ApsM (x : List (El .str × El u)) : Prop := x.Pairwise fun a b => a.1 ≠ b.1
theorem gM_nil (q : Str) : getM .str u [] q = none := rfl
theorem gM_cons (p : El .str × El u) (x : List (El .str × El u)) (q : Str) : getM .str u (p :: x) q = if q = p.1 then some p.2 else getM .str u x q := by
  show (bif (q == p.1) then some p.2 else getM .str u x q) = _
  by_cases e : q = p.1
  · rw [if_pos e, beq_iff_eq.2 e]; rfl
  · rw [if_neg e, beq_eq_false_iff_ne.2 e]; rfl
theorem pM_cons (p : El .str × El u) (x : List (El .str × El u)) (k : Str) (v : El u) : putM .str u (p :: x) k v = if k = p.1 then (k, v) :: x else p :: putM .str u x k v := by
  show (bif (k == p.1) then (k, v) :: x else p :: putM .str u x k v) = _
  by_cases e : k = p.1
  · rw [if_pos e, beq_iff_eq.2 e]; rfl
  · rw [if_neg e, beq_eq_false_iff_ne.2 e]; rfl
theorem dM_cons (p : El .str × El u) (x : List (El .str × El u)) (k : Str) : delM .str u (p :: x) k = if k = p.1 then x else p :: delM .str u x k := by
  show (bif (k == p.1) then x else p :: delM .str u x k) = _
  by_cases e : k = p.1
  · rw [if_pos e, beq_iff_eq.2 e]; rfl
  · rw [if_neg e, beq_eq_false_iff_ne.2 e]; rfl
theorem gM_put (x : List (El .str × El u)) (k : Str) (v : El u) (q : Str) : getM .str u (putM .str u x k v) q = if q = k then some v else getM .str u x q := by
  induction x with
  | nil => exact gM_cons (k, v) [] q
  | cons p x ih =>
    rw [pM_cons]
    by_cases e : k = p.1
    · rw [if_pos e, gM_cons, gM_cons]
      by_cases e2 : q = k
      · rw [if_pos e2, if_pos e2]
      · rw [if_neg e2, if_neg e2, if_neg (fun h => e2 (h.trans e.symm))]
    · rw [if_neg e, gM_cons, gM_cons, ih]
      by_cases e2 : q = p.1
      · rw [if_pos e2, if_pos e2, if_neg (fun h => e (h.symm.trans e2))]
      · rw [if_neg e2, if_neg e2]
theorem gM_out (x : List (El .str × El u)) (k : Str) (h : ∀ p ∈ x, p.1 ≠ k) : getM .str u x k = none := by
  induction x with
  | nil => rfl
  | cons p x ih => rw [gM_cons, if_neg (fun e => h p List.mem_cons_self e.symm)]; exact ih fun q hq => h q (List.mem_cons_of_mem _ hq)
theorem gM_del (x : List (El .str × El u)) (hx : ApsM x) (k q : Str) : getM .str u (delM .str u x k) q = if q = k then none else getM .str u x q := by
  induction x with
  | nil => show (none : Option (El u)) = if q = k then none else none; split <;> rfl
  | cons p x ih =>
    obtain ⟨h1, h2⟩ := List.pairwise_cons.1 hx
    rw [dM_cons]
    by_cases e : k = p.1
    · rw [if_pos e, gM_cons]
      by_cases e2 : q = k
      · rw [if_pos e2]; exact gM_out x q fun p' hp => fun h => h1 p' hp (by rw [← e, ← e2, h])
      · rw [if_neg e2, if_neg (fun h => e2 (h.trans e.symm))]
    · rw [if_neg e, gM_cons, gM_cons, ih h2]
      by_cases e2 : q = p.1
      · rw [if_pos e2, if_pos e2, if_neg (fun h => e (h.symm.trans e2))]
      · rw [if_neg e2, if_neg e2]
theorem gM_some {x : List (El .str × El u)} {q : Str} {v : El u} (h : getM .str u x q = some v) : (q, v) ∈ x := by
  induction x with
  | nil => cases h
  | cons p x ih =>
    rw [gM_cons] at h
    split at h
    · rename_i e
      injection h with h
      rw [e, ← h]; exact List.mem_cons_self
    · exact List.mem_cons_of_mem _ (ih h)
theorem gM_mem {x : List (El .str × El u)} (hx : ApsM x) {p : El .str × El u} (hp : p ∈ x) : getM .str u x p.1 = some p.2 := by
  induction x with
  | nil => cases hp
  | cons q x ih =>
    obtain ⟨h1, h2⟩ := List.pairwise_cons.1 hx
    rw [gM_cons]
    rcases List.mem_cons.1 hp with e | hp
    · rw [e, if_pos rfl]
    · rw [if_neg (fun e => h1 p hp e.symm)]; exact ih h2 hp
theorem gM_iff {x : List (El .str × El u)} {q : Str} : getM .str u x q ≠ none ↔ q ∈ x.map (·.1) := by
  constructor
  · intro h
    cases hg : getM .str u x q with
    | none => exact absurd hg h
    | some v => exact List.mem_map.2 ⟨_, gM_some hg, rfl⟩
  · intro h hn
    obtain ⟨p, hp, rfl⟩ := List.mem_map.1 h
    clear h
    revert hp hn
    induction x with
    | nil => intro hp _; cases hp
    | cons r x ih =>
      intro hp hn
      rw [gM_cons] at hn
      split at hn
      · cases hn
      · rename_i e
        rcases List.mem_cons.1 hp with e2 | hp
        · exact e (by rw [e2])
        · exact ih hp hn
theorem apsM_put {x : List (El .str × El u)} (h : ApsM x) (k : Str) (v : El u) : ApsM (putM .str u x k v) := pairwise_put (t := .str) (u := u) rfl h k v
theorem apsM_del {x : List (El .str × El u)} (h : ApsM x) (k : Str) : ApsM (delM .str u x k) := List.Pairwise.sublist (del_sub (t := .str) (u := u) x k) h
theorem lenM_put (x : List (El .str × El u)) (k : Str) (v : El u) : (putM .str u x k v).length ≤ x.length + 1 := by
  induction x with
  | nil => exact Nat.le_refl _
  | cons p x ih =>
    rw [pM_cons]
    split
    · simp only [List.length_cons]; omega
    · simp only [List.length_cons]; omega
theorem memM_put {x : List (El .str × El u)} {k : Str} {v : El u} {p : El .str × El u} (h : p ∈ putM .str u x k v) : p = (k, v) ∨ p ∈ x ∧ p.1 ≠ k ∨ p ∈ x := by
  induction x with
  | nil => exact .inl (List.mem_singleton.1 h)
  | cons q x ih =>
    rw [pM_cons] at h
    split at h
    · rcases List.mem_cons.1 h with h | h
      · exact .inl h
      · exact .inr (.inr (List.mem_cons_of_mem _ h))
    · rcases List.mem_cons.1 h with h | h
      · exact .inr (.inr (h ▸ List.mem_cons_self))
      · rcases ih h with e | e | e
        · exact .inl e
        · exact .inr (.inr (List.mem_cons_of_mem _ e.1))
        · exact .inr (.inr (List.mem_cons_of_mem _ e))
end

/-! What is handed over: the entries of a map, and the inner maps. -/
abbrev HX : Type := List (El .str × El famU)
abbrev SM : Type := List (Str × Int)
abbrev HY : Type := List SM
abbrev gF (F : Fam) (q : Str) : Option (El viewT) := getM .str viewT (famView F.1 F.2) q
theorem gF_eq (F : Fam) (q : Str) : gF F q = (getM .str famU F.1 q).map fun e => (e.1, e.2.1, F.2.getD (e.2.2.toNat + 1) []) := by
  obtain ⟨X, Y⟩ := F
  show getM .str viewT (famView X Y) q = _
  induction X with
  | nil => rfl
  | cons p X ih =>
    show getM .str viewT (_ :: famView X Y) q = (getM .str famU (p :: X) q).map _
    rw [gM_cons, gM_cons]
    by_cases e : q = p.1
    · rw [if_pos e, if_pos e]; rfl
    · rw [if_neg e, if_neg e]; exact ih
structure FOk (n : Nat) (F : Fam) : Prop where
  aps : ApsM (u := famU) F.1
  plc : ∀ p ∈ F.1, 0 ≤ p.2.2.2 ∧ p.2.2.2.toNat + 1 < F.2.length
  apt : F.1.Pairwise fun a b => a.2.2.2 ≠ b.2.2.2
  lx : F.1.length ≤ n
  ly : F.2.length ≤ n + 1
  lm : ∀ m ∈ F.2, List.length m ≤ n * 1000
theorem FOk.nil : FOk 0 ([], []) := ⟨List.Pairwise.nil, (fun _ h => by cases h), List.Pairwise.nil, Nat.le_refl _, Nat.zero_le _, (fun _ h => by cases h)⟩
theorem FOk.mono {n n' : Nat} {F : Fam} (h : FOk n F) (hn : n ≤ n') : FOk n' F := ⟨h.aps, h.plc, h.apt, Nat.le_trans h.lx hn, Nat.le_trans h.ly (by omega), fun m hm => Nat.le_trans (h.lm m hm) (Nat.mul_le_mul_right _ hn)⟩
theorem FOk.plcG {n : Nat} {F : Fam} (h : FOk n F) {q : Str} {e : El famU} (hq : getM .str famU F.1 q = some e) : 0 ≤ e.2.2 ∧ e.2.2.toNat + 1 < F.2.length := h.plc _ (gM_some hq)
theorem FOk.inj {n : Nat} {F : Fam} (h : FOk n F) {q q' : Str} {e e' : El famU} (hq : getM .str famU F.1 q = some e) (hq' : getM .str famU F.1 q' = some e') (he : e.2.2.toNat = e'.2.2.toNat) : q = q' := by
  have h1 := gM_some hq
  have h2 := gM_some hq'
  have e1 : 0 ≤ e.2.2 := (h.plc _ h1).1
  have e2 : 0 ≤ e'.2.2 := (h.plc _ h2).1
  have hz : e.2.2 = e'.2.2 := by
    have he : e.2.2.toNat = e'.2.2.toNat := he
    have h3 := Int.toNat_of_nonneg e1
    have h4 := Int.toNat_of_nonneg e2
    rw [← h3, ← h4, he]
  refine Classical.byContradiction fun hne => ?_
  have key : ∀ {l : HX}, (l.Pairwise fun a b => a.2.2.2 ≠ b.2.2.2) → (q, e) ∈ l → (q', e') ∈ l → False := fun {l} hl => by
    induction l with
    | nil => intro h; cases h
    | cons p l ih =>
      obtain ⟨k1, k2⟩ := List.pairwise_cons.1 hl
      intro m1 m2
      rcases List.mem_cons.1 m1 with m1 | m1
      · rcases List.mem_cons.1 m2 with m2 | m2
        · exact hne (by rw [← m1] at m2; exact (congrArg Prod.fst m2).symm)
        · exact k1 _ m2 (by rw [← m1]; exact hz)
      · rcases List.mem_cons.1 m2 with m2 | m2
        · exact k1 _ m1 (by rw [← m2]; exact hz.symm)
        · exact ih k2 m1 m2
  exact key h.apt h1 h2

/-! One is begun. -/
def y0F (Y : HY) : HY := if Y.length = 0 then [[]] else Y
def startF (F : Fam) (k : Str) (n : Int) (d : Str) : Fam := (putM .str famU F.1 k (n, d, (((y0F F.2).length - 1 : Nat) : Int)), y0F F.2 ++ [[]])
theorem y0F_len (Y : HY) : 1 ≤ (y0F Y).length ∧ Y.length ≤ (y0F Y).length ∧ ((y0F Y).length ≤ Y.length + 1) ∧ (0 < Y.length → y0F Y = Y) := by
  unfold y0F
  split
  · exact ⟨Nat.le_refl _, by rw [‹Y.length = 0›]; exact Nat.zero_le _, by rw [‹Y.length = 0›]; exact Nat.le_refl _, fun h => by omega⟩
  · exact ⟨by omega, Nat.le_refl _, Nat.le_succ _, fun _ => rfl⟩
theorem start_gF {n : Nat} {F : Fam} (h : FOk n F) (k : Str) (a : Int) (d : Str) (q : Str) : gF (startF F k a d) q = if q = k then some (a, d, []) else gF F q := by
  obtain ⟨l1, l2, l3, l4⟩ := y0F_len F.2
  rw [gF_eq, gF_eq]
  show (getM .str famU (putM .str famU F.1 k _) q).map _ = _
  rw [gM_put]
  by_cases e : q = k
  · rw [if_pos e, if_pos e]
    show some (a, d, (y0F F.2 ++ [[]]).getD ((((y0F F.2).length - 1 : Nat) : Int).toNat + 1) []) = _
    rw [Int.toNat_natCast, List.getD_eq_getElem?_getD, List.getElem?_append_right (by omega)]
    have : (y0F F.2).length - 1 + 1 - (y0F F.2).length = 0 := by omega
    rw [this]; rfl
  · rw [if_neg e, if_neg e]
    cases hg : getM .str famU F.1 q with
    | none => rfl
    | some e =>
      obtain ⟨_, p2⟩ := h.plcG hg
      show some (e.1, e.2.1, (y0F F.2 ++ [[]]).getD (e.2.2.toNat + 1) []) = some (e.1, e.2.1, F.2.getD (e.2.2.toNat + 1) [])
      rw [l4 (by omega), List.getD_eq_getElem?_getD, List.getD_eq_getElem?_getD, List.getElem?_append_left p2]
theorem start_ok {n : Nat} {F : Fam} (h : FOk n F) (k : Str) (a : Int) (d : Str) : FOk (n + 1) (startF F k a d) := by
  obtain ⟨l1, l2, l3, l4⟩ := y0F_len F.2
  have hx := lenM_put (u := famU) F.1 k (a, d, (((y0F F.2).length - 1 : Nat) : Int))
  refine ⟨apsM_put h.aps k _, fun p hp => ?_, ?_, Nat.le_trans hx (Nat.succ_le_succ h.lx), ?_, fun m hm => ?_⟩
  · show 0 ≤ p.2.2.2 ∧ p.2.2.2.toNat + 1 < (y0F F.2 ++ [[]]).length
    rw [List.length_append, List.length_singleton]
    rcases memM_put hp with e | hp | hp
    · rw [e]
      show (0 : Int) ≤ (((y0F F.2).length - 1 : Nat) : Int) ∧ (((y0F F.2).length - 1 : Nat) : Int).toNat + 1 < _
      rw [Int.toNat_natCast]; omega
    · have := h.plc p hp.1; omega
    · have := h.plc p hp; omega
  · show (putM .str famU F.1 k (a, d, (((y0F F.2).length - 1 : Nat) : Int))).Pairwise fun a b => a.2.2.2 ≠ b.2.2.2
    have hnew : ∀ p ∈ F.1, p.2.2.2 ≠ (((y0F F.2).length - 1 : Nat) : Int) := fun p hp e => by
      have := h.plc p hp
      rw [e, Int.toNat_natCast, l4 (by omega)] at this
      omega
    have key : ∀ l : HX, (∀ p ∈ l, p.2.2.2 ≠ (((y0F F.2).length - 1 : Nat) : Int)) → (l.Pairwise fun a b => a.2.2.2 ≠ b.2.2.2) → (putM .str famU l k (a, d, (((y0F F.2).length - 1 : Nat) : Int))).Pairwise fun a b => a.2.2.2 ≠ b.2.2.2 := by
      intro l
      induction l with
      | nil => intro _ _; exact List.pairwise_singleton _ _
      | cons p l ih =>
        intro hl hp
        obtain ⟨k1, k2⟩ := List.pairwise_cons.1 hp
        rw [pM_cons]
        split
        · exact List.pairwise_cons.2 ⟨fun r hr e => hl r (List.mem_cons_of_mem _ hr) e.symm, k2⟩
        · refine List.pairwise_cons.2 ⟨fun r hr => ?_, ih (fun r hr => hl r (List.mem_cons_of_mem _ hr)) k2⟩
          rcases memM_put hr with e | hr | hr
          · rw [e]; exact hl p List.mem_cons_self
          · exact k1 r hr.1
          · exact k1 r hr
    exact key F.1 hnew h.apt
  · show (y0F F.2 ++ [[]]).length ≤ n + 1 + 1
    rw [List.length_append, List.length_singleton]
    have := h.ly
    by_cases hz : F.2.length = 0
    · unfold y0F; rw [if_pos hz]; show 1 + 1 ≤ _; omega
    · rw [l4 (by omega)]; omega
  · have hm : m ∈ y0F F.2 ++ [[]] := hm
    rcases List.mem_append.1 hm with hm | hm
    · unfold y0F at hm
      split at hm
      · rw [List.mem_singleton.1 hm]; exact Nat.zero_le _
      · exact Nat.le_trans (h.lm m hm) (Nat.mul_le_mul_right _ (Nat.le_succ n))
    · rw [List.mem_singleton.1 hm]; exact Nat.zero_le _

/-! One is dropped. -/
def dropF (F : Fam) (k : Str) : Fam := (delM .str famU F.1 k, F.2)
theorem drop_gF {n : Nat} {F : Fam} (h : FOk n F) (k q : Str) : gF (dropF F k) q = if q = k then none else gF F q := by
  rw [gF_eq, gF_eq]
  show (getM .str famU (delM .str famU F.1 k) q).map _ = _
  rw [gM_del _ h.aps]
  by_cases e : q = k
  · rw [if_pos e, if_pos e]; rfl
  · rw [if_neg e, if_neg e]; rfl
theorem drop_ok {n : Nat} {F : Fam} (h : FOk n F) (k : Str) : FOk n (dropF F k) :=
  have hs := del_sub (t := .str) (u := famU) F.1 k
  ⟨apsM_del h.aps k, fun p hp => h.plc p (hs.subset hp), h.apt.sublist hs, Nat.le_trans hs.length_le h.lx, h.ly, h.lm⟩

/-! One is taken. -/
def setY (Y : HY) (i : Nat) (node : Str) : HY := Y.set (i + 1) (putM .str (.int .i64) (Y.getD (i + 1) []) node (1 : Int))
def tak1 (X : HX) (number : Int) (node : Str) (Y : HY) (p : Str) : HY := match getM .str famU X p with
  | some e => if e.1 = number then setY Y e.2.2.toNat node else Y
  | none => Y
def takY (X : HX) (number : Int) (node : Str) (ps : List Str) (Y : HY) : HY := ps.foldl (tak1 X number node) Y
def keysF (F : Fam) : List Str := sortS ((famView F.1 F.2).map (·.1))
def takenF (F : Fam) (number : Int) (node : Str) : Fam := (F.1, takY F.1 number node (keysF F) F.2)
theorem setY_len (Y : HY) (i : Nat) (node : Str) : (setY Y i node).length = Y.length := List.length_set
theorem tak1_len (X : HX) (number : Int) (node : Str) (Y : HY) (p : Str) : (tak1 X number node Y p).length = Y.length := by
  unfold tak1
  split
  · split
    · exact setY_len _ _ _
    · rfl
  · rfl
theorem takY_len (X : HX) (number : Int) (node : Str) (ps : List Str) (Y : HY) : (takY X number node ps Y).length = Y.length := by
  induction ps generalizing Y with
  | nil => rfl
  | cons p ps ih => exact (ih _).trans (tak1_len _ _ _ _ _)
theorem tak1_mem {X : HX} {number : Int} {node : Str} {Y : HY} {p : Str} {n : Nat} (h : ∀ m ∈ Y, List.length m ≤ n) : ∀ m ∈ tak1 X number node Y p, List.length m ≤ n + 1 := by
  intro m hm
  have base : ∀ m ∈ Y, List.length m ≤ n + 1 := fun m hm => Nat.le_succ_of_le (h m hm)
  unfold tak1 at hm
  split at hm
  · split at hm
    · rcases List.mem_or_eq_of_mem_set hm with hm | e
      · exact base m hm
      · subst e
        refine Nat.le_trans (lenM_put (u := .int .i64) _ _ _) (Nat.succ_le_succ ?_)
        rename_i e _ _
        rw [List.getD_eq_getElem?_getD]
        cases hg : Y[e.2.2.toNat + 1]? with
        | none => exact Nat.zero_le n
        | some m => exact h m (List.mem_of_getElem? hg)
    · exact base m hm
  · exact base m hm
/-- What becomes of an inner map. -/
theorem takY_get {n : Nat} {F : Fam} (h : FOk n F) (number : Int) (node : Str) {q : Str} {e : El famU} (hq : getM .str famU F.1 q = some e) : ∀ (ps : List Str) (Y : HY), ps.Pairwise (· ≠ ·) → Y.length = F.2.length →
    (takY F.1 number node ps Y).getD (e.2.2.toNat + 1) [] = if q ∈ ps ∧ e.1 = number then putM .str (.int .i64) (Y.getD (e.2.2.toNat + 1) []) node (1 : Int) else Y.getD (e.2.2.toNat + 1) []
  | [], Y, _, _ => by
    show Y.getD _ _ = _
    rw [if_neg (fun h => by cases h.1)]
  | p :: ps, Y, hp, hY => by
    obtain ⟨h1, h2⟩ := List.pairwise_cons.1 hp
    show (takY F.1 number node ps (tak1 F.1 number node Y p)).getD _ _ = _
    rw [takY_get h number node hq ps _ h2 ((tak1_len _ _ _ _ _).trans hY)]
    have hlt := (h.plcG hq).2
    by_cases epq : q = p
    · subst epq
      have hni : q ∉ ps := fun hm => h1 q hm rfl
      rw [if_neg (fun h => hni h.1)]
      unfold tak1
      rw [hq]
      by_cases en : e.1 = number
      · simp only [en, if_true]
        rw [if_pos ⟨List.mem_cons_self, trivial⟩]
        unfold setY
        rw [List.getD_eq_getElem?_getD, List.getElem?_set_self (by omega)]; rfl
      · simp only [en, if_false]
        rw [if_neg (fun h => h.2)]
    · have hsame : (tak1 F.1 number node Y p).getD (e.2.2.toNat + 1) [] = Y.getD (e.2.2.toNat + 1) [] := by
        unfold tak1
        split
        · rename_i e' he'
          split
          · unfold setY
            rw [List.getD_eq_getElem?_getD, List.getElem?_set_ne (fun hx => epq (h.inj hq he' (by omega))), ← List.getD_eq_getElem?_getD]
          · rfl
        · rfl
      rw [hsame]
      have : (q ∈ p :: ps ∧ e.1 = number) ↔ (q ∈ ps ∧ e.1 = number) := by
        rw [List.mem_cons]; exact ⟨fun h => ⟨h.1.resolve_left epq, h.2⟩, fun h => ⟨.inr h.1, h.2⟩⟩
      simp only [this]
theorem keysF_mem {n : Nat} {F : Fam} (_ : FOk n F) (q : Str) : q ∈ keysF F ↔ getM .str famU F.1 q ≠ none := by
  unfold keysF
  rw [(isortB_perm leS _).mem_iff, gM_iff]
  unfold famView
  rw [List.map_map]; exact Iff.rfl
theorem keysF_nd {n : Nat} {F : Fam} (h : FOk n F) : (keysF F).Pairwise (· ≠ ·) := by
  unfold keysF
  refine ((isortB_perm leS _).pairwise_iff (fun hab => Ne.symm hab)).2 ?_
  unfold famView
  rw [List.map_map]
  exact List.pairwise_map.2 h.aps
theorem keysF_len (F : Fam) : (keysF F).length = F.1.length := by
  unfold keysF famView
  rw [(isortB_perm leS _).length_eq, List.length_map, List.length_map]
theorem taken_gF {n : Nat} {F : Fam} (h : FOk n F) (number : Int) (node : Str) (q : Str) : gF (takenF F number node) q = (gF F q).map fun e => if e.1 = number then (e.1, e.2.1, putM .str (.int .i64) e.2.2 node (1 : Int)) else e := by
  rw [gF_eq, gF_eq]
  show (getM .str famU F.1 q).map (fun e => (e.1, e.2.1, (takY F.1 number node (keysF F) F.2).getD (e.2.2.toNat + 1) [])) = _
  cases hg : getM .str famU F.1 q with
  | none => rfl
  | some e =>
    show some (e.1, e.2.1, (takY F.1 number node (keysF F) F.2).getD (e.2.2.toNat + 1) []) = some (if e.1 = number then (e.1, e.2.1, putM .str (.int .i64) (F.2.getD (e.2.2.toNat + 1) []) node (1 : Int)) else (e.1, e.2.1, F.2.getD (e.2.2.toNat + 1) []))
    rw [takY_get h number node hg _ _ (keysF_nd h) rfl]
    have hm := (keysF_mem h q).2 (by rw [hg]; intro h; cases h)
    by_cases en : e.1 = number
    · rw [if_pos ⟨hm, en⟩, if_pos en]
    · rw [if_neg (fun h => en h.2), if_neg en]

/-! What the parts come to. -/
theorem run_bothR {α : Type} {t e : Tree α} {r : Option α} (h1 : t.run = r) (h2 : e.run = r) : (Tree.both t e).run = r := by
  simp only [Tree.run]
  rw [h1, h2, if_pos rfl]
theorem FOk.nilX {n : Nat} {F : Fam} (h : FOk n F) (hz : F.2.length = 0) : F.1 = [] := by
  cases hx : F.1 with
  | nil => rfl
  | cons p l =>
    have := (h.plc p (by rw [hx]; exact List.mem_cons_self)).2
    omega
theorem hstart_run {n : Nat} (k d : Str) (a : Int) {F : Fam} (h : FOk n F) (hn : n ≤ 1000) : (hand_Hand_Start_T k d a F).run = some (w64 (a + 1), ((w64 (a + 1), ((), ())), (startF F k (w64 (a + 1)) d, ()))) := by
  unfold hand_Hand_Start_T
  refine (run_f rfl).trans ?_
  by_cases hz : F.2.length = 0
  · refine (run_t (by rw [hz]; rfl)).trans ?_
    have hr : (some (w64 (a + 1), ((w64 (a + 1), ((), ())), (((putM .str famU [] k (w64 (a + 1), d, ((([[]] : List (List (Str × Int))).length - 1 : Nat) : Int))), ([[]] ++ [[]])), ()))) : Option (Int × ((Int × (Unit × Unit)) × (Fam × Unit)))) = some (w64 (a + 1), ((w64 (a + 1), ((), ())), (startF F k (w64 (a + 1)) d, ()))) := by
      unfold startF y0F
      rw [if_pos hz, h.nilX hz]
    rw [← hr]
    have h1 : decide (1 ≤ ([[]] : List (List (Str × Int))).length) = true := rfl
    have h2 : decide ((putM .str famU [] k (w64 (a + 1), d, ((([[]] : List (List (Str × Int))).length - 1 : Nat) : Int))).length ≤ 9223372036854775807) = true := rfl
    repeat' refine run_bothR ?_ ?_
    all_goals exact (run_ask h1).trans ((run_ask h2).trans rfl)
  · obtain ⟨l1, l2, l3, l4⟩ := y0F_len F.2
    refine (run_f (nbeq_ne hz)).trans ?_
    have hr : (some (w64 (a + 1), ((w64 (a + 1), ((), ())), (((putM .str famU F.1 k (w64 (a + 1), d, ((F.2.length - 1 : Nat) : Int))), (F.2 ++ [[]])), ()))) : Option (Int × ((Int × (Unit × Unit)) × (Fam × Unit)))) = some (w64 (a + 1), ((w64 (a + 1), ((), ())), (startF F k (w64 (a + 1)) d, ()))) := by
      unfold startF
      rw [l4 (by omega)]
    rw [← hr]
    have h1 : decide (1 ≤ F.2.length) = true := decide_eq_true (by omega)
    have h2 : decide ((putM .str famU F.1 k (w64 (a + 1), d, ((F.2.length - 1 : Nat) : Int))).length ≤ 9223372036854775807) = true := decide_eq_true (Nat.le_trans (lenM_put (u := famU) _ _ _) (by have := h.lx; omega))
    repeat' refine run_bothR ?_ ?_
    all_goals exact (run_ask h1).trans ((run_ask h2).trans rfl)
theorem places_run (a : Int) (F : Fam) (h : F.1.length ≤ 1000000) : (hand_Hand_Places_T a (famView F.1 F.2)).run = some (keysF F) := by
  have hl : (famView F.1 F.2).length = F.1.length := List.length_map _
  unfold hand_Hand_Places_T
  exact (run_ask (decide_eq_true (by unfold roomNat; rw [hl]; omega))).trans ((run_ask (decide_eq_true (by rw [hl]; omega))).trans rfl)
theorem takY_mem {X : HX} {number : Int} {node : Str} : ∀ (ps : List Str) {Y : HY} {b : Nat}, (∀ m ∈ Y, List.length m ≤ b) → ∀ m ∈ takY X number node ps Y, List.length m ≤ b + ps.length
  | [], Y, b, h, m, hm => h m hm
  | p :: ps, Y, b, h, m, hm => by
    have := takY_mem ps (tak1_mem h) m hm
    rw [List.length_cons]; omega
theorem taken_ok {n : Nat} {F : Fam} (h : FOk n F) (hn : n ≤ 1000) (number : Int) (node : Str) : FOk (n + 1) (takenF F number node) := by
  have hl := takY_len F.1 number node (keysF F) F.2
  refine ⟨h.aps, fun p hp => ?_, h.apt, Nat.le_succ_of_le h.lx, ?_, fun m hm => ?_⟩
  · show 0 ≤ p.2.2.2 ∧ p.2.2.2.toNat + 1 < (takY F.1 number node (keysF F) F.2).length
    rw [hl]; exact h.plc p hp
  · show (takY F.1 number node (keysF F) F.2).length ≤ n + 1 + 1
    rw [hl]; exact Nat.le_succ_of_le h.ly
  · have := takY_mem (keysF F) h.lm m hm
    rw [keysF_len] at this
    have := h.lx
    omega
theorem take_snocS (m : List Str) (i : Nat) (hi : i < m.length) : m.take (i + 1) = m.take i ++ [m[i]] := by rw [List.take_add_one]; simp [hi]
theorem htaken_run {n : Nat} (number : Int) (node : Str) (a : Int) {F : Fam} (h : FOk n F) (hn : n ≤ 1000) : (hand_Hand_Taken_T number node a F).run = some ((), ((a, ((), ())), (takenF F number node, ()))) := by
  unfold hand_Hand_Taken_T
  have hlx := h.lx
  refine (run_bnd (places_run a F (by omega))).trans ?_
  have hkl := keysF_len F
  have hmem := keysF_mem h
  have hfin : takenF F number node = (F.1, takY F.1 number node (keysF F) F.2) := rfl
  rw [hfin]
  generalize keysF F = ks at hkl hmem
  have hl : (Tree.loop (fun v => hand_Hand_Taken_L1_step number node (ks.length : Int) a ks v.1 v.2) (0, F)).run = some (F.1, takY F.1 number node ks F.2) := by
    show loopF (fun v : Int × Fam => (hand_Hand_Taken_L1_step number node (ks.length : Int) a ks v.1 v.2).run) (0, F) = _
    refine loopF_run (S := fun i => (((i : Nat) : Int), ((F.1, takY F.1 number node (ks.take i) F.2) : Fam))) (n := ks.length) (fun i hi => ?_) ?_ rfl
    · have hb : inb (i : Int) ks.length = true := by rw [inb_nat]; exact decide_eq_true hi
      show (hand_Hand_Taken_L1_step number node (ks.length : Int) a ks (i : Int) (F.1, takY F.1 number node (ks.take i) F.2)).run = some (Sum.inl (((i + 1 : Nat) : Int), (F.1, takY F.1 number node (ks.take (i + 1)) F.2)))
      have hnext : takY F.1 number node (ks.take (i + 1)) F.2 = tak1 F.1 number node (takY F.1 number node (ks.take i) F.2) ks[i] := by
        rw [take_snocS ks i hi]
        unfold takY
        rw [List.foldl_append]; rfl
      rw [hnext]
      have hY := takY_mem (X := F.1) (number := number) (node := node) (ks.take i) h.lm
      generalize takY F.1 number node (ks.take i) F.2 = Y at hY
      have hp := (hmem ks[i]).1 (List.getElem_mem hi)
      unfold hand_Hand_Taken_L1_step
      simp only [Int.toNat_natCast, getD_lt _ _ _ hi]
      refine (run_t (decide_eq_true (by omega))).trans ((run_ask hb).trans ?_)
      unfold tak1
      cases hg : getM .str famU F.1 ks[i] with
      | none => exact absurd hg hp
      | some e =>
        refine (run_t rfl).trans ?_
        have hw := w64_nat i (by omega)
        simp only [Option.getD_some]
        by_cases en : e.1 = number
        · refine (run_t (decide_eq_true en)).trans ((run_ask (decide_eq_true ?_)).trans ?_)
          · refine Nat.le_trans (lenM_put (u := .int .i64) _ _ _) ?_
            have : (Y.getD (e.2.2.toNat + 1) []).length ≤ n * 1000 + (ks.take i).length := by
              rw [List.getD_eq_getElem?_getD]
              cases hg : Y[e.2.2.toNat + 1]? with
              | none => exact Nat.zero_le _
              | some m => exact hY m (List.mem_of_getElem? hg)
            rw [List.length_take] at this
            omega
          · rw [if_pos en]
            show some (Sum.inl (w64 ((i : Int) + 1), _)) = _
            rw [hw]; rfl
        · refine (run_f (decide_eq_false en)).trans ?_
          rw [if_neg en]
          show some (Sum.inl (w64 ((i : Int) + 1), _)) = _
          rw [hw]
    · show (hand_Hand_Taken_L1_step number node (ks.length : Int) a ks (ks.length : Int) (F.1, takY F.1 number node (ks.take ks.length) F.2)).run = _
      unfold hand_Hand_Taken_L1_step
      rw [List.take_length]
      exact (run_f (decide_eq_false (by omega))).trans rfl
  exact (run_bnd hl).trans rfl
theorem hdrop_run (k : Str) (a : Int) (F : Fam) : (hand_Hand_Drop_T k a F).run = some ((), ((a, ((), ())), (dropF F k, ()))) := rfl
/-- Has one taken it? -/
def hasS (m : SM) (s : Str) : Bool := !decide ((getM .str (.int .i64) m s).getD (0 : Int) = 0)
def readyV (o : Option (El viewT)) (d : Str) (ns : List Str) : Bool := match o with
  | some e => e.2.1 == d && decide (0 < ns.length) && ns.all fun s => hasS e.2.2 s
  | none => false
theorem ready_run (a : Int) (F : Fam) (k d : Str) (ns : List Str) (hl : ns.length ≤ 1000000) : (hand_Hand_Ready_T a (famView F.1 F.2) k d ns).run = some (readyV (gF F k) d ns) := by
  unfold hand_Hand_Ready_T
  refine (run_f rfl).trans ?_
  show (Tree.ite (gF F k).isSome _ _).run = _
  cases hg : gF F k with
  | none =>
    have hc : (slices_ContainsFunc_string_hand_Hand_Ready_1__T ns 0 ([] : Str)).run = some (ns.any fun _ => true) := slices_ContainsFunc_string_hand_Hand_Ready_1__run ns 0 [] (fun _ => true) hl fun x _ => rfl
    refine (run_f rfl).trans ((run_grd hc).trans ?_)
    rfl
  | some e =>
    have hg' : getM .str viewT (famView F.1 F.2) k = some e := hg
    refine (run_t rfl).trans ?_
    simp only [hg', Option.getD_some]
    have hc := slices_ContainsFunc_string_hand_Hand_Ready_1_run ns e.1 e.2.1 e.2.2 (fun s => !hasS e.2.2 s) hl fun x _ => by
      unfold hand_Hand_Ready_1_T hasS
      rw [Bool.not_not]; rfl
    refine (run_grd hc).trans ?_
    show some _ = some _
    unfold readyV
    have e1 : decide ((0 : Int) < (ns.length : Int)) = decide (0 < ns.length) := by rw [decide_eq_decide]; omega
    have e2 : (!ns.any fun s => !hasS e.2.2 s) = ns.all fun s => hasS e.2.2 s := by rw [List.any_eq_not_all_not]; simp
    rw [e1, e2, Bool.true_and]

/-! An act. -/
def doF (a : R39_Act) (s : Int × Fam) : Int × (Int × Fam) :=
  if a.1 = 1 then (w64 (s.1 + 1), (w64 (s.1 + 1), startF s.2 a.2.1 (w64 (s.1 + 1)) a.2.2.1)) else if a.1 = 2 then (0, (s.1, takenF s.2 a.2.2.2.2 a.2.2.2.1)) else if a.1 = 3 then (0, (s.1, dropF s.2 a.2.1)) else (0, s)
theorem do_run {n : Nat} (a : R39_Act) (s : Int × Fam) (h : FOk n s.2) (hn : n ≤ 1000) : (l39_do_T a s.1 s.2).run = some ((doF a s).1, (((doF a s).2.1, ((), ())), ((doF a s).2.2, ()))) := by
  unfold l39_do_T doF
  by_cases e1 : a.1 = 1
  · rw [if_pos e1]
    exact (run_t (decide_eq_true e1)).trans ((run_bnd (hstart_run _ _ _ h hn)).trans rfl)
  rw [if_neg e1]
  refine (run_f (decide_eq_false e1)).trans ?_
  by_cases e2 : a.1 = 2
  · rw [if_pos e2]
    exact (run_t (decide_eq_true e2)).trans ((run_bnd (htaken_run _ _ _ h hn)).trans rfl)
  rw [if_neg e2]
  refine (run_f (decide_eq_false e2)).trans ?_
  by_cases e3 : a.1 = 3
  · rw [if_pos e3]
    exact (run_t (decide_eq_true e3)).trans ((run_bnd (hdrop_run _ _ _)).trans rfl)
  rw [if_neg e3]
  exact (run_f (decide_eq_false e3)).trans rfl
theorem do_ok {n : Nat} (a : R39_Act) (s : Int × Fam) (h : FOk n s.2) (hn : n ≤ 1000) : FOk (n + 1) (doF a s).2.2 := by
  unfold doF
  split
  · exact start_ok h _ _ _
  split
  · exact taken_ok h hn _ _
  split
  · exact (drop_ok h _).mono (Nat.le_succ _)
  · exact h.mono (Nat.le_succ _)
theorem do_last {b : Nat} (a : R39_Act) (s : Int × Fam) (h0 : 0 ≤ s.1) (h1 : s.1 ≤ (b : Int)) (hb : b ≤ 2000000000) : 0 ≤ (doF a s).2.1 ∧ (doF a s).2.1 ≤ ((b + 1 : Nat) : Int) ∧ (a.1 = 1 → (doF a s).1 = s.1 + 1) := by
  have hw : w64 (s.1 + 1) = s.1 + 1 := by show IntKind.i64.wrap _ = _; rw [IntKind.wrap_i64]; omega
  unfold doF
  split
  · refine ⟨?_, ?_, fun _ => ?_⟩
    · show 0 ≤ w64 _; rw [hw]; omega
    · show w64 _ ≤ _; rw [hw]; omega
    · show w64 _ = _; rw [hw]
  split
  · exact ⟨h0, by show s.1 ≤ _; omega, fun h => absurd h (by assumption)⟩
  split
  · exact ⟨h0, by show s.1 ≤ _; omega, fun h => absurd h (by assumption)⟩
  · exact ⟨h0, by show s.1 ≤ _; omega, fun h => absurd h (by assumption)⟩

end Go.Eng

