/- Laws in plain Lean: setl j06. -/
import Derived.Test.YtedmkgnbgkhloaaK06
import Derived.Test.YtedmkgnbgkhloaaTrS
namespace Go.Eng
open Go Go.Proofs Go.RowKit

/-! Orders, and rising lists. -/
structure SO {α : Type} (lt : α → α → Bool) : Prop where
  irr : ∀ a, lt a a = false
  tr : ∀ a b c, lt a b = true → lt b c = true → lt a c = true
  tot : ∀ a b, lt a b = false → lt b a = false → a = b
theorem SO.asym {α : Type} {lt : α → α → Bool} (h : SO lt) {a b : α} (k : lt a b = true) : lt b a = false := by
  cases e : lt b a with
  | false => rfl
  | true => have := h.tr _ _ _ k e; rw [h.irr] at this; cases this
theorem soI : SO (fun a b : Int => decide (a < b)) := ⟨fun a => by simp, fun a b c h k => by simp only [decide_eq_true_eq] at *; omega, fun a b h k => by simp only [decide_eq_false_iff_not] at *; omega⟩
theorem soS : SO ltS := ⟨less_irrefl, fun a b c h k => less_trans h k, fun a b h k => less_total h k⟩
/-- Two rising lists of the same are one. -/
theorem SO.uniq {α : Type} {lt : α → α → Bool} (h : SO lt) {a b : List α} (ha : a.Pairwise fun x y => lt x y = true) (hb : b.Pairwise fun x y => lt x y = true) (hm : ∀ x, x ∈ a ↔ x ∈ b) : a = b := by
  induction a generalizing b with
  | nil =>
    cases b with
    | nil => rfl
    | cons y b => exact absurd ((hm y).2 List.mem_cons_self) List.not_mem_nil
  | cons x a ih =>
    cases b with
    | nil => exact absurd ((hm x).1 List.mem_cons_self) List.not_mem_nil
    | cons y b =>
      obtain ⟨a1, a2⟩ := List.pairwise_cons.1 ha
      obtain ⟨b1, b2⟩ := List.pairwise_cons.1 hb
      have e : x = y := by
        rcases List.mem_cons.1 ((hm x).1 List.mem_cons_self) with e | hx
        · exact e
        rcases List.mem_cons.1 ((hm y).2 List.mem_cons_self) with e | hy
        · exact e.symm
        have h1 := b1 x hx
        have h2 := a1 y hy
        rw [h.asym h1] at h2; cases h2
      subst e
      rw [ih a2 b2 fun z => ⟨fun hz => ?_, fun hz => ?_⟩]
      · rcases List.mem_cons.1 ((hm z).1 (List.mem_cons_of_mem _ hz)) with e | k
        · subst e; have := a1 z hz; rw [h.irr] at this; cases this
        · exact k
      · rcases List.mem_cons.1 ((hm z).2 (List.mem_cons_of_mem _ hz)) with e | k
        · subst e; have := b1 z hz; rw [h.irr] at this; cases this
        · exact k
theorem compFrom_ok {α : Type} {lt eq : α → α → Bool} (h : SO lt) (he : ∀ a b, eq a b = true ↔ a = b) (x : α) (l : List α) (hs : (x :: l).Pairwise fun a b => lt b a = false) :
    (x :: compFrom eq x l).Pairwise (fun a b => lt a b = true) ∧ (∀ z, z ∈ x :: compFrom eq x l ↔ z ∈ x :: l) ∧ (compFrom eq x l).length ≤ l.length := by
  induction l generalizing x with
  | nil => exact ⟨List.pairwise_singleton _ _, fun z => Iff.rfl, Nat.le_refl _⟩
  | cons y l ih =>
    obtain ⟨h1, h2⟩ := List.pairwise_cons.1 hs
    obtain ⟨h3, h4⟩ := List.pairwise_cons.1 h2
    simp only [compFrom]
    cases hq : eq y x with
    | true =>
      have e := (he y x).1 hq
      subst e
      obtain ⟨k1, k2, k3⟩ := ih y (List.pairwise_cons.2 ⟨h3, h4⟩)
      refine ⟨k1, fun z => ?_, by simp; omega⟩
      rw [k2 z]; simp
    | false =>
      obtain ⟨k1, k2, k3⟩ := ih y h2
      have hxy : lt x y = true := by
        cases hb : lt x y with
        | true => rfl
        | false =>
          have e := h.tot x y hb (h1 y List.mem_cons_self)
          subst e
          rw [(he x x).2 rfl] at hq; cases hq
      refine ⟨List.pairwise_cons.2 ⟨fun z hz => ?_, k1⟩, fun z => ?_, by simp; omega⟩
      · rcases List.mem_cons.1 hz with e | hz
        · subst e; exact hxy
        · exact h.tr _ _ _ hxy ((List.pairwise_cons.1 k1).1 z hz)
      · rw [List.mem_cons, k2 z, List.mem_cons (b := x)]
theorem compL_ok {α : Type} {lt eq : α → α → Bool} (h : SO lt) (he : ∀ a b, eq a b = true ↔ a = b) (l : List α) (hs : l.Pairwise fun a b => lt b a = false) :
    (compL eq l).Pairwise (fun a b => lt a b = true) ∧ (∀ z, z ∈ compL eq l ↔ z ∈ l) ∧ (compL eq l).length ≤ l.length := by
  cases l with
  | nil => exact ⟨List.Pairwise.nil, fun z => Iff.rfl, Nat.le_refl _⟩
  | cons x l =>
    obtain ⟨k1, k2, k3⟩ := compFrom_ok h he x l hs
    exact ⟨k1, k2, by simp [compL]; omega⟩
def setI (l : List Int) : List Int := compL eqI (sortI l)
def setS (l : List Str) : List Str := compL eqS (sortS l)
theorem setI_ok (l : List Int) : (setI l).Pairwise (fun a b => decide (a < b) = true) ∧ (∀ z, z ∈ setI l ↔ z ∈ l) ∧ (setI l).length ≤ l.length := by
  have hs := isortB_sorted (le := leI) (fun a b c h k => by unfold leI at *; simp only [decide_eq_true_eq] at *; omega) (fun a b h => by unfold leI at *; simp only [decide_eq_true_eq, decide_eq_false_iff_not] at *; omega) l
  obtain ⟨k1, k2, k3⟩ := compL_ok soI (eq := eqI) (fun a b => by unfold eqI; simp) (sortI l) (hs.imp fun {a b} h => by unfold leI at h; simp only [decide_eq_true_eq, decide_eq_false_iff_not] at *; omega)
  exact ⟨k1, fun z => (k2 z).trans (isortB_perm _ l).mem_iff, by rw [(isortB_perm leI l).length_eq] at k3; exact k3⟩
theorem setS_ok (l : List Str) : (setS l).Pairwise (fun a b => ltS a b = true) ∧ (∀ z, z ∈ setS l ↔ z ∈ l) ∧ (setS l).length ≤ l.length := by
  have hs := isortB_sorted (le := leS) leS_trans leS_total l
  obtain ⟨k1, k2, k3⟩ := compL_ok soS (eq := eqS) (fun a b => by unfold eqS; simp) (sortS l) (hs.imp fun {a b} h => by unfold leS at h; simpa using h)
  exact ⟨k1, fun z => (k2 z).trans (isortB_perm _ l).mem_iff, by rw [(isortB_perm leS l).length_eq] at k3; exact k3⟩
/-- One more, in its place, once. -/
def insL {α : Type} (lt : α → α → Bool) (x : α) : List α → List α
  | [] => [x]
  | y :: l => match lt y x with | true => y :: insL lt x l | false => match lt x y with | true => x :: y :: l | false => y :: l
theorem insL_ok {α : Type} {lt : α → α → Bool} (h : SO lt) (x : α) {l : List α} (hs : l.Pairwise fun a b => lt a b = true) :
    (insL lt x l).Pairwise (fun a b => lt a b = true) ∧ (∀ z, z ∈ insL lt x l ↔ z = x ∨ z ∈ l) ∧ (insL lt x l).length ≤ l.length + 1 := by
  induction l with
  | nil => exact ⟨List.pairwise_singleton _ _, fun z => by simp [insL], by simp [insL]⟩
  | cons y l ih =>
    obtain ⟨h1, h2⟩ := List.pairwise_cons.1 hs
    obtain ⟨k1, k2, k3⟩ := ih h2
    simp only [insL]
    cases hb : lt y x with
    | true =>
      refine ⟨List.pairwise_cons.2 ⟨fun z hz => ?_, k1⟩, fun z => ?_, by simp; omega⟩
      · rcases (k2 z).1 hz with rfl | hz
        · exact hb
        · exact h1 z hz
      · rw [List.mem_cons, k2 z, List.mem_cons]
        constructor
        · rintro (h | h | h)
          · exact .inr (.inl h)
          · exact .inl h
          · exact .inr (.inr h)
        · rintro (h | h | h)
          · exact .inr (.inl h)
          · exact .inl h
          · exact .inr (.inr h)
    | false =>
      cases hc : lt x y with
      | true =>
        refine ⟨List.pairwise_cons.2 ⟨fun z hz => ?_, hs⟩, fun z => by simp, by simp⟩
        rcases List.mem_cons.1 hz with rfl | hz
        · exact hc
        · exact h.tr _ _ _ hc (h1 z hz)
      | false =>
        have e := h.tot x y hc hb
        subst e
        exact ⟨hs, fun z => by simp, by simp⟩
def insAll {α : Type} (lt : α → α → Bool) (acc l : List α) : List α := l.foldl (fun acc x => insL lt x acc) acc
theorem insAll_ok {α : Type} {lt : α → α → Bool} (h : SO lt) (l : List α) {acc : List α} (hs : acc.Pairwise fun a b => lt a b = true) :
    (insAll lt acc l).Pairwise (fun a b => lt a b = true) ∧ (∀ z, z ∈ insAll lt acc l ↔ z ∈ acc ∨ z ∈ l) ∧ (insAll lt acc l).length ≤ acc.length + l.length := by
  induction l generalizing acc with
  | nil => exact ⟨hs, fun z => by simp [insAll], by simp [insAll]⟩
  | cons x l ih =>
    obtain ⟨k1, k2, k3⟩ := insL_ok h x hs
    obtain ⟨j1, j2, j3⟩ := ih k1
    refine ⟨j1, fun z => ?_, ?_⟩
    · show z ∈ insAll lt (insL lt x acc) l ↔ _
      rw [j2 z, k2 z, List.mem_cons]
      constructor
      · rintro ((h | h) | h)
        · exact .inr (.inl h)
        · exact .inl h
        · exact .inr (.inr h)
      · rintro (h | h | h)
        · exact .inl (.inr h)
        · exact .inl (.inl h)
        · exact .inr h
    · show (insAll lt (insL lt x acc) l).length ≤ _
      simp only [List.length_cons]; omega
theorem insAll_setI (l : List Int) : insAll (fun a b => decide (a < b)) [] l = setI l := by
  obtain ⟨k1, k2, _⟩ := insAll_ok soI l (acc := []) List.Pairwise.nil
  obtain ⟨j1, j2, _⟩ := setI_ok l
  exact soI.uniq k1 j1 fun z => by rw [k2, j2]; simp
theorem insAll_setS (l : List Str) : insAll ltS [] l = setS l := by
  obtain ⟨k1, k2, _⟩ := insAll_ok soS l (acc := []) List.Pairwise.nil
  obtain ⟨j1, j2, _⟩ := setS_ok l
  exact soS.uniq k1 j1 fun z => by rw [k2, j2]; simp

/-! What a context knows: the plain law of joins. -/
def kn (x : Seen) (n : Int) : Bool := (decide ((0 : Int) < n) && decide (n ≤ x.2.1)) || x.2.2.any fun y => decide (n = y)
theorem hasB_kn (c : List Seen) (d : Dot) : hasB c d = c.any fun x => (x.1 == d.1) && kn x d.2 := rfl
theorem kn_iff (x : Seen) (n : Int) : kn x n = true ↔ (0 < n ∧ n ≤ x.2.1) ∨ n ∈ x.2.2 := by
  unfold kn
  simp only [Bool.or_eq_true, Bool.and_eq_true, decide_eq_true_eq, List.any_eq_true]
  constructor
  · rintro (h | ⟨y, hy, e⟩)
    · exact .inl h
    · rw [e]; exact .inr hy
  · rintro (h | h)
    · exact .inl h
    · exact .inr ⟨n, h, rfl⟩
/-- A Seen in order, but for its name; it may know nothing. -/
def VS (x : Seen) : Prop := 0 ≤ x.2.1 ∧ x.2.1 ≤ M53 ∧ x.2.2.Pairwise (fun a b => decide (a < b) = true) ∧ ∀ n ∈ x.2.2, x.2.1 + 1 < n ∧ n ≤ M53
theorem rise_iff (l : List Int) (b : Int) : chain riseG (fun _ n => n) b l = true ↔ (l.Pairwise (fun a b => decide (a < b) = true) ∧ ∀ n ∈ l, b < n ∧ n ≤ M53) := by
  induction l generalizing b with
  | nil => exact ⟨fun _ => ⟨List.Pairwise.nil, fun n h => absurd h List.not_mem_nil⟩, fun _ => rfl⟩
  | cons x l ih =>
    simp only [chain, Bool.and_eq_true, ih, List.pairwise_cons, List.mem_cons, forall_eq_or_imp]
    unfold riseG
    simp only [Bool.not_eq_true', Bool.or_eq_false_iff, decide_eq_false_iff_not, decide_eq_true_eq]
    constructor
    · rintro ⟨⟨h1, h2⟩, h3, h4⟩
      exact ⟨⟨fun n hn => (h4 n hn).1, h3⟩, ⟨by omega, by omega⟩, fun n hn => ⟨by have := (h4 n hn).1; omega, (h4 n hn).2⟩⟩
    · rintro ⟨⟨h1, h2⟩, ⟨h3, h4⟩, h5⟩
      exact ⟨⟨by omega, by omega⟩, h2, fun n hn => ⟨h1 n hn, (h5 n hn).2⟩⟩
theorem seenB_iff (x : Seen) : seenB x = true ↔ nameS x.1 = true ∧ VS x ∧ ∃ n, kn x n = true := by
  unfold seenB VS
  simp only [Bool.and_eq_true, decide_eq_true_eq, rise_iff, Bool.not_eq_true', Bool.and_eq_false_iff, decide_eq_false_iff_not]
  constructor
  · rintro ⟨⟨⟨⟨h1, h2⟩, h3⟩, h4⟩, h5, h6⟩
    refine ⟨h1, ⟨h2, h3, h5, h6⟩, ?_⟩
    rcases h4 with h4 | h4
    · exact ⟨1, (kn_iff x 1).2 (.inl ⟨by omega, by omega⟩)⟩
    · cases hx : x.2.2 with
      | nil => rw [hx] at h4; exact absurd rfl h4
      | cons y l => exact ⟨y, (kn_iff x y).2 (.inr (by rw [hx]; exact List.mem_cons_self))⟩
  · rintro ⟨h1, ⟨h2, h3, h5, h6⟩, n, hn⟩
    refine ⟨⟨⟨⟨h1, h2⟩, h3⟩, ?_⟩, h5, h6⟩
    rcases (kn_iff x n).1 hn with h | h
    · left; omega
    · right
      intro e
      have : x.2.2 = [] := List.length_eq_zero_iff.1 e
      rw [this] at h; exact absurd h List.not_mem_nil
def sumM (c : List Seen) : Nat := (c.map fun x => x.2.2.length).sum
def nds (c : List Seen) : List Str := c.map fun x => x.1
theorem ctxB_iff (c : List Seen) : ctxB c = true ↔ (∀ x ∈ c, seenB x = true) ∧ (nds c).Pairwise (fun a b => ltS a b = true) ∧ sumM c ≤ 4096 := by
  have key : ∀ (c : List Seen) (g : Int) (p : Option Str), 0 ≤ g → (chain ctxG ctxN (g, p) c = true ↔ (∀ x ∈ c, seenB x = true) ∧ (nds c).Pairwise (fun a b => ltS a b = true) ∧ (∀ x ∈ c, prevB p x.1 = true) ∧ (sumM c : Int) ≤ g) := by
    intro c
    induction c with
    | nil => intro g p hg; exact ⟨fun _ => ⟨fun x h => absurd h List.not_mem_nil, List.Pairwise.nil, fun x h => absurd h List.not_mem_nil, by simp [sumM]; omega⟩, fun _ => rfl⟩
    | cons x l ih =>
      intro g p hg
      simp only [chain, Bool.and_eq_true]
      have e0 : ctxG (g, p) x = (seenB x && prevB p x.1 && decide ((x.2.2.length : Int) ≤ g)) := rfl
      have e1 : ctxN (g, p) x = (g - (x.2.2.length : Int), some x.1) := rfl
      have e2 : sumM (x :: l) = x.2.2.length + sumM l := by simp [sumM]
      rw [e0, e1, e2]
      simp only [Bool.and_eq_true, decide_eq_true_eq, List.mem_cons, forall_eq_or_imp, nds, List.map_cons, List.pairwise_cons]
      constructor
      · rintro ⟨⟨⟨h1, h2⟩, h3⟩, h⟩
        obtain ⟨k1, k2, k3, k4⟩ := (ih _ _ (by omega)).1 h
        refine ⟨⟨h1, k1⟩, ⟨fun s hs => ?_, k2⟩, ⟨h2, fun y hy => ?_⟩, by omega⟩
        · obtain ⟨y, hy, rfl⟩ := List.mem_map.1 hs
          exact k3 y hy
        · have := k3 y hy
          cases p with
          | none => rfl
          | some p => exact soS.tr _ _ _ h2 this
      · rintro ⟨⟨h1, k1⟩, ⟨h4, k2⟩, ⟨h2, h5⟩, h3⟩
        refine ⟨⟨⟨h1, h2⟩, by omega⟩, (ih _ _ (by omega)).2 ⟨k1, k2, fun y hy => h4 _ (List.mem_map.2 ⟨y, hy, rfl⟩), by omega⟩⟩
  unfold ctxB
  rw [key c 4096 none (by omega)]
  constructor
  · rintro ⟨h1, h2, _, h4⟩; exact ⟨h1, h2, by omega⟩
  · rintro ⟨h1, h2, h4⟩; exact ⟨h1, h2, fun _ _ => rfl, by omega⟩

/-! Of one node. -/
theorem rising_ne {c : List Seen} (h : (nds c).Pairwise (fun a b => ltS a b = true)) {x : Seen} (hx : x ∈ c) : ofB c x.1 = x := by
  induction c with
  | nil => exact absurd hx List.not_mem_nil
  | cons y l ih =>
    obtain ⟨h1, h2⟩ := List.pairwise_cons.1 h
    unfold ofB
    rw [List.find?_cons]
    rcases List.mem_cons.1 hx with rfl | hx
    · simp
    · have : ltS y.1 x.1 = true := h1 _ (List.mem_map.2 ⟨x, hx, rfl⟩)
      have hne : (y.1 == x.1) = false := by
        rw [beq_eq_false_iff_ne]; intro e; rw [e, soS.irr] at this; cases this
      rw [hne]
      exact ih h2 hx
theorem ofB_none {c : List Seen} {s : Str} (h : s ∉ nds c) : ofB c s = (s, (0, [])) := by
  unfold ofB
  have : c.find? (fun x => x.1 == s) = none := by
    rw [List.find?_eq_none]; intro x hx e
    have e : x.1 = s := by simpa using e
    exact h (List.mem_map.2 ⟨x, hx, e⟩)
  rw [this]; rfl
theorem ofB_mem {c : List Seen} {s : Str} (h : s ∈ nds c) : ∃ x ∈ c, x.1 = s ∧ ofB c s = x := by
  unfold ofB
  cases hf : c.find? (fun x => x.1 == s) with
  | none =>
    obtain ⟨x, hx, e⟩ := List.mem_map.1 h
    have := List.find?_eq_none.1 hf x hx
    simp [e] at this
  | some x =>
    have h1 := List.find?_some hf
    exact ⟨x, List.mem_of_find?_eq_some hf, by simpa using h1, rfl⟩
theorem ofB_node (c : List Seen) (s : Str) : (ofB c s).1 = s := by
  by_cases h : s ∈ nds c
  · obtain ⟨x, _, e, h2⟩ := ofB_mem h
    rw [h2, e]
  · rw [ofB_none h]
theorem hasB_of {c : List Seen} (h : (nds c).Pairwise (fun a b => ltS a b = true)) (s : Str) (n : Int) : hasB c (s, n) = kn (ofB c s) n := by
  rw [hasB_kn, Bool.eq_iff_iff, List.any_eq_true]
  constructor
  · rintro ⟨x, hx, e⟩
    simp only [Bool.and_eq_true, beq_iff_eq] at e
    rw [← e.1, rising_ne h hx]; exact e.2
  · intro e
    by_cases hs : s ∈ nds c
    · obtain ⟨x, hx, e1, e2⟩ := ofB_mem hs
      rw [e2] at e
      exact ⟨x, hx, by simp [e1, e]⟩
    · rw [ofB_none hs, kn_iff] at e
      rcases e with e | e
      · have h1 : n ≤ 0 := e.2
        omega
      · exact absurd e List.not_mem_nil
theorem ofB_VS {c : List Seen} (h : ∀ x ∈ c, seenB x = true) (s : Str) : VS (ofB c s) := by
  by_cases hs : s ∈ nds c
  · obtain ⟨x, hx, _, e⟩ := ofB_mem hs
    rw [e]; exact ((seenB_iff x).1 (h x hx)).2.1
  · rw [ofB_none hs]
    exact ⟨Int.le_refl _, (by show (0 : Int) ≤ M53; decide), List.Pairwise.nil, fun n hn => absurd hn List.not_mem_nil⟩
theorem ctx_map {c : List Seen} (h : (nds c).Pairwise (fun a b => ltS a b = true)) : (nds c).map (ofB c) = c := by
  have : (nds c).map (ofB c) = c.map fun x => ofB c x.1 := by unfold nds; rw [List.map_map]; rfl
  rw [this]
  have h2 : ∀ x ∈ c, ofB c x.1 = x := fun x hx => rising_ne h hx
  calc c.map (fun x => ofB c x.1) = c.map id := List.map_congr_left h2
    _ = c := List.map_id c
theorem VS_uniq {x y : Seen} (hx : VS x) (hy : VS y) (h : ∀ n, kn x n = kn y n) : x.2 = y.2 := by
  have hb : ∀ {x y : Seen}, VS x → VS y → (∀ n, kn x n = kn y n) → y.2.1 ≤ x.2.1 := by
    intro x y hx hy h
    by_cases hlt : y.2.1 ≤ x.2.1
    · exact hlt
    exfalso
    have h1 : kn y (x.2.1 + 1) = true := (kn_iff y _).2 (.inl ⟨by have := hx.1; omega, by omega⟩)
    rw [← h] at h1
    rcases (kn_iff x _).1 h1 with h1 | h1
    · omega
    · have := (hx.2.2.2 _ h1).1; omega
  have e1 : x.2.1 = y.2.1 := by
    have h1 := hb hx hy h
    have h2 := hb hy hx fun n => (h n).symm
    omega
  have hm : ∀ {x y : Seen}, VS x → (∀ n, kn x n = kn y n) → x.2.1 = y.2.1 → ∀ n, n ∈ x.2.2 → n ∈ y.2.2 := by
    intro x y hx h e n hn
    have h1 : kn x n = true := (kn_iff x n).2 (.inr hn)
    rw [h] at h1
    rcases (kn_iff y n).1 h1 with h1 | h1
    · have := (hx.2.2.2 n hn).1; omega
    · exact h1
  have e2 : x.2.2 = y.2.2 := soI.uniq hx.2.2.1 hy.2.2.1 fun n => ⟨hm hx h e1 n, hm hy (fun n => (h n).symm) e1.symm n⟩
  exact Prod.ext e1 e2
theorem node_has {c : List Seen} (h : ctxB c = true) (s : Str) : s ∈ nds c ↔ ∃ n, hasB c (s, n) = true := by
  obtain ⟨h1, h2, _⟩ := (ctxB_iff c).1 h
  constructor
  · intro hs
    obtain ⟨x, hx, e1, e2⟩ := ofB_mem hs
    obtain ⟨n, hn⟩ := ((seenB_iff x).1 (h1 x hx)).2.2
    exact ⟨n, by rw [hasB_of h2, e2]; exact hn⟩
  · rintro ⟨n, hn⟩
    rw [hasB_kn, List.any_eq_true] at hn
    obtain ⟨x, hx, e⟩ := hn
    simp only [Bool.and_eq_true, beq_iff_eq] at e
    exact List.mem_map.2 ⟨x, hx, e.1⟩
/-- Two contexts that know the same are one. -/
theorem ctx_uniq {a b : List Seen} (ha : ctxB a = true) (hb : ctxB b = true) (h : ∀ d, hasB a d = hasB b d) : a = b := by
  obtain ⟨a1, a2, _⟩ := (ctxB_iff a).1 ha
  obtain ⟨b1, b2, _⟩ := (ctxB_iff b).1 hb
  have hn : nds a = nds b := soS.uniq a2 b2 fun s => by
    rw [node_has ha, node_has hb]
    exact ⟨fun ⟨n, hn⟩ => ⟨n, by rw [← h]; exact hn⟩, fun ⟨n, hn⟩ => ⟨n, by rw [h]; exact hn⟩⟩
  rw [← ctx_map a2, ← ctx_map b2, hn]
  refine List.map_congr_left fun s _ => ?_
  have e2 : (ofB a s).2 = (ofB b s).2 := VS_uniq (ofB_VS a1 s) (ofB_VS b1 s) fun n => by rw [← hasB_of a2, ← hasB_of b2]; exact h _
  exact Prod.ext (by rw [ofB_node, ofB_node]) e2

/-! Joins. -/
def bothF (c : Int × List Int) (n : Int) : Int × List Int := bif decide (n = c.1 + 1) then (n, c.2) else bif decide (c.1 < n) then (c.1, c.2 ++ [n]) else c
def twoL (x y : Seen) : Seen := (x.1, (setI (x.2.2 ++ y.2.2)).foldl bothF (max x.2.1 y.2.1, []))
theorem bothF_fold (m : List Int) : ∀ (c : Int × List Int), 0 ≤ c.1 → c.1 ≤ M53 → m.Pairwise (fun a b => decide (a < b) = true) → (∀ n ∈ m, 1 ≤ n ∧ n ≤ M53) → c.2.Pairwise (fun a b => decide (a < b) = true) → (∀ o ∈ c.2, c.1 + 1 < o ∧ o ≤ M53) → (∀ o ∈ c.2, ∀ n ∈ m, o < n) →
    0 ≤ (m.foldl bothF c).1 ∧ (m.foldl bothF c).1 ≤ M53 ∧ (m.foldl bothF c).2.Pairwise (fun a b => decide (a < b) = true) ∧ (∀ o ∈ (m.foldl bothF c).2, (m.foldl bothF c).1 + 1 < o ∧ o ≤ M53) ∧
    (∀ n, ((0 < n ∧ n ≤ (m.foldl bothF c).1) ∨ n ∈ (m.foldl bothF c).2) ↔ ((0 < n ∧ n ≤ c.1) ∨ n ∈ c.2 ∨ n ∈ m)) ∧ (m.foldl bothF c).2.length ≤ c.2.length + m.length := by
  induction m with
  | nil => intro c h1 h2 _ _ h5 h6 _; exact ⟨h1, h2, h5, h6, fun n => by simp, by simp⟩
  | cons x m ih =>
    intro c h1 h2 h3 h4 h5 h6 h7
    obtain ⟨p1, p2⟩ := List.pairwise_cons.1 h3
    have hx := h4 x List.mem_cons_self
    rw [List.foldl_cons]
    by_cases e1 : x = c.1 + 1
    · have hc2 : c.2 = [] := by
        cases hc : c.2 with
        | nil => rfl
        | cons o l =>
          exfalso
          have k1 := h6 o (by rw [hc]; exact List.mem_cons_self)
          have k2 := h7 o (by rw [hc]; exact List.mem_cons_self) x List.mem_cons_self
          omega
      rw [show bothF c x = (x, c.2) from by unfold bothF; rw [decide_eq_true e1, cond_true]]
      obtain ⟨k1, k2, k3, k4, k5, k6⟩ := ih (x, c.2) (by show 0 ≤ x; omega) hx.2 p2 (fun n hn => h4 n (List.mem_cons_of_mem _ hn)) h5 (fun o ho => by rw [hc2] at ho; exact absurd ho List.not_mem_nil) (fun o ho => by rw [hc2] at ho; exact absurd ho List.not_mem_nil)
      refine ⟨k1, k2, k3, k4, fun n => ?_, by simp only [List.length_cons] at *; omega⟩
      rw [k5 n, hc2]
      simp only [List.not_mem_nil, false_or, List.mem_cons]
      constructor
      · rintro (⟨q1, q2⟩ | q)
        · by_cases e : n = x
          · exact .inr (.inl e)
          · exact .inl ⟨q1, by omega⟩
        · exact .inr (.inr q)
      · rintro (⟨q1, q2⟩ | q | q)
        · exact .inl ⟨q1, by omega⟩
        · exact .inl ⟨by omega, by omega⟩
        · exact .inr q
    · by_cases e2 : c.1 < x
      · rw [show bothF c x = (c.1, c.2 ++ [x]) from by unfold bothF; rw [decide_eq_false e1, cond_false, decide_eq_true e2, cond_true]]
        obtain ⟨k1, k2, k3, k4, k5, k6⟩ := ih (c.1, c.2 ++ [x]) h1 h2 p2 (fun n hn => h4 n (List.mem_cons_of_mem _ hn)) (by
          rw [List.pairwise_append]
          refine ⟨h5, List.pairwise_singleton _ _, fun o ho y hy => ?_⟩
          have hy : y = x := by simpa using hy
          rw [hy, decide_eq_true_eq]; exact h7 o ho x List.mem_cons_self) (fun o ho => by
          rcases List.mem_append.1 ho with ho | ho
          · exact h6 o ho
          · have ho : o = x := by simpa using ho
            rw [ho]; exact ⟨by show c.1 + 1 < x; omega, hx.2⟩) (fun o ho n hn => by
          rcases List.mem_append.1 ho with ho | ho
          · exact h7 o ho n (List.mem_cons_of_mem _ hn)
          · have ho : o = x := by simpa using ho
            rw [ho]; exact of_decide_eq_true (p1 n hn))
        refine ⟨k1, k2, k3, k4, fun n => ?_, by simp only [List.length_append, List.length_cons, List.length_nil] at *; omega⟩
        rw [k5 n]
        simp only [List.mem_append, List.mem_cons, List.not_mem_nil, or_false]
        constructor
        · rintro (q | (q | q) | q)
          · exact .inl q
          · exact .inr (.inl q)
          · exact .inr (.inr (.inl q))
          · exact .inr (.inr (.inr q))
        · rintro (q | q | q | q)
          · exact .inl q
          · exact .inr (.inl (.inl q))
          · exact .inr (.inl (.inr q))
          · exact .inr (.inr q)
      · rw [show bothF c x = c from by unfold bothF; rw [decide_eq_false e1, cond_false, decide_eq_false e2, cond_false]]
        obtain ⟨k1, k2, k3, k4, k5, k6⟩ := ih c h1 h2 p2 (fun n hn => h4 n (List.mem_cons_of_mem _ hn)) h5 h6 (fun o ho n hn => h7 o ho n (List.mem_cons_of_mem _ hn))
        refine ⟨k1, k2, k3, k4, fun n => ?_, by simp only [List.length_cons]; omega⟩
        rw [k5 n, List.mem_cons]
        constructor
        · rintro (q | q | q)
          · exact .inl q
          · exact .inr (.inl q)
          · exact .inr (.inr (.inr q))
        · rintro (q | q | q | q)
          · exact .inl q
          · exact .inr (.inl q)
          · exact .inl ⟨by omega, by omega⟩
          · exact .inr (.inr q)
theorem twoL_ok {x y : Seen} (hx : VS x) (hy : VS y) : VS (twoL x y) ∧ (∀ n, kn (twoL x y) n = (kn x n || kn y n)) ∧ (twoL x y).2.2.length ≤ x.2.2.length + y.2.2.length := by
  obtain ⟨s1, s2, s3⟩ := setI_ok (x.2.2 ++ y.2.2)
  obtain ⟨k1, k2, k3, k4, k5, k6⟩ := bothF_fold (setI (x.2.2 ++ y.2.2)) (max x.2.1 y.2.1, []) (by have := hx.1; show 0 ≤ max _ _; omega) (by have := hx.2.1; have := hy.2.1; show max _ _ ≤ _; omega) s1 (fun n hn => by
    rcases List.mem_append.1 ((s2 n).1 hn) with h | h
    · have := hx.2.2.2 n h; have := hx.1; omega
    · have := hy.2.2.2 n h; have := hy.1; omega) List.Pairwise.nil (fun o ho => absurd ho List.not_mem_nil) (fun o ho => absurd ho List.not_mem_nil)
  refine ⟨⟨k1, k2, k3, k4⟩, fun n => ?_, ?_⟩
  · rw [Bool.eq_iff_iff, Bool.or_eq_true, kn_iff, kn_iff, kn_iff]
    refine (k5 n).trans ?_
    rw [s2 n, List.mem_append]
    simp only [List.not_mem_nil, false_or]
    constructor
    · rintro (⟨q1, q2⟩ | q | q)
      · by_cases h : n ≤ x.2.1
        · exact .inl (.inl ⟨q1, h⟩)
        · exact .inr (.inl ⟨q1, by have q2 : n ≤ max x.2.1 y.2.1 := q2; omega⟩)
      · exact .inl (.inr q)
      · exact .inr (.inr q)
    · rintro ((⟨q1, q2⟩ | q) | (⟨q1, q2⟩ | q))
      · exact .inl ⟨q1, by show n ≤ max _ _; omega⟩
      · exact .inr (.inl q)
      · exact .inl ⟨q1, by show n ≤ max _ _; omega⟩
      · exact .inr (.inr q)
  · have k6 : (twoL x y).2.2.length ≤ 0 + (setI (x.2.2 ++ y.2.2)).length := k6
    rw [List.length_append] at s3; omega
def nodesL (a b : List Seen) : List Str := setS (nds (a ++ b))
def outL (a b : List Seen) : List Seen := (nodesL a b).map fun s => twoL (ofB a s) (ofB b s)
theorem outL_nds (a b : List Seen) : nds (outL a b) = nodesL a b := by
  unfold outL nds
  rw [List.map_map]
  calc (nodesL a b).map _ = (nodesL a b).map id := List.map_congr_left fun s _ => ofB_node a s
    _ = _ := List.map_id _
theorem nodesL_ok (a b : List Seen) : (nodesL a b).Pairwise (fun x y => ltS x y = true) ∧ (∀ s, s ∈ nodesL a b ↔ s ∈ nds a ∨ s ∈ nds b) ∧ (nodesL a b).length ≤ a.length + b.length := by
  obtain ⟨h1, h2, h3⟩ := setS_ok (nds (a ++ b))
  refine ⟨h1, fun s => ?_, ?_⟩
  · rw [show s ∈ nodesL a b ↔ _ from h2 s]
    unfold nds; rw [List.map_append, List.mem_append]
  · have : (nds (a ++ b)).length = a.length + b.length := by unfold nds; rw [List.length_map, List.length_append]
    have h3 : (nodesL a b).length ≤ _ := h3
    omega
theorem rising_nodup {l : List Str} (h : l.Pairwise (fun x y => ltS x y = true)) : l.Nodup := h.imp fun {a b} h e => by rw [e, soS.irr] at h; cases h
theorem sum_if (L : List Str) (hL : L.Nodup) (k : Str) (u : Nat) (g : Str → Nat) : (L.map fun s => if s = k then u else g s).sum ≤ u + (L.map g).sum := by
  induction L with
  | nil => simp
  | cons s L ih =>
    obtain ⟨h1, h2⟩ := List.nodup_cons.1 hL
    simp only [List.map_cons, List.sum_cons]
    by_cases e : s = k
    · have : (L.map fun s => if s = k then u else g s) = L.map g := List.map_congr_left fun t ht => by
        rw [if_neg]; intro e'; subst e e'; exact h1 ht
      rw [this, if_pos e]; omega
    · have := ih h2
      rw [if_neg e]; omega
theorem sum_of (c : List Seen) (L : List Str) (hL : L.Nodup) : (L.map fun s => (ofB c s).2.2.length).sum ≤ sumM c := by
  induction c with
  | nil =>
    have : (L.map fun s => (ofB [] s).2.2.length) = L.map fun _ => 0 := List.map_congr_left fun s _ => rfl
    rw [this]
    have : ∀ L : List Str, (L.map fun _ => 0).sum = 0 := by
      intro L; induction L with
      | nil => rfl
      | cons _ _ ih => simpa using ih
    rw [this]; exact Nat.zero_le _
  | cons x c ih =>
    have e : (L.map fun s => (ofB (x :: c) s).2.2.length) = L.map fun s => if s = x.1 then x.2.2.length else (ofB c s).2.2.length := List.map_congr_left fun s _ => by
      unfold ofB
      rw [List.find?_cons]
      by_cases h : s = x.1
      · have : (x.1 == s) = true := by simp [h]
        rw [this, if_pos h]; rfl
      · have : (x.1 == s) = false := by rw [beq_eq_false_iff_ne]; exact fun e => h e.symm
        rw [this, if_neg h]
    rw [e]
    have h1 := sum_if L hL x.1 x.2.2.length fun s => (ofB c s).2.2.length
    have h2 : sumM (x :: c) = x.2.2.length + sumM c := by simp [sumM]
    omega
theorem outL_sum {a b : List Seen} (ha : ctxB a = true) (hb : ctxB b = true) : sumM (outL a b) ≤ sumM a + sumM b := by
  obtain ⟨a1, a2, _⟩ := (ctxB_iff a).1 ha
  obtain ⟨b1, b2, _⟩ := (ctxB_iff b).1 hb
  have hd := rising_nodup (nodesL_ok a b).1
  have h1 := sum_of a _ hd
  have h2 := sum_of b _ hd
  have key : ∀ L : List Str, (L.map fun s => (twoL (ofB a s) (ofB b s)).2.2.length).sum ≤ (L.map fun s => (ofB a s).2.2.length).sum + (L.map fun s => (ofB b s).2.2.length).sum := by
    intro L
    induction L with
    | nil => simp
    | cons s L ih =>
      have := (twoL_ok (ofB_VS a1 s) (ofB_VS b1 s)).2.2
      simp only [List.map_cons, List.sum_cons]; omega
  have h3 := key (nodesL a b)
  have e : sumM (outL a b) = ((nodesL a b).map fun s => (twoL (ofB a s) (ofB b s)).2.2.length).sum := by
    unfold sumM outL; rw [List.map_map]; rfl
  omega
theorem outL_ok {a b : List Seen} (ha : ctxB a = true) (hb : ctxB b = true) (hs : sumM a + sumM b ≤ 4096) : ctxB (outL a b) = true ∧ ∀ d, hasB (outL a b) d = (hasB a d || hasB b d) := by
  obtain ⟨a1, a2, _⟩ := (ctxB_iff a).1 ha
  obtain ⟨b1, b2, _⟩ := (ctxB_iff b).1 hb
  obtain ⟨n1, n2, _⟩ := nodesL_ok a b
  have hm : ∀ s, s ∈ nodesL a b → ofB (outL a b) s = twoL (ofB a s) (ofB b s) := fun s hs => by
    have h1 : twoL (ofB a s) (ofB b s) ∈ outL a b := List.mem_map.2 ⟨s, hs, rfl⟩
    have h2 := rising_ne (c := outL a b) (by rw [outL_nds]; exact n1) h1
    rwa [show (twoL (ofB a s) (ofB b s)).1 = s from ofB_node a s] at h2
  have hk : ∀ s n, kn (ofB (outL a b) s) n = (kn (ofB a s) n || kn (ofB b s) n) := fun s n => by
    by_cases h : s ∈ nodesL a b
    · rw [hm s h]; exact (twoL_ok (ofB_VS a1 s) (ofB_VS b1 s)).2.1 n
    · have h' : ¬ (s ∈ nds a ∨ s ∈ nds b) := fun q => h ((n2 s).2 q)
      rw [ofB_none (c := outL a b) (by rw [outL_nds]; exact h), ofB_none (fun q => h' (.inl q)), ofB_none (fun q => h' (.inr q)), Bool.or_self]
  refine ⟨(ctxB_iff _).2 ⟨fun x hx => ?_, by rw [outL_nds]; exact n1, by have := outL_sum ha hb; omega⟩, fun d => ?_⟩
  · obtain ⟨s, hs, rfl⟩ := List.mem_map.1 hx
    rw [seenB_iff]
    have hn : s ∈ nds a ∨ s ∈ nds b := (n2 s).1 hs
    refine ⟨?_, (twoL_ok (ofB_VS a1 s) (ofB_VS b1 s)).1, ?_⟩
    · show nameS (ofB a s).1 = true
      rw [ofB_node]
      rcases hn with h | h
      · obtain ⟨x, hx, e, _⟩ := ofB_mem h
        rw [← e]; exact ((seenB_iff x).1 (a1 x hx)).1
      · obtain ⟨x, hx, e, _⟩ := ofB_mem h
        rw [← e]; exact ((seenB_iff x).1 (b1 x hx)).1
    · rcases hn with h | h
      · obtain ⟨n, hn⟩ := (node_has ha s).1 h
        rw [hasB_of a2] at hn
        exact ⟨n, by rw [(twoL_ok (ofB_VS a1 s) (ofB_VS b1 s)).2.1, hn]; rfl⟩
      · obtain ⟨n, hn⟩ := (node_has hb s).1 h
        rw [hasB_of b2] at hn
        exact ⟨n, by rw [(twoL_ok (ofB_VS a1 s) (ofB_VS b1 s)).2.1, hn, Bool.or_true]⟩
  · obtain ⟨s, n⟩ := d
    rw [hasB_of (c := outL a b) (by rw [outL_nds]; exact n1), hasB_of a2, hasB_of b2]
    exact hk s n
def joinL (a b : List Seen) : List Seen × Int := bif !ctxB a || !ctxB b then ([], 1) else bif ctxB (outL a b) then (outL a b, 0) else ([], 4)
theorem coverB_iff {a : List Seen} (ha : ctxB a = true) {x : Seen} (hx : VS x) : coverB a x = true ↔ ∀ n, kn x n = true → kn (ofB a x.1) n = true := by
  obtain ⟨a1, a2, _⟩ := (ctxB_iff a).1 ha
  have hv := ofB_VS a1 x.1
  unfold coverB
  simp only [Bool.and_eq_true, decide_eq_true_eq, List.all_eq_true]
  have hk : ∀ n, knowsB (ofB a x.1) n = true ↔ n ≤ (ofB a x.1).2.1 ∨ n ∈ (ofB a x.1).2.2 := fun n => by
    unfold knowsB
    simp only [Bool.or_eq_true, decide_eq_true_eq, List.any_eq_true]
    constructor
    · rintro (h | ⟨y, hy, e⟩)
      · exact .inl h
      · rw [e]; exact .inr hy
    · rintro (h | h)
      · exact .inl h
      · exact .inr ⟨n, h, rfl⟩
  constructor
  · rintro ⟨h1, h2⟩ n hn
    rw [kn_iff]
    rcases (kn_iff x n).1 hn with h | h
    · exact .inl ⟨h.1, by omega⟩
    · rcases (hk n).1 (h2 n h) with q | q
      · exact .inl ⟨by have := (hx.2.2.2 n h).1; have := hx.1; omega, q⟩
      · exact .inr q
  · intro h
    refine ⟨?_, fun n hn => ?_⟩
    · by_cases hlt : x.2.1 ≤ (ofB a x.1).2.1
      · exact hlt
      exfalso
      have h1 := h ((ofB a x.1).2.1 + 1) ((kn_iff x _).2 (.inl ⟨by have := hv.1; omega, by omega⟩))
      rcases (kn_iff _ _).1 h1 with q | q
      · omega
      · have := (hv.2.2.2 _ q).1; omega
    · rw [hk]
      rcases (kn_iff _ n).1 (h n ((kn_iff x n).2 (.inr hn))) with q | q
      · exact .inl q.2
      · exact .inr q
theorem coversB_iff {a b : List Seen} (ha : ctxB a = true) (hb : ctxB b = true) : coversB a b = true ↔ ∀ d, hasB b d = true → hasB a d = true := by
  obtain ⟨a1, a2, _⟩ := (ctxB_iff a).1 ha
  obtain ⟨b1, b2, _⟩ := (ctxB_iff b).1 hb
  unfold coversB
  rw [ha, hb, Bool.true_and, Bool.true_and, List.all_eq_true]
  constructor
  · intro h d hd
    obtain ⟨s, n⟩ := d
    rw [hasB_kn, List.any_eq_true] at hd
    obtain ⟨x, hx, e⟩ := hd
    simp only [Bool.and_eq_true, beq_iff_eq] at e
    rw [← e.1, hasB_of a2]
    exact (coverB_iff ha ((seenB_iff x).1 (b1 x hx)).2.1).1 (h x hx) n e.2
  · intro h x hx
    rw [coverB_iff ha ((seenB_iff x).1 (b1 x hx)).2.1]
    intro n hn
    rw [← hasB_of a2]
    refine h _ ?_
    rw [hasB_kn, List.any_eq_true]
    exact ⟨x, hx, by simp [hn]⟩

end Go.Eng
