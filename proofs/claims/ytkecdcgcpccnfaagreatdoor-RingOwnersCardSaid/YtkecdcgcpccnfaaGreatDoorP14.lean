/- Laws in plain Lean: setl ins p14 p14laws p14b. -/
import Derived.Test.YtkecdcgcpccnfaaGreatDoorK10
import Derived.Test.YtkecdcgcpccnfaaGreatDoorH06
import Derived.Test.YtkecdcgcpccnfaaGreatDoorTrT
namespace Go.Eng
open Go Go.Proofs Go.RowKit

/-! Orders, and rising lists. -/
structure SO {α : Type} (lt : α → α → Bool) : Prop where
  irr : ∀ a, lt a a = false
  tr : ∀ a b c, lt a b = true → lt b c = true → lt a c = true
  tot : ∀ a b, lt a b = false → lt b a = false → a = b
theorem SO.asym {α : Type} {lt : α → α → Bool} (h : SO lt) {a b : α} (k : lt a b = true) : lt b a = false := by
  cases e : lt b a with
  | false => rfl
  | true => have := h.tr _ _ _ k e; rw [h.irr] at this; cases this
theorem soI : SO (fun a b : Int => decide (a < b)) := ⟨fun a => by simp, fun a b c h k => by simp only [decide_eq_true_eq] at *; omega, fun a b h k => by simp only [decide_eq_false_iff_not] at *; omega⟩
theorem soS : SO ltS := ⟨less_irrefl, fun a b c h k => less_trans h k, fun a b h k => less_total h k⟩
/-- Two rising lists of the same are one. -/
theorem SO.uniq {α : Type} {lt : α → α → Bool} (h : SO lt) {a b : List α} (ha : a.Pairwise fun x y => lt x y = true) (hb : b.Pairwise fun x y => lt x y = true) (hm : ∀ x, x ∈ a ↔ x ∈ b) : a = b := by
  induction a generalizing b with
  | nil =>
    cases b with
    | nil => rfl
    | cons y b => exact absurd ((hm y).2 List.mem_cons_self) List.not_mem_nil
  | cons x a ih =>
    cases b with
    | nil => exact absurd ((hm x).1 List.mem_cons_self) List.not_mem_nil
    | cons y b =>
      obtain ⟨a1, a2⟩ := List.pairwise_cons.1 ha
      obtain ⟨b1, b2⟩ := List.pairwise_cons.1 hb
      have e : x = y := by
        rcases List.mem_cons.1 ((hm x).1 List.mem_cons_self) with e | hx
        · exact e
        rcases List.mem_cons.1 ((hm y).2 List.mem_cons_self) with e | hy
        · exact e.symm
        have h1 := b1 x hx
        have h2 := a1 y hy
        rw [h.asym h1] at h2; cases h2
      subst e
      rw [ih a2 b2 fun z => ⟨fun hz => ?_, fun hz => ?_⟩]
      · rcases List.mem_cons.1 ((hm z).1 (List.mem_cons_of_mem _ hz)) with e | k
        · subst e; have := a1 z hz; rw [h.irr] at this; cases this
        · exact k
      · rcases List.mem_cons.1 ((hm z).2 (List.mem_cons_of_mem _ hz)) with e | k
        · subst e; have := b1 z hz; rw [h.irr] at this; cases this
        · exact k
theorem compFrom_ok {α : Type} {lt eq : α → α → Bool} (h : SO lt) (he : ∀ a b, eq a b = true ↔ a = b) (x : α) (l : List α) (hs : (x :: l).Pairwise fun a b => lt b a = false) :
    (x :: compFrom eq x l).Pairwise (fun a b => lt a b = true) ∧ (∀ z, z ∈ x :: compFrom eq x l ↔ z ∈ x :: l) ∧ (compFrom eq x l).length ≤ l.length := by
  induction l generalizing x with
  | nil => exact ⟨List.pairwise_singleton _ _, fun z => Iff.rfl, Nat.le_refl _⟩
  | cons y l ih =>
    obtain ⟨h1, h2⟩ := List.pairwise_cons.1 hs
    obtain ⟨h3, h4⟩ := List.pairwise_cons.1 h2
    simp only [compFrom]
    cases hq : eq y x with
    | true =>
      have e := (he y x).1 hq
      subst e
      obtain ⟨k1, k2, k3⟩ := ih y (List.pairwise_cons.2 ⟨h3, h4⟩)
      refine ⟨k1, fun z => ?_, by simp; omega⟩
      rw [k2 z]; simp
    | false =>
      obtain ⟨k1, k2, k3⟩ := ih y h2
      have hxy : lt x y = true := by
        cases hb : lt x y with
        | true => rfl
        | false =>
          have e := h.tot x y hb (h1 y List.mem_cons_self)
          subst e
          rw [(he x x).2 rfl] at hq; cases hq
      refine ⟨List.pairwise_cons.2 ⟨fun z hz => ?_, k1⟩, fun z => ?_, by simp; omega⟩
      · rcases List.mem_cons.1 hz with e | hz
        · subst e; exact hxy
        · exact h.tr _ _ _ hxy ((List.pairwise_cons.1 k1).1 z hz)
      · rw [List.mem_cons, k2 z, List.mem_cons (b := x)]
theorem compL_ok {α : Type} {lt eq : α → α → Bool} (h : SO lt) (he : ∀ a b, eq a b = true ↔ a = b) (l : List α) (hs : l.Pairwise fun a b => lt b a = false) :
    (compL eq l).Pairwise (fun a b => lt a b = true) ∧ (∀ z, z ∈ compL eq l ↔ z ∈ l) ∧ (compL eq l).length ≤ l.length := by
  cases l with
  | nil => exact ⟨List.Pairwise.nil, fun z => Iff.rfl, Nat.le_refl _⟩
  | cons x l =>
    obtain ⟨k1, k2, k3⟩ := compFrom_ok h he x l hs
    exact ⟨k1, k2, by simp [compL]; omega⟩
def setI (l : List Int) : List Int := compL eqI (sortI l)
def setS (l : List Str) : List Str := compL eqS (sortS l)
theorem setI_ok (l : List Int) : (setI l).Pairwise (fun a b => decide (a < b) = true) ∧ (∀ z, z ∈ setI l ↔ z ∈ l) ∧ (setI l).length ≤ l.length := by
  have hs := isortB_sorted (le := leI) (fun a b c h k => by unfold leI at *; simp only [decide_eq_true_eq] at *; omega) (fun a b h => by unfold leI at *; simp only [decide_eq_true_eq, decide_eq_false_iff_not] at *; omega) l
  obtain ⟨k1, k2, k3⟩ := compL_ok soI (eq := eqI) (fun a b => by unfold eqI; simp) (sortI l) (hs.imp fun {a b} h => by unfold leI at h; simp only [decide_eq_true_eq, decide_eq_false_iff_not] at *; omega)
  exact ⟨k1, fun z => (k2 z).trans (isortB_perm _ l).mem_iff, by rw [(isortB_perm leI l).length_eq] at k3; exact k3⟩
theorem setS_ok (l : List Str) : (setS l).Pairwise (fun a b => ltS a b = true) ∧ (∀ z, z ∈ setS l ↔ z ∈ l) ∧ (setS l).length ≤ l.length := by
  have hs := isortB_sorted (le := leS) leS_trans leS_total l
  obtain ⟨k1, k2, k3⟩ := compL_ok soS (eq := eqS) (fun a b => by unfold eqS; simp) (sortS l) (hs.imp fun {a b} h => by unfold leS at h; simpa using h)
  exact ⟨k1, fun z => (k2 z).trans (isortB_perm _ l).mem_iff, by rw [(isortB_perm leS l).length_eq] at k3; exact k3⟩
/-- One more, in its place, once. -/
def insL {α : Type} (lt : α → α → Bool) (x : α) : List α → List α
  | [] => [x]
  | y :: l => match lt y x with | true => y :: insL lt x l | false => match lt x y with | true => x :: y :: l | false => y :: l
theorem insL_ok {α : Type} {lt : α → α → Bool} (h : SO lt) (x : α) {l : List α} (hs : l.Pairwise fun a b => lt a b = true) :
    (insL lt x l).Pairwise (fun a b => lt a b = true) ∧ (∀ z, z ∈ insL lt x l ↔ z = x ∨ z ∈ l) ∧ (insL lt x l).length ≤ l.length + 1 := by
  induction l with
  | nil => exact ⟨List.pairwise_singleton _ _, fun z => by simp [insL], by simp [insL]⟩
  | cons y l ih =>
    obtain ⟨h1, h2⟩ := List.pairwise_cons.1 hs
    obtain ⟨k1, k2, k3⟩ := ih h2
    simp only [insL]
    cases hb : lt y x with
    | true =>
      refine ⟨List.pairwise_cons.2 ⟨fun z hz => ?_, k1⟩, fun z => ?_, by simp; omega⟩
      · rcases (k2 z).1 hz with rfl | hz
        · exact hb
        · exact h1 z hz
      · rw [List.mem_cons, k2 z, List.mem_cons]
        constructor
        · rintro (h | h | h)
          · exact .inr (.inl h)
          · exact .inl h
          · exact .inr (.inr h)
        · rintro (h | h | h)
          · exact .inr (.inl h)
          · exact .inl h
          · exact .inr (.inr h)
    | false =>
      cases hc : lt x y with
      | true =>
        refine ⟨List.pairwise_cons.2 ⟨fun z hz => ?_, hs⟩, fun z => by simp, by simp⟩
        rcases List.mem_cons.1 hz with rfl | hz
        · exact hc
        · exact h.tr _ _ _ hc (h1 z hz)
      | false =>
        have e := h.tot x y hc hb
        subst e
        exact ⟨hs, fun z => by simp, by simp⟩
def insAll {α : Type} (lt : α → α → Bool) (acc l : List α) : List α := l.foldl (fun acc x => insL lt x acc) acc
theorem insAll_ok {α : Type} {lt : α → α → Bool} (h : SO lt) (l : List α) {acc : List α} (hs : acc.Pairwise fun a b => lt a b = true) :
    (insAll lt acc l).Pairwise (fun a b => lt a b = true) ∧ (∀ z, z ∈ insAll lt acc l ↔ z ∈ acc ∨ z ∈ l) ∧ (insAll lt acc l).length ≤ acc.length + l.length := by
  induction l generalizing acc with
  | nil => exact ⟨hs, fun z => by simp [insAll], by simp [insAll]⟩
  | cons x l ih =>
    obtain ⟨k1, k2, k3⟩ := insL_ok h x hs
    obtain ⟨j1, j2, j3⟩ := ih k1
    refine ⟨j1, fun z => ?_, ?_⟩
    · show z ∈ insAll lt (insL lt x acc) l ↔ _
      rw [j2 z, k2 z, List.mem_cons]
      constructor
      · rintro ((h | h) | h)
        · exact .inr (.inl h)
        · exact .inl h
        · exact .inr (.inr h)
      · rintro (h | h | h)
        · exact .inl (.inr h)
        · exact .inl (.inl h)
        · exact .inr h
    · show (insAll lt (insL lt x acc) l).length ≤ _
      simp only [List.length_cons]; omega
theorem insAll_setI (l : List Int) : insAll (fun a b => decide (a < b)) [] l = setI l := by
  obtain ⟨k1, k2, _⟩ := insAll_ok soI l (acc := []) List.Pairwise.nil
  obtain ⟨j1, j2, _⟩ := setI_ok l
  exact soI.uniq k1 j1 fun z => by rw [k2, j2]; simp
theorem insAll_setS (l : List Str) : insAll ltS [] l = setS l := by
  obtain ⟨k1, k2, _⟩ := insAll_ok soS l (acc := []) List.Pairwise.nil
  obtain ⟨j1, j2, _⟩ := setS_ok l
  exact soS.uniq k1 j1 fun z => by rw [k2, j2]; simp

/-! Loops, once more. -/
theorem loopF_mu {σ α : Type} {st : σ → Option (σ ⊕ α)} (I : σ → Prop) (mu : σ → Nat) (Q : α → Prop) (h : ∀ s, I s → (∃ s', st s = some (.inl s') ∧ I s' ∧ mu s' < mu s) ∨ ∃ a, st s = some (.inr a) ∧ Q a) {s0 : σ} (h0 : I s0) : ∃ a, loopF st s0 = some a ∧ Q a := by
  have key : ∀ n s, mu s ≤ n → I s → ∃ a, loopF st s = some a ∧ Q a := by
    intro n
    induction n with
    | zero =>
      intro s hn hs
      rcases h s hs with ⟨s', _, _, h3⟩ | ⟨a, h1, h2⟩
      · omega
      · exact ⟨a, by rw [loopF_eq, h1]; rfl, h2⟩
    | succ n ih =>
      intro s hn hs
      rcases h s hs with ⟨s', h1, h2, h3⟩ | ⟨a, h1, h2⟩
      · obtain ⟨a, k1, k2⟩ := ih s' (by omega) h2
        exact ⟨a, by rw [loopF_eq, h1]; exact k1, k2⟩
      · exact ⟨a, by rw [loopF_eq, h1]; rfl, h2⟩
  exact key _ s0 (Nat.le_refl _) h0
theorem imax_eq (a b : Int) : std.imax a b = max a b := by
  show (if b > a then b else a) = _
  split <;> omega
/-- The place of the first one that is not less. -/
def geI {α : Type} (lt : α → α → Bool) (x : α) : List α → Nat
  | [] => 0
  | y :: l => match lt y x with | true => geI lt x l + 1 | false => 0
theorem geI_le {α : Type} (lt : α → α → Bool) (x : α) (l : List α) : geI lt x l ≤ l.length := by
  induction l with
  | nil => exact Nat.le_refl _
  | cons y l ih => simp only [geI]; cases lt y x <;> simp; omega
theorem geI_lt {α : Type} (lt : α → α → Bool) (x : α) (l : List α) (i : Nat) (hi : i < geI lt x l) (hl : i < l.length) : lt l[i] x = true := by
  induction l generalizing i with
  | nil => exact absurd hl (Nat.not_lt_zero _)
  | cons y l ih =>
    simp only [geI] at hi
    cases hy : lt y x with
    | false => rw [hy] at hi; exact absurd hi (Nat.not_lt_zero _)
    | true =>
      rw [hy] at hi
      cases i with
      | zero => exact hy
      | succ i => exact ih i (by have hi : i + 1 < geI lt x l + 1 := hi; omega) (by simpa using hl)
theorem geI_at {α : Type} (lt : α → α → Bool) (x : α) (l : List α) (hl : geI lt x l < l.length) : lt l[geI lt x l] x = false := by
  induction l with
  | nil => exact absurd hl (Nat.not_lt_zero _)
  | cons y l ih =>
    cases hy : lt y x with
    | false =>
      have e : geI lt x (y :: l) = 0 := by simp only [geI, hy]
      simp only [e, List.getElem_cons_zero, hy]
    | true =>
      have e : geI lt x (y :: l) = geI lt x l + 1 := by simp only [geI, hy]
      simp only [e, List.getElem_cons_succ]
      exact ih (by rw [e] at hl; simpa using hl)
theorem ge_loop {α : Type} (lt : α → α → Bool) (x : α) (l : List α) (st : Int → Tree (Int ⊕ Int)) (hl : l.length ≤ 1000000)
    (h : ∀ i (hi : i < l.length), (st (i : Int)).run = some (bif lt l[i] x then .inl (w64 ((i : Int) + 1)) else .inr (i : Int))) (h0 : (st (l.length : Int)).run = some (.inr (l.length : Int))) :
    loopF (fun v => (st v).run) 0 = some ((geI lt x l : Nat) : Int) := by
  have hle := geI_le lt x l
  refine loopF_run (S := fun i => (i : Int)) (n := geI lt x l) (fun i hi => ?_) ?_ rfl
  · rw [h i (by omega), geI_lt lt x l i hi (by omega), w64_i i (by omega)]; rfl
  · by_cases hlt : geI lt x l < l.length
    · rw [h _ hlt, geI_at lt x l hlt]; rfl
    · have : geI lt x l = l.length := by omega
      rw [this]; exact h0
theorem insL_ge {α : Type} {lt : α → α → Bool} (x : α) (l : List α) : insL lt x l = if h : geI lt x l < l.length then (if lt x l[geI lt x l] = true then l.take (geI lt x l) ++ x :: l.drop (geI lt x l) else l) else l ++ [x] := by
  induction l with
  | nil => rfl
  | cons y l ih =>
    simp only [insL]
    cases hy : lt y x with
    | false =>
      have e : geI lt x (y :: l) = 0 := by simp only [geI, hy]
      simp only [e, List.length_cons, Nat.zero_lt_succ, dite_true, List.getElem_cons_zero, List.take_zero, List.drop_zero, List.nil_append]
      cases lt x y <;> rfl
    | true =>
      have e : geI lt x (y :: l) = geI lt x l + 1 := by simp only [geI, hy]
      simp only [e, List.length_cons, Nat.add_lt_add_iff_right, List.getElem_cons_succ, List.take_succ_cons, List.drop_succ_cons, List.cons_append]
      rw [ih]
      split
      · split <;> rfl
      · rfl
theorem sameL_dec {α : Type} [DecidableEq α] {e : α → α → Bool} (a b : List α) (h : ∀ x ∈ a, ∀ y, e x y = decide (x = y)) : sameL e a b = decide (a = b) := by
  induction a generalizing b with
  | nil => cases b <;> simp [sameL]
  | cons x a ih =>
    cases b with
    | nil => simp [sameL]
    | cons y b =>
      simp only [sameL, h x List.mem_cons_self, ih b fun z hz => h z (List.mem_cons_of_mem _ hz)]
      by_cases h1 : x = y <;> by_cases h2 : a = b <;> simp [h1, h2]


/-! A partition's key; the entries of owners; the owners of entries; the partition of a place. -/
def ringK (n : Int) : Str := ([114, 105, 110, 103, 47] : Str) ++ decS n
theorem n64N {n : Nat} (h : n ≤ 1000000) : N64 (n : Int) := ⟨by omega, by omega⟩
theorem ringKey_run {n : Int} (h : N64 n) : (ring_Key_T n).run = some (ringK n) := by
  have hl := (decS_len h).1
  have hd : (name_Dec_T n).run = some (decS n) := rfl
  unfold ring_Key_T
  refine (run_bnd hd).trans ?_
  refine (run_bnd (path_run [([114, 105, 110, 103] : Str), decS n] (by show 2 ≤ _; omega) (by show 4 + ((decS n).length + 0) ≤ _; omega))).trans ?_
  show some (([114, 105, 110, 103] : Str) ++ ((([47] : Str) ++ decS n) ++ [])) = some (([114, 105, 110, 103, 47] : Str) ++ decS n)
  rw [List.append_nil]; rfl
theorem r14Key_run {n : Int} (h : N64 n) : (r14_Key_T n).run = some (ringK n) := by
  have hl := (decS_len h).1
  unfold r14_Key_T
  refine (run_bnd (r05Dec_run n h)).trans ?_
  exact run_ask (decide_eq_true (by show 5 + _ ≤ _; omega))
theorem ringK_inj {m n : Int} (hm : N64 m) (hn : N64 n) (h : ringK m = ringK n) : m = n :=
  decS_inj hm hn (List.append_cancel_left h)
theorem ringK_len {n : Int} (h : N64 n) : 1 ≤ (ringK n).length ∧ (ringK n).length ≤ 25 := by
  have hl := (decS_len h).1
  unfold ringK
  rw [List.length_append]
  show 1 ≤ 5 + _ ∧ 5 + _ ≤ 25
  omega

/-! The entries of owners. -/
def ent1 (k : Nat) (s : Str) : List Entry := bif nameS s then [(ringK (k : Int), ((1 : Int), (([] : Str), s)))] else []
def outE : Nat → List Str → List Entry
  | _, [] => []
  | k, s :: l => ent1 k s ++ outE (k + 1) l
theorem outE_app (k : Nat) (a b : List Str) : outE k (a ++ b) = outE k a ++ outE (k + a.length) b := by
  induction a generalizing k with
  | nil => rfl
  | cons s a ih =>
    show ent1 k s ++ outE (k + 1) (a ++ b) = (ent1 k s ++ outE (k + 1) a) ++ outE (k + (a.length + 1)) b
    rw [ih, List.append_assoc, show k + 1 + a.length = k + (a.length + 1) by omega]
theorem outE_succ {l : List Str} {i : Nat} (h : i < l.length) : outE 0 (l.take (i + 1)) = outE 0 (l.take i) ++ ent1 i l[i] := by
  rw [List.take_succ_eq_append_getElem h, outE_app, List.length_take, Nat.min_eq_left (by omega), Nat.zero_add]
  show _ ++ (ent1 i l[i] ++ []) = _
  rw [List.append_nil]
theorem ent1_len (k : Nat) (s : Str) : (ent1 k s).length ≤ 1 := by unfold ent1; cases nameS s <;> simp
theorem outE_len (k : Nat) (l : List Str) : (outE k l).length ≤ l.length := by
  induction l generalizing k with
  | nil => exact Nat.le_refl _
  | cons s l ih =>
    have h1 := ent1_len k s
    have h2 := ih (k + 1)
    show (ent1 k s ++ outE (k + 1) l).length ≤ l.length + 1
    rw [List.length_append]; omega
theorem outE_mem {k : Nat} {l : List Str} {x : Entry} (h : x ∈ outE k l) : ∃ i, ∃ hi : i < l.length, x = (ringK ((k + i : Nat) : Int), ((1 : Int), (([] : Str), l[i]))) ∧ nameS l[i] = true := by
  induction l generalizing k with
  | nil => cases h
  | cons s l ih =>
    rcases List.mem_append.1 (show x ∈ ent1 k s ++ outE (k + 1) l from h) with h | h
    · unfold ent1 at h
      cases hn : nameS s with
      | false => rw [hn] at h; cases h
      | true => rw [hn] at h; exact ⟨0, by simp, List.mem_singleton.1 h, hn⟩
    · obtain ⟨i, hi, e, hn⟩ := ih h
      exact ⟨i + 1, by simp; omega, by rw [e, show k + 1 + i = k + (i + 1) by omega]; rfl, hn⟩
theorem mem_outE {k : Nat} {l : List Str} {i : Nat} (hi : i < l.length) (hn : nameS l[i] = true) : (ringK ((k + i : Nat) : Int), ((1 : Int), (([] : Str), l[i]))) ∈ outE k l := by
  induction l generalizing k i with
  | nil => exact absurd hi (Nat.not_lt_zero _)
  | cons s l ih =>
    refine List.mem_append.2 ?_
    cases i with
    | zero => left; unfold ent1; rw [show nameS s = true from hn]; exact List.mem_singleton.2 rfl
    | succ i =>
      right
      have := ih (k := k + 1) (i := i) (by simpa using hi) hn
      rw [show k + 1 + i = k + (i + 1) by omega] at this
      exact this
theorem outE_apart (k : Nat) (l : List Str) (h : k + l.length ≤ 1000000) : apartB ((outE k l).map fun z => z.1) = true := by
  induction l generalizing k with
  | nil => rfl
  | cons s l ih =>
    have h : k + (l.length + 1) ≤ 1000000 := h
    have hi := ih (k + 1) (by omega)
    show apartB ((ent1 k s ++ outE (k + 1) l).map fun z => z.1) = true
    unfold ent1
    cases nameS s with
    | false => exact hi
    | true =>
      show (!(((outE (k + 1) l).map fun z => z.1).any fun y => eqS (ringK (k : Int)) y) && apartB ((outE (k + 1) l).map fun z => z.1)) = true
      rw [hi, Bool.and_true, Bool.not_eq_true', List.any_eq_false]
      intro y hy
      obtain ⟨x, hx, rfl⟩ := List.mem_map.1 hy
      obtain ⟨i, hi, e, _⟩ := outE_mem hx
      rw [eqS_iff, e]
      intro he
      have := ringK_inj (n64N (by omega)) (n64N (by omega)) he
      omega
def entsS (l : List Str) : List Entry := srtK (fun z : Entry => z.1) (outE 0 l)
theorem entsS_mem {l : List Str} {x : Entry} : x ∈ entsS l ↔ x ∈ outE 0 l := (isortB_perm _ _).mem_iff
theorem entsS_len (l : List Str) : (entsS l).length ≤ l.length := by rw [show (entsS l).length = (outE 0 l).length from (isortB_perm _ _).length_eq]; exact outE_len 0 l
theorem ents_run (l : List Str) (h : l.length ≤ 4096) : (ring_Entries_T l).run = some (entsS l) := by
  have step : ∀ i : Nat, i < l.length → (ring_Entries_L5_step l (l.length : Int) (i : Int) (outE 0 (l.take i))).run = some (.inl (((i + 1 : Nat) : Int), outE 0 (l.take (i + 1)))) := by
    intro i hi
    have hol := outE_len 0 (l.take i)
    rw [List.length_take] at hol
    have e : l.getD (i : Int).toNat ([] : Str) = l[i] := by rw [Int.toNat_natCast, getD_lt _ _ _ hi]
    unfold ring_Entries_L5_step
    rw [e]
    refine (run_t (decide_eq_true (by omega))).trans ?_
    refine (run_ask (inb_in (by omega))).trans ?_
    refine (run_bnd (nameIs_run _)).trans ?_
    rw [w64_nat i (by omega), outE_succ hi]
    unfold ent1
    cases nameS l[i] with
    | false => refine (run_f rfl).trans ?_; show some (Sum.inl (_, outE 0 (l.take i))) = some (Sum.inl (_, outE 0 (l.take i) ++ [])); rw [List.append_nil]
    | true =>
      refine (run_t rfl).trans ?_
      refine (run_bnd (ringKey_run (n64N (by omega)))).trans ?_
      refine (run_ask (room_le _ _ (by rw [List.length_append]; show _ + 1 ≤ _; omega) (by omega))).trans ?_
      rfl
  unfold ring_Entries_T
  refine (run_f (decide_eq_false (by omega))).trans ?_
  refine (run_bnd (loop_run (loopF_run (a := outE 0 l) (S := fun i => ((i : Int), outE 0 (l.take i))) (n := l.length) step ?_ rfl))).trans ?_
  · show (ring_Entries_L5_step _ _ _ _).run = _
    unfold ring_Entries_L5_step
    rw [List.take_of_length_le (Nat.le_refl _)]
    exact run_f (decide_eq_false (by omega))
  have hol := outE_len 0 l
  have hs : (slices_SortFunc_Entry_ring_Entries_1_T (outE 0 l)).run = some ((), (entsS l, ())) := by
    unfold slices_SortFunc_Entry_ring_Entries_1_T
    refine (run_ask (decide_eq_true (by omega))).trans ?_
    exact (run_ask (outE_apart 0 l (by omega))).trans rfl
  exact (run_bnd hs).trans rfl

/-! The owners of entries. -/
def own1 (l : List Entry) (k : Nat) : Str := bif nameS (getR l (ringK (k : Int))).2.2 then (getR l (ringK (k : Int))).2.2 else []
def ownS (l : List Entry) (n : Nat) : List Str := (List.range n).map (own1 l)
theorem ownS_len (l : List Entry) (n : Nat) : (ownS l n).length = n := by unfold ownS; rw [List.length_map, List.length_range]
def outO (l : List Entry) (n i : Nat) : List Str := ownS l i ++ List.replicate (n - i) []
theorem outO_len (l : List Entry) {n i : Nat} (h : i ≤ n) : (outO l n i).length = n := by unfold outO; rw [List.length_append, ownS_len, List.length_replicate]; omega
theorem outO_set (l : List Entry) {n i : Nat} (h : i < n) : (outO l n i).set i (own1 l i) = outO l n (i + 1) := by
  have hr : List.replicate (n - i) ([] : Str) = [] :: List.replicate (n - (i + 1)) [] := by
    rw [show n - i = (n - (i + 1)) + 1 by omega]; rfl
  unfold outO
  rw [List.set_append_right _ _ (by rw [ownS_len]; exact Nat.le_refl _), ownS_len, Nat.sub_self, hr, List.set_cons_zero]
  unfold ownS
  rw [List.range_succ, List.map_append, List.append_assoc]
  rfl
theorem outO_same (l : List Entry) {n i : Nat} (h : i < n) (h1 : own1 l i = []) : outO l n i = outO l n (i + 1) := by
  rw [← outO_set l h, h1]
  have hr : List.replicate (n - i) ([] : Str) = [] :: List.replicate (n - (i + 1)) [] := by
    rw [show n - i = (n - (i + 1)) + 1 by omega]; rfl
  unfold outO
  rw [List.set_append_right _ _ (by rw [ownS_len]; exact Nat.le_refl _), ownS_len, Nat.sub_self, hr, List.set_cons_zero]
theorem owners_run (l : List Entry) (n : Nat) (hl : l.length ≤ 1000000) (h1 : 1 ≤ n) (h2 : n ≤ 4096) : (ring_Owners_T l (n : Int)).run = some (ownS l n) := by
  have step : ∀ i : Nat, i < n → (ring_Owners_L5_step l (n : Int) (i : Int) (outO l n i)).run = some (.inl (((i + 1 : Nat) : Int), outO l n (i + 1))) := by
    intro i hi
    unfold ring_Owners_L5_step
    refine (run_t (decide_eq_true (by omega))).trans ?_
    refine (run_bnd (ringKey_run (n64N (by omega)))).trans ?_
    refine (run_bnd (get_run l _ hl)).trans ?_
    refine (run_bnd (nameIs_run _)).trans ?_
    rw [w64_nat i (by omega)]
    cases hn : nameS (getR l (ringK (i : Int))).2.2 with
    | false =>
      refine (run_f rfl).trans ?_
      rw [← outO_same l hi (by unfold own1; rw [hn]; rfl)]
      rfl
    | true =>
      refine (run_t rfl).trans ?_
      refine (run_ask (inb_in (by rw [outO_len l (by omega)]; omega))).trans ?_
      rw [← outO_set l hi, Int.toNat_natCast, show own1 l i = (getR l (ringK (i : Int))).2.2 from by unfold own1; rw [hn]; rfl]
      rfl
  have hm : (ring_may_T (n : Int)).run = some true := by
    unfold ring_may_T
    show some _ = some true
    rw [decide_eq_true (show (1 : Int) ≤ (n : Int) by omega), decide_eq_true (show (n : Int) ≤ 4096 by omega)]; rfl
  have e : (List.replicate (n : Int).toNat ([] : Str)) = outO l n 0 := by unfold outO ownS; rw [Int.toNat_natCast]; rfl
  have e2 : ((outO l n 0).length : Int) = (n : Int) := by rw [outO_len l (Nat.zero_le _)]
  unfold ring_Owners_T
  refine (run_bnd hm).trans ?_
  refine (run_f rfl).trans ?_
  refine (run_ask (decide_eq_true (by omega))).trans ?_
  refine (run_ask (decide_eq_true (by omega))).trans ?_
  refine (run_ask (room_le _ _ (by rw [Int.toNat_natCast]; omega) (by omega))).trans ?_
  rw [e, e2]
  refine (run_bnd (loop_run (loopF_run (a := ownS l n) (S := fun i => ((i : Int), outO l n i)) (n := n) step ?_ rfl))).trans rfl
  show (ring_Owners_L5_step _ _ _ _).run = _
  unfold ring_Owners_L5_step
  refine (run_f (decide_eq_false (by omega))).trans ?_
  show some (Sum.inr (ownS l n ++ List.replicate (n - n) [])) = _
  rw [Nat.sub_self, List.replicate_zero, List.append_nil]
theorem owners_none (l : List Entry) (n : Int) (h : ¬ (1 ≤ n ∧ n ≤ 4096)) : (ring_Owners_T l n).run = some [] := by
  have hm : (ring_may_T n).run = some false := by
    unfold ring_may_T
    show some _ = some false
    congr 1
    rw [Bool.and_eq_false_iff, decide_eq_false_iff_not, decide_eq_false_iff_not]; omega
  unfold ring_Owners_T
  refine (run_bnd hm).trans ?_
  exact (run_t rfl).trans rfl

/-! The partition of a place. -/
def vN (a b : Str) : Nat := be4 (shaN (textsS [a, b])) 0
def partN (a b : Str) (n : Int) : Int := if 1 ≤ n ∧ n ≤ 4096 then ((vN a b * n.toNat / 2 ^ 32 : Nat) : Int) else 0
theorem texts2_len (a b : Str) : (textsB [a, b]).length = (4 + a.length) + ((4 + b.length) + 0) := by
  show (txt a ++ (txt b ++ [])).length = _
  rw [List.length_append, List.length_append, txt_len, txt_len]; rfl
theorem part_small (a b : Str) {m : Nat} (h : m ≤ 4096) : w64 ((vN a b : Int) * (m : Int)) = ((vN a b * m : Nat) : Int) ∧ vN a b * m < 4294967296 * 4097 := by
  have hv : vN a b < 4294967296 := be4_lt _ _
  have hb : vN a b * m < 4294967296 * 4097 := by
    calc vN a b * m ≤ vN a b * 4096 := Nat.mul_le_mul_left _ h
      _ < _ := by omega
  exact ⟨by rw [← Int.natCast_mul]; exact w64N (by omega), hb⟩
theorem part_run (a b : Str) (n : Int) (ha : a.length ≤ 1000) (hb : b.length ≤ 1000) : (ring_Part_T a b n).run = some (partN a b n) := by
  unfold ring_Part_T partN
  by_cases h : 1 ≤ n ∧ n ≤ 4096
  · obtain ⟨m, rfl⟩ : ∃ m : Nat, n = (m : Int) := ⟨n.toNat, by omega⟩
    have hm : (ring_may_T (m : Int)).run = some true := by
      unfold ring_may_T
      show some _ = some true
      rw [decide_eq_true h.1, decide_eq_true h.2]; rfl
    rw [if_pos h, Int.toNat_natCast]
    refine (run_bnd hm).trans ?_
    refine (run_f rfl).trans ?_
    refine (run_bnd (of_run [a, b] (by rw [texts2_len]; omega))).trans ?_
    refine (run_bnd (a := ((), (((shaN (textsS [a, b]), true), ()), ()))) rfl).trans ?_
    refine (run_bnd (rcount_run _ (by rw [shaN_len]; omega))).trans ?_
    refine (run_ask rfl).trans ?_
    obtain ⟨e, hl⟩ := part_small a b (show m ≤ 4096 by omega)
    show some (stdShift .shr .i64 (w64 ((vN a b : Int) * (m : Int))) 32) = _
    rw [e]
    exact congrArg some (shr64 (s := 32) (by omega))
  · have hm : (ring_may_T n).run = some false := by
      unfold ring_may_T
      show some _ = some false
      congr 1
      rw [Bool.and_eq_false_iff, decide_eq_false_iff_not, decide_eq_false_iff_not]; omega
    rw [if_neg h]
    refine (run_bnd hm).trans ?_
    exact (run_t rfl).trans rfl
theorem rPart_run (a b : Str) (n : Int) (ha : a.length ≤ 1000) (hb : b.length ≤ 1000) : (r14_Part_T a b n).run = some (partN a b n) := by
  unfold r14_Part_T partN
  by_cases h : 1 ≤ n ∧ n ≤ 4096
  · obtain ⟨m, rfl⟩ : ∃ m : Nat, n = (m : Int) := ⟨n.toNat, by omega⟩
    rw [if_pos h, Int.toNat_natCast]
    refine (run_f (by rw [decide_eq_false (by omega), decide_eq_false (by omega)]; rfl)).trans ?_
    refine (run_bnd (rof_run [a, b] (by rw [texts2_len]; omega))).trans ?_
    have hl : (shaN (textsS [a, b])).length = 32 := shaN_len _
    refine (run_ask (inb_in (by rw [hl]; omega))).trans ?_
    refine (run_ask rfl).trans ?_
    refine (run_ask (inb_in (by rw [hl]; omega))).trans ?_
    refine (run_ask rfl).trans ?_
    refine (run_ask (inb_in (by rw [hl]; omega))).trans ?_
    refine (run_ask rfl).trans ?_
    refine (run_ask (inb_in (by rw [hl]; omega))).trans ?_
    refine (run_ask rfl).trans ?_
    obtain ⟨e, hl⟩ := part_small a b (show m ≤ 4096 by omega)
    have ho := or4N_i64 (byN_lt (shaN (textsS [a, b])) 0) (byN_lt (shaN (textsS [a, b])) 1) (byN_lt (shaN (textsS [a, b])) 2) (byN_lt (shaN (textsS [a, b])) 3)
    show some (stdShift .shr .i64 (w64 (stdArith .or .i64 (stdArith .or .i64 (stdArith .or .i64 (stdShift .shl .i64 (w64 ((byN (shaN (textsS [a, b])) 0 : Nat) : Int)) 24) (stdShift .shl .i64 (w64 ((byN (shaN (textsS [a, b])) 1 : Nat) : Int)) 16)) (stdShift .shl .i64 (w64 ((byN (shaN (textsS [a, b])) 2 : Nat) : Int)) 8)) (w64 ((byN (shaN (textsS [a, b])) 3 : Nat) : Int)) * (m : Int))) 32) = _
    rw [ho]
    show some (stdShift .shr .i64 (w64 ((vN a b : Int) * (m : Int))) 32) = _
    rw [e]
    exact congrArg some (shr64 (s := 32) (by omega))
  · rw [if_neg h]
    refine (run_t ?_).trans rfl
    rw [Bool.or_eq_true, decide_eq_true_eq, decide_eq_true_eq]; omega
theorem partN_in (a b : Str) (n : Int) : ((decide (partN a b n = 0)) || ((decide ((0 : Int) < partN a b n)) && (decide (partN a b n < n)))) = true := by
  unfold partN
  by_cases h : 1 ≤ n ∧ n ≤ 4096
  · rw [if_pos h]
    obtain ⟨m, rfl⟩ : ∃ m : Nat, n = (m : Int) := ⟨n.toNat, by omega⟩
    rw [Int.toNat_natCast]
    have hv : vN a b < 4294967296 := be4_lt _ _
    have hd : vN a b * m / 2 ^ 32 < m := by
      rw [Nat.div_lt_iff_lt_mul (by decide), Nat.mul_comm m]
      exact Nat.mul_lt_mul_of_pos_right hv (by omega)
    rw [Bool.or_eq_true, Bool.and_eq_true, decide_eq_true_eq, decide_eq_true_eq, decide_eq_true_eq]
    omega
  · rw [if_neg h]; rfl

theorem awake14 : l14_awake_T.run = some true := by
  have hk := ringKey_run (n := 12) (n64N (n := 12) (by omega))
  have ho : (ring_Owners_T (entsS [([97] : Str), ([98] : Str), ([97] : Str)]) 4).run = some [([97] : Str), ([98] : Str), ([97] : Str), ([] : Str)] :=
    (owners_run (entsS [([97] : Str), ([98] : Str), ([97] : Str)]) 4 (Nat.le_trans (entsS_len _) (by show 3 ≤ _; omega)) (by omega) (by omega)).trans (by kernel_rfl)
  unfold l14_awake_T
  refine (run_bnd (ents_run _ (by show 3 ≤ _; omega))).trans ?_
  refine (run_bnd hk).trans ?_
  refine (run_ask (by kernel_rfl)).trans ?_
  refine (run_grd ho).trans ?_
  refine (run_grd (sameTexts_run _ _ (by show 4 ≤ _; omega) rfl)).trans ?_
  refine (run_grd (part_run _ _ _ (by show 1 ≤ _; omega) (by show 3 ≤ _; omega))).trans ?_
  refine (run_grd (rPart_run _ _ _ (by show 1 ≤ _; omega) (by show 3 ≤ _; omega))).trans ?_
  generalize partN ([116] : Str) ([98, 47, 107] : Str) 16 = q
  rw [decide_eq_true (rfl : q = q)]
  show some _ = some true
  kernel_rfl

/-! The document's owners and entries. -/
theorem getR_len {l : List Entry} (hl : SmallE l) (k : Str) : (getR l k).2.2.length ≤ 1000 := by
  unfold getR
  cases hf : findR l k with
  | none => exact Nat.zero_le _
  | some r => exact (hl.2 _ (find_mem hf)).2.2
theorem ownS_succ (l : List Entry) (i : Nat) : ownS l (i + 1) = ownS l i ++ [own1 l i] := by unfold ownS; rw [List.range_succ, List.map_append]; rfl
theorem rOwners_run (l : List Entry) (n : Nat) (hl : SmallE l) (h1 : 1 ≤ n) (h2 : n ≤ 4096) : (r14_Owners_T l (n : Int)).run = some (ownS l n) := by
  have step : ∀ i : Nat, i < n → (r14_Owners_L5_step l (n : Int) (i : Int) (ownS l i)).run = some (.inl (((i + 1 : Nat) : Int), ownS l (i + 1))) := by
    intro i hi
    have hr : ∀ s : Str, decide ((ownS l i ++ [s]).length * 16 ≤ roomNat) = true := fun s => room_le _ _ (by rw [List.length_append, ownS_len]; show i + 1 ≤ _; omega) (by omega)
    unfold r14_Owners_L5_step
    refine (run_t (decide_eq_true (by omega))).trans ?_
    refine (run_bnd (r14Key_run (n64N (by omega)))).trans ?_
    refine (run_bnd (rGet_run l _ (by have := hl.1; omega))).trans ?_
    refine (run_bnd (r05Is_run _ (by have := getR_len hl (ringK (i : Int)); omega))).trans ?_
    rw [w64_nat i (by omega), ownS_succ]
    unfold own1
    cases nameS (getR l (ringK (i : Int))).2.2 with
    | false =>
      refine (run_t rfl).trans ?_
      exact (run_ask (hr _)).trans rfl
    | true =>
      refine (run_f rfl).trans ?_
      exact (run_ask (hr _)).trans rfl
  unfold r14_Owners_T
  refine (run_f (by rw [decide_eq_false (show ¬ (n : Int) < 1 by omega), decide_eq_false (show ¬ (4096 : Int) < (n : Int) by omega)]; rfl)).trans ?_
  refine (run_bnd (loop_run (loopF_run (a := ownS l n) (S := fun i => ((i : Int), ownS l i)) (n := n) step ?_ rfl))).trans rfl
  show (r14_Owners_L5_step _ _ _ _).run = _
  unfold r14_Owners_L5_step
  exact run_f (decide_eq_false (by omega))
theorem rOwners_none (l : List Entry) (n : Int) (h : ¬ (1 ≤ n ∧ n ≤ 4096)) : (r14_Owners_T l n).run = some [] := by
  unfold r14_Owners_T
  refine (run_t ?_).trans rfl
  rw [Bool.or_eq_true, decide_eq_true_eq, decide_eq_true_eq]; omega

def ltE (a b : Entry) : Bool := ltS a.1 b.1
theorem ltE_le {a b : Entry} (h : ltE a b = true) : leS a.1 b.1 = true := by unfold leS; rw [show ltS b.1 a.1 = false from less_asymm h]; rfl
theorem insK {L : List Entry} {x : Entry} (hap : apartB ((L ++ [x]).map fun z => z.1) = true) :
    ((srtK (fun z : Entry => z.1) L).take (geI ltE x (srtK (fun z : Entry => z.1) L)) ++ [x]) ++ (srtK (fun z : Entry => z.1) L).drop (geI ltE x (srtK (fun z : Entry => z.1) L)) = srtK (fun z : Entry => z.1) (L ++ [x]) := by
  have hp : (srtK (fun z : Entry => z.1) L).Perm L := isortB_perm (fun a b : Entry => leS a.1 b.1) L
  have hs : (srtK (fun z : Entry => z.1) L).Pairwise fun a b => leS a.1 b.1 = true := isortB_sorted (le := fun a b : Entry => leS a.1 b.1) (fun a b c => leS_trans _ _ _) (fun a b => leS_total _ _) _
  have hp2 := isortB_perm (fun a b : Entry => leS a.1 b.1) (L ++ [x])
  have hs2 : (srtK (fun z : Entry => z.1) (L ++ [x])).Pairwise fun a b => leS a.1 b.1 = true := isortB_sorted (le := fun a b : Entry => leS a.1 b.1) (fun a b c => leS_trans _ _ _) (fun a b => leS_total _ _) _
  revert hp hs
  generalize srtK (fun z : Entry => z.1) L = O
  intro hp hs
  have hk := geI_le ltE x O
  have hperm : ((O.take (geI ltE x O) ++ [x]) ++ O.drop (geI ltE x O)).Perm (L ++ [x]) := by
    rw [List.append_assoc]
    refine List.perm_middle.trans ?_
    show (x :: (O.take (geI ltE x O) ++ O.drop (geI ltE x O))).Perm _
    rw [List.take_append_drop]
    exact (List.Perm.cons x hp).trans (List.perm_append_singleton x L).symm
  refine List.Perm.eq_of_pairwise (le := fun a b : Entry => leS a.1 b.1 = true) (fun a b ha hb h1 h2 => ?_) ?_ hs2 (hperm.trans hp2.symm)
  · exact apart_inj hap (hperm.mem_iff.1 ha) (hp2.mem_iff.1 hb) (leS_anti _ _ h1 h2)
  · rw [List.append_assoc, List.pairwise_append]
    have hab := hs
    rw [← List.take_append_drop (geI ltE x O) O, List.pairwise_append] at hab
    obtain ⟨hA, hB, hAB⟩ := hab
    have hxb : ∀ b ∈ O.drop (geI ltE x O), leS x.1 b.1 = true := by
      intro b hb
      obtain ⟨j, hj, rfl⟩ := List.mem_iff_getElem.1 hb
      have hlt : geI ltE x O < O.length := by rw [List.length_drop] at hj; omega
      have h0 : leS x.1 (O[geI ltE x O]).1 = true := by
        have := geI_at ltE x O hlt
        unfold leS
        rw [show ltS (O[geI ltE x O]).1 x.1 = false from this]; rfl
      rw [List.getElem_drop]
      cases j with
      | zero => exact h0
      | succ j =>
        rw [List.length_drop] at hj
        exact leS_trans _ _ _ h0 (List.pairwise_iff_getElem.1 hs (geI ltE x O) (geI ltE x O + (j + 1)) hlt (by omega) (by omega))
    have hax : ∀ a ∈ O.take (geI ltE x O), leS a.1 x.1 = true := by
      intro a ha
      obtain ⟨j, hj, rfl⟩ := List.mem_iff_getElem.1 ha
      rw [List.length_take] at hj
      rw [List.getElem_take]
      exact ltE_le (geI_lt ltE x O j (by omega) (by omega))
    refine ⟨hA, List.Pairwise.cons hxb hB, fun a ha b hb => ?_⟩
    rcases List.mem_cons.1 hb with rfl | hb
    · exact hax a ha
    · exact hAB a ha b hb
theorem rEnts_run (l : List Str) (h : l.length ≤ 1000) (hlen : ∀ x ∈ l, x.length ≤ 1000) : (r14_Entries_T l).run = some (entsS l) := by
  have step : ∀ i : Nat, i < l.length → (r14_Entries_L5_step l (entsS (l.take i)) (i : Int)).run = some (.inl (entsS (l.take (i + 1)), ((i + 1 : Nat) : Int))) := by
    intro i hi
    have hel := entsS_len (l.take i)
    rw [List.length_take] at hel
    have e : l.getD (i : Int).toNat ([] : Str) = l[i] := by rw [Int.toNat_natCast, getD_lt _ _ _ hi]
    unfold r14_Entries_L5_step
    rw [e]
    refine (run_t (decide_eq_true (by omega))).trans ?_
    refine (run_ask (inb_in (by omega))).trans ?_
    refine (run_bnd (r05Is_run _ (by have := hlen _ (List.getElem_mem hi); omega))).trans ?_
    rw [w64_nat i (by omega)]
    have hsucc : outE 0 (l.take (i + 1)) = outE 0 (l.take i) ++ ent1 i l[i] := outE_succ hi
    cases hn : nameS l[i] with
    | false =>
      refine (run_t rfl).trans ?_
      have : entsS (l.take (i + 1)) = entsS (l.take i) := by
        unfold entsS
        rw [hsucc, show ent1 i l[i] = [] from by unfold ent1; rw [hn]; rfl, List.append_nil]
      rw [this]; rfl
    | true =>
      have hen : ent1 i l[i] = [(ringK (i : Int), ((1 : Int), (([] : Str), l[i])))] := by unfold ent1; rw [hn]; rfl
      have hap : apartB ((outE 0 (l.take i) ++ [(ringK (i : Int), ((1 : Int), (([] : Str), l[i])))]).map fun z => z.1) = true := by
        rw [← hen, ← hsucc]
        exact outE_apart 0 _ (by rw [List.length_take]; omega)
      have hins := insK hap
      refine (run_f rfl).trans ?_
      generalize hx : (ringK (i : Int), ((1 : Int), (([] : Str), l[i]))) = x at hins hap hen
      have hk1 : x.1 = ringK (i : Int) := by rw [← hx]
      have hge := ge_loop ltE x (entsS (l.take i)) (fun v => r14_Entries_L9_step l (entsS (l.take i)) (i : Int) v) (by omega) (fun j hj => by
        unfold r14_Entries_L9_step
        rw [decide_eq_true (show (j : Int) < ((entsS (l.take i)).length : Int) by omega)]
        refine (run_ask (by rw [inb_in (show (0 : Int) ≤ (j : Int) ∧ (j : Int) < ((entsS (l.take i)).length : Int) by omega)]; rfl)).trans ?_
        refine (run_grd (r14Key_run (n64N (by omega)))).trans ?_
        have e2 : (entsS (l.take i)).getD (j : Int).toNat (dfl tEntry : Entry) = (entsS (l.take i))[j] := by rw [Int.toNat_natCast, getD_lt _ _ _ hj]
        rw [e2, ← hk1]
        cases hq : ltE (entsS (l.take i))[j] x with
        | true => refine (run_t (by rw [show ltS (entsS (l.take i))[j].1 x.1 = true from hq]; rfl)).trans rfl
        | false => refine (run_f (by rw [show ltS (entsS (l.take i))[j].1 x.1 = false from hq]; rfl)).trans rfl) (by
        unfold r14_Entries_L9_step
        have hd : decide (((entsS (l.take i)).length : Int) < ((entsS (l.take i)).length : Int)) = false := decide_eq_false (by omega)
        rw [hd]
        refine (run_ask rfl).trans ?_
        refine (run_grd_ff (r := Sum.inr ((entsS (l.take i)).length : Int)) fun a => ?_)
        exact (run_f rfl).trans rfl)
      have hle := geI_le ltE x (entsS (l.take i))
      refine (run_bnd (loop_run hge)).trans ?_
      simp only [Int.toNat_natCast]
      refine (run_ask (decide_eq_true (show (0 : Int) ≤ _ ∧ _ by omega))).trans ?_
      refine (run_ask (room_le _ _ (by rw [List.length_take]; omega) (by omega))).trans ?_
      refine (run_bnd (r14Key_run (n64N (by omega)))).trans ?_
      refine (run_ask (inb_in (by omega))).trans ?_
      rw [hx]
      refine (run_ask (room_le _ _ (by rw [List.length_append, List.length_take]; show _ + 1 ≤ _; omega) (by omega))).trans ?_
      refine (run_ask (decide_eq_true (show (0 : Int) ≤ _ ∧ _ by omega))).trans ?_
      refine (run_ask (room_le _ _ (by rw [List.length_append, List.length_append, List.length_take, List.length_drop]; show _ + 1 + _ ≤ _; omega) (by omega))).trans ?_
      have : entsS (l.take (i + 1)) = (((entsS (l.take i)).take (geI ltE x (entsS (l.take i))) ++ [x]) ++ (entsS (l.take i)).drop (geI ltE x (entsS (l.take i)))) := by
        show srtK (fun z : Entry => z.1) (outE 0 (l.take (i + 1))) = _
        rw [hsucc, hen, ← hins]; rfl
      rw [this]; rfl
  unfold r14_Entries_T
  refine (run_f (decide_eq_false (by omega))).trans ?_
  refine (run_bnd (loop_run (loopF_run (a := entsS l) (S := fun i => (entsS (l.take i), (i : Int))) (n := l.length) step ?_ rfl))).trans rfl
  show (r14_Entries_L5_step _ _ _).run = _
  unfold r14_Entries_L5_step
  rw [List.take_of_length_le (Nat.le_refl _)]
  exact run_f (decide_eq_false (by omega))
theorem owners_both {l : List Entry} (hl : SmallE l) (n : Int) (hn : ¬ 64 < n ∨ ¬ n ≤ 4096) : ∃ o : List Str, (ring_Owners_T l n).run = some o ∧ (r14_Owners_T l n).run = some o ∧ o.length ≤ 1000 := by
  by_cases hr : 1 ≤ n ∧ n ≤ 4096
  · obtain ⟨m, rfl⟩ : ∃ m : Nat, n = (m : Int) := ⟨n.toNat, by omega⟩
    exact ⟨ownS l m, owners_run l m (by have := hl.1; omega) (by omega) (by omega), rOwners_run l m hl (by omega) (by omega), by rw [ownS_len]; omega⟩
  · exact ⟨[], owners_none l n hr, rOwners_none l n hr, Nat.zero_le _⟩
theorem ringOwners_law (x : ElP l14_RingOwners_g.ps) (hx : okP l14_RingOwners_g.ps x) : (l14_RingOwners_g.f x).run = some true := by
  obtain ⟨l, n, w, _⟩ := x
  show (l14_RingOwners_T l n w).run = _
  unfold l14_RingOwners_T
  refine (run_bnd (few10_run l 40 (by omega) 40 rfl)).trans ?_
  by_cases hc : (((!(fewB q10 40 l)) || ((decide ((64 : Int) < n)) && (decide (n ≤ 4096)))) || (decide ((30 : Int) < (w.length : Int)))) = true
  · exact (run_t hc).trans ((run_bnd awake14).trans rfl)
  · have hc := Bool.not_eq_true _ ▸ hc
    refine (run_f hc).trans ?_
    simp only [Bool.or_eq_false_iff, Bool.and_eq_false_iff, Bool.not_eq_false', decide_eq_false_iff_not] at hc
    obtain ⟨⟨hf, hn⟩, hw⟩ := hc
    have hl := few10_small (by omega) hf
    have hany := any_loopB w (fun s => decide ((100 : Int) < (s.length : Int))) (fun v => l14_RingOwners_L4_step l n w v) (Sum.inl true : Bool ⊕ Unit) (.inr ()) (by omega) (fun i hi => by
      have e : w.getD (i : Int).toNat ([] : Str) = w[i] := by rw [Int.toNat_natCast, getD_lt _ _ _ hi]
      unfold l14_RingOwners_L4_step
      rw [e]
      refine (run_t (decide_eq_true (by omega))).trans ?_
      refine (run_ask (inb_in (by omega))).trans ?_
      cases decide ((100 : Int) < (w[i].length : Int)) with
      | true => exact (run_t rfl).trans ((run_bnd awake14).trans rfl)
      | false => exact (run_f rfl).trans rfl) (by
      unfold l14_RingOwners_L4_step
      exact (run_f (decide_eq_false (by omega))).trans rfl)
    refine (run_bnd (loop_run hany)).trans ?_
    cases ha : w.any fun s => decide ((100 : Int) < (s.length : Int)) with
    | true => rfl
    | false =>
      have hwl : ∀ x ∈ w, x.length ≤ 1000 := fun x hx => by
        have := List.any_eq_false.1 ha x hx
        simp only [decide_eq_true_eq] at this
        omega
      have ho := owners_both hl n hn
      obtain ⟨o, o1, o2, o3⟩ := ho
      have hel := entsS_len w
      show (Tree.bnd (ring_Owners_T l n) _).run = _
      refine (run_bnd o1).trans ?_
      refine (run_bnd o2).trans ?_
      refine (run_bnd (sameTexts_run _ _ (by omega) rfl)).trans ?_
      refine (run_grd (ents_run w (by omega))).trans ?_
      refine (run_grd (rEnts_run w (by omega) hwl)).trans ?_
      refine (run_grd (rSame_run _ _ (by omega))).trans ?_
      rw [same_self]
      exact (run_grd awake14).trans rfl

end Go.Eng

