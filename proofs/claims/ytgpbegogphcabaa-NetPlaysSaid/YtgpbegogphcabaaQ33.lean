/- Laws in plain Lean: setl ins r33. -/
import Derived.Test.YtgpbegogphcabaaO33
import Derived.Test.YtgpbegogphcabaaTrO
import Derived.Test.YtgpbegogphcabaaTrS
namespace Go.Eng
open Go Go.Proofs Go.RowKit

/-! Orders, and rising lists. -/
structure SO {α : Type} (lt : α → α → Bool) : Prop where
  irr : ∀ a, lt a a = false
  tr : ∀ a b c, lt a b = true → lt b c = true → lt a c = true
  tot : ∀ a b, lt a b = false → lt b a = false → a = b
theorem SO.asym {α : Type} {lt : α → α → Bool} (h : SO lt) {a b : α} (k : lt a b = true) : lt b a = false := by
  cases e : lt b a with
  | false => rfl
  | true => have := h.tr _ _ _ k e; rw [h.irr] at this; cases this
theorem soI : SO (fun a b : Int => decide (a < b)) := ⟨fun a => by simp, fun a b c h k => by simp only [decide_eq_true_eq] at *; omega, fun a b h k => by simp only [decide_eq_false_iff_not] at *; omega⟩
theorem soS : SO ltS := ⟨less_irrefl, fun a b c h k => less_trans h k, fun a b h k => less_total h k⟩
/-- Two rising lists of the same are one. -/
theorem SO.uniq {α : Type} {lt : α → α → Bool} (h : SO lt) {a b : List α} (ha : a.Pairwise fun x y => lt x y = true) (hb : b.Pairwise fun x y => lt x y = true) (hm : ∀ x, x ∈ a ↔ x ∈ b) : a = b := by
  induction a generalizing b with
  | nil =>
    cases b with
    | nil => rfl
    | cons y b => exact absurd ((hm y).2 List.mem_cons_self) List.not_mem_nil
  | cons x a ih =>
    cases b with
    | nil => exact absurd ((hm x).1 List.mem_cons_self) List.not_mem_nil
    | cons y b =>
      obtain ⟨a1, a2⟩ := List.pairwise_cons.1 ha
      obtain ⟨b1, b2⟩ := List.pairwise_cons.1 hb
      have e : x = y := by
        rcases List.mem_cons.1 ((hm x).1 List.mem_cons_self) with e | hx
        · exact e
        rcases List.mem_cons.1 ((hm y).2 List.mem_cons_self) with e | hy
        · exact e.symm
        have h1 := b1 x hx
        have h2 := a1 y hy
        rw [h.asym h1] at h2; cases h2
      subst e
      rw [ih a2 b2 fun z => ⟨fun hz => ?_, fun hz => ?_⟩]
      · rcases List.mem_cons.1 ((hm z).1 (List.mem_cons_of_mem _ hz)) with e | k
        · subst e; have := a1 z hz; rw [h.irr] at this; cases this
        · exact k
      · rcases List.mem_cons.1 ((hm z).2 (List.mem_cons_of_mem _ hz)) with e | k
        · subst e; have := b1 z hz; rw [h.irr] at this; cases this
        · exact k
theorem compFrom_ok {α : Type} {lt eq : α → α → Bool} (h : SO lt) (he : ∀ a b, eq a b = true ↔ a = b) (x : α) (l : List α) (hs : (x :: l).Pairwise fun a b => lt b a = false) :
    (x :: compFrom eq x l).Pairwise (fun a b => lt a b = true) ∧ (∀ z, z ∈ x :: compFrom eq x l ↔ z ∈ x :: l) ∧ (compFrom eq x l).length ≤ l.length := by
  induction l generalizing x with
  | nil => exact ⟨List.pairwise_singleton _ _, fun z => Iff.rfl, Nat.le_refl _⟩
  | cons y l ih =>
    obtain ⟨h1, h2⟩ := List.pairwise_cons.1 hs
    obtain ⟨h3, h4⟩ := List.pairwise_cons.1 h2
    simp only [compFrom]
    cases hq : eq y x with
    | true =>
      have e := (he y x).1 hq
      subst e
      obtain ⟨k1, k2, k3⟩ := ih y (List.pairwise_cons.2 ⟨h3, h4⟩)
      refine ⟨k1, fun z => ?_, by simp; omega⟩
      rw [k2 z]; simp
    | false =>
      obtain ⟨k1, k2, k3⟩ := ih y h2
      have hxy : lt x y = true := by
        cases hb : lt x y with
        | true => rfl
        | false =>
          have e := h.tot x y hb (h1 y List.mem_cons_self)
          subst e
          rw [(he x x).2 rfl] at hq; cases hq
      refine ⟨List.pairwise_cons.2 ⟨fun z hz => ?_, k1⟩, fun z => ?_, by simp; omega⟩
      · rcases List.mem_cons.1 hz with e | hz
        · subst e; exact hxy
        · exact h.tr _ _ _ hxy ((List.pairwise_cons.1 k1).1 z hz)
      · rw [List.mem_cons, k2 z, List.mem_cons (b := x)]
theorem compL_ok {α : Type} {lt eq : α → α → Bool} (h : SO lt) (he : ∀ a b, eq a b = true ↔ a = b) (l : List α) (hs : l.Pairwise fun a b => lt b a = false) :
    (compL eq l).Pairwise (fun a b => lt a b = true) ∧ (∀ z, z ∈ compL eq l ↔ z ∈ l) ∧ (compL eq l).length ≤ l.length := by
  cases l with
  | nil => exact ⟨List.Pairwise.nil, fun z => Iff.rfl, Nat.le_refl _⟩
  | cons x l =>
    obtain ⟨k1, k2, k3⟩ := compFrom_ok h he x l hs
    exact ⟨k1, k2, by simp [compL]; omega⟩
def setI (l : List Int) : List Int := compL eqI (sortI l)
def setS (l : List Str) : List Str := compL eqS (sortS l)
theorem setI_ok (l : List Int) : (setI l).Pairwise (fun a b => decide (a < b) = true) ∧ (∀ z, z ∈ setI l ↔ z ∈ l) ∧ (setI l).length ≤ l.length := by
  have hs := isortB_sorted (le := leI) (fun a b c h k => by unfold leI at *; simp only [decide_eq_true_eq] at *; omega) (fun a b h => by unfold leI at *; simp only [decide_eq_true_eq, decide_eq_false_iff_not] at *; omega) l
  obtain ⟨k1, k2, k3⟩ := compL_ok soI (eq := eqI) (fun a b => by unfold eqI; simp) (sortI l) (hs.imp fun {a b} h => by unfold leI at h; simp only [decide_eq_true_eq, decide_eq_false_iff_not] at *; omega)
  exact ⟨k1, fun z => (k2 z).trans (isortB_perm _ l).mem_iff, by rw [(isortB_perm leI l).length_eq] at k3; exact k3⟩
theorem setS_ok (l : List Str) : (setS l).Pairwise (fun a b => ltS a b = true) ∧ (∀ z, z ∈ setS l ↔ z ∈ l) ∧ (setS l).length ≤ l.length := by
  have hs := isortB_sorted (le := leS) leS_trans leS_total l
  obtain ⟨k1, k2, k3⟩ := compL_ok soS (eq := eqS) (fun a b => by unfold eqS; simp) (sortS l) (hs.imp fun {a b} h => by unfold leS at h; simpa using h)
  exact ⟨k1, fun z => (k2 z).trans (isortB_perm _ l).mem_iff, by rw [(isortB_perm leS l).length_eq] at k3; exact k3⟩
/-- One more, in its place, once. -/
def insL {α : Type} (lt : α → α → Bool) (x : α) : List α → List α
  | [] => [x]
  | y :: l => match lt y x with | true => y :: insL lt x l | false => match lt x y with | true => x :: y :: l | false => y :: l
theorem insL_ok {α : Type} {lt : α → α → Bool} (h : SO lt) (x : α) {l : List α} (hs : l.Pairwise fun a b => lt a b = true) :
    (insL lt x l).Pairwise (fun a b => lt a b = true) ∧ (∀ z, z ∈ insL lt x l ↔ z = x ∨ z ∈ l) ∧ (insL lt x l).length ≤ l.length + 1 := by
  induction l with
  | nil => exact ⟨List.pairwise_singleton _ _, fun z => by simp [insL], by simp [insL]⟩
  | cons y l ih =>
    obtain ⟨h1, h2⟩ := List.pairwise_cons.1 hs
    obtain ⟨k1, k2, k3⟩ := ih h2
    simp only [insL]
    cases hb : lt y x with
    | true =>
      refine ⟨List.pairwise_cons.2 ⟨fun z hz => ?_, k1⟩, fun z => ?_, by simp; omega⟩
      · rcases (k2 z).1 hz with rfl | hz
        · exact hb
        · exact h1 z hz
      · rw [List.mem_cons, k2 z, List.mem_cons]
        constructor
        · rintro (h | h | h)
          · exact .inr (.inl h)
          · exact .inl h
          · exact .inr (.inr h)
        · rintro (h | h | h)
          · exact .inr (.inl h)
          · exact .inl h
          · exact .inr (.inr h)
    | false =>
      cases hc : lt x y with
      | true =>
        refine ⟨List.pairwise_cons.2 ⟨fun z hz => ?_, hs⟩, fun z => by simp, by simp⟩
        rcases List.mem_cons.1 hz with rfl | hz
        · exact hc
        · exact h.tr _ _ _ hc (h1 z hz)
      | false =>
        have e := h.tot x y hc hb
        subst e
        exact ⟨hs, fun z => by simp, by simp⟩
def insAll {α : Type} (lt : α → α → Bool) (acc l : List α) : List α := l.foldl (fun acc x => insL lt x acc) acc
theorem insAll_ok {α : Type} {lt : α → α → Bool} (h : SO lt) (l : List α) {acc : List α} (hs : acc.Pairwise fun a b => lt a b = true) :
    (insAll lt acc l).Pairwise (fun a b => lt a b = true) ∧ (∀ z, z ∈ insAll lt acc l ↔ z ∈ acc ∨ z ∈ l) ∧ (insAll lt acc l).length ≤ acc.length + l.length := by
  induction l generalizing acc with
  | nil => exact ⟨hs, fun z => by simp [insAll], by simp [insAll]⟩
  | cons x l ih =>
    obtain ⟨k1, k2, k3⟩ := insL_ok h x hs
    obtain ⟨j1, j2, j3⟩ := ih k1
    refine ⟨j1, fun z => ?_, ?_⟩
    · show z ∈ insAll lt (insL lt x acc) l ↔ _
      rw [j2 z, k2 z, List.mem_cons]
      constructor
      · rintro ((h | h) | h)
        · exact .inr (.inl h)
        · exact .inl h
        · exact .inr (.inr h)
      · rintro (h | h | h)
        · exact .inl (.inr h)
        · exact .inl (.inl h)
        · exact .inr h
    · show (insAll lt (insL lt x acc) l).length ≤ _
      simp only [List.length_cons]; omega
theorem insAll_setI (l : List Int) : insAll (fun a b => decide (a < b)) [] l = setI l := by
  obtain ⟨k1, k2, _⟩ := insAll_ok soI l (acc := []) List.Pairwise.nil
  obtain ⟨j1, j2, _⟩ := setI_ok l
  exact soI.uniq k1 j1 fun z => by rw [k2, j2]; simp
theorem insAll_setS (l : List Str) : insAll ltS [] l = setS l := by
  obtain ⟨k1, k2, _⟩ := insAll_ok soS l (acc := []) List.Pairwise.nil
  obtain ⟨j1, j2, _⟩ := setS_ok l
  exact soS.uniq k1 j1 fun z => by rw [k2, j2]; simp

/-! Loops, once more. -/
theorem loopF_mu {σ α : Type} {st : σ → Option (σ ⊕ α)} (I : σ → Prop) (mu : σ → Nat) (Q : α → Prop) (h : ∀ s, I s → (∃ s', st s = some (.inl s') ∧ I s' ∧ mu s' < mu s) ∨ ∃ a, st s = some (.inr a) ∧ Q a) {s0 : σ} (h0 : I s0) : ∃ a, loopF st s0 = some a ∧ Q a := by
  have key : ∀ n s, mu s ≤ n → I s → ∃ a, loopF st s = some a ∧ Q a := by
    intro n
    induction n with
    | zero =>
      intro s hn hs
      rcases h s hs with ⟨s', _, _, h3⟩ | ⟨a, h1, h2⟩
      · omega
      · exact ⟨a, by rw [loopF_eq, h1]; rfl, h2⟩
    | succ n ih =>
      intro s hn hs
      rcases h s hs with ⟨s', h1, h2, h3⟩ | ⟨a, h1, h2⟩
      · obtain ⟨a, k1, k2⟩ := ih s' (by omega) h2
        exact ⟨a, by rw [loopF_eq, h1]; exact k1, k2⟩
      · exact ⟨a, by rw [loopF_eq, h1]; rfl, h2⟩
  exact key _ s0 (Nat.le_refl _) h0
theorem imax_eq (a b : Int) : std.imax a b = max a b := by
  show (if b > a then b else a) = _
  split <;> omega
/-- The place of the first one that is not less. -/
def geI {α : Type} (lt : α → α → Bool) (x : α) : List α → Nat
  | [] => 0
  | y :: l => match lt y x with | true => geI lt x l + 1 | false => 0
theorem geI_le {α : Type} (lt : α → α → Bool) (x : α) (l : List α) : geI lt x l ≤ l.length := by
  induction l with
  | nil => exact Nat.le_refl _
  | cons y l ih => simp only [geI]; cases lt y x <;> simp; omega
theorem geI_lt {α : Type} (lt : α → α → Bool) (x : α) (l : List α) (i : Nat) (hi : i < geI lt x l) (hl : i < l.length) : lt l[i] x = true := by
  induction l generalizing i with
  | nil => exact absurd hl (Nat.not_lt_zero _)
  | cons y l ih =>
    simp only [geI] at hi
    cases hy : lt y x with
    | false => rw [hy] at hi; exact absurd hi (Nat.not_lt_zero _)
    | true =>
      rw [hy] at hi
      cases i with
      | zero => exact hy
      | succ i => exact ih i (by have hi : i + 1 < geI lt x l + 1 := hi; omega) (by simpa using hl)
theorem geI_at {α : Type} (lt : α → α → Bool) (x : α) (l : List α) (hl : geI lt x l < l.length) : lt l[geI lt x l] x = false := by
  induction l with
  | nil => exact absurd hl (Nat.not_lt_zero _)
  | cons y l ih =>
    cases hy : lt y x with
    | false =>
      have e : geI lt x (y :: l) = 0 := by simp only [geI, hy]
      simp only [e, List.getElem_cons_zero, hy]
    | true =>
      have e : geI lt x (y :: l) = geI lt x l + 1 := by simp only [geI, hy]
      simp only [e, List.getElem_cons_succ]
      exact ih (by rw [e] at hl; simpa using hl)
theorem ge_loop {α : Type} (lt : α → α → Bool) (x : α) (l : List α) (st : Int → Tree (Int ⊕ Int)) (hl : l.length ≤ 1000000)
    (h : ∀ i (hi : i < l.length), (st (i : Int)).run = some (bif lt l[i] x then .inl (w64 ((i : Int) + 1)) else .inr (i : Int))) (h0 : (st (l.length : Int)).run = some (.inr (l.length : Int))) :
    loopF (fun v => (st v).run) 0 = some ((geI lt x l : Nat) : Int) := by
  have hle := geI_le lt x l
  refine loopF_run (S := fun i => (i : Int)) (n := geI lt x l) (fun i hi => ?_) ?_ rfl
  · rw [h i (by omega), geI_lt lt x l i hi (by omega), w64_i i (by omega)]; rfl
  · by_cases hlt : geI lt x l < l.length
    · rw [h _ hlt, geI_at lt x l hlt]; rfl
    · have : geI lt x l = l.length := by omega
      rw [this]; exact h0
theorem insL_ge {α : Type} {lt : α → α → Bool} (x : α) (l : List α) : insL lt x l = if h : geI lt x l < l.length then (if lt x l[geI lt x l] = true then l.take (geI lt x l) ++ x :: l.drop (geI lt x l) else l) else l ++ [x] := by
  induction l with
  | nil => rfl
  | cons y l ih =>
    simp only [insL]
    cases hy : lt y x with
    | false =>
      have e : geI lt x (y :: l) = 0 := by simp only [geI, hy]
      simp only [e, List.length_cons, Nat.zero_lt_succ, dite_true, List.getElem_cons_zero, List.take_zero, List.drop_zero, List.nil_append]
      cases lt x y <;> rfl
    | true =>
      have e : geI lt x (y :: l) = geI lt x l + 1 := by simp only [geI, hy]
      simp only [e, List.length_cons, Nat.add_lt_add_iff_right, List.getElem_cons_succ, List.take_succ_cons, List.drop_succ_cons, List.cons_append]
      rw [ih]
      split
      · split <;> rfl
      · rfl
theorem sameL_dec {α : Type} [DecidableEq α] {e : α → α → Bool} (a b : List α) (h : ∀ x ∈ a, ∀ y, e x y = decide (x = y)) : sameL e a b = decide (a = b) := by
  induction a generalizing b with
  | nil => cases b <;> simp [sameL]
  | cons x a ih =>
    cases b with
    | nil => simp [sameL]
    | cons y b =>
      simp only [sameL, h x List.mem_cons_self, ih b fun z hz => h z (List.mem_cons_of_mem _ hz)]
      by_cases h1 : x = y <;> by_cases h2 : a = b <;> simp [h1, h2]


/-! The document's net: a list of messages with their lanes. -/
def allL (m : List R33_Mail) (q : Str) : List Str := (m.filter fun p => p.1 == q).map (·.2)
theorem allL_snoc (m : List R33_Mail) (p : R33_Mail) (q : Str) : allL (m ++ [p]) q = if p.1 = q then allL m q ++ [p.2] else allL m q := by
  unfold allL
  rw [List.filter_append, List.map_append]
  by_cases e : p.1 = q
  · rw [if_pos e, List.filter_cons, if_pos (beq_iff_eq.2 e)]; rfl
  · rw [if_neg e, List.filter_cons, if_neg (fun h => e (beq_iff_eq.1 h))]; exact List.append_nil _
theorem allL_len (m : List R33_Mail) (q : Str) : (allL m q).length ≤ m.length := by unfold allL; rw [List.length_map]; exact List.length_filter_le _ _
theorem take_snoc (m : List R33_Mail) (i : Nat) (hi : i < m.length) : m.take (i + 1) = m.take i ++ [m[i]] := by rw [List.take_add_one]; simp [hi]
theorem r33_all_run (m : List R33_Mail) (q : Str) (hm : m.length ≤ 1000000) : (r33_Net_All_T m q).run = some (allL m q) := by
  unfold r33_Net_All_T
  have hl : (Tree.loop (fun v => r33_Net_All_L3_step m q v.1 v.2) (0, ([] : List Str))).run = some (allL m q) := by
    show loopF (fun v : Int × List Str => (r33_Net_All_L3_step m q v.1 v.2).run) (0, ([] : List Str)) = _
    refine loopF_run (S := fun i => (((i : Nat) : Int), allL (m.take i) q)) (n := m.length) (a := allL m q) (fun i hi => ?_) ?_ rfl
    · have hb : inb (i : Int) m.length = true := by rw [inb_nat]; exact decide_eq_true hi
      show (r33_Net_All_L3_step m q (i : Int) (allL (m.take i) q)).run = some (Sum.inl (((i + 1 : Nat) : Int), allL (m.take (i + 1)) q))
      unfold r33_Net_All_L3_step
      simp only [Int.toNat_natCast, getD_lt _ _ _ hi]
      refine (run_t (decide_eq_true (by omega))).trans ((run_ask hb).trans ?_)
      rw [take_snoc m i hi, allL_snoc]
      have hlen := allL_len (m.take i) q
      rw [List.length_take] at hlen
      by_cases e : m[i].1 = q
      · rw [if_pos e]
        refine (run_t (beq_iff_eq.2 e)).trans ((run_ask hb).trans ((run_ask (decide_eq_true (by unfold roomNat; rw [List.length_append, List.length_singleton]; omega))).trans ?_))
        show some (Sum.inl (w64 ((i : Int) + 1), _)) = _
        rw [w64_nat i (by omega)]
      · rw [if_neg e]
        refine (run_f (beq_eq_false_iff_ne.2 e)).trans ?_
        show some (Sum.inl (w64 ((i : Int) + 1), _)) = _
        rw [w64_nat i (by omega)]
    · show (r33_Net_All_L3_step m q (m.length : Int) (allL (m.take m.length) q)).run = _
      unfold r33_Net_All_L3_step
      rw [List.take_length]
      exact (run_f (decide_eq_false (by omega))).trans rfl
  exact (run_bnd hl).trans rfl
theorem r33_at_run (k : Int) (n : Nat) (h0 : 0 < n) (hn : n ≤ 1000000) : (r33_At_T k (n : Int)).run = some (atI k n) := by
  have h1 := Int.tmod_lt_of_pos k (show (0 : Int) < n by omega)
  have h2 : -(n : Int) < k.tmod n := by
    have := Int.lt_tmod_of_pos k (show (0 : Int) < n by omega)
    omega
  unfold r33_At_T atI
  refine (run_ask (by rw [decide_eq_false (show ¬ ((n : Int) = 0) by omega)]; rfl)).trans ?_
  by_cases e : k.tmod n < 0
  · rw [if_pos e]
    refine (run_t (decide_eq_true e)).trans ?_
    show some (w64 _) = _
    rw [show w64 (k.tmod n + n) = k.tmod n + n by show IntKind.i64.wrap _ = _; rw [IntKind.wrap_i64]; omega]
  · rw [if_neg e]
    exact (run_f (decide_eq_false e)).trans rfl
theorem r33_send_run (k b : Str) (m : List R33_Mail) (hm : m.length ≤ 1000000) : (r33_Net_Send_T k b m).run = some ((), (((), ()), (m ++ [(k, b)], ()))) := by
  unfold r33_Net_Send_T
  exact (run_ask (decide_eq_true (by unfold roomNat; rw [List.length_append, List.length_singleton]; omega))).trans rfl
/-- Without the message of this place in its lane. -/
def outP (m : List R33_Mail) (q : Str) (a : Nat) : Nat → List R33_Mail
  | 0 => []
  | i + 1 => if (m.getD i (dfl tR33_Mail : R33_Mail)).1 = q ∧ (allL (m.take i) q).length = a then outP m q a i else outP m q a i ++ [m.getD i (dfl tR33_Mail : R33_Mail)]
theorem outP_ok (m : List R33_Mail) (q : Str) (a i : Nat) (hi : i ≤ m.length) : allL (outP m q a i) q = (allL (m.take i) q).eraseIdx a ∧ (∀ r, r ≠ q → allL (outP m q a i) r = allL (m.take i) r) ∧ (outP m q a i).length ≤ i := by
  induction i with
  | zero => exact ⟨rfl, fun _ _ => rfl, Nat.le_refl _⟩
  | succ i ih =>
    have hlt : i < m.length := by omega
    obtain ⟨h1, h2, h3⟩ := ih (by omega)
    unfold outP
    rw [getD_lt _ _ _ hlt, take_snoc m i hlt]
    by_cases c : m[i].1 = q ∧ (allL (m.take i) q).length = a
    · rw [if_pos c]
      refine ⟨?_, fun r hr => ?_, by omega⟩
      · rw [h1, allL_snoc, if_pos c.1, List.eraseIdx_append_of_length_le (by omega), c.2, Nat.sub_self]
        rw [List.eraseIdx_of_length_le (by omega)]
        exact (List.append_nil _).symm
      · rw [h2 r hr, allL_snoc, if_neg (fun e => hr (e.symm.trans c.1))]
    · rw [if_neg c]
      refine ⟨?_, fun r hr => ?_, by rw [List.length_append, List.length_singleton]; omega⟩
      · rw [allL_snoc, allL_snoc, h1]
        by_cases e : m[i].1 = q
        · rw [if_pos e, if_pos e]
          have hne : (allL (m.take i) q).length ≠ a := fun h => c ⟨e, h⟩
          by_cases hlt : a < (allL (m.take i) q).length
          · rw [List.eraseIdx_append_of_lt_length hlt]
          · rw [List.eraseIdx_of_length_le (by omega), List.eraseIdx_of_length_le (by rw [List.length_append, List.length_singleton]; omega)]
        · rw [if_neg e, if_neg e]
      · rw [allL_snoc, allL_snoc, h2 r hr]
def takR (m : List R33_Mail) (q : Str) (k : Int) : doR × List R33_Mail :=
  if allL m q = [] then (([], false), m) else (((allL m q).getD (atI k (allL m q).length).toNat [], true), outP m q (atI k (allL m q).length).toNat m.length)
theorem r33_take_run (q : Str) (k : Int) (m : List R33_Mail) (hm : m.length ≤ 1000000) : (r33_Net_Take_T q k m).run = some (((takR m q k).1.1, ((takR m q k).1.2, ())), (((), ()), ((takR m q k).2, ()))) := by
  unfold r33_Net_Take_T takR
  refine (run_bnd (r33_all_run m q hm)).trans ?_
  by_cases e : allL m q = []
  · rw [if_pos e, e]; exact (run_t rfl).trans rfl
  have hp : 0 < (allL m q).length := List.length_pos_iff.2 e
  have hle := allL_len m q
  obtain ⟨q1, q2⟩ := atI_in k (allL m q).length hp
  rw [if_neg e]
  refine (run_f (decide_eq_false (by omega))).trans ((run_bnd (r33_at_run k _ hp (by omega))).trans ?_)
  generalize atI k (allL m q).length = a at q1 q2
  obtain ⟨a, rfl⟩ := Int.eq_ofNat_of_zero_le q1
  rw [Int.toNat_natCast]
  have hl : (Tree.loop (fun v => r33_Net_Take_L8_step q (a : Int) m (allL m q) v.1 v.2.1 v.2.2) (0, 0, ([] : List R33_Mail))).run = some (outP m q a m.length) := by
    show loopF (fun v : Int × Int × List R33_Mail => (r33_Net_Take_L8_step q (a : Int) m (allL m q) v.1 v.2.1 v.2.2).run) (0, 0, ([] : List R33_Mail)) = _
    refine loopF_run (S := fun i => (((allL (m.take i) q).length : Int), ((i : Nat) : Int), outP m q a i)) (n := m.length) (fun i hi => ?_) ?_ rfl
    · have hb : inb (i : Int) m.length = true := by rw [inb_nat]; exact decide_eq_true hi
      have hs := allL_len (m.take i) q
      rw [List.length_take] at hs
      obtain ⟨_, _, ho⟩ := outP_ok m q a i (by omega)
      show (r33_Net_Take_L8_step q (a : Int) m (allL m q) ((allL (m.take i) q).length : Int) (i : Int) (outP m q a i)).run = some (Sum.inl (((allL (m.take (i + 1)) q).length : Int), ((i + 1 : Nat) : Int), outP m q a (i + 1)))
      rw [show outP m q a (i + 1) = if m[i].1 = q ∧ (allL (m.take i) q).length = a then outP m q a i else outP m q a i ++ [m[i]] by rw [outP, getD_lt _ _ _ hi]]
      rw [take_snoc m i hi, allL_snoc]
      unfold r33_Net_Take_L8_step
      simp only [Int.toNat_natCast, getD_lt _ _ _ hi]
      have hroom : decide ((outP m q a i ++ [m[i]]).length * 32 ≤ roomNat) = true := decide_eq_true (by unfold roomNat; rw [List.length_append, List.length_singleton]; omega)
      have hw1 := w64_nat (allL (m.take i) q).length (by omega)
      have hw2 := w64_nat a (by omega)
      have hw3 := w64_nat i (by omega)
      refine (run_t (decide_eq_true (by omega))).trans ((run_ask hb).trans ?_)
      by_cases e1 : m[i].1 = q
      · rw [if_pos e1]
        refine (run_t (beq_iff_eq.2 e1)).trans ?_
        by_cases e2 : (allL (m.take i) q).length = a
        · rw [if_pos ⟨e1, e2⟩]
          refine (run_t (by rw [hw1, hw2]; exact decide_eq_true (by omega))).trans ?_
          show some (Sum.inl (w64 _, w64 _, _)) = _
          rw [hw1, hw3, List.length_append, List.length_singleton]
        · rw [if_neg (fun h => e2 h.2)]
          refine (run_f (by rw [hw1, hw2]; exact decide_eq_false (by omega))).trans ((run_ask hb).trans ((run_ask hroom).trans ?_))
          show some (Sum.inl (w64 _, w64 _, _)) = _
          rw [hw1, hw3, List.length_append, List.length_singleton]
      · rw [if_neg e1, if_neg (fun h => e1 h.1)]
        refine (run_f (beq_eq_false_iff_ne.2 e1)).trans ((run_ask hb).trans ((run_ask hroom).trans ?_))
        show some (Sum.inl (_, w64 _, _)) = _
        rw [hw3]
    · show (r33_Net_Take_L8_step q (a : Int) m (allL m q) ((allL (m.take m.length) q).length : Int) (m.length : Int) (outP m q a m.length)).run = _
      unfold r33_Net_Take_L8_step
      exact (run_f (decide_eq_false (by omega))).trans rfl
  refine (run_bnd hl).trans ((run_ask (by rw [inb_nat]; exact decide_eq_true (by omega))).trans ?_)
  show some (((allL m q).getD ((a : Int)).toNat [], _), _) = _
  rw [Int.toNat_natCast]
def twiR (m : List R33_Mail) (q : Str) (k : Int) : Bool × List R33_Mail := if allL m q = [] then (false, m) else (true, m ++ [(q, (allL m q).getD (atI k (allL m q).length).toNat [])])
theorem r33_twice_run (q : Str) (k : Int) (m : List R33_Mail) (hm : m.length ≤ 1000000) : (r33_Net_Twice_T q k m).run = some ((twiR m q k).1, (((), ()), ((twiR m q k).2, ()))) := by
  unfold r33_Net_Twice_T twiR
  refine (run_bnd (r33_all_run m q hm)).trans ?_
  by_cases e : allL m q = []
  · rw [if_pos e, e]; exact (run_t rfl).trans rfl
  have hp : 0 < (allL m q).length := List.length_pos_iff.2 e
  have hle := allL_len m q
  obtain ⟨q1, q2⟩ := atI_in k (allL m q).length hp
  rw [if_neg e]
  refine (run_f (decide_eq_false (by omega))).trans ((run_bnd (r33_at_run k _ hp (by omega))).trans ?_)
  refine (run_ask (by show decide _ = true; exact decide_eq_true ⟨q1, q2⟩)).trans ((run_bnd (r33_send_run q _ m hm)).trans rfl)
/-- An act, in the document's net. -/
def refD (a : R33_Act) (m : List R33_Mail) : doR × List R33_Mail :=
  if a.1 = 1 then (([], false), m ++ [(a.2.1, a.2.2.1)]) else if a.1 = 2 then takR m a.2.1 a.2.2.2 else if a.1 = 3 then (([], (twiR m a.2.1 a.2.2.2).1), (twiR m a.2.1 a.2.2.2).2) else (([], false), m)
theorem refD_lane (a : R33_Act) (m : List R33_Mail) : (refD a m).1 = (doL a (allL m a.2.1)).1 ∧ (∀ q, allL (refD a m).2 q = if q = a.2.1 then (doL a (allL m a.2.1)).2 else allL m q) ∧ (refD a m).2.length ≤ m.length + 1 := by
  have triv : ∀ q, allL m q = if q = a.2.1 then allL m a.2.1 else allL m q := fun q => by
    split
    · rename_i e; rw [e]
    · rfl
  have snoc : ∀ (b : Str) (q : Str), allL (m ++ [(a.2.1, b)]) q = if q = a.2.1 then allL m a.2.1 ++ [b] else allL m q := fun b q => by
    rw [allL_snoc]
    by_cases e : q = a.2.1
    · rw [if_pos e, if_pos e.symm, e]
    · rw [if_neg e, if_neg (fun h => e h.symm)]
  unfold refD doL
  by_cases e1 : a.1 = 1
  · rw [if_pos e1, if_pos e1]
    exact ⟨rfl, fun q => snoc _ q, by simp⟩
  rw [if_neg e1, if_neg e1]
  by_cases e2 : a.1 = 2
  · rw [if_pos e2, if_pos e2]
    unfold takR
    by_cases e : allL m a.2.1 = []
    · rw [if_pos e, if_pos e]; exact ⟨rfl, triv, Nat.le_succ _⟩
    · rw [if_neg e, if_neg e]
      obtain ⟨h1, h2, h3⟩ := outP_ok m a.2.1 (atI a.2.2.2 (allL m a.2.1).length).toNat m.length (Nat.le_refl _)
      rw [List.take_length] at h1
      refine ⟨rfl, fun q => ?_, Nat.le_succ_of_le h3⟩
      show allL (outP m a.2.1 _ m.length) q = _
      by_cases eq : q = a.2.1
      · rw [if_pos eq, eq]; exact h1
      · rw [if_neg eq, h2 q eq, List.take_length]
  rw [if_neg e2, if_neg e2]
  by_cases e3 : a.1 = 3
  · rw [if_pos e3, if_pos e3]
    unfold twiR
    by_cases e : allL m a.2.1 = []
    · rw [if_pos e, if_pos e]; exact ⟨rfl, triv, Nat.le_succ _⟩
    · rw [if_neg e, if_neg e]
      exact ⟨rfl, fun q => snoc _ q, by simp⟩
  rw [if_neg e3, if_neg e3]
  exact ⟨rfl, triv, Nat.le_succ _⟩

/-! The lanes, rising. -/
def lanesR (m : List R33_Mail) : List Str := insAll ltS [] (m.map (·.1))
theorem r33_lanes_run (m : List R33_Mail) (hm : m.length ≤ 100000) : (r33_Net_Lanes_T m).run = some (lanesR m) := by
  unfold r33_Net_Lanes_T
  have hl : (Tree.loop (fun v => r33_Net_Lanes_L3_step m v.1 v.2) (0, ([] : List Str))).run = some (lanesR m) := by
    show loopF (fun v : Int × List Str => (r33_Net_Lanes_L3_step m v.1 v.2).run) (0, ([] : List Str)) = _
    refine loopF_run (S := fun i => (((i : Nat) : Int), insAll ltS [] ((m.take i).map (·.1)))) (n := m.length) (fun i hi => ?_) ?_ rfl
    · have hb : inb (i : Int) m.length = true := by rw [inb_nat]; exact decide_eq_true hi
      show (r33_Net_Lanes_L3_step m (i : Int) (insAll ltS [] ((m.take i).map (·.1)))).run = some (Sum.inl (((i + 1 : Nat) : Int), insAll ltS [] ((m.take (i + 1)).map (·.1))))
      have hnext : insAll ltS [] ((m.take (i + 1)).map (·.1)) = insL ltS m[i].1 (insAll ltS [] ((m.take i).map (·.1))) := by
        rw [take_snoc m i hi, List.map_append]
        unfold insAll
        rw [List.foldl_append]; rfl
      have hlen : (insAll ltS [] ((m.take i).map (·.1))).length ≤ i := by
        have := (insAll_ok soS ((m.take i).map (·.1)) (acc := []) List.Pairwise.nil).2.2
        rw [List.length_map, List.length_take, List.length_nil] at this
        omega
      rw [hnext]
      generalize insAll ltS [] ((m.take i).map (·.1)) = out at hlen
      have hin : (Tree.loop (fun v => r33_Net_Lanes_L6_step m (i : Int) out v) 0).run = some ((geI ltS m[i].1 out : Nat) : Int) := by
        show loopF (fun v => (r33_Net_Lanes_L6_step m (i : Int) out v).run) 0 = _
        refine ge_loop ltS m[i].1 out (fun v => r33_Net_Lanes_L6_step m (i : Int) out v) (by omega) (fun k hk => ?_) ?_
        · unfold r33_Net_Lanes_L6_step
          simp only [Int.toNat_natCast, getD_lt _ _ _ hi, getD_lt _ _ _ hk]
          refine (run_ask (by rw [inb_nat, decide_eq_true hk, Bool.or_true])).trans ((run_ask (by rw [hb, Bool.or_true])).trans ?_)
          rw [decide_eq_true (show (k : Int) < (out.length : Int) by omega), Bool.true_and]
          cases ltS out[k] m[i].1 with
          | true => exact (run_t rfl).trans rfl
          | false => exact (run_f rfl).trans rfl
        · unfold r33_Net_Lanes_L6_step
          rw [decide_eq_false (show ¬ ((out.length : Int) < (out.length : Int)) by omega)]
          exact (run_ask rfl).trans ((run_ask rfl).trans ((run_f rfl).trans rfl))
      unfold r33_Net_Lanes_L3_step
      refine (run_t (decide_eq_true (by omega))).trans ((run_bnd hin).trans ?_)
      have hk := geI_le ltS m[i].1 out
      rw [insL_ge]
      simp only [Int.toNat_natCast, getD_lt _ _ _ hi]
      have hbe : inbe ((geI ltS m[i].1 out : Nat) : Int) out.length = true := by rw [inbe_nat]; exact decide_eq_true hk
      have hr1 : decide ((out.take (geI ltS m[i].1 out)).length * 16 ≤ roomNat) = true := decide_eq_true (by unfold roomNat; rw [List.length_take]; omega)
      have hr2 : decide (((out.take (geI ltS m[i].1 out)) ++ [m[i].1]).length * 16 ≤ roomNat) = true := decide_eq_true (by unfold roomNat; rw [List.length_append, List.length_take, List.length_singleton]; omega)
      have hdrop : (out.drop (geI ltS m[i].1 out)).take (out.length - geI ltS m[i].1 out) = out.drop (geI ltS m[i].1 out) := List.take_of_length_le (by rw [List.length_drop]; omega)
      have hr3 : decide ((((out.take (geI ltS m[i].1 out)) ++ [m[i].1]) ++ ((out.drop (geI ltS m[i].1 out)).take (out.length - geI ltS m[i].1 out))).length * 16 ≤ roomNat) = true := decide_eq_true (by unfold roomNat; rw [hdrop, List.length_append, List.length_append, List.length_take, List.length_singleton, List.length_drop]; omega)
      have hw := w64_nat i (by omega)
      by_cases hlt : geI ltS m[i].1 out < out.length
      · rw [dif_pos hlt, getD_lt _ _ _ hlt]
        refine (run_ask (by rw [inb_nat, decide_eq_true hlt, Bool.or_true])).trans ((run_ask (by rw [hb, Bool.or_true])).trans ?_)
        rw [decide_eq_true (show ((geI ltS m[i].1 out : Nat) : Int) < (out.length : Int) by omega), Bool.true_and]
        have hge := geI_at ltS m[i].1 out hlt
        by_cases e : out[geI ltS m[i].1 out] = m[i].1
        · rw [if_neg (by rw [e, soS.irr]; exact Bool.false_ne_true)]
          refine (run_t (beq_iff_eq.2 e)).trans ?_
          show some (Sum.inl (w64 _, _)) = _
          rw [hw]
        · rw [if_pos (by
            cases h : ltS m[i].1 out[geI ltS m[i].1 out] with
            | true => rfl
            | false => exact absurd (soS.tot _ _ hge h) e)]
          refine (run_f (beq_eq_false_iff_ne.2 e)).trans ((run_ask hbe).trans ((run_ask hr1).trans ((run_ask hb).trans ((run_ask hr2).trans ((run_ask hbe).trans ((run_ask hr3).trans ?_))))))
          show some (Sum.inl (w64 _, _)) = _
          rw [hw, hdrop, List.append_assoc]; rfl
      · rw [dif_neg hlt]
        rw [decide_eq_false (show ¬ (((geI ltS m[i].1 out : Nat) : Int) < (out.length : Int)) by omega)]
        refine (run_ask rfl).trans ((run_ask rfl).trans ((run_f rfl).trans ((run_ask hbe).trans ((run_ask hr1).trans ((run_ask hb).trans ((run_ask hr2).trans ((run_ask hbe).trans ((run_ask hr3).trans ?_))))))))
        show some (Sum.inl (w64 _, _)) = _
        have hk2 : geI ltS m[i].1 out = out.length := by omega
        rw [hw, hdrop, hk2, List.take_length, List.drop_length, List.append_nil]
    · show (r33_Net_Lanes_L3_step m (m.length : Int) (insAll ltS [] ((m.take m.length).map (·.1)))).run = _
      unfold r33_Net_Lanes_L3_step
      rw [List.take_length]
      exact (run_f (decide_eq_false (by omega))).trans rfl
  exact (run_bnd hl).trans rfl
theorem gt_mem {x : NM} (h : Aps x) {p : Str × List Str} (hp : p ∈ x) : gtM x p.1 = p.2 := by
  induction x with
  | nil => cases hp
  | cons r x ih =>
    obtain ⟨h1, h2⟩ := List.pairwise_cons.1 h
    rw [gt_cons]
    rcases List.mem_cons.1 hp with rfl | hp
    · rw [if_pos rfl]
    · rw [if_neg (fun e => h1 p hp e.symm)]; exact ih h2 hp
theorem allL_ne (m : List R33_Mail) (q : Str) : allL m q ≠ [] ↔ q ∈ m.map (·.1) := by
  unfold allL
  constructor
  · intro h
    have h2 : m.filter (fun p => p.1 == q) ≠ [] := fun e => h (by rw [e]; rfl)
    obtain ⟨p, hp⟩ := List.exists_mem_of_ne_nil _ h2
    obtain ⟨h3, h4⟩ := List.mem_filter.1 hp
    exact List.mem_map.2 ⟨p, h3, beq_iff_eq.1 h4⟩
  · intro h e
    obtain ⟨p, hp, rfl⟩ := List.mem_map.1 h
    have : p ∈ m.filter (fun r => r.1 == p.1) := List.mem_filter.2 ⟨hp, beq_self_eq_true _⟩
    rw [List.map_eq_nil_iff.1 e] at this
    cases this
theorem lanes_eq {n : Nat} {x : NM} {m : List R33_Mail} (h : NOk n x) (hq : ∀ q, gtM x q = allL m q) : sortS (x.map (·.1)) = lanesR m := by
  obtain ⟨k1, k2, _⟩ := insAll_ok soS (m.map (·.1)) (acc := []) List.Pairwise.nil
  refine soS.uniq ?_ k1 fun z => ?_
  · have h1 := isortB_sorted leS_trans leS_total (x.map (·.1))
    have h2 : (x.map (·.1)).Pairwise fun a b => a ≠ b := List.pairwise_map.2 h.aps
    have h3 : (sortS (x.map (·.1))).Pairwise fun a b => a ≠ b := ((isortB_perm leS (x.map (·.1))).pairwise_iff (fun hab => Ne.symm hab)).2 h2
    refine (List.Pairwise.and h1 h3).imp fun {a b} hab => ?_
    obtain ⟨h4, h5⟩ := hab
    unfold leS at h4
    cases hl : ltS a b with
    | true => rfl
    | false => exact absurd (soS.tot a b hl (by simpa using h4)) h5
  · show z ∈ sortS (x.map (·.1)) ↔ z ∈ insAll ltS [] (m.map (·.1))
    rw [(isortB_perm leS (x.map (·.1))).mem_iff, k2 z]
    have : z ∈ x.map (·.1) ↔ gtM x z ≠ [] := by
      constructor
      · intro hz
        obtain ⟨p, hp, rfl⟩ := List.mem_map.1 hz
        show gtM x p.1 ≠ []
        rw [gt_mem h.aps hp]; exact h.non p hp
      · intro hz
        refine Classical.byContradiction fun hn => hz (gt_out x z fun p hp e => hn (List.mem_map.2 ⟨p, hp, e⟩))
    rw [this, hq z, allL_ne]
    simp

/-! The law of NetPlays. -/
def tailT (l : List R33_Act) (i : Int) (c : Bool) (X : NM) (M : List R33_Mail) (q : Str) : Tree ((Int × NM × List R33_Mail) ⊕ (Bool ⊕ Unit)) :=
  .bnd (r33_Net_All_T M q) fun y3 =>
  ask ((!(!c)) || inb i l.length) <|
  .grd (!c) (net_Net_All_T X q) ([] : List Str) fun y4 =>
  .grd (!c) (r01_SameTexts_T y4 y3) false fun y5 =>
  ask ((!(!(c || (!y5)))) || inb i l.length) <|
  .grd (!(c || (!y5))) (net_Net_Len_T X q) (0 : Int) fun y6 =>
  .grd (!((c || (!y5)) || (!decide (y6 = (y3.length : Int))))) (net_Net_Lanes_T X) ([] : List Str) fun y7 =>
  .grd (!((c || (!y5)) || (!decide (y6 = (y3.length : Int))))) (r33_Net_Lanes_T M) ([] : List Str) fun y8 =>
  .grd (!((c || (!y5)) || (!decide (y6 = (y3.length : Int))))) (r01_SameTexts_T y7 y8) false fun y9 =>
  .ite (((c || (!y5)) || (!decide (y6 = (y3.length : Int)))) || (!y9)) (
    .ret (.inr (.inl false))) (
    .ret (.inl ((w64 (i + 1)), X, M)))
theorem tail_run {n : Nat} (l : List R33_Act) (i : Int) (c : Bool) {X : NM} {M : List R33_Mail} (q : Str) (hn : n ≤ 1000) (hc : c = false) (hi : inb i l.length = true) (hX : NOk n X) (hM : M.length ≤ n) (hq : ∀ q, gtM X q = allL M q) :
    (tailT l i c X M q).run = some (.inl ((w64 (i + 1)), X, M)) := by
  subst hc
  have ha := hX.all q
  have hx := hX.len
  unfold tailT
  refine (run_bnd (r33_all_run M q (by omega))).trans ((run_ask (by rw [hi, Bool.or_true])).trans ?_)
  refine (run_grd (all_run X q (by omega))).trans ((run_grd (sameTexts_run _ _ (by omega) (hq q))).trans ((run_ask (by rw [hi, Bool.or_true])).trans ?_))
  refine (run_grd (len_run X q)).trans ((run_grd (lanes_run X (by omega))).trans ((run_grd (r33_lanes_run M (by omega))).trans ((run_grd (sameTexts_run _ _ (by rw [(isortB_perm leS (X.map (·.1))).length_eq, List.length_map]; omega) (lanes_eq hX hq))).trans ?_)))
  refine (run_f ?_).trans rfl
  rw [hq q, decide_eq_true rfl]; rfl
def stP (l : List R33_Act) : Nat → NM × List R33_Mail
  | 0 => ([], [])
  | i + 1 => ((doN (actA l i) (stP l i).1).2, (refD (actA l i) (stP l i).2).2)
theorem stP_ok (l : List R33_Act) (i : Nat) : NOk i (stP l i).1 ∧ (stP l i).2.length ≤ i ∧ ∀ q, gtM (stP l i).1 q = allL (stP l i).2 q := by
  induction i with
  | zero => exact ⟨NOk.nil, Nat.le_refl _, fun _ => rfl⟩
  | succ i ih =>
    obtain ⟨h1, h2, h3⟩ := ih
    obtain ⟨a1, a2, a3⟩ := doN_lane (actA l i) h1
    obtain ⟨b1, b2, b3⟩ := refD_lane (actA l i) (stP l i).2
    refine ⟨a3, Nat.le_trans b3 (by omega), fun q => ?_⟩
    show gtM (doN _ _).2 q = allL (refD _ _).2 q
    rw [a2 q, b2 q, h3 (actA l i).2.1, h3 q]
theorem run_both {α : Type} {t e : Tree α} {r : Option α} (h1 : t.run = r) (h2 : e.run = r) : (Tree.both t e).run = r := by
  simp only [Tree.run]
  rw [h1, h2, if_pos rfl]
theorem netPlays_step (l : List R33_Act) (hl : l.length ≤ 60) (i : Nat) (hi : i < l.length) : (l33_NetPlays_L5_step l (i : Int) (stP l i).1 (stP l i).2).run = some (.inl (((i + 1 : Nat) : Int), (stP l (i + 1)).1, (stP l (i + 1)).2)) := by
  obtain ⟨h1, h2, h3⟩ := stP_ok l i
  obtain ⟨k1, k2, k3⟩ := stP_ok l (i + 1)
  have hb : inb (i : Int) l.length = true := by rw [inb_nat]; exact decide_eq_true hi
  have ha := (doN_lane (actA l i) h1).1
  have hr := (refD_lane (actA l i) (stP l i).2).1
  rw [h3] at ha
  have he : (doN (actA l i) (stP l i).1).1 = (refD (actA l i) (stP l i).2).1 := ha.trans hr.symm
  have r1 := do_run (actA l i) (stP l i).1 (Nat.le_trans (h1.all _) (by omega)) (Nat.le_trans h1.len (by omega))
  have hw := w64_nat i (by omega)
  have hX : (stP l (i + 1)).1 = (doN (actA l i) (stP l i).1).2 := rfl
  have hM : (stP l (i + 1)).2 = (refD (actA l i) (stP l i).2).2 := rfl
  have hact : l.getD i (dfl tR33_Act : R33_Act) = actA l i := rfl
  rw [hX] at k1 k3
  rw [hM] at k2 k3
  rw [hX, hM, ← hw]
  unfold l33_NetPlays_L5_step
  simp only [Int.toNat_natCast, hact]
  refine (run_t (decide_eq_true (by omega))).trans ((run_ask hb).trans ((run_bnd r1).trans ((run_ask hb).trans ?_)))
  by_cases e1 : (actA l i).1 = 1
  · refine (run_t (decide_eq_true e1)).trans ((run_ask hb).trans ((run_ask hb).trans ((run_bnd (r33_send_run _ _ _ (by omega))).trans ((run_ask hb).trans ?_))))
    have hd : refD (actA l i) (stP l i).2 = (([], false), (stP l i).2 ++ [((actA l i).2.1, (actA l i).2.2.1)]) := by unfold refD; rw [if_pos e1]
    rw [hd] at he k2 k3 ⊢
    exact tail_run l (i : Int) _ _ (n := i + 1) (by omega) (by show ((!((doN _ _).1.1 == _)) || (!((doN _ _).1.2 == _))) = false; rw [he]; rfl) hb k1 k2 k3
  refine (run_f (decide_eq_false e1)).trans ?_
  by_cases e2 : (actA l i).1 = 2
  · have rt := r33_take_run (actA l i).2.1 (actA l i).2.2.2 (stP l i).2 (by omega)
    have hd : refD (actA l i) (stP l i).2 = takR (stP l i).2 (actA l i).2.1 (actA l i).2.2.2 := by unfold refD; rw [if_neg e1, if_pos e2]
    rw [hd] at he k2 k3 ⊢
    refine (run_t (decide_eq_true e2)).trans ((run_ask hb).trans ((run_ask hb).trans ((run_bnd rt).trans ?_)))
    refine run_both ?_ ?_
    all_goals
      refine (run_ask hb).trans ?_
      exact tail_run l (i : Int) _ _ (n := i + 1) (by omega) (by show ((!((doN _ _).1.1 == _)) || (!((doN _ _).1.2 == _))) = false; rw [he, beq_self_eq_true, beq_self_eq_true]; rfl) hb k1 k2 k3
  refine (run_f (decide_eq_false e2)).trans ?_
  by_cases e3 : (actA l i).1 = 3
  · have rt := r33_twice_run (actA l i).2.1 (actA l i).2.2.2 (stP l i).2 (by omega)
    have hd : refD (actA l i) (stP l i).2 = (([], (twiR (stP l i).2 (actA l i).2.1 (actA l i).2.2.2).1), (twiR (stP l i).2 (actA l i).2.1 (actA l i).2.2.2).2) := by unfold refD; rw [if_neg e1, if_neg e2, if_pos e3]
    rw [hd] at he k2 k3 ⊢
    refine (run_t (decide_eq_true e3)).trans ((run_ask hb).trans ((run_ask hb).trans ((run_bnd rt).trans ((run_ask hb).trans ?_))))
    exact tail_run l (i : Int) _ _ (n := i + 1) (by omega) (by show ((!((doN _ _).1.1 == _)) || (!((doN _ _).1.2 == _))) = false; rw [he, beq_self_eq_true, beq_self_eq_true]; rfl) hb k1 k2 k3
  refine (run_f (decide_eq_false e3)).trans ((run_ask hb).trans ?_)
  have hd : refD (actA l i) (stP l i).2 = (([], false), (stP l i).2) := by unfold refD; rw [if_neg e1, if_neg e2, if_neg e3]
  rw [hd] at he k2 k3 ⊢
  exact tail_run l (i : Int) _ _ (n := i + 1) (by omega) (by show ((!((doN _ _).1.1 == _)) || (!((doN _ _).1.2 == _))) = false; rw [he]; rfl) hb k1 k2 k3
theorem netPlays_law (x : ElP l33_NetPlays_g.ps) (_ : okP l33_NetPlays_g.ps x) : (l33_NetPlays_g.f x).run = some true := by
  obtain ⟨l, _⟩ := x
  show (l33_NetPlays_T l).run = some true
  unfold l33_NetPlays_T
  rcases few_run l with hf | ⟨hf, hl⟩
  · exact (run_bnd hf).trans ((run_t rfl).trans ((run_bnd awake_run).trans rfl))
  refine (run_bnd hf).trans ((run_f rfl).trans ((run_bnd (a := ((), (([] : List (Str × List Str)), (((), ()), ())))) rfl).trans ?_))
  have hloop : (Tree.loop (fun v => l33_NetPlays_L5_step l v.1 v.2.1 v.2.2) (0, ([] : NM), ([] : List R33_Mail))).run = some (.inr ()) := by
    show loopF (fun v : Int × NM × List R33_Mail => (l33_NetPlays_L5_step l v.1 v.2.1 v.2.2).run) (0, ([] : NM), ([] : List R33_Mail)) = _
    refine loopF_run (S := fun i => (((i : Nat) : Int), (stP l i).1, (stP l i).2)) (n := l.length) (fun i hi => netPlays_step l hl i hi) ?_ rfl
    show (l33_NetPlays_L5_step l (l.length : Int) (stP l l.length).1 (stP l l.length).2).run = _
    unfold l33_NetPlays_L5_step
    exact (run_f (decide_eq_false (by omega))).trans rfl
  exact (run_bnd hloop).trans ((run_bnd awake_run).trans rfl)

end Go.Eng

