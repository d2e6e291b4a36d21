/- Go's library over lists, as plain functions: what the lifted loops come to. -/
import Derived.Test.YtapnoaalcbcmaaaTrH
namespace Go.Eng
open Go

theorem w64_i (i : Nat) (h : i ≤ 1000000) : w64 ((i : Int) + 1) = ((i + 1 : Nat) : Int) := w64_nat i (by omega)
theorem room_le (n k : Nat) (h : n ≤ 1000000) (hk : k ≤ 100000) : decide (n * k ≤ roomNat) = true := by
  rw [decide_eq_true_eq]; unfold roomNat
  calc n * k ≤ 1000000 * 100000 := Nat.mul_le_mul h hk
    _ ≤ _ := by omega

/-- The place of the first one that is such, or -1. -/
def idxI {α : Type} (p : α → Bool) (l : List α) : Int := match l.findIdx? p with
  | some i => (i : Int)
  | none => -1
theorem idxI_any {α : Type} (p : α → Bool) (l : List α) : decide (0 ≤ idxI p l) = l.any p := by
  unfold idxI
  cases h : l.findIdx? p with
  | some i =>
    have : l.any p = true := by
      obtain ⟨hi, h1, _⟩ := List.findIdx?_eq_some_iff_getElem.1 h
      exact List.any_eq_true.2 ⟨_, List.getElem_mem hi, h1⟩
    rw [this]; simp
  | none =>
    have : l.any p = false := by
      rw [List.any_eq_false]; intro x hx
      have := List.findIdx?_eq_none_iff.1 h x hx
      simp [this]
    rw [this]; decide

theorem idxI_of {α : Type} {p : α → Bool} {l : List α} {i : Nat} (hi : i < l.length) (h : p l[i] = true) (hk : ∀ k (hk : k < i), p (l[k]'(by omega)) = false) : idxI p l = (i : Int) := by
  unfold idxI
  rw [List.findIdx?_eq_some_iff_getElem.2 ⟨hi, h, fun j hj => by rw [hk j hj]; exact Bool.false_ne_true⟩]
theorem idxI_none {α : Type} {p : α → Bool} {l : List α} (h : l.any p = false) : idxI p l = -1 := by
  unfold idxI
  rw [List.findIdx?_eq_none_iff.2 fun x hx => by have := List.any_eq_false.1 h x hx; simpa using this]
theorem idxI_cases {α : Type} (p : α → Bool) (l : List α) : (idxI p l = -1 ∧ l.any p = false) ∨ ∃ i, ∃ hi : i < l.length, idxI p l = (i : Int) ∧ p l[i] = true ∧ l.any p = true ∧ ∀ k (hk : k < i), p (l[k]'(by omega)) = false := by
  cases h : l.any p with
  | false => exact .inl ⟨idxI_none h, rfl⟩
  | true =>
    cases hf : l.findIdx? p with
    | none =>
      obtain ⟨x, hx, hp⟩ := List.any_eq_true.1 h
      rw [List.findIdx?_eq_none_iff.1 hf x hx] at hp; cases hp
    | some i =>
      obtain ⟨hi, h1, h2⟩ := List.findIdx?_eq_some_iff_getElem.1 hf
      have h2 : ∀ k (hk : k < i), p (l[k]'(by omega)) = false := fun k hk => by have := h2 k hk; simpa using this
      exact .inr ⟨i, hi, idxI_of hi h1 h2, h1, rfl, h2⟩

/-- slices.Index, slices.IndexFunc. -/
theorem index_tree {α : Type} (l : List α) (p : α → Bool) (st : Int → Tree (Int ⊕ (Int ⊕ Unit))) (hl : l.length ≤ 1000000)
    (h : ∀ i (hi : i < l.length), (st (i : Int)).run = some (bif p l[i] then .inr (.inl (i : Int)) else .inl (w64 ((i : Int) + 1)))) (h0 : (st (l.length : Int)).run = some (.inr (.inr ()))) :
    (Tree.bnd (.loop st 0) fun r1 => .sum r1 (fun r2 => .ret r2) fun _ => .ret (-1)).run = some (idxI p l) := by
  have hf := loopF_find (st := fun v => (st v).run) l p (fun i => (i : Int)) (fun i => (Sum.inl (i : Int) : Int ⊕ Unit)) (.inr ()) (fun i hi => by
    rw [h i hi, w64_i i (by omega)]) h0 (s0 := (0 : Int)) rfl
  simp only [Tree.run]
  rcases hf with ⟨h1, h2⟩ | ⟨i, hi, h1, h2, h3, h4⟩
  · rw [h1, idxI_none h2]; rfl
  · rw [h1, idxI_of hi h2 h4]; rfl

/-- A loop that stops at the first one that is such. -/
theorem any_loop {α β : Type} (l : List α) (p : α → Bool) (st : Int → Tree (Int ⊕ β)) (y z : β) (hl : l.length ≤ 1000000)
    (h : ∀ i (hi : i < l.length), (st (i : Int)).run = some (bif p l[i] then .inr y else .inl (w64 ((i : Int) + 1)))) (h0 : (st (l.length : Int)).run = some (.inr z)) :
    loopF (fun v => (st v).run) 0 = some (bif l.any p then y else z) :=
  loopF_any (st := fun v => (st v).run) l p (fun i => (i : Int)) y z (fun i hi => by rw [h i hi, w64_nat i (by omega)]) h0 rfl

/-- 'Are there few': all of the first ones are such, and there are not more. -/
def fewB {α : Type} (q : α → Bool) (most : Nat) (l : List α) : Bool := !(l.take most).any q && decide (l.length ≤ most)
theorem fewB_len {α : Type} {q : α → Bool} {most : Nat} {l : List α} (h : fewB q most l = true) : l.length ≤ most := by
  unfold fewB at h; simp only [Bool.and_eq_true, decide_eq_true_eq] at h; exact h.2
theorem fewB_mem {α : Type} {q : α → Bool} {most : Nat} {l : List α} (h : fewB q most l = true) {x : α} (hx : x ∈ l) : q x = false := by
  have hl := fewB_len h
  unfold fewB at h
  simp only [Bool.and_eq_true, Bool.not_eq_true'] at h
  have := List.any_eq_false.1 h.1 x (by rw [List.take_of_length_le hl]; exact hx)
  simpa using this
theorem few_tree {α : Type} (l : List α) (most : Nat) (q : α → Bool) (st : Int → Tree (Int ⊕ (Bool ⊕ Unit))) (hm : most ≤ 1000000) (m' : Int) (hm' : m' = (most : Int))
    (h : ∀ i (hi : i < l.length), i < most → (st (i : Int)).run = some (bif q l[i] then .inr (.inl false) else .inl (w64 ((i : Int) + 1))))
    (h0 : ∀ i : Nat, ¬ (i < l.length ∧ i < most) → (st (i : Int)).run = some (.inr (.inr ()))) :
    (Tree.bnd (.loop st 0) fun r1 => .sum r1 (fun r2 => .ret r2) fun _ => .ret (decide ((l.length : Int) ≤ m'))).run = some (fewB q most l) := by
  subst hm'
  have hlen : (l.take most).length = min most l.length := List.length_take
  have hf := loopF_any (st := fun v => (st v).run) (l.take most) q (fun i => (i : Int)) (Sum.inl false : Bool ⊕ Unit) (.inr ()) (fun i hi => by
    have h1 : i < l.length := by omega
    rw [h i h1 (by omega), w64_i i (by omega), List.getElem_take]) (h0 _ (by omega)) (s0 := (0 : Int)) rfl
  simp only [Tree.run]
  rw [hf]
  unfold fewB
  cases (l.take most).any q with
  | true => rfl
  | false => simp only [cond_false, Option.bind_some, Bool.not_false, Bool.true_and, Int.ofNat_le]; rfl

/-- A loop that goes on to the end, then ends so. -/
theorem same_loop {β : Type} (n : Nat) (st : Int → Tree (Int ⊕ β)) (r : β) (hn : n ≤ 9223372036854775807) (h : ∀ i : Nat, i < n → (st (i : Int)).run = some (.inl (w64 ((i : Int) + 1)))) (h0 : (st (n : Int)).run = some (.inr r)) :
    loopF (fun v => (st v).run) 0 = some r :=
  loopF_run (st := fun v => (st v).run) (S := fun i => ((i : Nat) : Int)) (n := n) (fun i hi => by rw [h i hi, w64_nat i (by omega)]) h0 rfl

/-- slices.DeleteFunc: what stays is laid ahead. -/
theorem delete_loop {α : Type} {p : α → Bool} {st : (Int × Int × List α) → Option ((Int × Int × List α) ⊕ (Int × List α))} (l : List α)
    (h1 : ∀ (i j : Nat) (s : List α) (hj : j < s.length), i < j → s.length = l.length → s[j] ∈ l → st ((i : Int), (j : Int), s) = some (.inl (match p s[j] with | true => ((i : Int), ((j + 1 : Nat) : Int), s) | false => (((i + 1 : Nat) : Int), ((j + 1 : Nat) : Int), s.set i s[j]))))
    (h0 : ∀ (i j : Nat) (s : List α), s.length = l.length → j = s.length → st ((i : Int), (j : Int), s) = some (.inr ((i : Int), s)))
    {i0 : Nat} (hi : i0 < l.length) (hx : ∀ k (hk : k < i0), p (l[k]'(by omega)) = false) (hp : p l[i0] = true) {s0 : Int × Int × List α} (hs : s0 = ((i0 : Int), ((i0 + 1 : Nat) : Int), l)) :
    ∃ (k : Nat) (s : List α), loopF st s0 = some ((k : Int), s) ∧ s.length = l.length ∧ k ≤ l.length ∧ s.take k = l.filter fun x => !p x := by
  subst hs
  have key : ∀ (d i j : Nat) (s : List α), j + d = l.length → i < j → s.length = l.length → s.drop j = l.drop j → s.take i = (l.take j).filter (fun x => !p x) →
      ∃ (k : Nat) (s' : List α), loopF st ((i : Int), (j : Int), s) = some ((k : Int), s') ∧ s'.length = l.length ∧ k ≤ l.length ∧ s'.take k = l.filter fun x => !p x := by
    intro d
    induction d with
    | zero =>
      intro i j s hj hij hs hd ht
      refine ⟨i, s, ?_, hs, by omega, ?_⟩
      · rw [loopF_eq, h0 i j s hs (by omega)]; rfl
      · rw [ht, List.take_of_length_le (by omega)]
    | succ d ih =>
      intro i j s hj hij hs hd ht
      have hjs : j < s.length := by omega
      have hjl : j < l.length := by omega
      have hsj : s[j] = l[j] := by
        have := congrArg (fun k => k[0]?) hd
        simpa [List.getElem?_drop, hjs, hjl] using this
      have hdrop : s.drop (j + 1) = l.drop (j + 1) := by
        have := congrArg (List.drop 1) hd
        simpa [List.drop_drop] using this
      have htk : l.take (j + 1) = l.take j ++ [l[j]] := by rw [List.take_add_one]; simp [hjl]
      rw [loopF_eq, h1 i j s hjs hij hs (by rw [hsj]; exact List.getElem_mem hjl)]
      cases hpj : p s[j] with
      | true =>
        refine ih i (j + 1) s (by omega) (by omega) hs hdrop ?_
        rw [ht, htk, List.filter_append, ← hsj]
        simp [hpj]
      | false =>
        refine ih (i + 1) (j + 1) (s.set i s[j]) (by omega) (by omega) (by rw [List.length_set]; exact hs) ?_ ?_
        · rw [List.drop_set_of_lt (by omega)]; exact hdrop
        · rw [htk, List.filter_append, ← ht, ← hsj]
          have hlt : i < s.length := by omega
          rw [List.take_add_one, List.take_set_of_le (by omega)]
          simp [hlt, hpj]
  refine key (l.length - (i0 + 1)) i0 (i0 + 1) l (by omega) (by omega) rfl rfl ?_
  have htk : l.take (i0 + 1) = l.take i0 ++ [l[i0]] := by rw [List.take_add_one]; simp [hi]
  rw [htk, List.filter_append]
  have h2 : (l.take i0).filter (fun x => !p x) = l.take i0 := by
    rw [List.filter_eq_self]
    intro a ha
    obtain ⟨k, hk, rfl⟩ := List.mem_iff_getElem.1 ha
    have hk' : k < i0 := by rw [List.length_take] at hk; omega
    simp [hx k hk']
  rw [h2]
  simp [hp]

theorem delete_tree {α γ : Type} (l : List α) (p : α → Bool) (t : Tree Int) (st : (Int × Int × List α) → Tree ((Int × Int × List α) ⊕ (Int × List α))) (z : α) (g : γ) (hl : l.length ≤ 1000000) (ht : t.run = some (idxI p l))
    (h1 : ∀ (i j : Nat) (s : List α) (hj : j < s.length), i < j → s.length = l.length → s[j] ∈ l → (st ((i : Int), (j : Int), s)).run = some (.inl (match p s[j] with | true => ((i : Int), ((j + 1 : Nat) : Int), s) | false => (((i + 1 : Nat) : Int), ((j + 1 : Nat) : Int), s.set i s[j]))))
    (h0 : ∀ (i j : Nat) (s : List α), s.length = l.length → j = s.length → (st ((i : Int), (j : Int), s)).run = some (.inr ((i : Int), s))) :
    (Tree.bnd t fun y1 => .ite (decide (y1 = (-1))) (.ret (l, g)) (.bnd (.loop st (y1, (w64 (y1 + 1)), l)) fun r2 => ask (inbe r2.1 r2.2.length) <| ask (inbe r2.1 (clearL r2.1.toNat (r2.2.length - r2.1.toNat) z r2.2).length) <| .ret (((clearL r2.1.toNat (r2.2.length - r2.1.toNat) z r2.2).take r2.1.toNat), g))).run = some (l.filter (fun x => !p x), g) := by
  simp only [Tree.run, ht, Option.bind_some]
  rcases idxI_cases p l with ⟨e, k⟩ | ⟨i0, hi, e, k1, _, k2⟩
  · have e2 : l.filter (fun x => !p x) = l := by
      rw [List.filter_eq_self]
      intro a ha
      have := List.any_eq_false.1 k a ha
      simpa using this
    rw [e, e2]; rfl
  · have hne : ¬ ((i0 : Int) = -1) := by omega
    obtain ⟨j, s, q1, q2, q3, q4⟩ := delete_loop (st := fun v => (st v).run) l h1 h0 hi k2 k1 (s0 := ((i0 : Int), w64 ((i0 : Int) + 1), l)) (by rw [w64_i i0 (by omega)])
    have h5 : j ≤ s.length := by omega
    rw [e]
    simp only [hne, decide_false, cond_false, q1, Option.bind_some, inbe_nat, length_clearL, Int.toNat_natCast, h5, decide_true, cond_true, take_clearL, q4]

/-- Two lists are the same. -/
theorem equal_loop {α : Type} (a b : List α) (e : α → α → Bool) (st : Int → Tree (Int ⊕ (Bool ⊕ Unit))) (hl : a.length ≤ 1000000) (hab : a.length = b.length)
    (h : ∀ i (hi : i < a.length) (hb : i < b.length), (st (i : Int)).run = some (bif e a[i] b[i] then .inl (w64 ((i : Int) + 1)) else .inr (.inl false))) (h0 : (st (a.length : Int)).run = some (.inr (.inr ()))) :
    loopF (fun v => (st v).run) 0 = some (bif (a.zip b).all (fun x => e x.1 x.2) then .inr () else .inl false) := by
  have hz : (a.zip b).length = a.length := by rw [List.length_zip]; omega
  rw [loopF_any (st := fun v => (st v).run) (a.zip b) (fun x => !e x.1 x.2) (fun i => (i : Int)) (.inl false) (.inr ()) (fun i hi => by
    have h1 : i < a.length := by omega
    rw [h i h1 (by omega), w64_i i (by omega), List.getElem_zip]
    cases e a[i] b[i] <;> rfl) (by rw [hz]; exact h0) (s0 := (0 : Int)) rfl]
  have : (a.zip b).any (fun x => !e x.1 x.2) = !(a.zip b).all (fun x => e x.1 x.2) := by rw [List.all_eq_not_any_not]; simp
  rw [this]
  cases (a.zip b).all (fun x => e x.1 x.2) <;> rfl

/-- Are two lists the same, by this. -/
def sameL {α : Type} (e : α → α → Bool) : List α → List α → Bool
  | [], [] => true
  | x :: a, y :: b => e x y && sameL e a b
  | _, _ => false
theorem sameL_eq {α : Type} (e : α → α → Bool) (a b : List α) : sameL e a b = (decide (a.length = b.length) && (a.zip b).all fun x => e x.1 x.2) := by
  induction a generalizing b with
  | nil => cases b <;> simp [sameL]
  | cons x a ih =>
    cases b with
    | nil => simp [sameL]
    | cons y b =>
      simp only [sameL, ih, List.zip_cons_cons, List.all_cons, List.length_cons]
      cases e x y <;> simp
theorem sameL_refl {α : Type} {e : α → α → Bool} (a : List α) (h : ∀ x ∈ a, e x x = true) : sameL e a a = true := by
  induction a with
  | nil => rfl
  | cons x a ih => simp only [sameL, h x (by simp), ih fun y hy => h y (by simp [hy]), Bool.and_true]

theorem any_congr {α : Type} {l : List α} {p q : α → Bool} (h : ∀ x ∈ l, p x = q x) : l.any p = l.any q := by
  induction l with
  | nil => rfl
  | cons x l ih => simp only [List.any_cons, h x (by simp), ih fun y hy => h y (by simp [hy])]
theorem all_congr {α : Type} {l : List α} {p q : α → Bool} (h : ∀ x ∈ l, p x = q x) : l.all p = l.all q := by
  induction l with
  | nil => rfl
  | cons x l ih => simp only [List.all_cons, h x (by simp), ih fun y hy => h y (by simp [hy])]
theorem filter_congrB {α : Type} {l : List α} {p q : α → Bool} (h : ∀ x ∈ l, p x = q x) : l.filter p = l.filter q := List.filter_congr h

/-- Collected, one by one. -/
theorem filter_loop {α : Type} (l : List α) (p : α → Bool) (st : (Int × List α) → Tree ((Int × List α) ⊕ List α)) (hl : l.length ≤ 1000000)
    (h : ∀ i (c : List α) (hi : i < l.length), c.length ≤ i → (st ((i : Int), c)).run = some (.inl (w64 ((i : Int) + 1), bif p l[i] then c ++ [l[i]] else c))) (h0 : ∀ c, (st ((l.length : Int), c)).run = some (.inr c)) :
    loopF (fun v => (st v).run) (0, []) = some (l.filter p) := by
  rw [loopF_listI (st := fun v => (st v).run) l (fun i c => ((i : Int), c)) (fun _ x c => .inl (bif p x then c ++ [x] else c)) id (fun i c => c.length ≤ i) (fun i c hi hc => by
      rw [h i c hi hc, w64_i i (by omega)]
      refine ⟨rfl, fun c' h => ?_⟩
      injection h with h; subst h
      cases p l[i]
      · show c.length ≤ _; omega
      · simp; omega) (fun c _ => h0 c) [] (Nat.le_refl _) (s0 := ((0 : Int), ([] : List α))) rfl]
  have key : ∀ (l : List α) (i : Nat) (c : List α), foldX (α := List α) (fun _ x c => .inl (bif p x then c ++ [x] else c)) id i l c = c ++ l.filter p := by
    intro l
    induction l with
    | nil => intro i c; simp [foldX]
    | cons x l ih =>
      intro i c
      simp only [foldX]
      rw [ih]
      cases h : p x <;> simp [h]
  rw [key]; rfl

/-- A count. -/
theorem count_loop {α : Type} (l : List α) (p : α → Bool) (st : (Int × Int) → Tree ((Int × Int) ⊕ Int)) (hl : l.length ≤ 1000000)
    (h : ∀ (i n : Nat) (hi : i < l.length), n ≤ i → (st ((n : Int), (i : Int))).run = some (.inl ((bif p l[i] then w64 ((n : Int) + 1) else (n : Int)), w64 ((i : Int) + 1)))) (h0 : ∀ n : Int, (st (n, (l.length : Int))).run = some (.inr n)) :
    loopF (fun v => (st v).run) (0, 0) = some ((l.countP p : Nat) : Int) := by
  rw [loopF_listI (st := fun v => (st v).run) l (fun i (n : Nat) => ((n : Int), (i : Int))) (fun _ x n => .inl (bif p x then n + 1 else n)) (fun n => (n : Int)) (fun i n => n ≤ i) (fun i n hi hc => by
      rw [h i n hi hc, w64_i i (by omega), w64_i n (by omega)]
      refine ⟨by cases p l[i] <;> rfl, fun c' h => ?_⟩
      injection h with h; subst h
      cases p l[i]
      · show n ≤ _; omega
      · show n + 1 ≤ _; omega) (fun c _ => h0 c) 0 (Nat.le_refl _) (s0 := ((0 : Int), (0 : Int))) rfl]
  have key : ∀ (l : List α) (i n : Nat), foldX (α := Int) (fun _ x n => .inl (bif p x then n + 1 else n)) (fun n : Nat => (n : Int)) i l n = ((n + l.countP p : Nat) : Int) := by
    intro l
    induction l with
    | nil => intro i c; simp [foldX]
    | cons x l ih =>
      intro i c
      simp only [foldX]
      rw [ih]
      cases h : p x
      · simp [h]
      · simp [h]; omega
  rw [key]; simp

/-- One behind another: each is good by what was ahead of it. -/
def chain {α γ : Type} (good : γ → α → Bool) (next : γ → α → γ) : γ → List α → Bool
  | _, [] => true
  | c, x :: l => good c x && chain good next (next c x) l
theorem chain_loop {α γ σ β : Type} {st : σ → Option (σ ⊕ β)} (l : List α) (good : γ → α → Bool) (next : γ → α → γ) (S : Nat → γ → σ) (I : Nat → γ → Prop) (bad done : β)
    (h1 : ∀ i c (hi : i < l.length), I i c → st (S i c) = some (bif good c l[i] then .inl (S (i + 1) (next c l[i])) else .inr bad) ∧ (good c l[i] = true → I (i + 1) (next c l[i])))
    (h0 : ∀ c, I l.length c → st (S l.length c) = some (.inr done)) (c0 : γ) (hc : I 0 c0) {s0 : σ} (hs : s0 = S 0 c0) : loopF st s0 = some (bif chain good next c0 l then done else bad) := by
  rw [loopF_listI l S (fun _ x c => bif good c x then .inl (next c x) else .inr bad) (fun _ => done) I (fun i c hi hI => by
    obtain ⟨k1, k2⟩ := h1 i c hi hI
    rw [k1]
    cases hg : good c l[i] with
    | false => exact ⟨rfl, fun c' h => by cases h⟩
    | true => exact ⟨rfl, fun c' h => by injection h with h; subst h; exact k2 hg⟩) h0 c0 hc hs]
  have key : ∀ (l : List α) (i : Nat) (c : γ), foldX (β := α) (fun _ x c => bif good c x then .inl (next c x) else .inr bad) (fun _ => done) i l c = bif chain good next c l then done else bad := by
    intro l
    induction l with
    | nil => intro i c; rfl
    | cons x l ih =>
      intro i c
      simp only [foldX, chain]
      cases good c x with
      | false => rfl
      | true => exact ih (i + 1) _
  rw [key]
theorem chain_congr {α γ δ : Type} {good : γ → α → Bool} {next : γ → α → γ} {good' : δ → α → Bool} {next' : δ → α → δ} (R : γ → δ → Prop) {l : List α} (h : ∀ x ∈ l, ∀ c d, R c d → good c x = good' d x ∧ (good c x = true → R (next c x) (next' d x))) {c : γ} {d : δ} (hr : R c d) : chain good next c l = chain good' next' d l := by
  induction l generalizing c d with
  | nil => rfl
  | cons x l ih =>
    obtain ⟨h1, h2⟩ := h x (by simp) c d hr
    simp only [chain]
    rw [← h1]
    cases hg : good c x with
    | false => rfl
    | true => exact ih (fun y hy => h y (by simp [hy])) (h2 hg)

/-- The middle of two places. -/
theorem mid_nat (i j : Nat) (h : i + j ≤ 4000000000000000000) : w64 (stdShift .shr .u64 (IntKind.wrap .u64 (w64 ((i : Int) + (j : Int)))) 1) = (((i + j) / 2 : Nat) : Int) := by
  have e1 : w64 ((i : Int) + (j : Int)) = ((i + j : Nat) : Int) := by
    show IntKind.i64.wrap _ = _
    rw [IntKind.wrap_i64]; omega
  have e2 : IntKind.wrap .u64 ((i + j : Nat) : Int) = ((i + j : Nat) : Int) := by
    have : IntKind.wrap .u64 ((i + j : Nat) : Int) = ((i + j : Nat) : Int) % 18446744073709551616 := by simp [IntKind.wrap, IntKind.bits, IntKind.signed]
    rw [this]; omega
  rw [e1, e2]
  have e3 : stdShift .shr .u64 ((i + j : Nat) : Int) 1 = (((i + j) / 2 : Nat) : Int) := by
    show (((i + j : Nat) : Int)).fdiv (2 ^ (min (Int.toNat 1) 64)) = _
    show (((i + j : Nat) : Int)).fdiv 2 = _
    rw [Int.fdiv_eq_ediv_of_nonneg _ (by omega)]; omega
  rw [e3]
  show IntKind.i64.wrap _ = _
  rw [IntKind.wrap_i64]; omega

/-- All is taken in, one behind another. -/
theorem fold_loop {α γ σ β : Type} {st : σ → Option (σ ⊕ β)} (l : List α) (f : γ → α → γ) (e : γ → β) (S : Nat → γ → σ) (I : Nat → γ → Prop)
    (h1 : ∀ i c (hi : i < l.length), I i c → st (S i c) = some (.inl (S (i + 1) (f c l[i]))) ∧ I (i + 1) (f c l[i])) (h0 : ∀ c, I l.length c → st (S l.length c) = some (.inr (e c))) (c0 : γ) (hc : I 0 c0) {s0 : σ} (hs : s0 = S 0 c0) :
    loopF st s0 = some (e (l.foldl f c0)) := by
  rw [loopF_listI l S (fun _ x c => .inl (f c x)) e I (fun i c hi hI => by
    obtain ⟨k1, k2⟩ := h1 i c hi hI
    exact ⟨k1, fun c' h => by injection h with h; subst h; exact k2⟩) h0 c0 hc hs]
  have key : ∀ (l : List α) (i : Nat) (c : γ), foldX (β := α) (fun _ x c => .inl (f c x)) e i l c = e (l.foldl f c) := by
    intro l
    induction l with
    | nil => intro i c; rfl
    | cons x l ih => intro i c; exact ih (i + 1) _
  rw [key]

def lenSum {α : Type} (l : List (List α)) : Nat := (l.map List.length).sum
theorem lenSum_flatten {α : Type} (l : List (List α)) : l.flatten.length = lenSum l := by simp [lenSum, List.length_flatten]
theorem lenSum_cons {α : Type} (x : List α) (l : List (List α)) : lenSum (x :: l) = x.length + lenSum l := by simp [lenSum]
theorem lenSum_append {α : Type} (a b : List (List α)) : lenSum (a ++ b) = lenSum a + lenSum b := by unfold lenSum; rw [List.map_append, List.sum_append]
theorem lenSum_take {α : Type} (l : List (List α)) (i : Nat) (hi : i < l.length) : lenSum (l.take (i + 1)) = lenSum (l.take i) + l[i].length := by
  rw [List.take_add_one, List.getElem?_eq_getElem hi, lenSum_append]; rfl
theorem lenSum_le {α : Type} (l : List (List α)) (i : Nat) : lenSum (l.take i) ≤ lenSum l := by
  have := lenSum_append (l.take i) (l.drop i)
  rw [List.take_append_drop] at this
  omega
/-- slices.Concat. -/
theorem concat_tree {α : Type} (l : List (List α)) (st1 : (Int × Int) → Tree ((Int × Int) ⊕ Int)) (g : Int → Tree (List α)) (st2 : (Int × List α) → Tree ((Int × List α) ⊕ List α)) (hl : l.length ≤ 1000000) (hs : lenSum l ≤ 1000000)
    (h1 : ∀ (n i : Nat) (hi : i < l.length), n + l[i].length ≤ 1000000 → (st1 ((n : Int), (i : Int))).run = some (.inl (((n + l[i].length : Nat) : Int), w64 ((i : Int) + 1)))) (h10 : ∀ n : Int, (st1 (n, (l.length : Int))).run = some (.inr n))
    (hg : ∀ n : Nat, n ≤ 1000000 → (g (n : Int)).run = some [])
    (h2 : ∀ (c : List α) (i : Nat) (hi : i < l.length), (c ++ l[i]).length ≤ 1000000 → (st2 ((i : Int), c)).run = some (.inl (w64 ((i : Int) + 1), c ++ l[i]))) (h20 : ∀ c, (st2 ((l.length : Int), c)).run = some (.inr c)) :
    (Tree.bnd (.loop st1 (0, 0)) fun r1 => .bnd (g r1) fun y2 => .bnd (.loop st2 (0, y2)) fun r3 => .ret r3).run = some l.flatten := by
  have e1 : loopF (fun v => (st1 v).run) (0, 0) = some ((lenSum l : Nat) : Int) := by
    rw [fold_loop (st := fun v => (st1 v).run) l (fun (n : Nat) x => n + x.length) (fun n => (n : Int)) (fun i (n : Nat) => ((n : Int), (i : Int))) (fun i n => n = lenSum (l.take i)) (fun i n hi hI => by
      have hle := lenSum_le l (i + 1)
      rw [lenSum_take l i hi] at hle
      refine ⟨?_, ?_⟩
      · rw [h1 n i hi (by omega), w64_i i (by omega)]
      · rw [lenSum_take l i hi, hI]) (fun n _ => h10 n) 0 rfl (s0 := ((0 : Int), (0 : Int))) rfl]
    have key : ∀ (l : List (List α)) (n : Nat), l.foldl (fun (n : Nat) x => n + x.length) n = n + lenSum l := by
      intro l
      induction l with
      | nil => intro n; rfl
      | cons x l ih => intro n; rw [List.foldl_cons, ih, lenSum_cons]; omega
    rw [key]; simp
  have e2 : loopF (fun v => (st2 v).run) (0, []) = some l.flatten := by
    rw [fold_loop (st := fun v => (st2 v).run) l (fun c x => c ++ x) id (fun i (c : List α) => ((i : Int), c)) (fun i c => c.length = lenSum (l.take i)) (fun i c hi hI => by
      have hle := lenSum_le l (i + 1)
      rw [lenSum_take l i hi] at hle
      refine ⟨?_, ?_⟩
      · rw [h2 c i hi (by rw [List.length_append]; omega), w64_i i (by omega)]
      · rw [lenSum_take l i hi, List.length_append, hI]) (fun c _ => h20 c) [] rfl (s0 := ((0 : Int), ([] : List α))) rfl]
    have key : ∀ (l : List (List α)) (c : List α), l.foldl (fun c x => c ++ x) c = c ++ l.flatten := by
      intro l
      induction l with
      | nil => intro c; simp
      | cons x l ih => intro c; rw [List.foldl_cons, ih]; simp
    rw [key]; simp
  simp only [Tree.run, e1, Option.bind_some, hg _ hs, e2]

theorem equal_tree {α : Type} (a b : List α) (e : α → α → Bool) (st : Int → Tree (Int ⊕ (Bool ⊕ Unit))) (ha : a.length ≤ 1000000)
    (h : ∀ i (hi : i < a.length) (hb : i < b.length), (st (i : Int)).run = some (bif e a[i] b[i] then .inl (w64 ((i : Int) + 1)) else .inr (.inl false))) (h0 : a.length = b.length → (st (a.length : Int)).run = some (.inr (.inr ()))) :
    (Tree.ite (!decide ((a.length : Int) = (b.length : Int))) (.ret false) (.bnd (.loop st 0) fun r1 => .sum r1 (fun r2 => .ret r2) fun _ => .ret true)).run = some (sameL e a b) := by
  rw [sameL_eq]
  by_cases hl : a.length = b.length
  · have : decide ((a.length : Int) = (b.length : Int)) = true := by rw [decide_eq_true_eq]; omega
    simp only [Tree.run, this, Bool.not_true, cond_false, equal_loop a b e st ha hl h (h0 hl), decide_eq_true hl, Bool.true_and]
    cases (a.zip b).all fun x => e x.1 x.2 <;> rfl
  · have : decide ((a.length : Int) = (b.length : Int)) = false := by rw [decide_eq_false_iff_not]; omega
    simp only [Tree.run, this, Bool.not_false, cond_true, decide_eq_false hl, Bool.false_and]

end Go.Eng
