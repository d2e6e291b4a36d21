/- Laws in plain Lean: name5 setl ins. -/
import Derived.Test.YthoojodooacjcaaDoorK10
import Derived.Test.YthoojodooacjcaaDoorTrS
import Derived.Test.YthoojodooacjcaaDoorTrM
namespace Go.Eng
open Go Go.Proofs Go.RowKit

/-! Names, places, paths: the runs of both sides (strings of few bytes). -/
theorem sgetI_nat (s : Str) (i : Nat) (hi : i < s.length) : sgetI s (i : Int) = (s[i].toNat : Int) := by simp [sgetI, std, List.getD, hi]
theorem byte_eq (x : UInt8) (n : Nat) (hn : n < 256) : decide ((x.toNat : Int) = (n : Int)) = (x == UInt8.ofNat n) := by
  rw [Bool.eq_iff_iff, decide_eq_true_eq, beq_iff_eq]
  constructor
  · intro h
    have h : x.toNat = n := by omega
    rw [← h, UInt8.ofNat_toNat]
  · intro h
    rw [h, UInt8.toNat_ofNat', Nat.mod_eq_of_lt hn]
def isKeyS (s : Str) : Bool := decide (1 ≤ s.length) && decide (s.length ≤ 64)
def placeS (b k : Str) : Str := (b ++ ([47] : Str)) ++ k
/-- The parts of a place. -/
def partS (s : Str) : Str × Str × Bool × Unit := bif (cutC 47 s).2.2 && nameS (cutC 47 s).1 && isKeyS (cutC 47 s).2.1 then ((cutC 47 s).1, (cutC 47 s).2.1, true, ()) else ([], [], false, ())
theorem cutC_at {c : UInt8} : ∀ {s : Str} {i : Nat} (hi : i < s.length), s[i] = c → (∀ j (hj : j < i), s[j]'(by omega) ≠ c) → cutC c s = (s.take i, s.drop (i + 1), true)
  | x :: r, 0, _, h, _ => by
    have h : x = c := h
    subst h
    rw [cutC_hit]; rfl
  | x :: r, i + 1, hi, h, hn => by
    have hx : x ≠ c := hn 0 (by omega)
    rw [cutC_miss hx, cutC_at (s := r) (i := i) (by simpa using hi) h (fun j hj => hn (j + 1) (by omega))]
    rfl
theorem cutC_no {c : UInt8} : ∀ {s : Str}, (s.any fun x => x == c) = false → cutC c s = (s, [], false)
  | [], _ => rfl
  | x :: r, h => by
    rw [List.any_cons, Bool.or_eq_false_iff] at h
    rw [cutC_miss (by simpa using h.1), cutC_no h.2]
/-! Paths. -/
def app (p : Str) (l : List Str) : List Str := (p ++ l.headD []) :: l.tail
theorem app_cons (p q : Str) (l : List Str) : app p (q :: l) = (p ++ q) :: l := rfl
theorem splitC_ne (c : UInt8) (s : Str) : splitC c s ≠ [] := by
  cases s with
  | nil => exact fun h => by cases h
  | cons x r =>
    by_cases h : x = c
    · subst h; rw [splitC_hit]; exact fun h => by cases h
    · rw [splitC_miss h]; exact fun h => by cases h
theorem app_nil (c : UInt8) (s : Str) : app [] (splitC c s) = splitC c s := by
  cases h : splitC c s with
  | nil => exact absurd h (splitC_ne c s)
  | cons p l => rfl
theorem app_app (p q : Str) (l : List Str) : app p (app q l) = app (p ++ q) l := by unfold app; simp
theorem splitC_app (c : UInt8) (x s : Str) (h : (x.any fun y => y == c) = false) : splitC c (x ++ s) = app x (splitC c s) := by
  induction x with
  | nil => exact (app_nil c s).symm
  | cons y x ih =>
    rw [List.any_cons, Bool.or_eq_false_iff] at h
    rw [List.cons_append, splitC_miss (by simpa using h.1), ih h.2]
    rfl
def partsS (s : Str) : List Str := bif s == [] then [] else splitC 47 s
theorem split_run (c : UInt8) (s : Str) (hs : s.length ≤ 1000000) : (strings_Split_T s [c]).run = some (splitC c s) := by
  show (splitT s [c]).run = _
  unfold splitT
  exact (run_ask (decide_eq_true (by omega))).trans rfl
theorem parts_run (s : Str) (hs : s.length ≤ 1000000) : (name_Parts_T s).run = some (partsS s) := by
  unfold name_Parts_T partsS
  simp only [Tree.run, split_run 47 s hs, Option.bind_some]
  cases s == [] <;> rfl
theorem parts_loop (s : Str) (hs : s.length ≤ 100000) : ∀ (d i f : Nat) (out : List Str), f ≤ i → i + d = s.length → out.length ≤ i →
    ∃ (g : Nat) (o : List Str), loopF (fun v => (r05_Parts_L6_step s v.1 v.2.1 v.2.2).run) ((f : Int), (i : Int), out) = some ((g : Int), o) ∧ g ≤ s.length ∧ o.length ≤ s.length ∧ o ++ [s.drop g] = out ++ app ((s.drop f).take (i - f)) (splitC 47 (s.drop i)) := by
  have e47 : ∀ x : UInt8, decide ((x.toNat : Int) = 47) = (x == 47) := fun x => byte_eq x 47 (by omega)
  intro d
  induction d with
  | zero =>
    intro i f out hf hi ho
    obtain rfl : i = s.length := hi
    refine ⟨f, out, ?_, hf, ho, ?_⟩
    · rw [loopF_eq]
      unfold r05_Parts_L6_step
      simp only [Tree.run, Int.ofNat_lt, Nat.lt_irrefl, decide_false, cond_false]
      rfl
    · rw [List.drop_length]
      show _ = out ++ [(s.drop f).take (s.length - f) ++ []]
      rw [List.append_nil, List.take_of_length_le (by rw [List.length_drop]; exact Nat.le_refl _)]
  | succ d ih =>
    intro i f out hf hi ho
    have hlt : i < s.length := by omega
    have hw : w64 ((i : Int) + 1) = ((i + 1 : Nat) : Int) := w64_i i (by omega)
    have hsub : subS s f i = (s.drop f).take (i - f) := rfl
    have hroom : decide ((out ++ [(s.drop f).take (i - f)]).length * 16 ≤ roomNat) = true := room_le _ 16 (by simp only [List.length_append, List.length_cons, List.length_nil]; omega) (by omega)
    rw [loopF_eq]
    cases hb : s[i] == 47 with
    | true =>
      have hst : (r05_Parts_L6_step s (f : Int) (i : Int) out).run = some (.inl (((i + 1 : Nat) : Int), ((i + 1 : Nat) : Int), out ++ [(s.drop f).take (i - f)])) := by
        unfold r05_Parts_L6_step
        simp only [Tree.run, Int.ofNat_lt, hlt, decide_true, cond_true, inb_nat, sgetI_nat s i hlt, e47, hb, hw, inbe_nat, Int.toNat_natCast, hsub, hroom, show (i ≤ s.length) = True from eq_true (by omega), show (f ≤ i) = True from eq_true hf]
      rw [hst]
      obtain ⟨g, o, h1, h2, h3, h4⟩ := ih (i + 1) (i + 1) (out ++ [(s.drop f).take (i - f)]) (Nat.le_refl _) (by omega) (by simp only [List.length_append, List.length_cons, List.length_nil]; omega)
      refine ⟨g, o, h1, h2, h3, h4.trans ?_⟩
      have hx : s[i] = 47 := by simpa using hb
      rw [Nat.sub_self, List.take_zero, app_nil, List.drop_eq_getElem_cons hlt, hx, splitC_hit, app_cons, List.append_nil, List.append_assoc]; rfl
    | false =>
      have hst : (r05_Parts_L6_step s (f : Int) (i : Int) out).run = some (.inl ((f : Int), ((i + 1 : Nat) : Int), out)) := by
        unfold r05_Parts_L6_step
        simp only [Tree.run, Int.ofNat_lt, hlt, decide_true, cond_true, inb_nat, sgetI_nat s i hlt, e47, hb, hw, cond_false]
      rw [hst]
      obtain ⟨g, o, h1, h2, h3, h4⟩ := ih (i + 1) f out (by omega) (by omega) (by omega)
      refine ⟨g, o, h1, h2, h3, h4.trans ?_⟩
      have hx : s[i] ≠ 47 := by simpa using hb
      have ht : (s.drop f).take (i + 1 - f) = (s.drop f).take (i - f) ++ [s[i]] := by
        have e : i + 1 - f = (i - f) + 1 := by omega
        have hl : i - f < (s.drop f).length := by rw [List.length_drop]; omega
        rw [e, List.take_add_one, List.getElem?_eq_getElem hl, List.getElem_drop]
        have : f + (i - f) = i := by omega
        simp only [this]
        rfl
      rw [ht, List.drop_eq_getElem_cons hlt, splitC_miss hx]
      show _ = out ++ app _ (app [s[i]] (splitC 47 (s.drop (i + 1))))
      rw [app_app]
theorem rParts_run (s : Str) (hs : s.length ≤ 100000) : (r05_Parts_T s).run = some (partsS s) := by
  unfold r05_Parts_T partsS
  cases he : s == [] with
  | true => rfl
  | false =>
    obtain ⟨g, o, h1, h2, h3, h4⟩ := parts_loop s hs s.length 0 0 [] (Nat.le_refl _) (by omega) (Nat.le_refl _)
    rw [List.drop_zero, Nat.sub_self, List.take_zero, app_nil, List.nil_append] at h4
    have hsub : subS s g s.length = s.drop g := by
      show (s.drop g).take (s.length - g) = _
      rw [List.take_of_length_le (by rw [List.length_drop]; exact Nat.le_refl _)]
    refine (run_bnd (a := ((g : Int), o)) (by simp only [Tree.run]; exact h1)).trans ?_
    refine (run_ask (by rw [inbe_nat]; exact decide_eq_true h2)).trans ?_
    rw [Int.toNat_natCast, hsub, h4]
    refine (run_ask (room_le _ 16 ?_ (by omega))).trans rfl
    rw [← h4]
    simp only [List.length_append, List.length_cons, List.length_nil]; omega
def lenAll (l : List Str) : Nat := (l.map List.length).sum
theorem joinS_len (l : List Str) : (joinS ([47] : Str) l).length ≤ lenAll l + l.length := by
  have key : ∀ r : List Str, ((r.map fun y => ([47] : Str) ++ y).flatten).length = lenAll r + r.length := fun r => by
    unfold lenAll
    induction r with
    | nil => rfl
    | cons y r ih => simp only [List.map_cons, List.flatten_cons, List.length_append, List.length_cons, List.length_nil, List.sum_cons, ih]; omega
  cases l with
  | nil => exact Nat.zero_le _
  | cons x l =>
    show (x ++ _).length ≤ _
    rw [List.length_append, key]
    unfold lenAll
    simp only [List.map_cons, List.sum_cons, List.length_cons]; omega
theorem path_run (l : List Str) (hl : l.length ≤ 1000000) (hs : lenAll l ≤ 1000000) : (name_Path_T l).run = some (joinS ([47] : Str) l) := by
  have hj : (strings_Join_T l ([47] : Str)).run = some (joinS ([47] : Str) l) := by
    show (joinT _ _).run = _
    unfold joinT
    have := joinS_len l
    exact (run_ask (decide_eq_true (by omega))).trans ((run_ask (decide_eq_true (by omega))).trans rfl)
  unfold name_Path_T
  exact (run_bnd hj).trans rfl
theorem okB_slash {x : Str} (h : nameS x = true) : (x.any fun y => y == 47) = false := by
  unfold nameS at h
  simp only [Bool.and_eq_true, List.all_eq_true] at h
  rw [List.any_eq_false]
  intro y hy e
  have e : y = 47 := by simpa using e
  have := h.2 y hy
  rw [e] at this; cases this
theorem nameS_ne {x : Str} (h : nameS x = true) : x ≠ [] := by rintro rfl; cases h
theorem nameS_len {x : Str} (h : nameS x = true) : x.length ≤ 16 := by
  unfold nameS at h
  simp only [Bool.and_eq_true, decide_eq_true_eq] at h
  exact h.1.2
theorem parts_path (l : List Str) (h : ∀ x ∈ l, nameS x = true) : partsS (joinS ([47] : Str) l) = l := by
  cases l with
  | nil => rfl
  | cons x l =>
    have key : ∀ (x : Str) (l : List Str), nameS x = true → (∀ y ∈ l, nameS y = true) → splitC 47 (x ++ (l.map fun y => ([47] : Str) ++ y).flatten) = x :: l := by
      intro x l
      induction l generalizing x with
      | nil =>
        intro hx _
        rw [splitC_app 47 x _ (okB_slash hx)]
        show [x ++ []] = [x]
        rw [List.append_nil]
      | cons y l ih =>
        intro hx hl
        rw [splitC_app 47 x _ (okB_slash hx)]
        show app x (splitC 47 (([47] ++ y) ++ _)) = _
        rw [List.append_assoc]
        show app x (splitC 47 (47 :: (y ++ _))) = _
        rw [splitC_hit, app_cons, List.append_nil, ih y (hl y (by simp)) (fun z hz => hl z (by simp [hz]))]
    have hx := h x (by simp)
    unfold partsS
    have hne : (joinS ([47] : Str) (x :: l) == []) = false := by
      rw [beq_eq_false_iff_ne]
      show x ++ _ ≠ []
      have := nameS_ne hx
      cases x with
      | nil => exact absurd rfl this
      | cons a x => exact fun e => by cases e
    rw [hne, cond_false]
    exact key x l hx fun y hy => h y (by simp [hy])
theorem sameTexts_run (a b : List Str) (ha : a.length ≤ 1000000) (h : a = b) : (r01_SameTexts_T a b).run = some true := by
  subst h
  unfold r01_SameTexts_T
  have hl := same_loop (β := Bool ⊕ Unit) a.length (fun v => r01_SameTexts_L4_step a a v) (.inr ()) (by omega) (fun i hi => by
    unfold r01_SameTexts_L4_step
    simp only [Tree.run, Int.ofNat_lt, hi, decide_true, cond_true, inb_nat, Bool.and_self, beq_self_eq_true, Bool.not_true, cond_false]) (by unfold r01_SameTexts_L4_step; simp [Tree.run])
  simp only [Tree.run, decide_true, Bool.not_true, cond_false]
  rw [hl]; rfl

/-! Orders, and rising lists. -/
structure SO {α : Type} (lt : α → α → Bool) : Prop where
  irr : ∀ a, lt a a = false
  tr : ∀ a b c, lt a b = true → lt b c = true → lt a c = true
  tot : ∀ a b, lt a b = false → lt b a = false → a = b
theorem SO.asym {α : Type} {lt : α → α → Bool} (h : SO lt) {a b : α} (k : lt a b = true) : lt b a = false := by
  cases e : lt b a with
  | false => rfl
  | true => have := h.tr _ _ _ k e; rw [h.irr] at this; cases this
theorem soI : SO (fun a b : Int => decide (a < b)) := ⟨fun a => by simp, fun a b c h k => by simp only [decide_eq_true_eq] at *; omega, fun a b h k => by simp only [decide_eq_false_iff_not] at *; omega⟩
theorem soS : SO ltS := ⟨less_irrefl, fun a b c h k => less_trans h k, fun a b h k => less_total h k⟩
/-- Two rising lists of the same are one. -/
theorem SO.uniq {α : Type} {lt : α → α → Bool} (h : SO lt) {a b : List α} (ha : a.Pairwise fun x y => lt x y = true) (hb : b.Pairwise fun x y => lt x y = true) (hm : ∀ x, x ∈ a ↔ x ∈ b) : a = b := by
  induction a generalizing b with
  | nil =>
    cases b with
    | nil => rfl
    | cons y b => exact absurd ((hm y).2 List.mem_cons_self) List.not_mem_nil
  | cons x a ih =>
    cases b with
    | nil => exact absurd ((hm x).1 List.mem_cons_self) List.not_mem_nil
    | cons y b =>
      obtain ⟨a1, a2⟩ := List.pairwise_cons.1 ha
      obtain ⟨b1, b2⟩ := List.pairwise_cons.1 hb
      have e : x = y := by
        rcases List.mem_cons.1 ((hm x).1 List.mem_cons_self) with e | hx
        · exact e
        rcases List.mem_cons.1 ((hm y).2 List.mem_cons_self) with e | hy
        · exact e.symm
        have h1 := b1 x hx
        have h2 := a1 y hy
        rw [h.asym h1] at h2; cases h2
      subst e
      rw [ih a2 b2 fun z => ⟨fun hz => ?_, fun hz => ?_⟩]
      · rcases List.mem_cons.1 ((hm z).1 (List.mem_cons_of_mem _ hz)) with e | k
        · subst e; have := a1 z hz; rw [h.irr] at this; cases this
        · exact k
      · rcases List.mem_cons.1 ((hm z).2 (List.mem_cons_of_mem _ hz)) with e | k
        · subst e; have := b1 z hz; rw [h.irr] at this; cases this
        · exact k
theorem compFrom_ok {α : Type} {lt eq : α → α → Bool} (h : SO lt) (he : ∀ a b, eq a b = true ↔ a = b) (x : α) (l : List α) (hs : (x :: l).Pairwise fun a b => lt b a = false) :
    (x :: compFrom eq x l).Pairwise (fun a b => lt a b = true) ∧ (∀ z, z ∈ x :: compFrom eq x l ↔ z ∈ x :: l) ∧ (compFrom eq x l).length ≤ l.length := by
  induction l generalizing x with
  | nil => exact ⟨List.pairwise_singleton _ _, fun z => Iff.rfl, Nat.le_refl _⟩
  | cons y l ih =>
    obtain ⟨h1, h2⟩ := List.pairwise_cons.1 hs
    obtain ⟨h3, h4⟩ := List.pairwise_cons.1 h2
    simp only [compFrom]
    cases hq : eq y x with
    | true =>
      have e := (he y x).1 hq
      subst e
      obtain ⟨k1, k2, k3⟩ := ih y (List.pairwise_cons.2 ⟨h3, h4⟩)
      refine ⟨k1, fun z => ?_, by simp; omega⟩
      rw [k2 z]; simp
    | false =>
      obtain ⟨k1, k2, k3⟩ := ih y h2
      have hxy : lt x y = true := by
        cases hb : lt x y with
        | true => rfl
        | false =>
          have e := h.tot x y hb (h1 y List.mem_cons_self)
          subst e
          rw [(he x x).2 rfl] at hq; cases hq
      refine ⟨List.pairwise_cons.2 ⟨fun z hz => ?_, k1⟩, fun z => ?_, by simp; omega⟩
      · rcases List.mem_cons.1 hz with e | hz
        · subst e; exact hxy
        · exact h.tr _ _ _ hxy ((List.pairwise_cons.1 k1).1 z hz)
      · rw [List.mem_cons, k2 z, List.mem_cons (b := x)]
theorem compL_ok {α : Type} {lt eq : α → α → Bool} (h : SO lt) (he : ∀ a b, eq a b = true ↔ a = b) (l : List α) (hs : l.Pairwise fun a b => lt b a = false) :
    (compL eq l).Pairwise (fun a b => lt a b = true) ∧ (∀ z, z ∈ compL eq l ↔ z ∈ l) ∧ (compL eq l).length ≤ l.length := by
  cases l with
  | nil => exact ⟨List.Pairwise.nil, fun z => Iff.rfl, Nat.le_refl _⟩
  | cons x l =>
    obtain ⟨k1, k2, k3⟩ := compFrom_ok h he x l hs
    exact ⟨k1, k2, by simp [compL]; omega⟩
def setI (l : List Int) : List Int := compL eqI (sortI l)
def setS (l : List Str) : List Str := compL eqS (sortS l)
theorem setI_ok (l : List Int) : (setI l).Pairwise (fun a b => decide (a < b) = true) ∧ (∀ z, z ∈ setI l ↔ z ∈ l) ∧ (setI l).length ≤ l.length := by
  have hs := isortB_sorted (le := leI) (fun a b c h k => by unfold leI at *; simp only [decide_eq_true_eq] at *; omega) (fun a b h => by unfold leI at *; simp only [decide_eq_true_eq, decide_eq_false_iff_not] at *; omega) l
  obtain ⟨k1, k2, k3⟩ := compL_ok soI (eq := eqI) (fun a b => by unfold eqI; simp) (sortI l) (hs.imp fun {a b} h => by unfold leI at h; simp only [decide_eq_true_eq, decide_eq_false_iff_not] at *; omega)
  exact ⟨k1, fun z => (k2 z).trans (isortB_perm _ l).mem_iff, by rw [(isortB_perm leI l).length_eq] at k3; exact k3⟩
theorem setS_ok (l : List Str) : (setS l).Pairwise (fun a b => ltS a b = true) ∧ (∀ z, z ∈ setS l ↔ z ∈ l) ∧ (setS l).length ≤ l.length := by
  have hs := isortB_sorted (le := leS) leS_trans leS_total l
  obtain ⟨k1, k2, k3⟩ := compL_ok soS (eq := eqS) (fun a b => by unfold eqS; simp) (sortS l) (hs.imp fun {a b} h => by unfold leS at h; simpa using h)
  exact ⟨k1, fun z => (k2 z).trans (isortB_perm _ l).mem_iff, by rw [(isortB_perm leS l).length_eq] at k3; exact k3⟩
/-- One more, in its place, once. -/
def insL {α : Type} (lt : α → α → Bool) (x : α) : List α → List α
  | [] => [x]
  | y :: l => match lt y x with | true => y :: insL lt x l | false => match lt x y with | true => x :: y :: l | false => y :: l
theorem insL_ok {α : Type} {lt : α → α → Bool} (h : SO lt) (x : α) {l : List α} (hs : l.Pairwise fun a b => lt a b = true) :
    (insL lt x l).Pairwise (fun a b => lt a b = true) ∧ (∀ z, z ∈ insL lt x l ↔ z = x ∨ z ∈ l) ∧ (insL lt x l).length ≤ l.length + 1 := by
  induction l with
  | nil => exact ⟨List.pairwise_singleton _ _, fun z => by simp [insL], by simp [insL]⟩
  | cons y l ih =>
    obtain ⟨h1, h2⟩ := List.pairwise_cons.1 hs
    obtain ⟨k1, k2, k3⟩ := ih h2
    simp only [insL]
    cases hb : lt y x with
    | true =>
      refine ⟨List.pairwise_cons.2 ⟨fun z hz => ?_, k1⟩, fun z => ?_, by simp; omega⟩
      · rcases (k2 z).1 hz with rfl | hz
        · exact hb
        · exact h1 z hz
      · rw [List.mem_cons, k2 z, List.mem_cons]
        constructor
        · rintro (h | h | h)
          · exact .inr (.inl h)
          · exact .inl h
          · exact .inr (.inr h)
        · rintro (h | h | h)
          · exact .inr (.inl h)
          · exact .inl h
          · exact .inr (.inr h)
    | false =>
      cases hc : lt x y with
      | true =>
        refine ⟨List.pairwise_cons.2 ⟨fun z hz => ?_, hs⟩, fun z => by simp, by simp⟩
        rcases List.mem_cons.1 hz with rfl | hz
        · exact hc
        · exact h.tr _ _ _ hc (h1 z hz)
      | false =>
        have e := h.tot x y hc hb
        subst e
        exact ⟨hs, fun z => by simp, by simp⟩
def insAll {α : Type} (lt : α → α → Bool) (acc l : List α) : List α := l.foldl (fun acc x => insL lt x acc) acc
theorem insAll_ok {α : Type} {lt : α → α → Bool} (h : SO lt) (l : List α) {acc : List α} (hs : acc.Pairwise fun a b => lt a b = true) :
    (insAll lt acc l).Pairwise (fun a b => lt a b = true) ∧ (∀ z, z ∈ insAll lt acc l ↔ z ∈ acc ∨ z ∈ l) ∧ (insAll lt acc l).length ≤ acc.length + l.length := by
  induction l generalizing acc with
  | nil => exact ⟨hs, fun z => by simp [insAll], by simp [insAll]⟩
  | cons x l ih =>
    obtain ⟨k1, k2, k3⟩ := insL_ok h x hs
    obtain ⟨j1, j2, j3⟩ := ih k1
    refine ⟨j1, fun z => ?_, ?_⟩
    · show z ∈ insAll lt (insL lt x acc) l ↔ _
      rw [j2 z, k2 z, List.mem_cons]
      constructor
      · rintro ((h | h) | h)
        · exact .inr (.inl h)
        · exact .inl h
        · exact .inr (.inr h)
      · rintro (h | h | h)
        · exact .inl (.inr h)
        · exact .inl (.inl h)
        · exact .inr h
    · show (insAll lt (insL lt x acc) l).length ≤ _
      simp only [List.length_cons]; omega
theorem insAll_setI (l : List Int) : insAll (fun a b => decide (a < b)) [] l = setI l := by
  obtain ⟨k1, k2, _⟩ := insAll_ok soI l (acc := []) List.Pairwise.nil
  obtain ⟨j1, j2, _⟩ := setI_ok l
  exact soI.uniq k1 j1 fun z => by rw [k2, j2]; simp
theorem insAll_setS (l : List Str) : insAll ltS [] l = setS l := by
  obtain ⟨k1, k2, _⟩ := insAll_ok soS l (acc := []) List.Pairwise.nil
  obtain ⟨j1, j2, _⟩ := setS_ok l
  exact soS.uniq k1 j1 fun z => by rw [k2, j2]; simp

/-! Loops, once more. -/
theorem loopF_mu {σ α : Type} {st : σ → Option (σ ⊕ α)} (I : σ → Prop) (mu : σ → Nat) (Q : α → Prop) (h : ∀ s, I s → (∃ s', st s = some (.inl s') ∧ I s' ∧ mu s' < mu s) ∨ ∃ a, st s = some (.inr a) ∧ Q a) {s0 : σ} (h0 : I s0) : ∃ a, loopF st s0 = some a ∧ Q a := by
  have key : ∀ n s, mu s ≤ n → I s → ∃ a, loopF st s = some a ∧ Q a := by
    intro n
    induction n with
    | zero =>
      intro s hn hs
      rcases h s hs with ⟨s', _, _, h3⟩ | ⟨a, h1, h2⟩
      · omega
      · exact ⟨a, by rw [loopF_eq, h1]; rfl, h2⟩
    | succ n ih =>
      intro s hn hs
      rcases h s hs with ⟨s', h1, h2, h3⟩ | ⟨a, h1, h2⟩
      · obtain ⟨a, k1, k2⟩ := ih s' (by omega) h2
        exact ⟨a, by rw [loopF_eq, h1]; exact k1, k2⟩
      · exact ⟨a, by rw [loopF_eq, h1]; rfl, h2⟩
  exact key _ s0 (Nat.le_refl _) h0
theorem imax_eq (a b : Int) : std.imax a b = max a b := by
  show (if b > a then b else a) = _
  split <;> omega
/-- The place of the first one that is not less. -/
def geI {α : Type} (lt : α → α → Bool) (x : α) : List α → Nat
  | [] => 0
  | y :: l => match lt y x with | true => geI lt x l + 1 | false => 0
theorem geI_le {α : Type} (lt : α → α → Bool) (x : α) (l : List α) : geI lt x l ≤ l.length := by
  induction l with
  | nil => exact Nat.le_refl _
  | cons y l ih => simp only [geI]; cases lt y x <;> simp; omega
theorem geI_lt {α : Type} (lt : α → α → Bool) (x : α) (l : List α) (i : Nat) (hi : i < geI lt x l) (hl : i < l.length) : lt l[i] x = true := by
  induction l generalizing i with
  | nil => exact absurd hl (Nat.not_lt_zero _)
  | cons y l ih =>
    simp only [geI] at hi
    cases hy : lt y x with
    | false => rw [hy] at hi; exact absurd hi (Nat.not_lt_zero _)
    | true =>
      rw [hy] at hi
      cases i with
      | zero => exact hy
      | succ i => exact ih i (by have hi : i + 1 < geI lt x l + 1 := hi; omega) (by simpa using hl)
theorem geI_at {α : Type} (lt : α → α → Bool) (x : α) (l : List α) (hl : geI lt x l < l.length) : lt l[geI lt x l] x = false := by
  induction l with
  | nil => exact absurd hl (Nat.not_lt_zero _)
  | cons y l ih =>
    cases hy : lt y x with
    | false =>
      have e : geI lt x (y :: l) = 0 := by simp only [geI, hy]
      simp only [e, List.getElem_cons_zero, hy]
    | true =>
      have e : geI lt x (y :: l) = geI lt x l + 1 := by simp only [geI, hy]
      simp only [e, List.getElem_cons_succ]
      exact ih (by rw [e] at hl; simpa using hl)
theorem ge_loop {α : Type} (lt : α → α → Bool) (x : α) (l : List α) (st : Int → Tree (Int ⊕ Int)) (hl : l.length ≤ 1000000)
    (h : ∀ i (hi : i < l.length), (st (i : Int)).run = some (bif lt l[i] x then .inl (w64 ((i : Int) + 1)) else .inr (i : Int))) (h0 : (st (l.length : Int)).run = some (.inr (l.length : Int))) :
    loopF (fun v => (st v).run) 0 = some ((geI lt x l : Nat) : Int) := by
  have hle := geI_le lt x l
  refine loopF_run (S := fun i => (i : Int)) (n := geI lt x l) (fun i hi => ?_) ?_ rfl
  · rw [h i (by omega), geI_lt lt x l i hi (by omega), w64_i i (by omega)]; rfl
  · by_cases hlt : geI lt x l < l.length
    · rw [h _ hlt, geI_at lt x l hlt]; rfl
    · have : geI lt x l = l.length := by omega
      rw [this]; exact h0
theorem insL_ge {α : Type} {lt : α → α → Bool} (x : α) (l : List α) : insL lt x l = if h : geI lt x l < l.length then (if lt x l[geI lt x l] = true then l.take (geI lt x l) ++ x :: l.drop (geI lt x l) else l) else l ++ [x] := by
  induction l with
  | nil => rfl
  | cons y l ih =>
    simp only [insL]
    cases hy : lt y x with
    | false =>
      have e : geI lt x (y :: l) = 0 := by simp only [geI, hy]
      simp only [e, List.length_cons, Nat.zero_lt_succ, dite_true, List.getElem_cons_zero, List.take_zero, List.drop_zero, List.nil_append]
      cases lt x y <;> rfl
    | true =>
      have e : geI lt x (y :: l) = geI lt x l + 1 := by simp only [geI, hy]
      simp only [e, List.length_cons, Nat.add_lt_add_iff_right, List.getElem_cons_succ, List.take_succ_cons, List.drop_succ_cons, List.cons_append]
      rw [ih]
      split
      · split <;> rfl
      · rfl
theorem sameL_dec {α : Type} [DecidableEq α] {e : α → α → Bool} (a b : List α) (h : ∀ x ∈ a, ∀ y, e x y = decide (x = y)) : sameL e a b = decide (a = b) := by
  induction a generalizing b with
  | nil => cases b <;> simp [sameL]
  | cons x a ih =>
    cases b with
    | nil => simp [sameL]
    | cons y b =>
      simp only [sameL, h x List.mem_cons_self, ih b fun z hz => h z (List.mem_cons_of_mem _ hz)]
      by_cases h1 : x = y <;> by_cases h2 : a = b <;> simp [h1, h2]


end Go.Eng

