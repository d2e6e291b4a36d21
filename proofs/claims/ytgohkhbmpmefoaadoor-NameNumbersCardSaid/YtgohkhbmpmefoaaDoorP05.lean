/- Laws in plain Lean: name5 n05laws. -/
import Derived.Test.YtgohkhbmpmefoaaDoorN05
import Derived.Test.YtgohkhbmpmefoaaDoorTrM
namespace Go.Eng
open Go Go.Proofs Go.RowKit

/-! Names, places, paths: the runs of both sides (strings of few bytes). -/
theorem sgetI_nat (s : Str) (i : Nat) (hi : i < s.length) : sgetI s (i : Int) = (s[i].toNat : Int) := by simp [sgetI, std, List.getD, hi]
theorem byte_eq (x : UInt8) (n : Nat) (hn : n < 256) : decide ((x.toNat : Int) = (n : Int)) = (x == UInt8.ofNat n) := by
  rw [Bool.eq_iff_iff, decide_eq_true_eq, beq_iff_eq]
  constructor
  · intro h
    have h : x.toNat = n := by omega
    rw [← h, UInt8.ofNat_toNat]
  · intro h
    rw [h, UInt8.toNat_ofNat', Nat.mod_eq_of_lt hn]
def isKeyS (s : Str) : Bool := decide (1 ≤ s.length) && decide (s.length ≤ 64)
theorem isKey_run (s : Str) : (name_IsKey_T s).run = some (isKeyS s) := by
  unfold name_IsKey_T isKeyS
  simp only [Tree.run]
  cases s with
  | nil => rfl
  | cons x r =>
    have h1 : ((x :: r) == ([] : Str)) = false := rfl
    rw [h1]
    congr 1
    rw [Bool.eq_iff_iff]
    simp only [List.length_cons, Bool.not_false, Bool.true_and, Bool.and_eq_true, decide_eq_true_eq]
    omega
theorem rIsKey_run (s : Str) : (r05_IsKey_T s).run = some (isKeyS s) := by
  unfold r05_IsKey_T isKeyS
  simp only [Tree.run]
  congr 1
  rw [Bool.eq_iff_iff]
  simp only [Bool.and_eq_true, decide_eq_true_eq]
  omega
def placeS (b k : Str) : Str := (b ++ ([47] : Str)) ++ k
theorem join_run5 (b k : Str) (hb : b.length ≤ 1000000) (hk : k.length ≤ 1000000) : (name_Join_T b k).run = some (placeS b k) := by
  unfold name_Join_T
  refine (run_ask (decide_eq_true ?_)).trans ((run_ask (decide_eq_true ?_)).trans rfl)
  all_goals (simp only [List.length_append, List.length_cons, List.length_nil]; omega)
theorem rJoin_run5 (b k : Str) (hb : b.length ≤ 1000000) (hk : k.length ≤ 1000000) : (r05_Join_T b k).run = some (placeS b k) := by
  unfold r05_Join_T
  refine (run_ask (decide_eq_true ?_)).trans ((run_ask (decide_eq_true ?_)).trans rfl)
  all_goals (simp only [List.length_append, List.length_cons, List.length_nil]; omega)
/-- The parts of a place. -/
def partS (s : Str) : Str × Str × Bool × Unit := bif (cutC 47 s).2.2 && nameS (cutC 47 s).1 && isKeyS (cutC 47 s).2.1 then ((cutC 47 s).1, (cutC 47 s).2.1, true, ()) else ([], [], false, ())
theorem cut_run (c : UInt8) (s : Str) (hs : s.length ≤ 1000000) : (strings_Cut_T s [c]).run = some ((cutC c s).1, (cutC c s).2.1, (cutC c s).2.2, ()) := by
  show (cutT s [c]).run = _
  unfold cutT
  exact (run_ask (decide_eq_true (by omega))).trans rfl
theorem splitP_run (s : Str) (hs : s.length ≤ 1000000) : (name_Split_T s).run = some (partS s) := by
  unfold name_Split_T partS
  refine (run_bnd (cut_run 47 s hs)).trans ?_
  refine (run_grd (nameIs_run _)).trans ?_
  refine (run_grd (isKey_run _)).trans ?_
  simp only [Tree.run]
  cases (cutC 47 s).2.2 <;> cases nameS (cutC 47 s).1 <;> cases isKeyS (cutC 47 s).2.1 <;> rfl
theorem cutC_at {c : UInt8} : ∀ {s : Str} {i : Nat} (hi : i < s.length), s[i] = c → (∀ j (hj : j < i), s[j]'(by omega) ≠ c) → cutC c s = (s.take i, s.drop (i + 1), true)
  | x :: r, 0, _, h, _ => by
    have h : x = c := h
    subst h
    rw [cutC_hit]; rfl
  | x :: r, i + 1, hi, h, hn => by
    have hx : x ≠ c := hn 0 (by omega)
    rw [cutC_miss hx, cutC_at (s := r) (i := i) (by simpa using hi) h (fun j hj => hn (j + 1) (by omega))]
    rfl
theorem cutC_no {c : UInt8} : ∀ {s : Str}, (s.any fun x => x == c) = false → cutC c s = (s, [], false)
  | [], _ => rfl
  | x :: r, h => by
    rw [List.any_cons, Bool.or_eq_false_iff] at h
    rw [cutC_miss (by simpa using h.1), cutC_no h.2]
theorem rSplitP_run (s : Str) (hs : s.length ≤ 1000000) : (r05_Split_T s).run = some (partS s) := by
  have e47 : ∀ x : UInt8, decide ((x.toNat : Int) = 47) = (x == 47) := fun x => byte_eq x 47 (by omega)
  have sub0 : ∀ i : Nat, subS s 0 i = s.take i := fun i => by show (s.drop 0).take (i - 0) = _; rw [List.drop_zero, Nat.sub_zero]
  have sub1 : ∀ i : Nat, subS s i s.length = s.drop i := fun i => by
    show (s.drop i).take (s.length - i) = _
    rw [List.take_of_length_le (by rw [List.length_drop]; exact Nat.le_refl _)]
  let A : Nat → (Str × Str × Bool) ⊕ Unit := fun i => bif nameS (s.take i) && isKeyS (s.drop (i + 1)) then .inl (s.take i, s.drop (i + 1), true) else .inl ([], [], false)
  have h := loopF_find (st := fun v => (r05_Split_L2_step s v).run) s (fun x => x == 47) (fun i => (i : Int)) A (.inr ()) (fun i hi => by
    unfold r05_Split_L2_step
    have hw : w64 ((i : Int) + 1) = ((i + 1 : Nat) : Int) := w64_i i (by omega)
    have t1 : (s.take i).length ≤ 1000000 := by rw [List.length_take]; omega
    simp only [Tree.run, Int.ofNat_lt, hi, decide_true, cond_true, inb_nat, sgetI_nat s i hi, e47, hw, inbe_nat, Int.toNat_natCast, sub0, sub1, r05Is_run _ t1, rIsKey_run, Option.bind_some, Option.isNone_some, Bool.and_false, cond_false, Option.getD_some, show (i ≤ s.length) = True from eq_true (by omega), show (i + 1 ≤ s.length) = True from eq_true (by omega), Bool.or_true]
    show _ = some (bif s[i] == 47 then Sum.inr (bif nameS (s.take i) && isKeyS (s.drop (i + 1)) then (Sum.inl (s.take i, s.drop (i + 1), true) : (Str × Str × Bool) ⊕ Unit) else .inl ([], [], false)) else Sum.inl ((i + 1 : Nat) : Int))
    cases s[i] == 47 <;> cases nameS (s.take i) <;> cases isKeyS (s.drop (i + 1)) <;> rfl) (by unfold r05_Split_L2_step; simp [Tree.run]) (s0 := (0 : Int)) rfl
  unfold r05_Split_T partS
  simp only [Tree.run]
  rcases h with ⟨h, n⟩ | ⟨i, hi, h, n, _, n2⟩
  · rw [h, cutC_no n]; rfl
  · rw [h, cutC_at hi (by simpa using n) (fun j hj => by have := n2 j hj; simpa using this)]
    show Option.bind (some (bif nameS (s.take i) && isKeyS (s.drop (i + 1)) then (Sum.inl (s.take i, s.drop (i + 1), true) : (Str × Str × Bool) ⊕ Unit) else .inl ([], [], false))) _ = _
    rw [Bool.true_and]
    cases nameS (s.take i) <;> cases isKeyS (s.drop (i + 1)) <;> rfl
/-! Paths. -/
def app (p : Str) (l : List Str) : List Str := (p ++ l.headD []) :: l.tail
theorem app_cons (p q : Str) (l : List Str) : app p (q :: l) = (p ++ q) :: l := rfl
theorem splitC_ne (c : UInt8) (s : Str) : splitC c s ≠ [] := by
  cases s with
  | nil => exact fun h => by cases h
  | cons x r =>
    by_cases h : x = c
    · subst h; rw [splitC_hit]; exact fun h => by cases h
    · rw [splitC_miss h]; exact fun h => by cases h
theorem app_nil (c : UInt8) (s : Str) : app [] (splitC c s) = splitC c s := by
  cases h : splitC c s with
  | nil => exact absurd h (splitC_ne c s)
  | cons p l => rfl
theorem app_app (p q : Str) (l : List Str) : app p (app q l) = app (p ++ q) l := by unfold app; simp
theorem splitC_app (c : UInt8) (x s : Str) (h : (x.any fun y => y == c) = false) : splitC c (x ++ s) = app x (splitC c s) := by
  induction x with
  | nil => exact (app_nil c s).symm
  | cons y x ih =>
    rw [List.any_cons, Bool.or_eq_false_iff] at h
    rw [List.cons_append, splitC_miss (by simpa using h.1), ih h.2]
    rfl
def partsS (s : Str) : List Str := bif s == [] then [] else splitC 47 s
theorem split_run (c : UInt8) (s : Str) (hs : s.length ≤ 1000000) : (strings_Split_T s [c]).run = some (splitC c s) := by
  show (splitT s [c]).run = _
  unfold splitT
  exact (run_ask (decide_eq_true (by omega))).trans rfl
theorem parts_run (s : Str) (hs : s.length ≤ 1000000) : (name_Parts_T s).run = some (partsS s) := by
  unfold name_Parts_T partsS
  simp only [Tree.run, split_run 47 s hs, Option.bind_some]
  cases s == [] <;> rfl
theorem parts_loop (s : Str) (hs : s.length ≤ 100000) : ∀ (d i f : Nat) (out : List Str), f ≤ i → i + d = s.length → out.length ≤ i →
    ∃ (g : Nat) (o : List Str), loopF (fun v => (r05_Parts_L6_step s v.1 v.2.1 v.2.2).run) ((f : Int), (i : Int), out) = some ((g : Int), o) ∧ g ≤ s.length ∧ o.length ≤ s.length ∧ o ++ [s.drop g] = out ++ app ((s.drop f).take (i - f)) (splitC 47 (s.drop i)) := by
  have e47 : ∀ x : UInt8, decide ((x.toNat : Int) = 47) = (x == 47) := fun x => byte_eq x 47 (by omega)
  intro d
  induction d with
  | zero =>
    intro i f out hf hi ho
    obtain rfl : i = s.length := hi
    refine ⟨f, out, ?_, hf, ho, ?_⟩
    · rw [loopF_eq]
      unfold r05_Parts_L6_step
      simp only [Tree.run, Int.ofNat_lt, Nat.lt_irrefl, decide_false, cond_false]
      rfl
    · rw [List.drop_length]
      show _ = out ++ [(s.drop f).take (s.length - f) ++ []]
      rw [List.append_nil, List.take_of_length_le (by rw [List.length_drop]; exact Nat.le_refl _)]
  | succ d ih =>
    intro i f out hf hi ho
    have hlt : i < s.length := by omega
    have hw : w64 ((i : Int) + 1) = ((i + 1 : Nat) : Int) := w64_i i (by omega)
    have hsub : subS s f i = (s.drop f).take (i - f) := rfl
    have hroom : decide ((out ++ [(s.drop f).take (i - f)]).length * 16 ≤ roomNat) = true := room_le _ 16 (by simp only [List.length_append, List.length_cons, List.length_nil]; omega) (by omega)
    rw [loopF_eq]
    cases hb : s[i] == 47 with
    | true =>
      have hst : (r05_Parts_L6_step s (f : Int) (i : Int) out).run = some (.inl (((i + 1 : Nat) : Int), ((i + 1 : Nat) : Int), out ++ [(s.drop f).take (i - f)])) := by
        unfold r05_Parts_L6_step
        simp only [Tree.run, Int.ofNat_lt, hlt, decide_true, cond_true, inb_nat, sgetI_nat s i hlt, e47, hb, hw, inbe_nat, Int.toNat_natCast, hsub, hroom, show (i ≤ s.length) = True from eq_true (by omega), show (f ≤ i) = True from eq_true hf]
      rw [hst]
      obtain ⟨g, o, h1, h2, h3, h4⟩ := ih (i + 1) (i + 1) (out ++ [(s.drop f).take (i - f)]) (Nat.le_refl _) (by omega) (by simp only [List.length_append, List.length_cons, List.length_nil]; omega)
      refine ⟨g, o, h1, h2, h3, h4.trans ?_⟩
      have hx : s[i] = 47 := by simpa using hb
      rw [Nat.sub_self, List.take_zero, app_nil, List.drop_eq_getElem_cons hlt, hx, splitC_hit, app_cons, List.append_nil, List.append_assoc]; rfl
    | false =>
      have hst : (r05_Parts_L6_step s (f : Int) (i : Int) out).run = some (.inl ((f : Int), ((i + 1 : Nat) : Int), out)) := by
        unfold r05_Parts_L6_step
        simp only [Tree.run, Int.ofNat_lt, hlt, decide_true, cond_true, inb_nat, sgetI_nat s i hlt, e47, hb, hw, cond_false]
      rw [hst]
      obtain ⟨g, o, h1, h2, h3, h4⟩ := ih (i + 1) f out (by omega) (by omega) (by omega)
      refine ⟨g, o, h1, h2, h3, h4.trans ?_⟩
      have hx : s[i] ≠ 47 := by simpa using hb
      have ht : (s.drop f).take (i + 1 - f) = (s.drop f).take (i - f) ++ [s[i]] := by
        have e : i + 1 - f = (i - f) + 1 := by omega
        have hl : i - f < (s.drop f).length := by rw [List.length_drop]; omega
        rw [e, List.take_add_one, List.getElem?_eq_getElem hl, List.getElem_drop]
        have : f + (i - f) = i := by omega
        simp only [this]
        rfl
      rw [ht, List.drop_eq_getElem_cons hlt, splitC_miss hx]
      show _ = out ++ app _ (app [s[i]] (splitC 47 (s.drop (i + 1))))
      rw [app_app]
theorem rParts_run (s : Str) (hs : s.length ≤ 100000) : (r05_Parts_T s).run = some (partsS s) := by
  unfold r05_Parts_T partsS
  cases he : s == [] with
  | true => rfl
  | false =>
    obtain ⟨g, o, h1, h2, h3, h4⟩ := parts_loop s hs s.length 0 0 [] (Nat.le_refl _) (by omega) (Nat.le_refl _)
    rw [List.drop_zero, Nat.sub_self, List.take_zero, app_nil, List.nil_append] at h4
    have hsub : subS s g s.length = s.drop g := by
      show (s.drop g).take (s.length - g) = _
      rw [List.take_of_length_le (by rw [List.length_drop]; exact Nat.le_refl _)]
    refine (run_bnd (a := ((g : Int), o)) (by simp only [Tree.run]; exact h1)).trans ?_
    refine (run_ask (by rw [inbe_nat]; exact decide_eq_true h2)).trans ?_
    rw [Int.toNat_natCast, hsub, h4]
    refine (run_ask (room_le _ 16 ?_ (by omega))).trans rfl
    rw [← h4]
    simp only [List.length_append, List.length_cons, List.length_nil]; omega
def lenAll (l : List Str) : Nat := (l.map List.length).sum
theorem joinS_len (l : List Str) : (joinS ([47] : Str) l).length ≤ lenAll l + l.length := by
  have key : ∀ r : List Str, ((r.map fun y => ([47] : Str) ++ y).flatten).length = lenAll r + r.length := fun r => by
    unfold lenAll
    induction r with
    | nil => rfl
    | cons y r ih => simp only [List.map_cons, List.flatten_cons, List.length_append, List.length_cons, List.length_nil, List.sum_cons, ih]; omega
  cases l with
  | nil => exact Nat.zero_le _
  | cons x l =>
    show (x ++ _).length ≤ _
    rw [List.length_append, key]
    unfold lenAll
    simp only [List.map_cons, List.sum_cons, List.length_cons]; omega
theorem path_run (l : List Str) (hl : l.length ≤ 1000000) (hs : lenAll l ≤ 1000000) : (name_Path_T l).run = some (joinS ([47] : Str) l) := by
  have hj : (strings_Join_T l ([47] : Str)).run = some (joinS ([47] : Str) l) := by
    show (joinT _ _).run = _
    unfold joinT
    have := joinS_len l
    exact (run_ask (decide_eq_true (by omega))).trans ((run_ask (decide_eq_true (by omega))).trans rfl)
  unfold name_Path_T
  exact (run_bnd hj).trans rfl
theorem okB_slash {x : Str} (h : nameS x = true) : (x.any fun y => y == 47) = false := by
  unfold nameS at h
  simp only [Bool.and_eq_true, List.all_eq_true] at h
  rw [List.any_eq_false]
  intro y hy e
  have e : y = 47 := by simpa using e
  have := h.2 y hy
  rw [e] at this; cases this
theorem nameS_ne {x : Str} (h : nameS x = true) : x ≠ [] := by rintro rfl; cases h
theorem nameS_len {x : Str} (h : nameS x = true) : x.length ≤ 16 := by
  unfold nameS at h
  simp only [Bool.and_eq_true, decide_eq_true_eq] at h
  exact h.1.2
theorem parts_path (l : List Str) (h : ∀ x ∈ l, nameS x = true) : partsS (joinS ([47] : Str) l) = l := by
  cases l with
  | nil => rfl
  | cons x l =>
    have key : ∀ (x : Str) (l : List Str), nameS x = true → (∀ y ∈ l, nameS y = true) → splitC 47 (x ++ (l.map fun y => ([47] : Str) ++ y).flatten) = x :: l := by
      intro x l
      induction l generalizing x with
      | nil =>
        intro hx _
        rw [splitC_app 47 x _ (okB_slash hx)]
        show [x ++ []] = [x]
        rw [List.append_nil]
      | cons y l ih =>
        intro hx hl
        rw [splitC_app 47 x _ (okB_slash hx)]
        show app x (splitC 47 (([47] ++ y) ++ _)) = _
        rw [List.append_assoc]
        show app x (splitC 47 (47 :: (y ++ _))) = _
        rw [splitC_hit, app_cons, List.append_nil, ih y (hl y (by simp)) (fun z hz => hl z (by simp [hz]))]
    have hx := h x (by simp)
    unfold partsS
    have hne : (joinS ([47] : Str) (x :: l) == []) = false := by
      rw [beq_eq_false_iff_ne]
      show x ++ _ ≠ []
      have := nameS_ne hx
      cases x with
      | nil => exact absurd rfl this
      | cons a x => exact fun e => by cases e
    rw [hne, cond_false]
    exact key x l hx fun y hy => h y (by simp [hy])
theorem sameTexts_run (a b : List Str) (ha : a.length ≤ 1000000) (h : a = b) : (r01_SameTexts_T a b).run = some true := by
  subst h
  unfold r01_SameTexts_T
  have hl := same_loop (β := Bool ⊕ Unit) a.length (fun v => r01_SameTexts_L4_step a a v) (.inr ()) (by omega) (fun i hi => by
    unfold r01_SameTexts_L4_step
    simp only [Tree.run, Int.ofNat_lt, hi, decide_true, cond_true, inb_nat, Bool.and_self, beq_self_eq_true, Bool.not_true, cond_false]) (by unfold r01_SameTexts_L4_step; simp [Tree.run])
  simp only [Tree.run, decide_true, Bool.not_true, cond_false]
  rw [hl]; rfl

theorem awake05 : l05_awake_T.run = some true := Tree.runN_run (n := 40) (by kernel_rfl)
theorem num_run5 (s : Str) (h : s.length ≤ 1000000) : (name_Num_T s).run = some ((numS s).1, (numS s).2, ()) := by
  unfold name_Num_T numT
  exact (run_ask (decide_eq_true (by omega))).trans rfl
theorem dec_run5 (n : Int) : (name_Dec_T n).run = some (decS n) := rfl
theorem rPath2_run (s t : Str) (hs : s.length ≤ 1000) (ht : t.length ≤ 1000) : (r05_Path_T [s, t]).run = some (joinS ([47] : Str) [s, t]) := by
  have e : joinS ([47] : Str) [s, t] = (s ++ [47]) ++ t := by unfold joinS; simp
  have w0 : w64 ((0 : Int) + 1) = 1 := by kernel_rfl
  have w1 : w64 ((1 : Int) + 1) = 2 := by kernel_rfl
  have s0 : (r05_Path_L3_step [s, t] [] 0).run = some (.inl (s, 1)) := by
    unfold r05_Path_L3_step
    have q : decide (([] : Str).length + s.length ≤ 9223372036854775807) = true := decide_eq_true (by simp only [List.length_nil]; omega)
    have i0 : inb 0 ([s, t] : List Str).length = true := by kernel_rfl
    have g : ([s, t] : List Str).getD (0 : Int).toNat ([] : Str) = s := rfl
    simp only [Tree.run, show decide ((0 : Int) < (([s, t] : List Str).length : Int)) = true from rfl, show decide ((0 : Int) < 0) = false from rfl, cond_true, cond_false, i0, g, q, w0, List.nil_append]
  have s1 : (r05_Path_L3_step [s, t] s 1).run = some (.inl ((s ++ [47]) ++ t, 2)) := by
    unfold r05_Path_L3_step
    have q : decide (s.length + ([47] : Str).length ≤ 9223372036854775807) = true := decide_eq_true (by simp only [List.length_cons, List.length_nil]; omega)
    have q2 : decide ((s ++ ([47] : Str)).length + t.length ≤ 9223372036854775807) = true := decide_eq_true (by simp only [List.length_append, List.length_cons, List.length_nil]; omega)
    have i0 : inb 1 ([s, t] : List Str).length = true := by kernel_rfl
    have g : ([s, t] : List Str).getD (1 : Int).toNat ([] : Str) = t := rfl
    simp only [Tree.run, show decide ((1 : Int) < (([s, t] : List Str).length : Int)) = true from rfl, show decide ((0 : Int) < 1) = true from rfl, cond_true, i0, g, q, q2, w1]
  have s2 : (r05_Path_L3_step [s, t] ((s ++ [47]) ++ t) 2).run = some (.inr ((s ++ [47]) ++ t)) := by
    unfold r05_Path_L3_step
    simp only [Tree.run, show decide ((2 : Int) < (([s, t] : List Str).length : Int)) = false from rfl, cond_false]
  have hl : loopF (fun v => (r05_Path_L3_step [s, t] v.1 v.2).run) (([] : Str), 0) = some ((s ++ [47]) ++ t) := by
    rw [loopF_eq, s0]
    show loopF _ (s, (1 : Int)) = _
    rw [loopF_eq, s1]
    show loopF _ ((s ++ [47]) ++ t, (2 : Int)) = _
    rw [loopF_eq, s2]; rfl
  unfold r05_Path_T
  rw [e]
  refine (run_bnd (a := (s ++ [47]) ++ t) (by simp only [Tree.run]; exact hl)).trans rfl
theorem partsS_len (s : Str) : (partsS s).length ≤ s.length + 1 := by
  have h : ∀ s, (splitC 47 s).length ≤ s.length + 1 := fun s => by
    induction s with
    | nil => exact Nat.le_refl _
    | cons x r ih =>
      by_cases h : x = 47
      · subst h; rw [splitC_hit]; simp only [List.length_cons]; omega
      · rw [splitC_miss h]; simp only [List.length_cons, List.length_tail]; omega
  unfold partsS
  cases s == []
  · exact h s
  · exact Nat.zero_le _
theorem nameIs_law (x : ElP l05_NameIs_g.ps) (_ : okP l05_NameIs_g.ps x) : (l05_NameIs_g.f x).run = some true := by
  obtain ⟨s, t, _⟩ := x
  show (l05_NameIs_T s t).run = _
  unfold l05_NameIs_T
  by_cases hc : ((decide ((200 : Int) < (s.length : Int))) || (decide ((200 : Int) < (t.length : Int)))) = true
  · exact (run_t hc).trans ((run_bnd awake05).trans rfl)
  · have hc := Bool.not_eq_true _ ▸ hc
    refine (run_f hc).trans ?_
    simp only [Bool.or_eq_false_iff, decide_eq_false_iff_not] at hc
    have hs : s.length ≤ 200 := by omega
    have ht : t.length ≤ 200 := by omega
    have hp := partsS_len s
    refine (run_bnd (splitP_run s (by omega))).trans ?_
    refine (run_bnd (rSplitP_run s (by omega))).trans ?_
    refine (run_bnd (num_run5 s (by omega))).trans ?_
    refine (run_bnd (r05Num_run s)).trans ?_
    refine (run_bnd (nameIs_run s)).trans ?_
    refine (run_bnd (r05Is_run s (by omega))).trans ?_
    refine (run_grd (isKey_run s)).trans ?_
    refine (run_grd (rIsKey_run s)).trans ?_
    refine (run_grd (join_run5 s t (by omega) (by omega))).trans ?_
    refine (run_grd (rJoin_run5 s t (by omega) (by omega))).trans ?_
    refine (run_grd (parts_run s (by omega))).trans ?_
    refine (run_grd (rParts_run s (by omega))).trans ?_
    refine (run_grd (sameTexts_run _ _ (by omega) rfl)).trans ?_
    refine (run_grd (path_run [s, t] (by simp) (by simp only [lenAll, List.map_cons, List.map_nil, List.sum_cons, List.sum_nil]; omega))).trans ?_
    refine (run_grd (rPath2_run s t (by omega) (by omega))).trans ?_
    refine (run_grd (path_run [] (by simp) (by simp [lenAll]))).trans ?_
    refine (run_grd awake05).trans ?_
    have : joinS ([47] : Str) [] = [] := rfl
    simp only [Tree.run, this, decide_true, beq_self_eq_true, Bool.and_true]
theorem lenAll_names : ∀ (l : List Str), (∀ x ∈ l, nameS x = true) → lenAll l ≤ l.length * 16
  | [], _ => Nat.le_refl _
  | x :: l, hn => by
    have h1 := nameS_len (hn x (by simp))
    have h2 := lenAll_names l (fun y hy => hn y (by simp [hy]))
    unfold lenAll at *
    simp only [List.map_cons, List.sum_cons, List.length_cons]; omega
theorem namePlaces_law (x : ElP l05_NamePlaces_g.ps) (_ : okP l05_NamePlaces_g.ps x) : (l05_NamePlaces_g.f x).run = some true := by
  obtain ⟨b, k, l, _⟩ := x
  show (l05_NamePlaces_T b k l).run = _
  unfold l05_NamePlaces_T
  by_cases hc : (((decide ((200 : Int) < (b.length : Int))) || (decide ((200 : Int) < (k.length : Int)))) || (decide ((20 : Int) < (l.length : Int)))) = true
  · exact (run_t hc).trans ((run_bnd awake05).trans rfl)
  · have hc := Bool.not_eq_true _ ▸ hc
    refine (run_f hc).trans ?_
    simp only [Bool.or_eq_false_iff, decide_eq_false_iff_not] at hc
    have hb : b.length ≤ 200 := by omega
    have hk : k.length ≤ 200 := by omega
    have hl : l.length ≤ 20 := by omega
    have hloop := any_loop l (fun x => !nameS x) (fun v => l05_NamePlaces_L4_step b k l v) (Sum.inl true : Bool ⊕ Unit) (.inr ()) (by omega) (fun i hi => by
      unfold l05_NamePlaces_L4_step
      simp only [Tree.run, Int.ofNat_lt, hi, decide_true, cond_true, inb_nat, Int.toNat_natCast, getD_lt _ _ _ hi, nameIs_run, awake05, Option.bind_some]
      cases nameS l[i] <;> rfl) (by unfold l05_NamePlaces_L4_step; simp [Tree.run])
    refine (run_bnd (by simp only [Tree.run]; exact hloop)).trans ?_
    cases ha : l.any fun x => !nameS x with
    | true => rfl
    | false =>
      have hn : ∀ x ∈ l, nameS x = true := fun x hx => by
        have := List.any_eq_false.1 ha x hx
        simpa using this
      have hla : lenAll l ≤ l.length * 16 := lenAll_names l hn
      show (Tree.bnd (name_Join_T b k) _).run = _
      refine (run_bnd (join_run5 b k (by omega) (by omega))).trans ?_
      refine (run_bnd (splitP_run _ (by unfold placeS; simp only [List.length_append, List.length_cons, List.length_nil]; omega))).trans ?_
      refine (run_bnd (nameIs_run b)).trans ?_
      refine (run_grd (isKey_run k)).trans ?_
      refine (run_f ?_).trans ?_
      · cases h1 : nameS b with
        | false => rfl
        | true =>
          cases h2 : isKeyS k with
          | false => rfl
          | true =>
            have hcut : cutC 47 (placeS b k) = (b, k, true) := by
              unfold placeS
              rw [List.append_assoc]
              show cutC 47 (b ++ 47 :: k) = _
              have : ∀ x : Str, (x.any fun y => y == 47) = false → cutC 47 (x ++ 47 :: k) = (x, k, true) := fun x => by
                induction x with
                | nil => intro _; exact cutC_hit 47 k
                | cons y x ih =>
                  intro h
                  rw [List.any_cons, Bool.or_eq_false_iff] at h
                  rw [List.cons_append, cutC_miss (by simpa using h.1), ih h.2]
              exact this b (okB_slash h1)
            unfold partS
            rw [hcut]
            simp only [h1, h2, Bool.and_self, cond_true, beq_self_eq_true, Bool.not_true, Bool.or_self, Bool.and_false]
      · have hp := joinS_len l
        refine (run_bnd (path_run l (by omega) (by omega))).trans ?_
        refine (run_bnd (parts_run _ (by omega))).trans ?_
        rw [parts_path l hn]
        refine (run_bnd (sameTexts_run _ _ (by omega) rfl)).trans ?_
        exact (run_grd awake05).trans rfl
theorem nameNumbers_law (x : ElP l05_NameNumbers_g.ps) (hx : okP l05_NameNumbers_g.ps x) : (l05_NameNumbers_g.f x).run = some true := by
  obtain ⟨n, s, _⟩ := x
  have hn : N64 n := by
    obtain ⟨h, _⟩ := hx
    have h : (Lit.int .i64 n).wf = true := h
    have e1 : IntKind.i64.min = -9223372036854775808 := rfl
    have e2 : IntKind.i64.max = 9223372036854775807 := rfl
    simp only [Lit.wf, e1, e2, Bool.and_eq_true, decide_eq_true_eq] at h
    exact h
  have hd := (decS_len hn).1
  show (l05_NameNumbers_T n s).run = _
  unfold l05_NameNumbers_T
  refine (run_bnd (dec_run5 n)).trans ?_
  refine (run_bnd (num_run5 _ (by omega))).trans ?_
  rw [numS_dec hn]
  refine (run_grd (dec_run5 n)).trans ?_
  refine (run_grd (r05Dec_run n hn)).trans ?_
  simp only [decide_true, Bool.not_true, Bool.or_self, beq_self_eq_true, Bool.false_or]
  by_cases hc : decide ((200 : Int) < (s.length : Int)) = true
  · refine (run_t hc).trans ?_
    refine (run_grd awake05).trans ?_
    rw [hc]; rfl
  · have hc := Bool.not_eq_true _ ▸ hc
    refine (run_f hc).trans ?_
    have hs : s.length ≤ 200 := by have := of_decide_eq_false hc; omega
    refine (run_bnd (num_run5 s (by omega))).trans ?_
    refine (run_grd (dec_run5 _)).trans ?_
    refine (run_grd awake05).trans ?_
    rcases numS_cases s with ⟨k, k1, k2, k3⟩ | ⟨_, k3⟩
    · rw [k3]
      simp only [Tree.run, k2, beq_self_eq_true, Bool.and_true, Bool.true_or]
    · rw [k3]; rfl

end Go.Eng

