/- Contexts: whether they may be, what they know, whether one covers another one: the program's functions and the reference's come to the same plain ones. -/
import Derived.Test.YtedmkgnbgkhloaaM06
import Derived.Test.YtedmkgnbgkhloaaK05
namespace Go.Eng
open Go Go.Proofs

abbrev M53 : Int := 9007199254740992
/-- Contexts that are not great. -/
def SmallC (c : List Seen) : Prop := c.length ≤ 1000 ∧ ∀ x ∈ c, x.1.length ≤ 1000000 ∧ x.2.2.length ≤ 1000

/-! Is a dot known? -/
def hasB (c : List Seen) (d : Dot) : Bool := c.any fun x => (x.1 == d.1) && (((decide ((0 : Int) < d.2)) && (decide (d.2 ≤ x.2.1))) || x.2.2.any fun y => decide (d.2 = y))
theorem has_run (c : List Seen) (d : Dot) (hc : SmallC c) : (dots_Has_T c d).run = some (hasB c d) := by
  unfold dots_Has_T hasB
  simp only [Tree.run]
  rw [slices_ContainsFunc_Seen_dots_Has_1_run c d (fun x => (x.1 == d.1) && (((decide ((0 : Int) < d.2)) && (decide (d.2 ≤ x.2.1))) || x.2.2.any fun y => decide (d.2 = y))) (by have := hc.1; omega) (fun x hx => by
    have := (hc.2 x hx).2
    unfold dots_Has_1_T
    simp only [Tree.run, slices_Contains_int_run x.2.2 d.2 (by omega)]
    simp only [Option.isNone_some, Bool.and_false, cond_false, Option.getD_some])]
  rfl
theorem in_run (l : List Int) (n : Int) (hl : l.length ≤ 1000000) : (r06_in_T l n).run = some (l.any fun y => decide (n = y)) := by
  unfold r06_in_T
  simp only [Tree.run]
  rw [any_loop l (fun y => decide (n = y)) (fun v => r06_in_L2_step l n v) (Sum.inl true : Bool ⊕ Unit) (.inr ()) hl (fun i hi => by
    unfold r06_in_L2_step
    simp only [Tree.run, Int.ofNat_lt, hi, decide_true, cond_true, inb_nat, Int.toNat_natCast, getD_lt _ _ _ hi]
    rw [show decide (l[i] = n) = decide (n = l[i]) from by rw [decide_eq_decide]; exact eq_comm]
    cases decide (n = l[i]) <;> rfl) (by unfold r06_in_L2_step; simp [Tree.run])]
  cases l.any fun y => decide (n = y) <;> rfl
/-! May a context be? -/
def riseG (last n : Int) : Bool := !(decide (n ≤ last) || decide (M53 < n))
def seenB (x : Seen) : Bool := nameS x.1 && decide (0 ≤ x.2.1) && decide (x.2.1 ≤ M53) && !(decide (x.2.1 = 0) && decide (x.2.2.length = 0)) && chain riseG (fun _ n => n) (x.2.1 + 1) x.2.2
def ctxG (c : Int × Option Str) (x : Seen) : Bool := seenB x && (match c.2 with | none => true | some p => ltS p x.1) && decide ((x.2.2.length : Int) ≤ c.1)
def ctxN (c : Int × Option Str) (x : Seen) : Int × Option Str := (c.1 - (x.2.2.length : Int), some x.1)
def ctxB (c : List Seen) : Bool := chain ctxG ctxN (4096, none) c

theorem w64_in {x : Int} (h0 : -9223372036854775808 ≤ x) (h1 : x ≤ 9223372036854775807) : w64 x = x := by
  show IntKind.i64.wrap _ = _
  rw [IntKind.wrap_i64]; omega

theorem isSeen_run (x : Seen) (hx : x.2.2.length ≤ 1000) : (dots_isSeen_T x).run = some (seenB x) := by
  unfold dots_isSeen_T seenB
  simp only [Tree.run, nameIs_run, Option.bind_some]
  cases h1 : nameS x.1
  · simp
  by_cases h2 : x.2.1 < 0
  · have h2' : ¬ (0 ≤ x.2.1) := by omega
    simp [h2, h2']
  by_cases h3 : (9007199254740992 : Int) < x.2.1
  · have h3' : ¬ (x.2.1 ≤ M53) := by unfold M53; omega
    simp [h3, h3']
  have h2' : 0 ≤ x.2.1 := by omega
  have h3' : x.2.1 ≤ M53 := by unfold M53; omega
  have e4 : decide ((x.2.2.length : Int) = 0) = decide (x.2.2.length = 0) := by rw [decide_eq_decide]; omega
  rw [e4]
  cases h4 : (decide (x.2.1 = 0) && decide (x.2.2.length = 0)) with
  | true => simp only [Bool.or_true, cond_true, Bool.not_true, Bool.and_false, Bool.false_and]
  | false =>
    simp only [h2, h3, h2', h3', h4, decide_false, decide_true, Bool.not_true, Bool.or_false, cond_false, Bool.not_false, Bool.and_true, Bool.true_and]
    rw [w64_in (by omega) (by unfold M53 at h3'; omega)]
    rw [chain_loop (st := fun v => (dots_isSeen_L5_step x.2.2 (x.2.2.length : Int) v.1 v.2).run) x.2.2 riseG (fun _ n => n) (fun i (c : Int) => (c, (i : Int))) (fun _ _ => True) (Sum.inl false : Bool ⊕ Unit) (.inr ()) (fun i c hi _ => by
      refine ⟨?_, fun _ => trivial⟩
      unfold dots_isSeen_L5_step riseG
      simp only [Tree.run, Int.ofNat_lt, hi, decide_true, cond_true, inb_nat, Int.toNat_natCast, getD_lt _ _ _ hi, w64_i i (by omega)]
      cases decide (x.2.2[i] ≤ c) || decide (9007199254740992 < x.2.2[i]) <;> rfl) (fun c _ => by unfold dots_isSeen_L5_step; simp [Tree.run]) (x.2.1 + 1) trivial (s0 := ((x.2.1 + 1 : Int), (0 : Int))) rfl]
    cases chain riseG (fun _ n => n) (x.2.1 + 1) x.2.2 <;> rfl

theorem prev_ok (c : List Seen) (hc : c.length ≤ 1000) (i : Nat) (hi : i < c.length) (y : Bool) : ((!((!(!y)) && (decide ((0 : Int) < (i : Int))))) || inb (w64 ((i : Int) - 1)) c.length) = true := by
  cases i with
  | zero => simp
  | succ i =>
    have e1 : w64 (((i + 1 : Nat) : Int) - 1) = (i : Int) := (w64_in (by omega) (by omega)).trans (by omega)
    have hi' : i < c.length := by omega
    rw [e1, inb_nat, decide_eq_true hi', Bool.or_true]
def prevOf (c : List Seen) (i : Nat) : Option Str := if i = 0 then none else (c[i - 1]?).map fun x => x.1
def prevB (p : Option Str) (s : Str) : Bool := match p with | none => true | some p => ltS p s
theorem prev_lt (c : List Seen) (hc : c.length ≤ 1000) (i : Nat) (hi : i < c.length) (s : Str) : ((decide ((0 : Int) < (i : Int))) && (!ltS (c.getD ((w64 ((i : Int) - 1)).toNat) (dfl tSeen : Seen)).1 s)) = !prevB (prevOf c i) s := by
  cases i with
  | zero => rfl
  | succ i =>
    have e1 : w64 (((i + 1 : Nat) : Int) - 1) = (i : Int) := (w64_in (by omega) (by omega)).trans (by omega)
    have hi' : i < c.length := by omega
    have e0 : decide ((0 : Int) < ((i + 1 : Nat) : Int)) = true := by rw [decide_eq_true_eq]; omega
    rw [e1, e0, Int.toNat_natCast, getD_lt _ _ _ hi']
    unfold prevOf
    rw [if_neg (by omega), Nat.add_sub_cancel, List.getElem?_eq_getElem hi']
    rfl
theorem prev_next (c : List Seen) (i : Nat) (hi : i < c.length) : some c[i].1 = prevOf c (i + 1) := by
  unfold prevOf
  rw [if_neg (by omega), Nat.add_sub_cancel, List.getElem?_eq_getElem hi]; rfl

theorem check_run (c : List Seen) (hc : SmallC c) : (dots_Check_T c).run = some (bif ctxB c then 0 else 1) := by
  unfold dots_Check_T ctxB
  simp only [Tree.run]
  rw [chain_loop (st := fun v => (dots_Check_L3_step c c (c.length : Int) v.1 v.2).run) c ctxG ctxN (fun i (g : Int × Option Str) => (g.1, (i : Int))) (fun i g => -1 ≤ g.1 ∧ g.1 ≤ 4096 ∧ g.2 = prevOf c i) (Sum.inl 1 : Int ⊕ Unit) (.inr ()) (fun i g hi hI => by
    obtain ⟨g1, g2⟩ := g
    obtain ⟨hg0, hg, h2⟩ := hI
    simp only at hg0 hg h2
    subst h2
    have hlen := (hc.2 c[i] (List.getElem_mem hi)).2
    have hc1 := hc.1
    constructor
    · unfold dots_Check_L3_step ctxG ctxN
      simp only [Tree.run, Int.ofNat_lt, hi, decide_true, cond_true, inb_nat, Int.toNat_natCast, getD_lt _ _ _ hi, prod_eta, isSeen_run _ hlen, Option.bind_some]
      have e3 : decide (g1 < (c[i].2.2.length : Int)) = !decide ((c[i].2.2.length : Int) ≤ g1) := by
        rw [← decide_not]; congr 1; rw [eq_iff_iff]; omega
      rw [w64_in (x := g1 - (c[i].2.2.length : Int)) (by omega) (by omega), w64_i i (by omega), e3, prev_ok c hc1 i hi, prev_lt c hc1 i hi]
      show _ = some (bif seenB c[i] && prevB (prevOf c i) c[i].1 && _ then _ else _)
      cases seenB c[i] <;> cases prevB (prevOf c i) c[i].1 <;> cases decide ((c[i].2.2.length : Int) ≤ g1) <;> rfl
    · intro hgood
      unfold ctxG at hgood
      simp only [Bool.and_eq_true, decide_eq_true_eq] at hgood
      exact ⟨by show -1 ≤ g1 - _; omega, by show g1 - _ ≤ 4096; omega, prev_next c i hi⟩) (fun g _ => by unfold dots_Check_L3_step; simp [Tree.run]) (4096, none) ⟨by omega, by omega, rfl⟩ (s0 := ((4096 : Int), (0 : Int))) rfl]
  cases chain ctxG ctxN (4096, none) c <;> rfl

theorem mayInner (c : List Seen) (x : Seen) (i n : Int) (hx : x.2.2.length ≤ 1000) (q1 : (0 : Int) ≤ x.2.1) (q2 : x.2.1 ≤ M53) : loopF (fun v => (r06_May_L11_step c n i x v.1 v.2).run) ((w64 (x.2.1 + 1)), 0) = some (bif chain riseG (fun _ n => n) (x.2.1 + 1) x.2.2 then .inr () else .inl false) := by
  rw [w64_in (by omega) (by unfold M53 at q2; omega)]
  refine chain_loop (st := fun v => (r06_May_L11_step c n i x v.1 v.2).run) x.2.2 riseG (fun _ n => n) (fun i (c : Int) => (c, (i : Int))) (fun _ _ => True) (Sum.inl false : Bool ⊕ Unit) (.inr ()) (fun k d hk _ => ?_) (fun d _ => by unfold r06_May_L11_step; simp [Tree.run]) (x.2.1 + 1) trivial rfl
  refine ⟨?_, fun _ => trivial⟩
  unfold r06_May_L11_step riseG
  simp only [Tree.run, Int.ofNat_lt, hk, decide_true, cond_true, inb_nat, Int.toNat_natCast, getD_lt _ _ _ hk, w64_i k (by omega), Bool.or_true]
  cases decide (x.2.2[k] ≤ d) || decide (9007199254740992 < x.2.2[k]) <;> rfl

theorem may_run (c : List Seen) (hc : SmallC c) : (r06_May_T c).run = some (ctxB c) := by
  unfold r06_May_T ctxB
  simp only [Tree.run]
  rw [chain_loop (st := fun v => (r06_May_L3_step c v.1 v.2).run) c ctxG ctxN (fun i (g : Int × Option Str) => (4096 - g.1, (i : Int))) (fun i g => -1 ≤ g.1 ∧ g.1 ≤ 4096 ∧ g.2 = prevOf c i) (Sum.inl false : Bool ⊕ Unit) (.inr ()) (fun i g hi hI => by
    obtain ⟨g1, g2⟩ := g
    obtain ⟨hg0, hg, h2⟩ := hI
    simp only at hg0 hg h2
    subst h2
    have hlen := (hc.2 c[i] (List.getElem_mem hi)).2
    have hc1 := hc.1
    constructor
    · unfold r06_May_L3_step ctxG ctxN
      simp only [Tree.run, Int.ofNat_lt, hi, decide_true, cond_true, inb_nat, Int.toNat_natCast, getD_lt _ _ _ hi, prod_eta, r05Is_run _ (hc.2 c[i] (List.getElem_mem hi)).1, Option.bind_some]
      have e3 : decide (w64 (4096 - (4096 - g1)) < (c[i].2.2.length : Int)) = !decide ((c[i].2.2.length : Int) ≤ g1) := by
        rw [w64_in (by omega) (by omega), ← decide_not]; congr 1; rw [eq_iff_iff]; omega
      have e5 : w64 (4096 - g1 + (c[i].2.2.length : Int)) = 4096 - (g1 - (c[i].2.2.length : Int)) := (w64_in (by omega) (by omega)).trans (by omega)
      have e4 : decide ((c[i].2.2.length : Int) = 0) = decide (c[i].2.2.length = 0) := by rw [decide_eq_decide]; omega
      rw [e5, w64_i i (by omega), e3, e4, prev_ok c hc1 i hi, prev_lt c hc1 i hi]
      show _ = some (bif seenB c[i] && prevB (prevOf c i) c[i].1 && _ then _ else _)
      have inner := mayInner c c[i] (i : Int) (4096 - (g1 - (c[i].2.2.length : Int))) hlen
      unfold seenB
      generalize c[i] = x at *
      generalize prevB (prevOf c i) x.1 = pb
      generalize decide ((x.2.2.length : Int) ≤ g1) = rb
      generalize nameS x.1 = nb
      have f1 : decide (x.2.1 < 0) = !decide ((0 : Int) ≤ x.2.1) := by rw [← decide_not]; congr 1; rw [eq_iff_iff]; omega
      have f2 : decide ((9007199254740992 : Int) < x.2.1) = !decide (x.2.1 ≤ M53) := by rw [← decide_not]; congr 1; rw [eq_iff_iff]; unfold M53; omega
      rw [f1, f2]
      cases hq1 : decide ((0 : Int) ≤ x.2.1)
      · cases nb <;> cases pb <;> rfl
      cases hq2 : decide (x.2.1 ≤ M53)
      · cases nb <;> cases pb <;> rfl
      rw [inner (of_decide_eq_true hq1) (of_decide_eq_true hq2)]
      generalize (decide (x.2.1 = 0) && decide (x.2.2.length = 0)) = zb
      cases chain riseG (fun _ n => n) (x.2.1 + 1) x.2.2 <;> cases nb <;> cases pb <;> cases zb <;> cases rb <;> rfl
    · intro hgood
      unfold ctxG at hgood
      simp only [Bool.and_eq_true, decide_eq_true_eq] at hgood
      exact ⟨by show -1 ≤ g1 - _; omega, by show g1 - _ ≤ 4096; omega, prev_next c i hi⟩) (fun g _ => by unfold r06_May_L3_step; simp [Tree.run]) (4096, none) ⟨by omega, by omega, rfl⟩ (s0 := ((0 : Int), (0 : Int))) rfl]
  cases chain ctxG ctxN (4096, none) c <;> rfl

/-! What is known of a node. -/
def ofB (c : List Seen) (node : Str) : Seen := (c.find? fun x => x.1 == node).getD (node, (0, []))
theorem rOf_run (c : List Seen) (node : Str) (hc : c.length ≤ 1000) : (r06_of_T c node).run = some (ofB c node) := by
  unfold r06_of_T
  simp only [Tree.run]
  have h := loopF_find (st := fun v => (r06_of_L2_step c node ([], (0, [])) v).run) c (fun x => x.1 == node) (fun i => (i : Int)) (fun i => (Sum.inl (c.getD i ([], (0, []))) : Seen ⊕ Unit)) (.inr ()) (fun i hi => by
    unfold r06_of_L2_step
    simp only [Tree.run, Int.ofNat_lt, hi, decide_true, cond_true, inb_nat, Int.toNat_natCast, getD_lt _ _ _ hi, w64_i i (by omega)]
    cases c[i].1 == node <;> rfl) (by unfold r06_of_L2_step; simp [Tree.run]) (s0 := (0 : Int)) rfl
  rcases h with ⟨h, k⟩ | ⟨i, hi, h, k, _, k2⟩
  · rw [h]
    have : c.find? (fun x => x.1 == node) = none := by
      rw [List.find?_eq_none]; intro x hx
      have := List.any_eq_false.1 k x hx; exact this
    unfold ofB; rw [this]; rfl
  · rw [h]
    have : c.find? (fun x => x.1 == node) = some c[i] := by
      rw [List.find?_eq_some_iff_getElem]
      exact ⟨k, i, hi, rfl, fun j hj => by have := k2 j hj; simpa using this⟩
    unfold ofB
    rw [this]
    show some (c.getD i _) = some c[i]
    rw [getD_lt _ _ _ hi]

theorem ltS_irrefl (s : Str) : ltS s s = false := less_irrefl s
/-- Rising by their nodes. -/
theorem ctx_sorted {c : List Seen} (h : ctxB c = true) : ∀ i j (hi : i < j) (hj : j < c.length), ltS (c[i]'(by omega)).1 c[j].1 = true := by
  have key : ∀ (c : List Seen) (g : Int) (p : Option Str), chain ctxG ctxN (g, p) c = true → (∀ x ∈ c, prevB p x.1 = true) ∧ ∀ i j (hi : i < j) (hj : j < c.length), ltS (c[i]'(by omega)).1 c[j].1 = true := by
    intro c
    induction c with
    | nil => intro g p _; exact ⟨fun x hx => absurd hx (by simp), fun i j _ hj => absurd hj (Nat.not_lt_zero _)⟩
    | cons x l ih =>
      intro g p h
      simp only [chain, Bool.and_eq_true] at h
      obtain ⟨h1, h2⟩ := h
      obtain ⟨k1, k2⟩ := ih _ _ h2
      have hp : prevB p x.1 = true := by unfold ctxG at h1; simp only [Bool.and_eq_true] at h1; exact h1.1.2
      constructor
      · intro y hy
        rcases List.mem_cons.1 hy with rfl | hy
        · exact hp
        · have hxy : ltS x.1 y.1 = true := k1 y hy
          cases p with
          | none => rfl
          | some p => exact less_trans hp hxy
      · intro i j hi hj
        cases j with
        | zero => omega
        | succ j =>
          simp only [List.length_cons] at hj
          cases i with
          | zero => exact k1 _ (List.getElem_mem (by omega))
          | succ i => exact k2 i j (by omega) (by omega)
  exact (key c _ _ h).2

theorem place1_run (x : Seen) (node : Str) : (dots_place_1_T x node).run = some (Lib.compareBytes x.1 node) := by
  unfold dots_place_1_T
  simp [strings_Compare_T, bytealg_CompareString_T, cmpstring_T, Tree.run]
theorem cmp_neg (a b : Str) : decide (Lib.compareBytes a b < 0) = ltS a b := by
  show _ = Op.bytesLess a b
  rw [compare_bytes]
  by_cases h : a = b
  · subst h; simp [less_irrefl]
  · rw [if_neg h]; cases hb : Op.bytesLess a b <;> simp
theorem cmp_zero (a b : Str) : decide (Lib.compareBytes a b = 0) = (a == b) := by
  rw [compare_bytes]
  by_cases h : a = b
  · subst h; simp
  · rw [if_neg h]
    have : (a == b) = false := by simp [h]
    rw [this]
    cases Op.bytesLess a b <;> simp

theorem search_run (c : List Seen) (node : Str) (hc : c.length ≤ 1000) (hs : ∀ i j (hi : i < j) (hj : j < c.length), ltS (c[i]'(by omega)).1 c[j].1 = true) :
    ∃ k : Nat, k ≤ c.length ∧ (∀ i (hi : i < c.length), i < k → ltS c[i].1 node = true) ∧ (∀ i (hi : i < c.length), k ≤ i → ltS c[i].1 node = false) ∧
      loopF (fun v => (slices_BinarySearchFunc_string_dots_place_1_L3_step c node (c.length : Int) v.1 v.2).run) (0, (c.length : Int)) = some (k : Int) := by
  have key : ∀ d i j : Nat, j - i ≤ d → i ≤ j → j ≤ c.length → (∀ k (hk : k < c.length), k < i → ltS c[k].1 node = true) → (∀ k (hk : k < c.length), j ≤ k → ltS c[k].1 node = false) →
      ∃ k : Nat, k ≤ c.length ∧ (∀ i (hi : i < c.length), i < k → ltS c[i].1 node = true) ∧ (∀ i (hi : i < c.length), k ≤ i → ltS c[i].1 node = false) ∧
        loopF (fun v => (slices_BinarySearchFunc_string_dots_place_1_L3_step c node (c.length : Int) v.1 v.2).run) ((i : Int), (j : Int)) = some (k : Int) := by
    intro d
    induction d with
    | zero =>
      intro i j hd hij hj h1 h2
      have : i = j := by omega
      subst this
      refine ⟨i, hj, h1, h2, ?_⟩
      rw [loopF_eq]
      unfold slices_BinarySearchFunc_string_dots_place_1_L3_step
      simp [Tree.run, loopStep]
    | succ d ih =>
      intro i j hd hij hj h1 h2
      by_cases he : i = j
      · subst he
        refine ⟨i, hj, h1, h2, ?_⟩
        rw [loopF_eq]
        unfold slices_BinarySearchFunc_string_dots_place_1_L3_step
        simp [Tree.run, loopStep]
      have hlt : i < j := by omega
      have hm : (i + j) / 2 < c.length := by omega
      have hst : (slices_BinarySearchFunc_string_dots_place_1_L3_step c node (c.length : Int) (i : Int) (j : Int)).run = some (.inl (bif ltS (c[(i + j) / 2]).1 node then ((((i + j) / 2 + 1 : Nat) : Int), (j : Int)) else ((i : Int), (((i + j) / 2 : Nat) : Int)))) := by
        unfold slices_BinarySearchFunc_string_dots_place_1_L3_step
        simp only [Tree.run, Int.ofNat_lt, hlt, decide_true, cond_true, mid_nat i j (by omega), inb_nat, hm, Int.toNat_natCast, getD_lt _ _ _ hm, prod_eta, place1_run, Option.bind_some, cmp_neg, w64_i ((i + j) / 2) (by omega), show decide ((0 : Int) ≤ 1) = true from rfl]
        cases ltS (c[(i + j) / 2]).1 node <;> rfl
      rw [loopF_eq, hst]
      cases hb : ltS (c[(i + j) / 2]).1 node with
      | true =>
        refine ih ((i + j) / 2 + 1) j (by omega) (by omega) hj (fun k hk hk2 => ?_) h2
        by_cases e : k = (i + j) / 2
        · subst e; exact hb
        · exact less_trans (hs k ((i + j) / 2) (by omega) hm) hb
      | false =>
        refine ih i ((i + j) / 2) (by omega) (by omega) (by omega) h1 (fun k hk hk2 => ?_)
        by_cases e : k = (i + j) / 2
        · subst e; exact hb
        · cases hb2 : ltS c[k].1 node with
          | false => rfl
          | true => have := less_trans (hs ((i + j) / 2) k (by omega) hk) hb2; rw [show Op.bytesLess _ _ = false from hb] at this; cases this
  exact key c.length 0 c.length (by omega) (by omega) (by omega) (fun k _ hk => absurd hk (Nat.not_lt_zero k)) (fun k hk1 hk2 => by omega)

theorem of_run (c : List Seen) (node : Str) (hc : c.length ≤ 1000) (hs : ∀ i j (hi : i < j) (hj : j < c.length), ltS (c[i]'(by omega)).1 c[j].1 = true) : (dots_of_T c node).run = some (ofB c node) := by
  obtain ⟨k, hk, h1, h2, h3⟩ := search_run c node hc hs
  unfold dots_of_T dots_place_T slices_BinarySearchFunc_string_dots_place_1_T
  simp only [Tree.run, h3, Option.bind_some]
  by_cases hlt : k < c.length
  · have hlt' : decide ((k : Int) < (c.length : Int)) = true := by rw [decide_eq_true_eq]; omega
    simp only [hlt', Bool.not_true, Bool.false_or, inb_nat, hlt, decide_true, cond_true, Int.toNat_natCast, getD_lt _ _ _ hlt, prod_eta, place1_run, Option.isNone_some, Bool.and_false, cond_false, Option.getD_some, cmp_zero, Bool.true_and, Option.bind_some]
    cases he : c[k].1 == node with
    | true =>
      have : c.find? (fun x => x.1 == node) = some c[k] := by
        rw [List.find?_eq_some_iff_getElem]
        refine ⟨he, k, hlt, rfl, fun j hj => ?_⟩
        have := h1 j (by omega) hj
        have hne : c[j].1 ≠ node := fun e => by rw [e, ltS_irrefl] at this; cases this
        simpa using hne
      unfold ofB; rw [this]; rfl
    | false =>
      have : c.find? (fun x => x.1 == node) = none := by
        rw [List.find?_eq_none]
        intro x hx
        obtain ⟨j, hj, rfl⟩ := List.mem_iff_getElem.1 hx
        intro e
        have e : c[j].1 = node := by simpa using e
        by_cases q : j < k
        · have := h1 j hj q; rw [e, ltS_irrefl] at this; cases this
        · by_cases q2 : j = k
          · subst q2; rw [e] at he; simp at he
          · have q3 := hs k j (by omega) hj
            rw [e] at q3
            have q4 := h2 k hlt (Nat.le_refl _)
            rw [show ltS c[k].1 node = true from q3] at q4; cases q4
      unfold ofB; rw [this]; rfl
  · have hlt' : decide ((k : Int) < (c.length : Int)) = false := by rw [decide_eq_false_iff_not]; omega
    simp only [hlt', Bool.not_false, Bool.true_or, cond_true, Bool.false_and, cond_false, Option.bind_some, Bool.not_true]
    have : c.find? (fun x => x.1 == node) = none := by
      rw [List.find?_eq_none]
      intro x hx
      obtain ⟨j, hj, rfl⟩ := List.mem_iff_getElem.1 hx
      intro e
      have e : c[j].1 = node := by simpa using e
      have := h1 j hj (by omega); rw [e, ltS_irrefl] at this; cases this
    unfold ofB; rw [this]; rfl

/-! Does a context cover another one? -/
def knowsB (y : Seen) (n : Int) : Bool := decide (n ≤ y.2.1) || y.2.2.any fun m => decide (n = m)
def coverB (a : List Seen) (x : Seen) : Bool := decide (x.2.1 ≤ (ofB a x.1).2.1) && x.2.2.all (knowsB (ofB a x.1))
def coversB (a b : List Seen) : Bool := ctxB a && ctxB b && b.all (coverB a)
theorem ofB_small {c : List Seen} (hc : SmallC c) (node : Str) : (ofB c node).2.2.length ≤ 1000 := by
  unfold ofB
  cases h : c.find? (fun x => x.1 == node) with
  | none => simp
  | some x => exact (hc.2 x (List.mem_of_find?_eq_some h)).2

theorem all_not {α : Type} (l : List α) (p : α → Bool) : l.all p = !(l.any fun x => !p x) := by rw [List.all_eq_not_any_not]
theorem covers_run (a b : List Seen) (ha : SmallC a) (hb : SmallC b) : (dots_Covers_T a b).run = some (coversB a b) := by
  unfold dots_Covers_T coversB
  simp only [Tree.run, check_run a ha, check_run b hb, Option.bind_some]
  cases h1 : ctxB a
  · simp
  cases h2 : ctxB b
  · simp
  have hs := ctx_sorted h1
  simp only [cond_true, decide_true, Bool.not_true, Bool.not_false, Option.isNone_some, Bool.and_false, Bool.false_or, cond_false, Option.getD_some, Bool.and_self, Bool.true_and]
  rw [any_loop b (fun x => !coverB a x) (fun v => dots_Covers_L4_step a b (b.length : Int) v) (Sum.inl false : Bool ⊕ Unit) (.inr ()) (by have := hb.1; omega) (fun i hi => by
    have hx := hb.2 b[i] (List.getElem_mem hi)
    have ho := ofB_small ha b[i].1
    unfold dots_Covers_L4_step coverB
    simp only [Tree.run, Int.ofNat_lt, hi, decide_true, cond_true, inb_nat, Int.toNat_natCast, getD_lt _ _ _ hi, of_run a _ ha.1 hs, Option.bind_some]
    rw [slices_ContainsFunc_int_dots_Covers_2_run b[i].2.2 (ofB a b[i].1) (fun n => !knowsB (ofB a b[i].1) n) (by omega) (fun n _ => by
      unfold dots_Covers_2_T dots_Covers_1_T knowsB
      simp only [Tree.run, slices_Contains_int_run (ofB a b[i].1).2.2 n (by omega), Option.isNone_some, Bool.and_false, cond_false, Option.getD_some, Option.bind_some])]
    have f1 : decide ((ofB a b[i].1).2.1 < b[i].2.1) = !decide (b[i].2.1 ≤ (ofB a b[i].1).2.1) := by rw [← decide_not]; congr 1; rw [eq_iff_iff]; omega
    rw [f1, all_not b[i].2.2]
    simp only [Option.isNone_some, Bool.and_false, cond_false, Option.getD_some]
    cases decide (b[i].2.1 ≤ (ofB a b[i].1).2.1) <;> cases b[i].2.2.any (fun n => !knowsB (ofB a b[i].1) n) <;> rfl) (by unfold dots_Covers_L4_step; simp [Tree.run])]
  rw [all_not b]
  cases b.any fun x => !coverB a x <;> rfl

theorem rCovers_run (a b : List Seen) (ha : SmallC a) (hb : SmallC b) : (r06_Covers_T a b).run = some (coversB a b) := by
  unfold r06_Covers_T coversB
  simp only [Tree.run, may_run a ha, may_run b hb, Option.bind_some]
  cases h1 : ctxB a
  · simp
  cases h2 : ctxB b
  · simp
  simp only [Bool.not_true, Bool.not_false, Option.isNone_some, Bool.and_false, Bool.false_or, cond_false, Option.getD_some, Bool.and_self, Bool.true_and]
  rw [any_loop b (fun x => !coverB a x) (fun v => r06_Covers_L4_step a b v) (Sum.inl false : Bool ⊕ Unit) (.inr ()) (by have := hb.1; omega) (fun i hi => by
    have hx := hb.2 b[i] (List.getElem_mem hi)
    have ho := ofB_small ha b[i].1
    unfold r06_Covers_L4_step coverB
    simp only [Tree.run, Int.ofNat_lt, hi, decide_true, cond_true, inb_nat, Int.toNat_natCast, getD_lt _ _ _ hi, rOf_run a _ ha.1, Option.bind_some]
    rw [any_loop b[i].2.2 (fun n => !knowsB (ofB a b[i].1) n) (fun v => r06_Covers_L10_step a b (i : Int) (ofB a b[i].1) v) (Sum.inl false : Bool ⊕ Unit) (.inr ()) (by omega) (fun k hk => by
      unfold r06_Covers_L10_step knowsB
      have f1 : decide ((ofB a b[i].1).2.1 < b[i].2.2[k]) = !decide (b[i].2.2[k] ≤ (ofB a b[i].1).2.1) := by rw [← decide_not]; congr 1; rw [eq_iff_iff]; omega
      simp only [Tree.run, Int.ofNat_lt, hk, hi, decide_true, cond_true, inb_nat, Int.toNat_natCast, getD_lt _ _ _ hi, getD_lt _ _ _ hk, Bool.or_true, in_run _ b[i].2.2[k] (by omega : (ofB a b[i].1).2.2.length ≤ 1000000), Option.isNone_some, Bool.and_false, cond_false, Option.getD_some, f1]
      cases decide (b[i].2.2[k] ≤ (ofB a b[i].1).2.1) <;> cases (ofB a b[i].1).2.2.any (fun m => decide (b[i].2.2[k] = m)) <;> rfl) (by unfold r06_Covers_L10_step; simp [Tree.run, inb_nat, hi, getD_lt _ _ _ hi])]
    have f1 : decide ((ofB a b[i].1).2.1 < b[i].2.1) = !decide (b[i].2.1 ≤ (ofB a b[i].1).2.1) := by rw [← decide_not]; congr 1; rw [eq_iff_iff]; omega
    rw [f1, all_not b[i].2.2]
    cases decide (b[i].2.1 ≤ (ofB a b[i].1).2.1) <;> cases b[i].2.2.any (fun n => !knowsB (ofB a b[i].1) n) <;> rfl) (by unfold r06_Covers_L4_step; simp [Tree.run])]
  rw [all_not b]
  cases b.any fun x => !coverB a x <;> rfl

end Go.Eng
