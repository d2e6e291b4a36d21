/- Laws in plain Lean: a40 b40 c40. -/
import Derived.Test.YteoafkipoapjlaaGreatDoorW24
import Derived.Test.YteoafkipoapjlaaGreatDoorK06
namespace Go.Eng
open Go Go.Proofs Go.RowKit

/-! Who may do what. -/
def aclS : Str := [97, 99, 108]
def allS : Str := [97, 108, 108]
def keyA (t b u : Str) : Str := (((((([97, 99, 108, 47] : Str) ++ t) ++ [47]) ++ b) ++ [47]) ++ u)
theorem keyA_join (t b u : Str) : joinS ([47] : Str) [aclS, t, b, u] = keyA t b u := by unfold joinS keyA aclS; simp
theorem keyA_run (t b u : Str) (ht : t.length ≤ 100000) (hb : b.length ≤ 100000) (hu : u.length ≤ 100000) : (access_Key_T t b u).run = some (keyA t b u) := by
  unfold access_Key_T
  refine (run_bnd (path_run [aclS, t, b, u] (by show 4 ≤ 1000000; omega) (by simp only [lenAll, List.map_cons, List.map_nil, List.sum_cons, List.sum_nil]; unfold aclS; simp only [List.length_cons, List.length_nil]; omega))).trans ?_
  rw [keyA_join]; rfl
theorem rKeyA_run (t b u : Str) (ht : t.length ≤ 100000) (hb : b.length ≤ 100000) (hu : u.length ≤ 100000) : (r22_Key_T t b u).run = some (keyA t b u) := by
  unfold r22_Key_T
  refine (run_ask (decide_eq_true (by simp only [List.length_append, List.length_cons, List.length_nil]; omega))).trans ?_
  refine (run_ask (decide_eq_true (by simp only [List.length_append, List.length_cons, List.length_nil]; omega))).trans ?_
  refine (run_ask (decide_eq_true (by simp only [List.length_append, List.length_cons, List.length_nil]; omega))).trans ?_
  refine (run_ask (decide_eq_true (by simp only [List.length_append, List.length_cons, List.length_nil]; omega))).trans ?_
  refine (run_ask (decide_eq_true (by simp only [List.length_append, List.length_cons, List.length_nil]; omega))).trans ?_
  rfl
def txA : Nat → Str
  | 0 => []
  | 1 => [114]
  | 2 => [119]
  | 3 => [114, 119]
  | 4 => [108]
  | 5 => [114, 108]
  | 6 => [119, 108]
  | 7 => [114, 119, 108]
  | _ => []
theorem txA_run {n : Nat} (h : n < 8) : (access_Text_T (n : Int)).run = some (txA n) := by
  match n, h with
  | 0, _ => exact Tree.runN_run (n := 10) (by kernel_rfl)
  | 1, _ => exact Tree.runN_run (n := 10) (by kernel_rfl)
  | 2, _ => exact Tree.runN_run (n := 10) (by kernel_rfl)
  | 3, _ => exact Tree.runN_run (n := 10) (by kernel_rfl)
  | 4, _ => exact Tree.runN_run (n := 10) (by kernel_rfl)
  | 5, _ => exact Tree.runN_run (n := 10) (by kernel_rfl)
  | 6, _ => exact Tree.runN_run (n := 10) (by kernel_rfl)
  | 7, _ => exact Tree.runN_run (n := 10) (by kernel_rfl)
theorem rtxA_run {n : Nat} (h : n < 8) : (r22_Text_T (n : Int)).run = some (txA n) := by
  match n, h with
  | 0, _ => exact Tree.runN_run (n := 10) (by kernel_rfl)
  | 1, _ => exact Tree.runN_run (n := 10) (by kernel_rfl)
  | 2, _ => exact Tree.runN_run (n := 10) (by kernel_rfl)
  | 3, _ => exact Tree.runN_run (n := 10) (by kernel_rfl)
  | 4, _ => exact Tree.runN_run (n := 10) (by kernel_rfl)
  | 5, _ => exact Tree.runN_run (n := 10) (by kernel_rfl)
  | 6, _ => exact Tree.runN_run (n := 10) (by kernel_rfl)
  | 7, _ => exact Tree.runN_run (n := 10) (by kernel_rfl)
/-- The rights of letters, from n on. -/
def rgtO (s : Str) : Nat → Nat → (Int × Bool) ⊕ Unit
  | 0, _ => .inr ()
  | d + 1, n => bif txA n == s then .inl ((n : Int), true) else rgtO s d (n + 1)
theorem rgt_loop (s : Str) (T : Int → Tree Str) (st : Int → Tree (Int ⊕ ((Int × Bool) ⊕ Unit))) (hT : ∀ n : Nat, n < 8 → (T (n : Int)).run = some (txA n))
    (hst : ∀ v, st v = .ite (decide (v < 8)) (.bnd (T v) fun y => .ite (y == s) (.ret (.inr (.inl (v, true)))) (.ret (.inl (w64 (v + 1))))) (.ret (.inr (.inr ())))) :
    ∀ d n : Nat, n + d = 8 → loopF (fun v => (st v).run) (n : Int) = some (rgtO s d n) := by
  intro d
  induction d with
  | zero =>
    intro n hn
    have : n = 8 := hn
    subst this
    rw [loopF_eq, hst]
    rfl
  | succ d ih =>
    intro n hn
    rw [loopF_eq, hst, run_t (decide_eq_true (by omega)), run_bnd (hT n (by omega))]
    unfold rgtO
    cases txA n == s with
    | true => rfl
    | false =>
      show loopF _ (w64 ((n : Int) + 1)) = _
      rw [w64_nat n (by omega)]
      exact ih (n + 1) (by omega)
def rgtS (s : Str) : Int × Bool × Unit := match rgtO s 8 0 with | .inl r => (r.1, r.2, ()) | .inr _ => (0, false, ())
theorem rgt_run (s : Str) : (access_Rights_T s).run = some (rgtS s) := by
  unfold access_Rights_T rgtS
  refine (run_bnd (loop_run (rgt_loop s access_Text_T (fun v => access_Rights_L2_step s v) (fun n h => txA_run h) (fun v => rfl) 8 0 rfl))).trans ?_
  cases rgtO s 8 0 <;> rfl
theorem rrgt_run (s : Str) : (r22_Rights_T s).run = some (rgtS s) := by
  unfold r22_Rights_T rgtS
  refine (run_bnd (loop_run (rgt_loop s r22_Text_T (fun v => r22_Rights_L2_step s v) (fun n h => rtxA_run h) (fun v => rfl) 8 0 rfl))).trans ?_
  cases rgtO s 8 0 <;> rfl
theorem rgtO_in (s : Str) : ∀ d n : Nat, n + d = 8 → match rgtO s d n with | .inl r => ∃ k : Nat, k < 8 ∧ r.1 = (k : Int) | .inr _ => True := by
  intro d
  induction d with
  | zero => intro n _; trivial
  | succ d ih =>
    intro n hn
    unfold rgtO
    cases txA n == s with
    | true => exact ⟨n, by omega, rfl⟩
    | false => exact ih (n + 1) (by omega)
theorem rgtS_in (s : Str) : ∃ k : Nat, k < 8 ∧ (rgtS s).1 = (k : Int) := by
  have := rgtO_in s 8 0 rfl
  unfold rgtS
  split at this
  · exact this
  · exact ⟨0, by omega, rfl⟩
def valA (l : List Entry) (t b u : Str) : Str := (getR l (keyA t b u)).2.2
def ofA (l : List Entry) (t b u : Str) : Int := stdArith .or .i64 (rgtS (valA l t b u)).1 (rgtS (valA l t b allS)).1
theorem or_zeroI {k : Nat} (h : k < 8) : stdArith .or .i64 0 (k : Int) = (k : Int) := by
  have key : ∀ k : Fin 8, stdArith .or .i64 0 (k.1 : Int) = (k.1 : Int) := by decide
  exact key ⟨k, h⟩
theorem accOf_run (l : List Entry) (t b u : Str) (hl : l.length ≤ 1000000) (ht : t.length ≤ 100000) (hb : b.length ≤ 100000) (hu : u.length ≤ 100000) : (access_Of_T l t b u).run = some (ofA l t b u) := by
  obtain ⟨k, hk, ek⟩ := rgtS_in (valA l t b u)
  have s0 : (access_Of_L3_step l t b (u, allS) 0 0).run = some (.inl ((rgtS (valA l t b u)).1, 1)) := by
    unfold access_Of_L3_step
    refine (run_t rfl).trans ?_
    refine (run_t rfl).trans ?_
    refine (run_ask rfl).trans ?_
    refine (run_bnd (keyA_run t b u ht hb hu)).trans ?_
    refine (run_bnd (get_run l _ hl)).trans ?_
    refine (run_bnd (rgt_run _)).trans ?_
    show some (Sum.inl (stdArith .or .i64 0 (rgtS (valA l t b u)).1, w64 ((0 : Int) + 1))) = _
    rw [ek, or_zeroI hk]; rfl
  have s1 : (access_Of_L3_step l t b (u, allS) (rgtS (valA l t b u)).1 1).run = some (.inl (ofA l t b u, 2)) := by
    unfold access_Of_L3_step
    refine (run_t rfl).trans ?_
    refine (run_f rfl).trans ?_
    refine (run_t rfl).trans ?_
    refine (run_ask rfl).trans ?_
    refine (run_bnd (keyA_run t b allS ht hb (by decide))).trans ?_
    refine (run_bnd (get_run l _ hl)).trans ?_
    exact (run_bnd (rgt_run _)).trans rfl
  have s2 : (access_Of_L3_step l t b (u, allS) (ofA l t b u) 2).run = some (.inr (ofA l t b u)) := by
    unfold access_Of_L3_step
    exact run_f rfl
  unfold access_Of_T
  refine (run_bnd (loop_run (a := ofA l t b u) ?_)).trans rfl
  show loopF (fun v => (access_Of_L3_step l t b (u, allS) v.1 v.2).run) (0, 0) = _
  rw [loopF_eq]
  show ((access_Of_L3_step l t b (u, allS) 0 0).run).bind _ = _
  rw [s0]
  show loopF _ ((rgtS (valA l t b u)).1, 1) = _
  rw [loopF_eq]
  show ((access_Of_L3_step l t b (u, allS) (rgtS (valA l t b u)).1 1).run).bind _ = _
  rw [s1]
  show loopF _ (ofA l t b u, 2) = _
  rw [loopF_eq]
  show ((access_Of_L3_step l t b (u, allS) (ofA l t b u) 2).run).bind _ = _
  rw [s2]; rfl
theorem raccOf_run (l : List Entry) (t b u : Str) (hl : l.length ≤ 1000000) (ht : t.length ≤ 100000) (hb : b.length ≤ 100000) (hu : u.length ≤ 100000) : (r22_Of_T l t b u).run = some (ofA l t b u) := by
  unfold r22_Of_T
  refine (run_bnd (rKeyA_run t b u ht hb hu)).trans ?_
  refine (run_bnd (rGet_run l _ hl)).trans ?_
  refine (run_bnd (rrgt_run _)).trans ?_
  refine (run_bnd (rKeyA_run t b allS ht hb (by decide))).trans ?_
  refine (run_bnd (rGet_run l _ hl)).trans ?_
  exact (run_bnd (rrgt_run _)).trans rfl

/-! Calls: may one be? -/
def q6 (x : Seen) : Bool := (decide ((100 : Int) < (x.1.length : Int))) || (decide ((40 : Int) < (x.2.2.length : Int)))
theorem few6_run (c : List Seen) : (r06_Few_T c).run = some (fewB q6 12 c) := by
  unfold r06_Few_T
  refine few_tree c 12 q6 (fun v => r06_Few_L2_step c v) (by omega) 12 rfl (fun i hi hm => ?_) (fun i hi => ?_)
  · have h4 : (i : Int) < 12 := by omega
    unfold r06_Few_L2_step
    simp only [Tree.run, Int.ofNat_lt, hi, h4, decide_true, cond_true, inb_nat, Int.toNat_natCast, getD_lt _ _ _ hi, Bool.and_true, Bool.or_true]
    show (bif q6 c[i] then _ else _) = some (bif q6 c[i] then _ else _)
    cases q6 c[i] <;> rfl
  · have : (decide ((i : Int) < (c.length : Int)) && decide ((i : Int) < 12)) = false := by
      simp only [Bool.and_eq_false_iff, decide_eq_false_iff_not]; omega
    unfold r06_Few_L2_step
    simp only [Tree.run, this, cond_false]
theorem few6_small {c : List Seen} (h : fewB q6 12 c = true) : SmallC c := by
  refine ⟨by have := fewB_len h; omega, fun x hx => ?_⟩
  have := fewB_mem h hx
  unfold q6 at this
  simp only [Bool.or_eq_false_iff, decide_eq_false_iff_not] at this
  omega
def fewC (c : Call) : Bool := (((((decide ((c.2.1.length : Int) ≤ 300)) && (decide ((c.2.2.1.length : Int) ≤ 100))) && (decide ((c.2.2.2.1.length : Int) ≤ 100))) && (decide ((c.2.2.2.2.1.length : Int) ≤ 300))) && fewB q6 12 c.2.2.2.2.2.1)
theorem fewC_run (c : Call) : (r40_Few_T c).run = some (fewC c) := by
  unfold r40_Few_T
  exact (run_grd (few6_run _)).trans rfl
def rightN (k : Int) : Int := bif decide (k = 1) then 1 else bif decide (k = 2) || decide (k = 3) then 2 else bif decide (k = 4) then 4 else 0
theorem right_run (k : Int) : (front_Right_T k).run = some (rightN k) := by
  unfold front_Right_T rightN
  by_cases h1 : k = 1
  · subst h1; rfl
  refine (run_f (decide_eq_false h1)).trans ?_
  rw [decide_eq_false h1]
  by_cases h2 : k = 2
  · subst h2; rfl
  refine (run_f (decide_eq_false h2)).trans ?_
  rw [decide_eq_false h2]
  by_cases h3 : k = 3
  · subst h3; rfl
  refine (run_f (decide_eq_false h3)).trans ?_
  rw [decide_eq_false h3]
  by_cases h4 : k = 4
  · subst h4; rfl
  refine (run_f (decide_eq_false h4)).trans ?_
  rw [decide_eq_false h4]; rfl
theorem rright_run (k : Int) : (r40_Right_T k).run = some (rightN k) := right_run k
def keyB (s : Str) : Bool := (!(s == ([] : Str))) && (decide ((s.length : Int) ≤ 64))
def okKey (c : Call) : Bool := ((decide (c.1 = 4)) && (c.2.2.2.1 == ([] : Str))) || ((!decide (c.1 = 4)) && keyB c.2.2.2.1)
def okVal (c : Call) : Bool := (c.2.2.2.2.1 == ([] : Str)) || ((decide (c.1 = 2)) && (decide ((c.2.2.2.2.1.length : Int) ≤ 256)))
def okCtx (c : Call) : Bool := (decide ((c.2.2.2.2.2.1.length : Int) = 0)) || ((decide (rightN c.1 = 2)) && ctxB c.2.2.2.2.2.1)
def okTime (c : Call) : Bool := (decide (c.2.2.2.2.2.2 = 0)) || (((decide (rightN c.1 = 2)) && (decide ((0 : Int) < c.2.2.2.2.2.2))) && (decide (c.2.2.2.2.2.2 ≤ 9007199254740992)))
def okName (c : Call) : Bool := (!decide (rightN c.1 = 0)) && nameS c.2.2.1
def formB (c : Call) : Bool := (((okName c && okKey c) && okVal c) && okCtx c) && okTime c
theorem form1_run (c : Call) : (front_Form_1_T c).run = some (okName c) := by
  unfold front_Form_1_T
  refine (run_bnd (right_run _)).trans ?_
  exact (run_grd (nameIs_run _)).trans rfl
theorem form2_run (c : Call) : (front_Form_2_T c).run = some (okKey c) := by
  unfold front_Form_2_T
  exact (run_grd (show (name_IsKey_T c.2.2.2.1).run = some (keyB c.2.2.2.1) from rfl)).trans rfl
theorem form4_run (c : Call) (w : Bool) (hw : w = decide (rightN c.1 = 2)) (hc : SmallC c.2.2.2.2.2.1) : (front_Form_4_T c w).run = some (okCtx c) := by
  subst hw
  unfold front_Form_4_T
  refine (run_grd (check_run _ hc)).trans ?_
  unfold okCtx
  cases ctxB c.2.2.2.2.2.1 <;> rfl
theorem form_run (c : Call) (hc : SmallC c.2.2.2.2.2.1) : (front_Form_T c).run = some (bif formB c then 0 else 1) := by
  have hall : (front_all_T c c c c (decide (rightN c.1 = 2)) c (decide (rightN c.1 = 2))).run = some (formB c) := by
    unfold front_all_T formB
    refine (run_t rfl).trans ?_
    refine (run_bnd (form1_run c)).trans ?_
    cases okName c with
    | false => rfl
    | true =>
      refine (run_f rfl).trans ?_
      refine (run_t rfl).trans ?_
      refine (run_bnd (form2_run c)).trans ?_
      cases okKey c with
      | false => rfl
      | true =>
        refine (run_f rfl).trans ?_
        refine (run_t rfl).trans ?_
        refine (run_bnd (show (front_Form_3_T c).run = some (okVal c) from rfl)).trans ?_
        cases okVal c with
        | false => rfl
        | true =>
          refine (run_f rfl).trans ?_
          refine (run_t rfl).trans ?_
          refine (run_bnd (form4_run c _ rfl hc)).trans ?_
          cases okCtx c with
          | false => rfl
          | true =>
            refine (run_f rfl).trans ?_
            refine (run_t rfl).trans ?_
            refine (run_bnd (show (front_Form_5_T c (decide (rightN c.1 = 2))).run = some (okTime c) from rfl)).trans ?_
            cases okTime c with
            | false => rfl
            | true => exact (run_f rfl).trans (run_f rfl)
  unfold front_Form_T
  refine (run_bnd (right_run _)).trans ?_
  refine (run_bnd hall).trans ?_
  cases formB c <;> rfl
/-- The document asks the same, in another order. -/
def badVal (v : Str) (k2 : Bool) : Bool := decide ((256 : Int) < (v.length : Int)) || ((!k2) && (!(v == ([] : Str))))
theorem okVal_bad (c : Call) : okVal c = !badVal c.2.2.2.2.1 (decide (c.1 = 2)) := by
  unfold okVal badVal
  cases h : c.2.2.2.2.1 == ([] : Str) with
  | true =>
    have e : c.2.2.2.2.1 = [] := by simpa using h
    rw [e]; cases decide (c.1 = 2) <;> rfl
  | false =>
    cases decide (c.1 = 2) with
    | false => cases decide ((256 : Int) < (c.2.2.2.2.1.length : Int)) <;> rfl
    | true =>
      show decide ((c.2.2.2.2.1.length : Int) ≤ 256) = !(decide ((256 : Int) < (c.2.2.2.2.1.length : Int)) || false)
      rw [Bool.or_false, ← decide_not]
      exact decide_eq_decide.2 (by omega)
def writeB (k : Int) : Bool := (decide (k = 2)) || (decide (k = 3))
theorem right_write (k : Int) : decide (rightN k = 2) = writeB k := by
  unfold rightN writeB
  by_cases h1 : k = 1
  · subst h1; rfl
  by_cases h2 : k = 2
  · subst h2; rfl
  by_cases h3 : k = 3
  · subst h3; rfl
  rw [decide_eq_false h1, decide_eq_false h2, decide_eq_false h3]
  cases decide (k = 4) <;> rfl
def badCtx (w : Bool) (c : List Seen) : Bool := !ctxB c || ((!w) && (decide ((0 : Int) < (c.length : Int))))
theorem okCtx_bad (c : Call) : okCtx c = !badCtx (writeB c.1) c.2.2.2.2.2.1 := by
  unfold okCtx badCtx
  rw [right_write]
  cases h : c.2.2.2.2.2.1 with
  | nil => cases writeB c.1 <;> rfl
  | cons x l =>
    rw [decide_eq_false (show ¬ (((x :: l).length : Nat) : Int) = 0 by rw [List.length_cons]; omega), decide_eq_true (show (0 : Int) < (((x :: l).length : Nat) : Int) by rw [List.length_cons]; omega)]
    cases writeB c.1 <;> cases ctxB (x :: l) <;> rfl
def badTime (w : Bool) (t : Int) : Bool := (decide (t < 0) || decide ((9007199254740992 : Int) < t)) || ((!w) && (!decide (t = 0)))
theorem okTime_bad (c : Call) : okTime c = !badTime (writeB c.1) c.2.2.2.2.2.2 := by
  unfold okTime badTime
  rw [right_write]
  generalize c.2.2.2.2.2.2 = t
  by_cases h0 : t = 0
  · subst h0; cases writeB c.1 <;> rfl
  rw [decide_eq_false h0]
  cases writeB c.1 with
  | false => cases decide (t < 0) <;> cases decide ((9007199254740992 : Int) < t) <;> rfl
  | true =>
    by_cases h1 : t < 0
    · rw [decide_eq_true h1, decide_eq_false (show ¬ 0 < t by omega)]; rfl
    · rw [decide_eq_false h1, decide_eq_true (show 0 < t by omega)]
      by_cases h2 : 9007199254740992 < t
      · rw [decide_eq_true h2, decide_eq_false (show ¬ t ≤ 9007199254740992 by omega)]; rfl
      · rw [decide_eq_false h2, decide_eq_true (show t ≤ 9007199254740992 by omega)]; rfl
theorem keyB_r (s : Str) : (r05_IsKey_T s).run = some (keyB s) := by
  unfold r05_IsKey_T keyB
  show some _ = some _
  congr 2
  cases s with
  | nil => rfl
  | cons a s => rw [decide_eq_true (by rw [List.length_cons]; omega)]; rfl
theorem run_dup {c : Bool} {A B C : Tree Int} {r : Option Int} (h : c = true → A.run = r) (k : c = false → C.run = r) : (Tree.ite c (.ite c A B) C).run = r := by
  cases c with
  | true => exact h rfl
  | false => exact k rfl

/-! The document's form of a call. -/
def t4 (w : Bool) (t : Int) : Tree Int := .ite (decide (t < 0)) (.ite (decide (t < 0)) (.ret 1) (.ret 0)) (.ite (decide ((9007199254740992 : Int) < t)) (.ite (decide ((9007199254740992 : Int) < t)) (.ret 1) (.ret 0)) (.ite ((!w) && (!decide (t = 0))) (.ret 1) (.ret 0)))
theorem t4_run (w : Bool) (t : Int) : (t4 w t).run = some (bif badTime w t then 1 else 0) := by
  unfold t4 badTime
  cases decide (t < 0) with
  | true => rfl
  | false =>
    cases decide ((9007199254740992 : Int) < t) with
    | true => rfl
    | false => cases (!w) && (!decide (t = 0)) <;> rfl
def t3 (w : Bool) (c : List Seen) (t : Int) : Tree Int := .bnd (r06_May_T c) fun y => .ite (!y) (.ite (!y) (.ret 1) (t4 w t)) (.ite ((!w) && (decide ((0 : Int) < (c.length : Int)))) (.ret 1) (t4 w t))
theorem t3_run (w : Bool) (c : List Seen) (t : Int) (hc : SmallC c) : (t3 w c t).run = some (bif badCtx w c || badTime w t then 1 else 0) := by
  unfold t3 badCtx
  refine (run_bnd (may_run c hc)).trans ?_
  cases ctxB c with
  | false => rfl
  | true =>
    refine (run_f rfl).trans ?_
    cases (!w) && (decide ((0 : Int) < (c.length : Int))) with
    | true => rfl
    | false => exact t4_run w t
def t2 (w : Bool) (v : Str) (k2 : Bool) (c : List Seen) (t : Int) : Tree Int := .ite (decide ((256 : Int) < (v.length : Int))) (.ite (decide ((256 : Int) < (v.length : Int))) (.ret 1) (t3 w c t)) (.ite ((!k2) && (!(v == ([] : Str)))) (.ret 1) (t3 w c t))
theorem t2_run (w : Bool) (v : Str) (k2 : Bool) (c : List Seen) (t : Int) (hc : SmallC c) : (t2 w v k2 c t).run = some (bif badVal v k2 || (badCtx w c || badTime w t) then 1 else 0) := by
  unfold t2 badVal
  cases decide ((256 : Int) < (v.length : Int)) with
  | true => rfl
  | false =>
    refine (run_f rfl).trans ?_
    cases (!k2) && (!(v == ([] : Str))) with
    | true => rfl
    | false => exact t3_run w c t hc
theorem formB_bad (c : Call) : formB c = ((okName c && okKey c) && !(badVal c.2.2.2.2.1 (decide (c.1 = 2)) || (badCtx (writeB c.1) c.2.2.2.2.2.1 || badTime (writeB c.1) c.2.2.2.2.2.2))) := by
  unfold formB
  rw [okVal_bad, okCtx_bad, okTime_bad]
  cases badVal c.2.2.2.2.1 (decide (c.1 = 2)) <;> cases badCtx (writeB c.1) c.2.2.2.2.2.1 <;> cases badTime (writeB c.1) c.2.2.2.2.2.2 <;> cases okName c && okKey c <;> rfl
theorem rform_run (c : Call) (hn : c.2.2.1.length ≤ 1000000) (hc : SmallC c.2.2.2.2.2.1) : (r40_Form_T c).run = some (bif formB c then 0 else 1) := by
  have ht := t2_run (writeB c.1) c.2.2.2.2.1 (decide (c.1 = 2)) c.2.2.2.2.2.1 c.2.2.2.2.2.2 hc
  have hn := r05Is_run c.2.2.1 hn
  rw [formB_bad]
  have fin : okName c = true → okKey c = true → (t2 (writeB c.1) c.2.2.2.2.1 (decide (c.1 = 2)) c.2.2.2.2.2.1 c.2.2.2.2.2.2).run = some (bif (okName c && okKey c) && !(badVal c.2.2.2.2.1 (decide (c.1 = 2)) || (badCtx (writeB c.1) c.2.2.2.2.2.1 || badTime (writeB c.1) c.2.2.2.2.2.2)) then 0 else 1) := by
    intro h1 h2
    rw [ht, h1, h2]
    generalize (badVal c.2.2.2.2.1 (decide (c.1 = 2)) || (badCtx (writeB c.1) c.2.2.2.2.2.1 || badTime (writeB c.1) c.2.2.2.2.2.2)) = z
    cases z <;> rfl
  have no : (okName c && okKey c) = false → some (1 : Int) = some (bif (okName c && okKey c) && !(badVal c.2.2.2.2.1 (decide (c.1 = 2)) || (badCtx (writeB c.1) c.2.2.2.2.2.1 || badTime (writeB c.1) c.2.2.2.2.2.2)) then 0 else 1) := by
    intro h; rw [h]; rfl
  have n0 : okName c = ((!decide (rightN c.1 = 0)) && nameS c.2.2.1) := rfl
  unfold r40_Form_T
  refine (run_bnd (keyB_r c.2.2.2.1)).trans ?_
  by_cases h4 : c.1 = 4
  · have k0 : okKey c = (c.2.2.2.1 == ([] : Str)) := by
      unfold okKey; rw [decide_eq_true h4]; cases c.2.2.2.1 == ([] : Str) <;> rfl
    refine (run_t (decide_eq_true h4)).trans ?_
    refine (run_bnd (rright_run c.1)).trans ?_
    refine run_dup (fun h => no (by rw [n0, h]; rfl)) (fun h => ?_)
    refine (run_bnd hn).trans ?_
    refine run_dup (fun h2 => no (by rw [n0, show nameS c.2.2.1 = false by simpa using h2]; simp)) (fun h2 => ?_)
    have h2 : nameS c.2.2.1 = true := by simpa using h2
    have hN : okName c = true := by rw [n0, h, h2]; rfl
    cases hk : c.2.2.2.1 == ([] : Str) with
    | false => exact (run_t rfl).trans (no (by rw [k0, hk, Bool.and_false]))
    | true => exact (run_f rfl).trans (fin hN (by rw [k0, hk]))
  · have k0 : okKey c = keyB c.2.2.2.1 := by
      unfold okKey; rw [decide_eq_false h4]; rfl
    refine (run_f (decide_eq_false h4)).trans ?_
    refine (run_bnd (rright_run c.1)).trans ?_
    refine run_dup (fun h => no (by rw [n0, h]; rfl)) (fun h => ?_)
    refine (run_bnd hn).trans ?_
    refine run_dup (fun h2 => no (by rw [n0, show nameS c.2.2.1 = false by simpa using h2]; simp)) (fun h2 => ?_)
    have h2 : nameS c.2.2.1 = true := by simpa using h2
    have hN : okName c = true := by rw [n0, h, h2]; rfl
    cases hk : keyB c.2.2.2.1 with
    | false => exact (run_t rfl).trans (no (by rw [k0, hk, Bool.and_false]))
    | true => exact (run_f rfl).trans (fin hN (by rw [k0, hk]))

/-! May a call be made? -/
def chkF (l : List Entry) (t : Str) (c : Call) (now : Int) : Int :=
  bif formB c then
    (bif (!decide ((checkN l c.2.1 now).2.2.1 = 0)) || (!((checkN l c.2.1 now).1 == t)) then 7 else
      bif decide ((stdArith .and .i64 (ofA l t c.2.2.1 (checkN l c.2.1 now).2.1) (rightN c.1)) = 0) then 8 else 0)
  else 1
theorem checkN_len (l : List Entry) (x : Str) (now : Int) : (checkN l x now).2.1.length ≤ x.length := by
  unfold checkN
  cases goodB l x now && sumB l x with
  | false => exact Nat.zero_le _
  | true => exact readN_len2 x
theorem fcheck_run (l : List Entry) (t : Str) (c : Call) (now : Int) (hl : SmT l) (ht : t.length ≤ 100000) (hb : c.2.2.1.length ≤ 100000) (hk : c.2.1.length ≤ 100000) (hc : SmallC c.2.2.2.2.2.1) : (front_Check_T l t c now).run = some (chkF l t c now) := by
  have hu := checkN_len l c.2.1 now
  unfold front_Check_T chkF
  refine (run_bnd (form_run c hc)).trans ?_
  cases formB c with
  | false => rfl
  | true =>
    refine (run_f rfl).trans ?_
    refine (run_bnd (tcheck_run l c.2.1 now hl hk)).trans ?_
    cases (!decide ((checkN l c.2.1 now).2.2.1 = 0)) || (!((checkN l c.2.1 now).1 == t)) with
    | true => rfl
    | false =>
      refine (run_f rfl).trans ?_
      refine (run_bnd (accOf_run l t c.2.2.1 _ hl.1 ht hb (by omega))).trans ?_
      refine (run_bnd (right_run _)).trans ?_
      show (Tree.ite (decide _) _ _).run = some (bif decide _ then 8 else 0)
      cases decide ((stdArith .and .i64 (ofA l t c.2.2.1 (checkN l c.2.1 now).2.1) (rightN c.1)) = 0) <;> rfl
theorem rfcheck_run (l : List Entry) (t : Str) (c : Call) (now : Int) (hl : SmT l) (ht : t.length ≤ 100000) (hb : c.2.2.1.length ≤ 100000) (hk : c.2.1.length ≤ 100000) (hc : SmallC c.2.2.2.2.2.1) : (r40_Check_T l t c now).run = some (chkF l t c now) := by
  have hu := checkN_len l c.2.1 now
  unfold r40_Check_T chkF
  refine (run_bnd (rform_run c (by omega) hc)).trans ?_
  cases formB c with
  | false => rfl
  | true =>
    refine (run_f rfl).trans ?_
    refine (run_bnd (rtcheck_run l c.2.1 now hl hk)).trans ?_
    cases (!decide ((checkN l c.2.1 now).2.2.1 = 0)) || (!((checkN l c.2.1 now).1 == t)) with
    | true => rfl
    | false =>
      refine (run_f rfl).trans ?_
      refine (run_bnd (raccOf_run l t c.2.2.1 _ hl.1 ht hb (by omega))).trans ?_
      refine (run_bnd (rright_run _)).trans ?_
      show (Tree.ite (decide _) _ _).run = some (bif decide _ then 8 else 0)
      cases decide ((stdArith .and .i64 (ofA l t c.2.2.1 (checkN l c.2.1 now).2.1) (rightN c.1)) = 0) <;> rfl

/-! It does what it is for. -/
theorem nameS_len' {s : Str} (h : nameS s = true) : s.length ≤ 16 := by
  unfold nameS at h
  simp only [Bool.and_eq_true, decide_eq_true_eq] at h
  exact h.1.2
theorem take_says' {t u : Str} {n : Int} {m : Str} (hm : m.length = 32) : (saysN t u n ++ m).take ((saysN t u n ++ m).length - 32) = saysN t u n ∧ (saysN t u n ++ m).drop ((saysN t u n ++ m).length - 32) = m := by
  have hl : (saysN t u n ++ m).length - 32 = (saysN t u n).length := by rw [List.length_append]; omega
  rw [hl]
  exact ⟨List.take_left, List.drop_left⟩
theorem check_tok {l : List Entry} {t u sec : Str} {n : Int} (ht : nameS t = true) (hu : nameS u = true) (h1 : (ofT l t).2.1 = true) (h2 : (ofT l t).1.2.1 = sec) (hn : N64 n) (now : Int) :
    checkN l (tokN sec t u n) now = bif decide (n < now) then noOne else (t, u, 0, ()) := by
  have hm := macN_len sec (saysN t u n)
  have hr : readN (saysN t u n ++ macN sec (saysN t u n)) = (t, u, n, true, ()) := read_says (Nat.le_trans (nameS_len' ht) (by decide)) (Nat.le_trans (nameS_len' hu) (by decide)) hn _ hm
  obtain ⟨e1, e2⟩ := take_says' (t := t) (u := u) (n := n) hm
  unfold checkN goodB sumB tokN
  rw [hr, e1, e2]
  show (bif (((true && (ofT l t).2.1) && nameS u) && !decide (n < now)) && (macN (ofT l t).1.2.1 (saysN t u n) == macN sec (saysN t u n)) then _ else _ : Whose) = _
  rw [h1, h2, hu, beq_self_eq_true, Bool.and_true]
  cases decide (n < now) <;> rfl
def knownA (u r : Str) : List Entry := [(keyA [116] [98] u, (1, ([], r))), ([116, 101, 110, 97, 110, 116, 47, 116, 47, 115, 101, 99, 114, 101, 116], (1, ([], [107, 101, 121])))]
theorem knownA_run (u r : Str) (hu : u.length ≤ 100000) : (l40_known_T u r).run = some (knownA u r) := by
  unfold l40_known_T
  exact (run_bnd (rKeyA_run [116] [98] u (by decide) (by decide) hu)).trans rfl
theorem knownA_sm (u r : Str) (h : r.length ≤ 1000000) : SmT (knownA u r) := ⟨by show 2 ≤ 1000000; omega, fun x hx => by
  rcases List.mem_cons.1 hx with rfl | hx
  · exact h
  · obtain rfl := List.mem_singleton.1 hx
    show 3 ≤ 1000000; omega⟩
def tok40 : Str := tokN [107, 101, 121] [116] [97, 110, 110] 9
def call40 (v : Str) : Call := (1, (tok40, ([98], ([107], (v, ([], 0))))))
theorem tok40_len : tok40.length ≤ 100000 := by unfold tok40; rw [tokN_len]; decide
theorem chk40 {u r : Str} (h1 : (ofT (knownA u r) [116]).2.1 = true) (h2 : (ofT (knownA u r) [116]).1.2.1 = [107, 101, 121]) (t : Str) (now : Int) :
    chkF (knownA u r) t (call40 []) now = bif decide ((9 : Int) < now) then 7 else bif !(([116] : Str) == t) then 7 else bif decide ((stdArith .and .i64 (ofA (knownA u r) t [98] [97, 110, 110]) 1) = 0) then 8 else 0 := by
  have hc : checkN (knownA u r) (call40 []).2.1 now = _ := check_tok (l := knownA u r) (t := [116]) (u := [97, 110, 110]) (sec := [107, 101, 121]) (n := 9) (by decide) (by decide) h1 h2 ⟨by decide, by decide⟩ now
  have hf : formB (call40 []) = true := rfl
  unfold chkF
  rw [hf, hc]
  cases decide ((9 : Int) < now) with
  | true => rfl
  | false => rfl
theorem awake40 : l40_awake_T.run = some true := by
  have hc : SmallC (call40 []).2.2.2.2.2.1 := ⟨by decide, fun x hx => absurd hx List.not_mem_nil⟩
  have hk : ∀ (u r : Str) (t : Str) (now : Int), u.length ≤ 100000 → r.length ≤ 1000000 → t.length ≤ 100000 → (front_Check_T (knownA u r) t (call40 []) now).run = some (chkF (knownA u r) t (call40 []) now) := fun u r t now hu hr ht => fcheck_run _ t (call40 []) now (knownA_sm u r hr) ht (by decide) tok40_len hc
  unfold l40_awake_T
  refine (run_bnd (rmake_run [107, 101, 121] [116] [97, 110, 110] 9 (by decide) (by decide) (by decide))).trans ?_
  refine (run_bnd (knownA_run [97, 110, 110] [114] (by decide))).trans ?_
  refine (run_bnd (hk [97, 110, 110] [114] [116] 9 (by decide) (by decide) (by decide))).trans ?_
  refine (run_grd (knownA_run [97, 110, 110] [119] (by decide))).trans ?_
  refine (run_grd (hk [97, 110, 110] [119] [116] 9 (by decide) (by decide) (by decide))).trans ?_
  refine (run_grd (knownA_run [98, 111, 98] [114] (by decide))).trans ?_
  refine (run_grd (hk [98, 111, 98] [114] [116] 9 (by decide) (by decide) (by decide))).trans ?_
  refine (run_grd (knownA_run [97, 108, 108] [114] (by decide))).trans ?_
  refine (run_grd (hk [97, 108, 108] [114] [116] 10 (by decide) (by decide) (by decide))).trans ?_
  refine (run_grd (knownA_run [97, 110, 110] [114] (by decide))).trans ?_
  refine (run_grd (hk [97, 110, 110] [114] [117] 9 (by decide) (by decide) (by decide))).trans ?_
  refine (run_grd (form_run (call40 [120]) hc)).trans ?_
  refine (run_grd (form_run (call40 []) hc)).trans ?_
  refine (run_grd (right_run 3)).trans ?_
  rw [chk40 (u := [97, 110, 110]) (r := [114]) (by decide +kernel) (by decide +kernel) [116] 9, chk40 (u := [97, 110, 110]) (r := [119]) (by decide +kernel) (by decide +kernel) [116] 9, chk40 (u := [98, 111, 98]) (r := [114]) (by decide +kernel) (by decide +kernel) [116] 9,
    chk40 (u := [97, 108, 108]) (r := [114]) (by decide +kernel) (by decide +kernel) [116] 10, chk40 (u := [97, 110, 110]) (r := [114]) (by decide +kernel) (by decide +kernel) [117] 9]
  show some _ = some true
  kernel_rfl

/-! The laws. -/
theorem fewC_of {c : Call} (h : fewC c = true) : c.2.1.length ≤ 300 ∧ c.2.2.1.length ≤ 100 ∧ SmallC c.2.2.2.2.2.1 := by
  unfold fewC at h
  simp only [Bool.and_eq_true, decide_eq_true_eq] at h
  obtain ⟨⟨⟨⟨h1, h2⟩, h3⟩, h4⟩, h5⟩ := h
  exact ⟨by omega, by omega, few6_small h5⟩
theorem sm_few {l : List Entry} (hf : fewB q10 30 l = true) : SmT l := by
  have hs := few10_small (by omega) hf
  exact ⟨by have := hs.1; omega, fun x hx => by have := (hs.2 x hx).2.2; omega⟩
theorem frontIs_law (x : ElP l40_FrontIs_g.ps) (_ : okP l40_FrontIs_g.ps x) : (l40_FrontIs_g.f x).run = some true := by
  obtain ⟨l, c, now, _⟩ := x
  show (l40_FrontIs_T l c now).run = _
  unfold l40_FrontIs_T
  refine (run_bnd (few10_run l 30 (by omega) 30 rfl)).trans ?_
  refine (run_grd (fewC_run c)).trans ?_
  cases hf : fewB q10 30 l with
  | false => exact (run_bnd awake40).trans rfl
  | true =>
    cases hc : fewC c with
    | false => exact (run_bnd awake40).trans rfl
    | true =>
      obtain ⟨h1, h2, h3⟩ := fewC_of hc
      have hl := sm_few hf
      refine (run_f rfl).trans ?_
      refine (run_bnd (form_run c h3)).trans ?_
      refine (run_bnd (rform_run c (by omega) h3)).trans ?_
      refine (run_grd (right_run _)).trans ?_
      refine (run_grd (rright_run _)).trans ?_
      refine (run_grd (fcheck_run l [116] c now hl (by decide) (by omega) (by omega) h3)).trans ?_
      refine (run_grd (rfcheck_run l [116] c now hl (by decide) (by omega) (by omega) h3)).trans ?_
      refine (run_grd (fcheck_run l c.2.2.1 c now hl (by omega) (by omega) (by omega) h3)).trans ?_
      refine (run_grd (rfcheck_run l c.2.2.1 c now hl (by omega) (by omega) (by omega) h3)).trans ?_
      refine (run_grd awake40).trans ?_
      show some _ = some true
      simp
theorem getR_filter {l : List Entry} {p : Entry → Bool} {k : Str} (h : ∀ x : Entry, x.1 = k → p x = true) : getR (l.filter p) k = getR l k := by
  have e : (l.filter p).find? (fun x => x.1 == k) = l.find? fun x => x.1 == k := by
    rw [List.find?_filter]
    congr 1
    funext x
    cases hx : x.1 == k with
    | false => simp
    | true => simp [h x (by simpa using hx)]
  unfold getR findR
  rw [e]
theorem getR_gone {l : List Entry} {p : Entry → Bool} {k : Str} (h : ∀ x : Entry, x.1 = k → p x = false) : getR (l.filter p) k = (0, ([], [])) := by
  have e : (l.filter p).find? (fun x => x.1 == k) = none := by
    rw [List.find?_eq_none]
    intro x hx
    have hp := (List.mem_filter.1 hx).2
    intro hk
    rw [h x (by simpa using hk)] at hp
    cases hp
  unfold getR findR
  rw [e]; rfl
def goneB (b u : Str) (x : Entry) : Bool := (!(x.1 == keyA [116] b u)) && (!(x.1 == keyA [116] b allS))
theorem keyTA (t f b u : Str) : keyT t f ≠ keyA [116] b u := by
  intro h
  have := congrArg (fun l => l.head?) h
  unfold keyT keyA tenantS at this
  simp at this
theorem val_gone (l : List Entry) (b u t f : Str) : valT (l.filter (goneB b u)) t f = valT l t f := by
  unfold valT
  rw [getR_filter]
  intro x hx
  unfold goneB
  rw [hx]
  simp [keyTA]
theorem of_gone (l : List Entry) (b u t : Str) : ofT (l.filter (goneB b u)) t = ofT l t := by
  unfold ofT tenT
  simp only [val_gone]
theorem check_gone (l : List Entry) (b u x : Str) (now : Int) : checkN (l.filter (goneB b u)) x now = checkN l x now := by
  unfold checkN goodB sumB
  simp only [of_gone]
theorem and_zeroI (r : Int) : stdArith .and .i64 0 r = 0 := by
  show IntKind.i64.wrap ((BitVec.ofInt 64 0 &&& BitVec.ofInt 64 r).toNat : Int) = 0
  rw [show BitVec.ofInt 64 0 = 0#64 from rfl, BitVec.zero_and]; rfl
theorem ofA_gone (l : List Entry) (b u : Str) : ofA (l.filter (goneB b u)) [116] b u = 0 := by
  have h1 : valA (l.filter (goneB b u)) [116] b u = [] := by
    unfold valA
    rw [getR_gone]
    intro x hx
    unfold goneB
    rw [hx, beq_self_eq_true]; rfl
  have h2 : valA (l.filter (goneB b u)) [116] b allS = [] := by
    unfold valA
    rw [getR_gone]
    intro x hx
    unfold goneB
    rw [hx, beq_self_eq_true, Bool.not_true, Bool.and_false]
  unfold ofA
  rw [h1, h2]
  show stdArith .or .i64 0 0 = 0
  decide
theorem checkN_zero {l : List Entry} {x : Str} {now : Int} (h : (checkN l x now).2.2.1 = 0) : goodB l x now = true ∧ (checkN l x now).1 = (readN x).1 ∧ (checkN l x now).2.1 = (readN x).2.1 := by
  unfold checkN at h ⊢
  cases hg : goodB l x now && sumB l x with
  | false => rw [hg] at h; exact absurd (show (7 : Int) = 0 from h) (by decide)
  | true => exact ⟨by simp only [Bool.and_eq_true] at hg; exact hg.1, rfl, rfl⟩
theorem checkN_nil (x : Str) (now : Int) : checkN [] x now = noOne := by
  unfold checkN goodB
  rw [of_none]
  cases (readN x).2.2.2.1 <;> rfl
theorem chkF_zero {l : List Entry} {t : Str} {c : Call} {now : Int} (h : chkF l t c now = 0) : formB c = true ∧ (checkN l c.2.1 now).2.2.1 = 0 ∧ (checkN l c.2.1 now).1 = t := by
  unfold chkF at h
  cases hf : formB c with
  | false => rw [hf] at h; exact absurd (show (1 : Int) = 0 from h) (by decide)
  | true =>
    rw [hf] at h
    cases hq : (!decide ((checkN l c.2.1 now).2.2.1 = 0)) || (!((checkN l c.2.1 now).1 == t)) with
    | true => rw [hq] at h; exact absurd (show (7 : Int) = 0 from h) (by decide)
    | false =>
      simp only [Bool.or_eq_false_iff, Bool.not_eq_false', decide_eq_true_eq, beq_iff_eq] at hq
      exact ⟨rfl, hq.1, hq.2⟩
theorem filter_sm {l : List Entry} (h : SmT l) (p : Entry → Bool) : SmT (l.filter p) := ⟨Nat.le_trans (List.length_filter_le p l) h.1, fun x hx => h.2 x (List.mem_filter.1 hx).1⟩
theorem gone_loop (l : List Entry) (now : Int) (u : Str) (c : Call) (hl : l.length ≤ 1000) (hu : u.length ≤ 100000) (hb : c.2.2.1.length ≤ 100000) :
    loopF (fun v => (l40_FrontAllowed_L10_step l now u c v.1 v.2).run) (0, ([] : List Entry)) = some (l.filter (goneB c.2.2.1 u)) := by
  refine loopF_run (S := fun i => ((i : Int), (l.take i).filter (goneB c.2.2.1 u))) (n := l.length) (fun i hi => ?_) ?_ rfl
  · show (l40_FrontAllowed_L10_step l now u c (i : Int) ((l.take i).filter (goneB c.2.2.1 u))).run = _
    have hlen := List.length_filter_le (goneB c.2.2.1 u) (l.take i)
    rw [List.length_take] at hlen
    have e : l.getD (i : Int).toNat (dfl tEntry : Entry) = l[i] := by rw [Int.toNat_natCast]; exact getD_lt _ _ _ hi
    unfold l40_FrontAllowed_L10_step
    rw [e]
    refine (run_t (decide_eq_true (by omega))).trans ?_
    refine (run_ask (inb_in (by omega))).trans ?_
    refine (run_bnd (rKeyA_run [116] c.2.2.1 u (by decide) hb hu)).trans ?_
    refine (run_ask (by rw [inb_in (by omega), Bool.or_true])).trans ?_
    refine (run_grd (rKeyA_run [116] c.2.2.1 allS (by decide) hb (by decide))).trans ?_
    rw [List.take_succ_eq_append_getElem hi, List.filter_append, w64_nat i (by omega)]
    show (Tree.ite (goneB c.2.2.1 u l[i]) _ _).run = _
    cases hg : goneB c.2.2.1 u l[i] with
    | true =>
      refine (run_t rfl).trans ?_
      refine (run_ask (inb_in (by omega))).trans ?_
      refine (run_ask (room_le _ _ (by rw [List.length_append]; show _ + 1 ≤ _; omega) (by omega))).trans ?_
      rw [List.filter_cons_of_pos hg]; rfl
    | false =>
      refine (run_f rfl).trans ?_
      rw [List.filter_cons_of_neg (by rw [hg]; decide)]
      show _ = some (Sum.inl (_, _ ++ []))
      rw [List.append_nil]; rfl
  · show (l40_FrontAllowed_L10_step l now u c (l.length : Int) ((l.take l.length).filter (goneB c.2.2.1 u))).run = _
    unfold l40_FrontAllowed_L10_step
    rw [List.take_length]
    exact run_f (decide_eq_false (by omega))
theorem frontAllowed_law (x : ElP l40_FrontAllowed_g.ps) (_ : okP l40_FrontAllowed_g.ps x) : (l40_FrontAllowed_g.f x).run = some true := by
  obtain ⟨l, c, now, _⟩ := x
  show (l40_FrontAllowed_T l c now).run = _
  unfold l40_FrontAllowed_T
  refine (run_bnd (few10_run l 30 (by omega) 30 rfl)).trans ?_
  refine (run_grd (fewC_run c)).trans ?_
  cases hf : fewB q10 30 l with
  | false =>
    refine (run_off rfl).trans ?_
    exact (run_t rfl).trans ((run_bnd awake40).trans rfl)
  | true =>
    have hs := few10_small (by omega) hf
    refine (run_grd (regM_run l hs)).trans ?_
    cases hc : fewC c with
    | false => exact (run_t rfl).trans ((run_bnd awake40).trans rfl)
    | true =>
      cases mayB l with
      | false => exact (run_t rfl).trans ((run_bnd awake40).trans rfl)
      | true =>
        obtain ⟨h1, h2, h3⟩ := fewC_of hc
        have hl := sm_few hf
        have hlen : l.length ≤ 30 := fewB_len hf
        refine (run_f rfl).trans ?_
        refine (run_bnd (fcheck_run l [116] c now hl (by decide) (by omega) (by omega) h3)).trans ?_
        by_cases h0 : chkF l [116] c now = 0
        · refine (run_f (by rw [h0]; rfl)).trans ?_
          obtain ⟨hF, k1, k2⟩ := chkF_zero h0
          obtain ⟨g1, g2, g3⟩ := checkN_zero k1
          have hul := readN_len2 c.2.1
          rw [k2] at g2
          have hg := g1
          unfold goodB at g1
          simp only [Bool.and_eq_true, Bool.not_eq_true', decide_eq_false_iff_not] at g1
          obtain ⟨⟨⟨r1, _⟩, _⟩, r4⟩ := g1
          refine (run_bnd (rread_run c.2.1 (by omega))).trans ?_
          refine (run_grd (form_run c h3)).trans ?_
          refine (run_f (by rw [r1, ← g2, decide_eq_false r4, hF]; rfl)).trans ?_
          refine (run_bnd (loop_run (gone_loop l now (readN c.2.1).2.1 c (by omega) (by omega) (by omega)))).trans ?_
          refine (run_bnd (fcheck_run _ [116] c now (filter_sm hl _) (by decide) (by omega) (by omega) h3)).trans ?_
          refine (run_grd (fcheck_run [] [116] c now ⟨Nat.zero_le _, fun _ h => absurd h List.not_mem_nil⟩ (by decide) (by omega) (by omega) h3)).trans ?_
          refine (run_grd (fcheck_run l [117] c now hl (by decide) (by omega) (by omega) h3)).trans ?_
          refine (run_grd awake40).trans ?_
          have e1 : chkF (l.filter (goneB c.2.2.1 (readN c.2.1).2.1)) [116] c now = 8 := by
            unfold chkF
            rw [hF, check_gone, k1, k2, g3, ofA_gone, and_zeroI]; rfl
          have e2 : chkF [] [116] c now = 7 := by
            unfold chkF
            rw [hF, checkN_nil]; rfl
          have e3 : chkF l [117] c now = 7 := by
            unfold chkF
            rw [hF, k1, k2]; rfl
          rw [e1, e2, e3]; rfl
        · exact (run_t (by rw [decide_eq_false h0]; rfl)).trans ((run_bnd awake40).trans rfl)

end Go.Eng

