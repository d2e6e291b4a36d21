/- Laws in plain Lean: n33. -/
import Derived.Test.YtgpbegogphcabaaL33
import Derived.Test.YtgpbegogphcabaaTrI
import Derived.Test.YtgpbegogphcabaaTrH
namespace Go.Eng
open Go Go.Proofs Go.RowKit

/-! Maps of texts to lists of texts. -/
abbrev NM : Type := List (Str × List Str)
def gtM (x : NM) (k : Str) : List Str := (getM .str (.list .str) x k).getD ([] : List Str)
abbrev ptM (x : NM) (k : Str) (v : List Str) : NM := putM .str (.list .str) x k v
abbrev dlM (x : NM) (k : Str) : NM := delM .str (.list .str) x k
def Aps (x : NM) : Prop := x.Pairwise fun a b => a.1 ≠ b.1
theorem gt_nil (k : Str) : gtM [] k = [] := rfl
theorem gt_cons (p : Str × List Str) (x : NM) (q : Str) : gtM (p :: x) q = if q = p.1 then p.2 else gtM x q := by
  show ((bif (q == p.1) then some p.2 else getM .str (.list .str) x q).getD []) = _
  by_cases e : q = p.1
  · rw [if_pos e, beq_iff_eq.2 e]; rfl
  · rw [if_neg e, beq_eq_false_iff_ne.2 e]; rfl
theorem pt_cons (p : Str × List Str) (x : NM) (k : Str) (v : List Str) : ptM (p :: x) k v = if k = p.1 then (k, v) :: x else p :: ptM x k v := by
  show (bif (k == p.1) then (k, v) :: x else p :: ptM x k v) = _
  by_cases e : k = p.1
  · rw [if_pos e, beq_iff_eq.2 e]; rfl
  · rw [if_neg e, beq_eq_false_iff_ne.2 e]; rfl
theorem dl_cons (p : Str × List Str) (x : NM) (k : Str) : dlM (p :: x) k = if k = p.1 then x else p :: dlM x k := by
  show (bif (k == p.1) then x else p :: dlM x k) = _
  by_cases e : k = p.1
  · rw [if_pos e, beq_iff_eq.2 e]; rfl
  · rw [if_neg e, beq_eq_false_iff_ne.2 e]; rfl
theorem gt_put (x : NM) (k : Str) (v : List Str) (q : Str) : gtM (ptM x k v) q = if q = k then v else gtM x q := by
  induction x with
  | nil => exact gt_cons (k, v) [] q
  | cons p x ih =>
    rw [pt_cons]
    by_cases e : k = p.1
    · rw [if_pos e, gt_cons, gt_cons]
      by_cases e2 : q = k
      · rw [if_pos e2, if_pos e2]
      · rw [if_neg e2, if_neg e2, if_neg (fun h => e2 (h.trans e.symm))]
    · rw [if_neg e, gt_cons, gt_cons, ih]
      by_cases e2 : q = p.1
      · rw [if_pos e2, if_pos e2, if_neg (fun h => e (h.symm.trans e2))]
      · rw [if_neg e2, if_neg e2]
theorem gt_out (x : NM) (k : Str) (h : ∀ p ∈ x, p.1 ≠ k) : gtM x k = [] := by
  induction x with
  | nil => rfl
  | cons p x ih => rw [gt_cons, if_neg (fun e => h p List.mem_cons_self e.symm)]; exact ih fun q hq => h q (List.mem_cons_of_mem _ hq)
theorem gt_del (x : NM) (hx : Aps x) (k q : Str) : gtM (dlM x k) q = if q = k then [] else gtM x q := by
  induction x with
  | nil => show ([] : List Str) = if q = k then [] else []; split <;> rfl
  | cons p x ih =>
    obtain ⟨h1, h2⟩ := List.pairwise_cons.1 hx
    rw [dl_cons]
    by_cases e : k = p.1
    · rw [if_pos e, gt_cons]
      by_cases e2 : q = k
      · rw [if_pos e2]; exact gt_out x q fun p' hp => fun h => h1 p' hp (by rw [← e, ← e2, h])
      · rw [if_neg e2, if_neg (fun h => e2 (h.trans e.symm))]
    · rw [if_neg e, gt_cons, gt_cons, ih h2]
      by_cases e2 : q = p.1
      · rw [if_pos e2, if_pos e2, if_neg (fun h => e (h.symm.trans e2))]
      · rw [if_neg e2, if_neg e2]
theorem aps_put {x : NM} (h : Aps x) (k : Str) (v : List Str) : Aps (ptM x k v) := pairwise_put (t := .str) (u := .list .str) rfl h k v
theorem aps_del {x : NM} (h : Aps x) (k : Str) : Aps (dlM x k) := List.Pairwise.sublist (del_sub (t := .str) (u := .list .str) x k) h
theorem len_put (x : NM) (k : Str) (v : List Str) : (ptM x k v).length ≤ x.length + 1 := by
  induction x with
  | nil => exact Nat.le_refl _
  | cons p x ih =>
    rw [pt_cons]
    split
    · simp only [List.length_cons]; omega
    · simp only [List.length_cons]; omega
theorem len_del (x : NM) (k : Str) : (dlM x k).length ≤ x.length := (del_sub (t := .str) (u := .list .str) x k).length_le

/-! What the parts come to. -/
theorem given_run (x : NM) : (net_Net_given_T x).run = some true := rfl
theorem clip_run (l : List Str) : (slices_Clip_string_T l).run = some l := by
  unfold slices_Clip_string_T
  refine (run_ask ?_).trans ?_
  · rw [inbe_nat]; simp
  · show some (l.take ((l.length : Int)).toNat) = some l
    rw [Int.toNat_natCast, List.take_length]
theorem clone_run (l : List Str) (h : l.length ≤ 1000000) : (slices_Clone_string_T l).run = some l := by
  unfold slices_Clone_string_T
  cases l with
  | nil => simp [Tree.run, Nat.beq, roomNat]
  | cons x l =>
    have h1 : Nat.beq (x :: l).length 0 = false := rfl
    have h2 : decide ((x :: l).length * 16 ≤ roomNat) = true := decide_eq_true (by unfold roomNat; omega)
    exact (run_f h1).trans ((run_ask h2).trans rfl)
def sendN (x : NM) (k b : Str) : NM := ptM x k (gtM x k ++ [b])
theorem send_run (k b : Str) (x : NM) (h1 : (gtM x k).length ≤ 1000000) (h2 : x.length ≤ 1000000) : (net_Net_Send_T k b x).run = some ((), (((), ()), (sendN x k b, ()))) := by
  have hr : decide ((gtM x k ++ [b]).length * 16 ≤ roomNat) = true := decide_eq_true (by unfold roomNat; rw [List.length_append, List.length_singleton]; omega)
  have hm : decide ((ptM x k (gtM x k ++ [b])).length ≤ 9223372036854775807) = true := decide_eq_true (by have := len_put x k (gtM x k ++ [b]); omega)
  have hc : (slices_Clip_string_T ((getM .str (.list .str) x k).getD ([] : List Str))).run = some (gtM x k) := clip_run _
  unfold net_Net_Send_T
  refine (run_bnd (given_run x)).trans ?_
  simp only [Tree.run, hc, Option.bind_some, hr, hm, cond_true, if_true]
  rfl
theorem len_run (x : NM) (k : Str) : (net_Net_Len_T x k).run = some ((gtM x k).length : Int) := by
  unfold net_Net_Len_T
  exact (run_bnd (given_run x)).trans rfl
/-- The place of the k-th of so many. -/
def atI (k : Int) (n : Nat) : Int := if k.tmod n < 0 then k.tmod n + n else k.tmod n
theorem atI_in (k : Int) (n : Nat) (h : 0 < n) : 0 ≤ atI k n ∧ atI k n < n := by
  have h1 := Int.tmod_lt_of_pos k (show (0 : Int) < n by omega)
  have h2 : -(n : Int) < k.tmod n := by
    have := Int.lt_tmod_of_pos k (show (0 : Int) < n by omega)
    omega
  unfold atI
  split <;> omega
theorem atI_eq (k : Int) (n : Nat) (h : 0 < n) (hn : n ≤ 1000000) : (w64 ((k.tmod n) + n)).tmod n = atI k n := by
  have h1 := Int.tmod_lt_of_pos k (show (0 : Int) < n by omega)
  have h2 : -(n : Int) < k.tmod n := by
    have := Int.lt_tmod_of_pos k (show (0 : Int) < n by omega)
    omega
  have hw : w64 ((k.tmod n) + n) = k.tmod n + n := by
    show IntKind.i64.wrap _ = _
    rw [IntKind.wrap_i64]; omega
  rw [hw]
  unfold atI
  split
  · rw [Int.tmod_eq_of_lt (by omega) (by omega)]
  · rw [Int.tmod_eq_emod_of_nonneg (by omega), Int.add_emod_right, ← Int.tmod_eq_emod_of_nonneg (by omega), Int.tmod_eq_of_lt (by omega) (by omega)]
theorem at_run (x : NM) (k : Str) (n : Int) (h : (gtM x k).length ≤ 1000000) : (net_Net_at_T x k n).run = some (if gtM x k = [] then (0, false, ()) else (atI n (gtM x k).length, true, ())) := by
  unfold net_Net_at_T
  refine (run_bnd (len_run x k)).trans ?_
  by_cases e : gtM x k = []
  · rw [if_pos e, e]; rfl
  · have hp : 0 < (gtM x k).length := List.length_pos_iff.2 e
    have hz : decide (((gtM x k).length : Int) = 0) = false := decide_eq_false (by omega)
    rw [if_neg e]
    refine (run_f hz).trans ((run_ask (by rw [hz]; rfl)).trans ((run_ask (by rw [hz]; rfl)).trans ?_))
    show some (_, true, ()) = _
    rw [atI_eq n _ hp h]
/-- An act, on one lane. -/
abbrev doR : Type := Str × Bool
def twiceN (x : NM) (k : Str) (n : Int) : Bool × NM := if gtM x k = [] then (false, x) else (true, sendN x k ((gtM x k).getD (atI n (gtM x k).length).toNat []))
theorem twice_run (k : Str) (n : Int) (x : NM) (h1 : (gtM x k).length ≤ 1000000) (h2 : x.length ≤ 1000000) : (net_Net_Twice_T k n x).run = some ((twiceN x k n).1, (((), ()), ((twiceN x k n).2, ()))) := by
  unfold net_Net_Twice_T twiceN
  refine (run_bnd (at_run x k n h1)).trans ?_
  by_cases e : gtM x k = []
  · rw [if_pos e, if_pos e]; rfl
  · obtain ⟨q1, q2⟩ := atI_in n (gtM x k).length (List.length_pos_iff.2 e)
    rw [if_neg e, if_neg e]
    refine (run_t rfl).trans ((run_ask (by show decide _ = true; exact decide_eq_true ⟨q1, q2⟩)).trans ?_)
    exact (run_bnd (send_run k _ x h1 h2)).trans rfl
theorem cutL_at (l : List Str) (i : Int) (h0 : 0 ≤ i) (h1 : i < l.length) (hl : l.length ≤ 1000000) : (slices_Delete_string_T i (w64 (i + 1)) l).run = some ((), (l.eraseIdx i.toNat, ())) := by
  obtain ⟨n, rfl⟩ := Int.eq_ofNat_of_zero_le h0
  unfold slices_Delete_string_T
  rw [w64_nat n (by omega)]
  refine (run_ask (decide_eq_true ⟨by omega, by omega, by omega⟩)).trans ?_
  show some ((), (cutL l ((n : Nat) : Int) ((n + 1 : Nat) : Int), ())) = _
  rw [show cutL l ((n : Nat) : Int) ((n + 1 : Nat) : Int) = l.take n ++ l.drop (n + 1) from rfl, Int.toNat_natCast, List.eraseIdx_eq_take_drop_succ]
def setN (x : NM) (k : Str) (v : List Str) : NM := if v = [] then dlM (ptM x k v) k else ptM x k v
def takN (x : NM) (k : Str) (n : Int) : doR × NM :=
  if gtM x k = [] then (([], false), x) else (((gtM x k).getD (atI n (gtM x k).length).toNat [], true), setN x k ((gtM x k).eraseIdx (atI n (gtM x k).length).toNat))
theorem take_run (k : Str) (n : Int) (x : NM) (h1 : (gtM x k).length ≤ 1000000) (h2 : x.length ≤ 1000000) : (net_Net_Take_T k n x).run = some (((takN x k n).1.1, ((takN x k n).1.2, ())), (((), ()), ((takN x k n).2, ()))) := by
  unfold net_Net_Take_T takN
  refine (run_bnd (at_run x k n h1)).trans ?_
  by_cases e : gtM x k = []
  · rw [if_pos e, if_pos e]; rfl
  · obtain ⟨q1, q2⟩ := atI_in n (gtM x k).length (List.length_pos_iff.2 e)
    rw [if_neg e, if_neg e]
    refine (run_f rfl).trans ((run_ask (by show decide _ = true; exact decide_eq_true ⟨q1, q2⟩)).trans ?_)
    have hc : (slices_Clone_string_T ((getM .str (.list .str) x k).getD ([] : List Str))).run = some (gtM x k) := clone_run _ h1
    have hd := cutL_at (gtM x k) _ q1 q2 h1
    generalize hv : (gtM x k).eraseIdx (atI n (gtM x k).length).toNat = v at hd
    have hm : decide ((putM .str (.list .str) x k v).length ≤ 9223372036854775807) = true := decide_eq_true (Nat.le_trans (len_put x k v) (by omega))
    have hg : (getM .str (.list .str) (putM .str (.list .str) x k v) k).getD ([] : List Str) = v := by
      have := gt_put x k v k
      rw [if_pos rfl] at this; exact this
    have key : (Tree.ite (decide ((((getM .str (.list .str) (putM .str (.list .str) x k v) k).getD ([] : List Str)).length : Int) = 0)) (
        .ret (((((getM .str (.list .str) x k).getD ([] : List Str)).getD (atI n (gtM x k).length).toNat ([] : Str)), (true, ())), (((), ()), ((delM .str (.list .str) (putM .str (.list .str) x k v) k), ())))) (
        .ret (((((getM .str (.list .str) x k).getD ([] : List Str)).getD (atI n (gtM x k).length).toNat ([] : Str)), (true, ())), (((), ()), ((putM .str (.list .str) x k v), ())))) : Tree ((Str × (Bool × Unit)) × ((Unit × Unit) × ((List (Str × List Str)) × Unit)))).run
        = some ((((gtM x k).getD (atI n (gtM x k).length).toNat [], (true, ())), (((), ()), (setN x k v, ())))) := by
      rw [hg]
      unfold setN
      by_cases ev : v = []
      · subst ev; rfl
      · have : decide ((v.length : Int) = 0) = false := decide_eq_false (by have := List.length_pos_iff.2 ev; omega)
        rw [if_neg ev]
        exact (run_f this).trans rfl
    simp only [Tree.run, hc, hd, Option.bind_some, hm, cond_true, if_true] at key ⊢
    exact key
theorem all_run (x : NM) (k : Str) (h : (gtM x k).length ≤ 1000000) : (net_Net_All_T x k).run = some (gtM x k) := by
  unfold net_Net_All_T
  refine (run_bnd (given_run x)).trans ((run_f rfl).trans ?_)
  exact (run_bnd (clone_run _ h)).trans rfl
theorem lanes_run (x : NM) (h : x.length ≤ 1000000) : (net_Net_Lanes_T x).run = some (sortS (x.map (·.1))) := by
  unfold net_Net_Lanes_T
  exact (run_ask (decide_eq_true (by unfold roomNat; omega))).trans ((run_ask (decide_eq_true (by omega))).trans rfl)
theorem sameTexts_run (a b : List Str) (ha : a.length ≤ 1000000) (h : a = b) : (r01_SameTexts_T a b).run = some true := by
  subst h
  unfold r01_SameTexts_T
  have hl := same_loop (β := Bool ⊕ Unit) a.length (fun v => r01_SameTexts_L4_step a a v) (.inr ()) (by omega) (fun i hi => by
    unfold r01_SameTexts_L4_step
    simp only [Tree.run, Int.ofNat_lt, hi, decide_true, cond_true, inb_nat, Bool.and_self, beq_self_eq_true, Bool.not_true, cond_false]) (by unfold r01_SameTexts_L4_step; simp [Tree.run])
  simp only [Tree.run, decide_true, Bool.not_true, cond_false]
  rw [hl]; rfl

/-! An act. -/
def doN (a : R33_Act) (x : NM) : doR × NM :=
  if a.1 = 1 then (([], false), sendN x a.2.1 a.2.2.1) else if a.1 = 2 then takN x a.2.1 a.2.2.2 else if a.1 = 3 then (([], (twiceN x a.2.1 a.2.2.2).1), (twiceN x a.2.1 a.2.2.2).2) else (([], false), x)
theorem do_run (a : R33_Act) (x : NM) (h1 : (gtM x a.2.1).length ≤ 1000000) (h2 : x.length ≤ 1000000) : (l33_do_T a x).run = some (((doN a x).1.1, ((doN a x).1.2, ())), (((), ()), ((doN a x).2, ()))) := by
  unfold l33_do_T doN
  by_cases e1 : a.1 = 1
  · rw [if_pos e1]
    exact (run_t (decide_eq_true e1)).trans ((run_bnd (send_run _ _ x h1 h2)).trans rfl)
  rw [if_neg e1]
  refine (run_f (decide_eq_false e1)).trans ?_
  by_cases e2 : a.1 = 2
  · rw [if_pos e2]
    exact (run_t (decide_eq_true e2)).trans ((run_bnd (take_run _ _ x h1 h2)).trans rfl)
  rw [if_neg e2]
  refine (run_f (decide_eq_false e2)).trans ?_
  by_cases e3 : a.1 = 3
  · rw [if_pos e3]
    exact (run_t (decide_eq_true e3)).trans ((run_bnd (twice_run _ _ x h1 h2)).trans rfl)
  rw [if_neg e3]
  exact (run_f (decide_eq_false e3)).trans rfl
/-- What it answers, and what becomes of its lane. -/
def doL (a : R33_Act) (l : List Str) : doR × List Str :=
  if a.1 = 1 then (([], false), l ++ [a.2.2.1]) else if a.1 = 2 then (if l = [] then (([], false), l) else ((l.getD (atI a.2.2.2 l.length).toNat [], true), l.eraseIdx (atI a.2.2.2 l.length).toNat))
  else if a.1 = 3 then (if l = [] then (([], false), l) else (([], true), l ++ [l.getD (atI a.2.2.2 l.length).toNat []])) else (([], false), l)
structure NOk (n : Nat) (x : NM) : Prop where
  aps : Aps x
  len : x.length ≤ n
  all : ∀ k, (gtM x k).length ≤ n
  non : ∀ p ∈ x, p.2 ≠ []
theorem NOk.nil : NOk 0 [] := ⟨List.Pairwise.nil, Nat.le_refl _, fun _ => Nat.le_refl _, fun _ h => by cases h⟩
theorem NOk.mono {n n' : Nat} {x : NM} (h : NOk n x) (hn : n ≤ n') : NOk n' x := ⟨h.aps, Nat.le_trans h.len hn, fun k => Nat.le_trans (h.all k) hn, h.non⟩
theorem mem_put {x : NM} {k : Str} {v : List Str} {p : Str × List Str} (h : p ∈ ptM x k v) : p = (k, v) ∨ p ∈ x := by
  induction x with
  | nil => exact .inl (List.mem_singleton.1 h)
  | cons q x ih =>
    rw [pt_cons] at h
    split at h
    · rcases List.mem_cons.1 h with h | h
      · exact .inl h
      · exact .inr (List.mem_cons_of_mem _ h)
    · rcases List.mem_cons.1 h with h | h
      · exact .inr (h ▸ List.mem_cons_self)
      · exact (ih h).imp_right (List.mem_cons_of_mem _)
theorem NOk.put {n : Nat} {x : NM} (h : NOk n x) (k : Str) {v : List Str} (hv : v ≠ []) (hl : v.length ≤ n + 1) : NOk (n + 1) (ptM x k v) :=
  ⟨aps_put h.aps k v, Nat.le_trans (len_put x k v) (by have := h.len; omega), fun q => by rw [gt_put]; split; exact hl; exact Nat.le_succ_of_le (h.all q), fun p hp => (mem_put hp).elim (fun e => e ▸ hv) (h.non p)⟩
/-- A key that is put and struck is struck. -/
theorem del_put (x : NM) (k : Str) (v : List Str) : dlM (ptM x k v) k = dlM x k := by
  induction x with
  | nil => show dlM [(k, v)] k = []; rw [dl_cons, if_pos rfl]
  | cons p x ih =>
    rw [pt_cons, dl_cons]
    by_cases e : k = p.1
    · rw [if_pos e, if_pos e, dl_cons, if_pos rfl]
    · rw [if_neg e, if_neg e, dl_cons, if_neg e, ih]
theorem NOk.set {n : Nat} {x : NM} (h : NOk n x) (k : Str) {v : List Str} (hl : v.length ≤ n + 1) : NOk (n + 1) (setN x k v) := by
  unfold setN
  by_cases e : v = []
  · rw [if_pos e, del_put]
    exact ⟨aps_del h.aps k, Nat.le_trans (len_del x k) (by have := h.len; omega), fun q => by rw [gt_del x h.aps]; split; exact Nat.zero_le _; exact Nat.le_succ_of_le (h.all q), fun p hp => h.non p ((del_sub (t := .str) (u := .list .str) x k).subset hp)⟩
  · rw [if_neg e]; exact h.put k e hl
theorem gt_set {x : NM} (h : Aps x) (k : Str) (v : List Str) (q : Str) : gtM (setN x k v) q = if q = k then v else gtM x q := by
  unfold setN
  by_cases e : v = []
  · subst e
    rw [if_pos rfl, del_put, gt_del x h]
  · rw [if_neg e, gt_put]
theorem doN_lane {n : Nat} (a : R33_Act) {x : NM} (h : NOk n x) : (doN a x).1 = (doL a (gtM x a.2.1)).1 ∧ (∀ q, gtM (doN a x).2 q = if q = a.2.1 then (doL a (gtM x a.2.1)).2 else gtM x q) ∧ NOk (n + 1) (doN a x).2 := by
  have hall := h.all a.2.1
  have triv : ∀ q, gtM x q = if q = a.2.1 then gtM x a.2.1 else gtM x q := fun q => by
    split
    · rename_i e; rw [e]
    · rfl
  have hsend : ∀ b : Str, NOk (n + 1) (sendN x a.2.1 b) := fun b => h.put a.2.1 (by simp) (by rw [List.length_append, List.length_singleton]; omega)
  unfold doN doL
  by_cases e1 : a.1 = 1
  · rw [if_pos e1, if_pos e1]
    exact ⟨rfl, fun q => gt_put _ _ _ _, hsend _⟩
  rw [if_neg e1, if_neg e1]
  by_cases e2 : a.1 = 2
  · rw [if_pos e2, if_pos e2]
    unfold takN
    by_cases e : gtM x a.2.1 = []
    · rw [if_pos e, if_pos e]; exact ⟨rfl, triv, h.mono (Nat.le_succ _)⟩
    · rw [if_neg e, if_neg e]
      exact ⟨rfl, fun q => gt_set h.aps _ _ _, h.set _ (Nat.le_trans (List.eraseIdx_sublist _ _).length_le (by omega))⟩
  rw [if_neg e2, if_neg e2]
  by_cases e3 : a.1 = 3
  · rw [if_pos e3, if_pos e3]
    unfold twiceN
    by_cases e : gtM x a.2.1 = []
    · rw [if_pos e, if_pos e]; exact ⟨rfl, triv, h.mono (Nat.le_succ _)⟩
    · rw [if_neg e, if_neg e]
      exact ⟨rfl, fun q => gt_put _ _ _ _, hsend _⟩
  rw [if_neg e3, if_neg e3]
  exact ⟨rfl, triv, h.mono (Nat.le_succ _)⟩

end Go.Eng

