/- Laws in plain Lean: t13 t13laws. -/
import Derived.Test.YthoojodooacjcaaDoorN13
namespace Go.Eng
open Go Go.Proofs Go.RowKit

/-! Chapter 13: members. -/
def zM : Member := ([], ([], ([], false)))
def memS (node v : Str) : Member × Bool × Unit :=
  bif nameS node && decide ((partsS v).length = 3) && nameS ((partsS v).getD 0 []) && nameS ((partsS v).getD 1 []) && ((partsS v).getD 2 [] == ([117, 112] : Str) || (partsS v).getD 2 [] == ([100, 111, 119, 110] : Str)) then
    ((node, ((partsS v).getD 0 [], ((partsS v).getD 1 [], (partsS v).getD 2 [] == ([117, 112] : Str)))), true, ()) else (zM, false, ())
theorem splitC_part (c : UInt8) (s : Str) (i : Nat) : ((splitC c s).getD i []).length ≤ s.length := by
  rw [List.getD]
  cases h : (splitC c s)[i]? with
  | none => exact Nat.zero_le _
  | some x => exact splitC_len c s x (List.mem_of_getElem? h)
theorem partsS_part (s : Str) (i : Nat) : ((partsS s).getD i []).length ≤ s.length := by
  unfold partsS
  cases s == []
  · exact splitC_part 47 s i
  · exact Nat.zero_le _
theorem member_run (node v : Str) (hv : v.length ≤ 100000) : (topo_Member_T node v).run = some (memS node v) := by
  unfold topo_Member_T memS
  refine (run_bnd (parts_run v (by omega))).trans ?_
  generalize partsS v = p
  refine (run_bnd (nameIs_run node)).trans ?_
  by_cases h3 : p.length = 3
  · have e : decide ((p.length : Int) = 3) = true := decide_eq_true (by omega)
    have e' : decide (p.length = 3) = true := decide_eq_true h3
    have i0 : inb 0 p.length = true := by rw [h3]; kernel_rfl
    have i1 : inb 1 p.length = true := by rw [h3]; kernel_rfl
    have i2 : inb 2 p.length = true := by rw [h3]; kernel_rfl
    have t0 : (0 : Int).toNat = 0 := rfl
    have t1 : (1 : Int).toNat = 1 := rfl
    have t2 : (2 : Int).toNat = 2 := rfl
    simp only [Tree.run, e, e', i0, i1, i2, t0, t1, t2, Bool.or_true, cond_true, nameIs_run, Option.bind_some, Option.isNone_some, Bool.and_false, cond_false, Option.getD_some]
    cases nameS node <;> cases nameS (p.getD 0 []) <;> cases nameS (p.getD 1 []) <;> cases hu : (p.getD 2 [] == ([117, 112] : Str)) <;> cases hd : (p.getD 2 [] == ([100, 111, 119, 110] : Str)) <;>
      simp only [Bool.not_true, Bool.not_false, Bool.or_true, Bool.true_or, Bool.or_self, Bool.and_true, Bool.and_false, Bool.and_self, Bool.false_and, Bool.or_false, Bool.false_or, cond_true, cond_false, if_true, zM] <;> rfl
  · have e : decide ((p.length : Int) = 3) = false := decide_eq_false (by omega)
    have e' : decide (p.length = 3) = false := decide_eq_false h3
    simp only [Tree.run, e, e', Bool.not_false, Bool.or_true, Bool.not_true, Bool.true_or, cond_true, Bool.and_false, Bool.false_and, cond_false, nameIs_run, Option.bind_some, Option.isNone_some, zM]
theorem rMember_run (node v : Str) (hn : node.length ≤ 100000) (hv : v.length ≤ 100000) : (r13_Member_T node v).run = some (memS node v) := by
  have hp := partsS_part v
  unfold r13_Member_T memS
  refine (run_bnd (rParts_run v (by omega))).trans ?_
  generalize partsS v = p at hp
  refine (run_bnd (r05Is_run node (by omega))).trans ?_
  have n0 := r05Is_run (p.getD 0 []) (by have := hp 0; omega)
  have n1 := r05Is_run (p.getD 1 []) (by have := hp 1; omega)
  by_cases h3 : p.length = 3
  · have e : decide ((p.length : Int) = 3) = true := decide_eq_true (by omega)
    have e' : decide (p.length = 3) = true := decide_eq_true h3
    have i0 : inb 0 p.length = true := by rw [h3]; kernel_rfl
    have i1 : inb 1 p.length = true := by rw [h3]; kernel_rfl
    have i2 : inb 2 p.length = true := by rw [h3]; kernel_rfl
    have t0 : (0 : Int).toNat = 0 := rfl
    have t1 : (1 : Int).toNat = 1 := rfl
    have t2 : (2 : Int).toNat = 2 := rfl
    simp only [Tree.run, e, e', i0, i1, i2, t0, t1, t2, Bool.or_true, cond_true, n0, n1, Option.bind_some, Option.isNone_some, Bool.and_false, cond_false, Option.getD_some]
    cases nameS node <;> cases nameS (p.getD 0 []) <;> cases nameS (p.getD 1 []) <;> cases hu : (p.getD 2 [] == ([117, 112] : Str)) <;> cases hd : (p.getD 2 [] == ([100, 111, 119, 110] : Str)) <;>
      simp only [Bool.not_true, Bool.not_false, Bool.or_true, Bool.true_or, Bool.or_self, Bool.and_true, Bool.and_false, Bool.and_self, Bool.false_and, Bool.or_false, Bool.false_or, cond_true, cond_false, if_true, zM] <;> rfl
  · have e : decide ((p.length : Int) = 3) = false := decide_eq_false (by omega)
    have e' : decide (p.length = 3) = false := decide_eq_false h3
    have t0 : (0 : Int).toNat = 0 := rfl
    have t1 : (1 : Int).toNat = 1 := rfl
    simp only [Tree.run, e, e', t0, t1, Bool.not_false, Bool.or_true, Bool.not_true, Bool.true_or, cond_true, Bool.and_false, Bool.false_and, cond_false, n0, n1, Option.bind_some, Option.isNone_some, zM]
/-- What one entry adds. -/
def addM (out : List Member) (x : Entry) : List Member := bif (memS (x.1.drop 5) x.2.2.2).2.1 then out ++ [(memS (x.1.drop 5) x.2.2.2).1] else out
def membersS (l : List Entry) : List Member := (l.filter (underB ([110, 111, 100, 101] : Str))).foldl addM []
theorem addM_len (out : List Member) (x : Entry) : (addM out x).length ≤ out.length + 1 := by
  unfold addM
  cases (memS (x.1.drop 5) x.2.2.2).2.1
  · exact Nat.le_succ _
  · simp
theorem members_run (l : List Entry) (hl : SmallE l) : (topo_Members_T l).run = some (membersS l) := by
  have hl1 := hl.1
  unfold topo_Members_T membersS
  refine (run_bnd (under_run l _ hl (by decide))).trans ?_
  have hu : ∀ x, x ∈ l.filter (underB ([110, 111, 100, 101] : Str)) → x ∈ l ∧ underB ([110, 111, 100, 101] : Str) x = true := fun x hx => List.mem_filter.1 hx
  have hlen : (l.filter (underB ([110, 111, 100, 101] : Str))).length ≤ 10000 := Nat.le_trans (List.length_filter_le _ _) hl1
  generalize l.filter (underB ([110, 111, 100, 101] : Str)) = u at hu hlen
  have hloop := fold_loop (st := fun v => (topo_Members_L3_step u (u.length : Int) v.1 v.2).run) u addM id (fun i (c : List Member) => ((i : Int), c)) (fun i c => c.length ≤ i) (fun i c hi hI => by
    obtain ⟨hx, hux⟩ := hu u[i] (List.getElem_mem hi)
    have hs := (hl.2 u[i] hx).2.2
    have ht : (strings_TrimPrefix_T u[i].1 ([110, 111, 100, 101, 47] : Str)).run = some (u[i].1.drop 5) := by
      show some (trimS u[i].1 ([110, 111, 100, 101, 47] : Str)) = _
      unfold trimS
      have : ([110, 111, 100, 101, 47] : Str).isPrefixOf u[i].1 = true := hux
      rw [this]; rfl
    refine ⟨?_, by have := addM_len c u[i]; omega⟩
    have hroom : ∀ m : Member, decide ((c ++ [m]).length * 56 ≤ roomNat) = true := fun m => room_le _ _ (by simp only [List.length_append, List.length_cons, List.length_nil]; omega) (by omega)
    unfold topo_Members_L3_step addM
    simp only [Tree.run, Int.ofNat_lt, hi, decide_true, cond_true, inb_nat, Int.toNat_natCast, getD_lt _ _ _ hi, ht, member_run _ _ (show u[i].2.2.2.length ≤ 100000 by omega), Option.bind_some, hroom, w64_i i (by omega)]
    cases (memS (u[i].1.drop 5) u[i].2.2.2).2.1 <;> simp only [cond_true, cond_false, if_true]) (fun c hI => by
    unfold topo_Members_L3_step
    simp only [Tree.run, Int.ofNat_lt, Nat.lt_irrefl, decide_false, cond_false]
    rfl) [] (Nat.zero_le _) (s0 := ((0 : Int), ([] : List Member))) rfl
  refine (run_bnd (a := u.foldl addM []) (by simp only [Tree.run]; exact hloop)).trans rfl
theorem rMembers_run (l : List Entry) (hl : SmallE l) : (r13_Members_T l).run = some (membersS l) := by
  have hl1 := hl.1
  unfold r13_Members_T membersS
  refine (run_bnd (rUnder_run l _ hl (by decide))).trans ?_
  have hu : ∀ x, x ∈ l.filter (underB ([110, 111, 100, 101] : Str)) → x ∈ l ∧ underB ([110, 111, 100, 101] : Str) x = true := fun x hx => List.mem_filter.1 hx
  have hlen : (l.filter (underB ([110, 111, 100, 101] : Str))).length ≤ 10000 := Nat.le_trans (List.length_filter_le _ _) hl1
  generalize l.filter (underB ([110, 111, 100, 101] : Str)) = u at hu hlen
  have hloop := fold_loop (st := fun v => (r13_Members_L4_step u v.1 v.2).run) u addM id (fun i (c : List Member) => ((i : Int), c)) (fun i c => c.length ≤ i) (fun i c hi hI => by
    obtain ⟨hx, hux⟩ := hu u[i] (List.getElem_mem hi)
    have hs := hl.2 u[i] hx
    have h5 : 5 ≤ u[i].1.length := by
      have : ([110, 111, 100, 101, 47] : Str).isPrefixOf u[i].1 = true := hux
      have := (List.isPrefixOf_iff_prefix.1 this).length_le
      simpa using this
    have hsub : subS u[i].1 (5 : Int).toNat u[i].1.length = u[i].1.drop 5 := by
      show (u[i].1.drop 5).take (u[i].1.length - 5) = _
      rw [List.take_of_length_le (by rw [List.length_drop]; exact Nat.le_refl _)]
    have i5 : inbe 5 u[i].1.length = true := by
      have := inbe_nat 5 u[i].1.length
      rw [show ((5 : Nat) : Int) = 5 from rfl] at this
      rw [this]; exact decide_eq_true h5
    have hd : (u[i].1.drop 5).length ≤ 100000 := by rw [List.length_drop]; omega
    refine ⟨?_, by have := addM_len c u[i]; omega⟩
    have hroom : ∀ m : Member, decide ((c ++ [m]).length * 56 ≤ roomNat) = true := fun m => room_le _ _ (by simp only [List.length_append, List.length_cons, List.length_nil]; omega) (by omega)
    unfold r13_Members_L4_step addM
    simp only [Tree.run, Int.ofNat_lt, hi, decide_true, cond_true, inb_nat, Int.toNat_natCast, getD_lt _ _ _ hi, hsub, i5, rMember_run _ _ hd (show u[i].2.2.2.length ≤ 100000 by omega), Option.bind_some, hroom, w64_i i (by omega)]
    cases (memS (u[i].1.drop 5) u[i].2.2.2).2.1 <;> simp only [cond_true, cond_false, if_true]) (fun c hI => by
    unfold r13_Members_L4_step
    simp only [Tree.run, Int.ofNat_lt, Nat.lt_irrefl, decide_false, cond_false]
    rfl) [] (Nat.zero_le _) (s0 := ((0 : Int), ([] : List Member))) rfl
  refine (run_bnd (a := u.foldl addM []) (by simp only [Tree.run]; exact hloop)).trans rfl
theorem membersS_len (l : List Entry) : (membersS l).length ≤ l.length := by
  have key : ∀ (u : List Entry) (c : List Member), (u.foldl addM c).length ≤ c.length + u.length := fun u => by
    induction u with
    | nil => intro c; exact Nat.le_refl _
    | cons x u ih =>
      intro c
      have h1 := ih (addM c x)
      have h2 := addM_len c x
      simp only [List.foldl_cons, List.length_cons]; omega
  have := key (l.filter (underB ([110, 111, 100, 101] : Str))) []
  have h2 := List.length_filter_le (underB ([110, 111, 100, 101] : Str)) l
  unfold membersS
  simp only [List.length_nil] at this; omega
theorem mSame_run (a b : List Member) (ha : a.length ≤ 1000000) (h : a = b) : (r13_Same_T a b).run = some true := by
  subst h
  unfold r13_Same_T
  have hl := same_loop (β := Bool ⊕ Unit) a.length (fun v => r13_Same_L4_step a a v) (.inr ()) (by omega) (fun i hi => by
    unfold r13_Same_L4_step
    simp only [Tree.run, Int.ofNat_lt, hi, decide_true, cond_true, inb_nat, Bool.and_self, beq_self_eq_true, Bool.not_true, cond_false]) (by unfold r13_Same_L4_step; simp [Tree.run])
  simp only [Tree.run, decide_true, Bool.not_true, cond_false]
  rw [hl]; rfl
def nodeK (n : Str) : Str := ([110, 111, 100, 101, 47] : Str) ++ n
theorem topoKey_run (n : Str) (hn : n.length ≤ 1000) : (topo_Key_T n).run = some (nodeK n) := by
  have e : joinS ([47] : Str) [([110, 111, 100, 101] : Str), n] = nodeK n := by unfold joinS nodeK; simp
  unfold topo_Key_T
  refine (run_bnd (path_run [([110, 111, 100, 101] : Str), n] (by simp) (by simp only [lenAll, List.map_cons, List.map_nil, List.sum_cons, List.sum_nil, List.length_cons, List.length_nil]; omega))).trans ?_
  rw [e]; rfl
theorem rTopoKey_run (n : Str) (hn : n.length ≤ 1000) : (r13_Key_T n).run = some (nodeK n) := by
  unfold r13_Key_T
  exact (run_ask (decide_eq_true (by simp only [List.length_cons, List.length_nil]; omega))).trans rfl
def stateS (b : Bool) : Str := bif b then [117, 112] else [100, 111, 119, 110]
def valS (m : Member) : Str × Int × Unit := bif nameS m.2.1 && nameS m.2.2.1 then (joinS ([47] : Str) [m.2.1, m.2.2.1, stateS m.2.2.2], 0, ()) else ([], 1, ())
theorem value_run (m : Member) (h1 : m.2.1.length ≤ 1000) (h2 : m.2.2.1.length ≤ 1000) : (topo_Value_T m).run = some (valS m) := by
  have hj : ∀ s : Str, s.length ≤ 4 → (name_Path_T [m.2.1, m.2.2.1, s]).run = some (joinS ([47] : Str) [m.2.1, m.2.2.1, s]) := fun s hs =>
    path_run _ (by simp) (by simp only [lenAll, List.map_cons, List.map_nil, List.sum_cons, List.sum_nil]; omega)
  unfold topo_Value_T valS stateS
  simp only [Tree.run, nameIs_run, hj _ (show ([117, 112] : Str).length ≤ 4 by decide), hj _ (show ([100, 111, 119, 110] : Str).length ≤ 4 by decide), Option.bind_some, Option.isNone_some, Bool.and_false, cond_false, Option.getD_some]
  cases nameS m.2.1 <;> cases nameS m.2.2.1 <;> cases m.2.2.2 <;> rfl
theorem rValue_run (m : Member) (h1 : m.2.1.length ≤ 1000) (h2 : m.2.2.1.length ≤ 1000) : (r13_Value_T m).run = some (valS m) := by
  have e : ∀ s : Str, joinS ([47] : Str) [m.2.1, m.2.2.1, s] = (((m.2.1 ++ ([47] : Str)) ++ m.2.2.1) ++ ([47] : Str)) ++ s := fun s => by unfold joinS; simp
  have q1 : decide (m.2.1.length + ([47] : Str).length ≤ 9223372036854775807) = true := decide_eq_true (by simp only [List.length_cons, List.length_nil]; omega)
  have q2 : decide ((m.2.1 ++ ([47] : Str)).length + m.2.2.1.length ≤ 9223372036854775807) = true := decide_eq_true (by simp only [List.length_append, List.length_cons, List.length_nil]; omega)
  have q3 : decide (((m.2.1 ++ ([47] : Str)) ++ m.2.2.1).length + ([47] : Str).length ≤ 9223372036854775807) = true := decide_eq_true (by simp only [List.length_append, List.length_cons, List.length_nil]; omega)
  have q4 : decide ((((m.2.1 ++ ([47] : Str)) ++ m.2.2.1) ++ ([47] : Str)).length + ([117, 112] : Str).length ≤ 9223372036854775807) = true := decide_eq_true (by simp only [List.length_append, List.length_cons, List.length_nil]; omega)
  have q5 : decide ((((m.2.1 ++ ([47] : Str)) ++ m.2.2.1) ++ ([47] : Str)).length + ([100, 111, 119, 110] : Str).length ≤ 9223372036854775807) = true := decide_eq_true (by simp only [List.length_append, List.length_cons, List.length_nil]; omega)
  unfold r13_Value_T valS stateS
  simp only [Tree.run, r05Is_run _ (show m.2.1.length ≤ 1000000 by omega), r05Is_run _ (show m.2.2.1.length ≤ 1000000 by omega), q1, q2, q3, q4, q5, e, Option.bind_some, Option.isNone_some, Bool.and_false, cond_true, cond_false, Option.getD_some]
  cases nameS m.2.1 <;> cases nameS m.2.2.1 <;> cases m.2.2.2 <;> rfl
theorem up_run (l : List Member) (hl : l.length ≤ 10000) : (topo_Up_T l).run = some (l.filter fun x => x.2.2.2) := by
  unfold topo_Up_T
  refine (run_bnd (slices_Clone_Member_run l (by omega))).trans ?_
  refine (run_bnd (slices_DeleteFunc_Member_topo_Up_1_run l (fun x => !x.2.2.2) (by omega) (fun x _ => rfl))).trans ?_
  simp only [Tree.run, Bool.not_not]
theorem rUp_run (l : List Member) (hl : l.length ≤ 10000) : (r13_Up_T l).run = some (l.filter fun x => x.2.2.2) := by
  unfold r13_Up_T
  have h := filter_loop l (fun x : Member => x.2.2.2) (fun v => r13_Up_L3_step l v.1 v.2) (by omega) (fun i c hi hc => by
    have hr : decide ((c ++ [l[i]]).length * 56 ≤ roomNat) = true := room_le _ _ (by simp only [List.length_append, List.length_cons, List.length_nil]; omega) (by omega)
    unfold r13_Up_L3_step
    simp only [Tree.run, Int.ofNat_lt, hi, decide_true, cond_true, inb_nat, Int.toNat_natCast, getD_lt _ _ _ hi, hr]
    cases l[i].2.2.2 <;> rfl) (fun c => by unfold r13_Up_L3_step; simp [Tree.run])
  exact (run_bnd (by simp only [Tree.run]; exact h)).trans rfl
theorem map_fold {α β : Type} (g : α → β) (l : List α) (c : List β) : l.foldl (fun out x => out ++ [g x]) c = c ++ l.map g := by
  induction l generalizing c with
  | nil => simp
  | cons x l ih => simp only [List.foldl_cons, List.map_cons, ih, List.append_assoc]; rfl
theorem sort_run (l : List Str) (hl : l.length ≤ 1000000) : (slices_Sort_string_T l).run = some ((), (sortS l, ())) := by
  unfold slices_Sort_string_T
  exact (run_ask (decide_eq_true (by omega))).trans rfl
theorem racks_run (l : List Member) (hl : l.length ≤ 10000) : (topo_Racks_T l).run = some (setS (l.map fun m => m.2.1)) := by
  have h := fold_loop (st := fun v => (topo_all_topo_place_rack_L3_step l (l.length : Int) v.1 v.2).run) l (fun out (m : Member) => out ++ [m.2.1]) id (fun i (c : List Str) => ((i : Int), c)) (fun i c => c.length ≤ i) (fun i c hi hI => by
    have hr : decide ((c ++ [l[i].2.1]).length * 16 ≤ roomNat) = true := room_le _ _ (by simp only [List.length_append, List.length_cons, List.length_nil]; omega) (by omega)
    refine ⟨?_, by simp only [List.length_append, List.length_cons, List.length_nil]; omega⟩
    unfold topo_all_topo_place_rack_L3_step topo_place_rack_T
    simp only [Tree.run, Int.ofNat_lt, hi, decide_true, cond_true, inb_nat, Int.toNat_natCast, getD_lt _ _ _ hi, Option.bind_some, hr, w64_i i (by omega)]) (fun c hI => by
    unfold topo_all_topo_place_rack_L3_step
    simp only [Tree.run, Int.ofNat_lt, Nat.lt_irrefl, decide_false, cond_false]
    rfl) [] (Nat.zero_le _) (s0 := ((0 : Int), ([] : List Str))) rfl
  rw [map_fold, List.nil_append] at h
  unfold topo_Racks_T topo_all_topo_place_rack_T
  refine (run_bnd (a := setS (l.map fun m => m.2.1)) ?_).trans rfl
  refine (run_bnd (by simp only [Tree.run]; exact h)).trans ?_
  refine (run_bnd (sort_run _ (by show (l.map _).length ≤ _; rw [List.length_map]; omega))).trans ?_
  rfl
theorem zones_run (l : List Member) (hl : l.length ≤ 10000) : (topo_Zones_T l).run = some (setS (l.map fun m => m.2.2.1)) := by
  have h := fold_loop (st := fun v => (topo_all_topo_place_zone_L3_step l (l.length : Int) v.1 v.2).run) l (fun out (m : Member) => out ++ [m.2.2.1]) id (fun i (c : List Str) => ((i : Int), c)) (fun i c => c.length ≤ i) (fun i c hi hI => by
    have hr : decide ((c ++ [l[i].2.2.1]).length * 16 ≤ roomNat) = true := room_le _ _ (by simp only [List.length_append, List.length_cons, List.length_nil]; omega) (by omega)
    refine ⟨?_, by simp only [List.length_append, List.length_cons, List.length_nil]; omega⟩
    unfold topo_all_topo_place_zone_L3_step topo_place_zone_T
    simp only [Tree.run, Int.ofNat_lt, hi, decide_true, cond_true, inb_nat, Int.toNat_natCast, getD_lt _ _ _ hi, Option.bind_some, hr, w64_i i (by omega)]) (fun c hI => by
    unfold topo_all_topo_place_zone_L3_step
    simp only [Tree.run, Int.ofNat_lt, Nat.lt_irrefl, decide_false, cond_false]
    rfl) [] (Nat.zero_le _) (s0 := ((0 : Int), ([] : List Str))) rfl
  rw [map_fold, List.nil_append] at h
  unfold topo_Zones_T topo_all_topo_place_zone_T
  refine (run_bnd (a := setS (l.map fun m => m.2.2.1)) ?_).trans rfl
  refine (run_bnd (by simp only [Tree.run]; exact h)).trans ?_
  refine (run_bnd (sort_run _ (by show (l.map _).length ≤ _; rw [List.length_map]; omega))).trans ?_
  rfl
theorem putS_run (l : List Str) (n : Str) (hl : l.length ≤ 100000) : (r13_put_T l n).run = some (insL ltS n l) := by
  unfold r13_put_T
  have hle := geI_le ltS n l
  simp only [Tree.run]
  rw [ge_loop ltS n l (fun v => r13_put_L2_step l n v) (by omega) (fun i hi => by
    unfold r13_put_L2_step
    simp only [Tree.run, Int.ofNat_lt, hi, decide_true, inb_nat, Bool.or_true, cond_true, Int.toNat_natCast, getD_lt _ _ _ hi, Bool.true_and]
    cases ltS l[i] n <;> rfl) (by unfold r13_put_L2_step; simp [Tree.run]), insL_ge]
  simp only [Option.bind_some]
  by_cases hlt : geI ltS n l < l.length
  · have hlt' : decide (((geI ltS n l : Nat) : Int) < (l.length : Int)) = true := by rw [decide_eq_true_eq]; omega
    have hat := geI_at ltS n l hlt
    rw [dif_pos hlt]
    generalize geI ltS n l = k at *
    simp only [hlt', hlt, inb_nat, inbe_nat, hle, decide_true, Bool.or_true, cond_true, Int.toNat_natCast, getD_lt _ _ _ hlt, Bool.true_and]
    by_cases he : l[k] = n
    · have hirr : ltS n l[k] = false := by rw [he]; exact soS.irr n
      have : (l[k] == n) = true := by rw [he]; exact beq_self_eq_true n
      simp only [this, hirr, cond_true, Bool.false_eq_true, if_false]
    · have hgt : ltS n l[k] = true := by
        cases h : ltS n l[k] with
        | true => rfl
        | false => exact absurd (soS.tot _ _ hat h) he
      have hne : (l[k] == n) = false := by rw [beq_eq_false_iff_ne]; exact he
      have q1 : (l.take k).length ≤ 1000000 := by rw [List.length_take]; omega
      have q2 : (l.take k ++ [n]).length ≤ 1000000 := by rw [List.length_append, List.length_take]; simp; omega
      have q3 : ((l.take k ++ [n]) ++ l.drop k).length ≤ 1000000 := by rw [List.length_append, List.length_append, List.length_take, List.length_drop]; simp; omega
      simp only [hne, hgt, cond_false, if_true, room_le _ 16 q1 (by omega), room_le _ 16 q2 (by omega), room_le _ 16 q3 (by omega), cond_true]
      rw [List.append_assoc]; rfl
  · have hk : geI ltS n l = l.length := by omega
    rw [dif_neg hlt, hk]
    have q1 : (l.take l.length).length ≤ 1000000 := by rw [List.length_take]; omega
    have q2 : (l.take l.length ++ [n]).length ≤ 1000000 := by rw [List.length_append, List.length_take]; simp; omega
    have q3 : ((l.take l.length ++ [n]) ++ l.drop l.length).length ≤ 1000000 := by rw [List.length_append, List.length_append, List.length_take, List.length_drop]; simp; omega
    have hlt' : decide ((l.length : Int) < (l.length : Int)) = false := decide_eq_false (by omega)
    simp only [hlt', Bool.not_false, Bool.true_or, Bool.false_and, cond_true, cond_false, inbe_nat, Nat.le_refl, decide_true, Int.toNat_natCast, room_le _ 16 q1 (by omega), room_le _ 16 q2 (by omega), room_le _ 16 q3 (by omega)]
    rw [List.take_length, List.drop_length, List.append_nil]
theorem insAll_len (l : List Str) : ∀ acc : List Str, (insAll ltS acc l).length ≤ acc.length + l.length := by
  have one : ∀ (x : Str) (acc : List Str), (insL ltS x acc).length ≤ acc.length + 1 := fun x acc => by
    induction acc with
    | nil => exact Nat.le_refl _
    | cons y acc ih =>
      simp only [insL]
      cases ltS y x with
      | true => simp only [List.length_cons]; omega
      | false => cases ltS x y <;> simp
  unfold insAll
  induction l with
  | nil => intro acc; exact Nat.le_refl _
  | cons x l ih =>
    intro acc
    have h1 := ih (insL ltS x acc)
    have h2 := one x acc
    simp only [List.foldl_cons, List.length_cons]; omega
theorem insMap (l : List Member) (g : Member → Str) (st : (List Str × Int) → Tree ((List Str × Int) ⊕ List Str)) (hl : l.length ≤ 10000)
    (h : ∀ (out : List Str) (i : Nat) (hi : i < l.length), out.length ≤ 100000 → (st (out, (i : Int))).run = some (.inl (insL ltS (g l[i]) out, w64 ((i : Int) + 1)))) (h0 : ∀ out, (st (out, (l.length : Int))).run = some (.inr out)) :
    loopF (fun v => (st v).run) ([], 0) = some (setS (l.map g)) := by
  rw [fold_loop (st := fun v => (st v).run) l (fun out m => insL ltS (g m) out) id (fun i (c : List Str) => (c, (i : Int))) (fun i c => c.length ≤ i) (fun i c hi hI => by
    have h2 := insAll_len [g l[i]] c
    refine ⟨?_, by
      have : insAll ltS c [g l[i]] = insL ltS (g l[i]) c := rfl
      rw [this] at h2; simp only [List.length_cons, List.length_nil] at h2; omega⟩
    show (st (c, (i : Int))).run = _
    rw [h c i hi (by omega), w64_i i (by omega)]) (fun c hI => h0 c) [] (Nat.zero_le _) (s0 := (([] : List Str), (0 : Int))) rfl]
  rw [← insAll_setS]
  unfold insAll
  rw [List.foldl_map]; rfl
theorem rRacks_run (l : List Member) (hl : l.length ≤ 10000) : (r13_Racks_T l).run = some (setS (l.map fun m => m.2.1)) := by
  have h := insMap l (fun m => m.2.1) (fun v => r13_Racks_L3_step l v.1 v.2) hl (fun out i hi ho => by
    unfold r13_Racks_L3_step
    simp only [Tree.run, Int.ofNat_lt, hi, decide_true, cond_true, inb_nat, Int.toNat_natCast, getD_lt _ _ _ hi, putS_run out _ ho, Option.bind_some]) (fun out => by unfold r13_Racks_L3_step; simp [Tree.run])
  exact (run_bnd (by simp only [Tree.run]; exact h)).trans rfl
theorem rZones_run (l : List Member) (hl : l.length ≤ 10000) : (r13_Zones_T l).run = some (setS (l.map fun m => m.2.2.1)) := by
  have h := insMap l (fun m => m.2.2.1) (fun v => r13_Zones_L3_step l v.1 v.2) hl (fun out i hi ho => by
    unfold r13_Zones_L3_step
    simp only [Tree.run, Int.ofNat_lt, hi, decide_true, cond_true, inb_nat, Int.toNat_natCast, getD_lt _ _ _ hi, putS_run out _ ho, Option.bind_some]) (fun out => by unfold r13_Zones_L3_step; simp [Tree.run])
  exact (run_bnd (by simp only [Tree.run]; exact h)).trans rfl
def q13 (x : Member) : Bool := (decide ((100 : Int) < (x.1.length : Int)) || decide ((100 : Int) < (x.2.1.length : Int))) || decide ((100 : Int) < (x.2.2.1.length : Int))
theorem few13_run (l : List Member) (most : Nat) (hm : most ≤ 1000) (m' : Int) (hm' : m' = (most : Int)) : (r13_Few_T l m').run = some (fewB q13 most l) := by
  unfold r13_Few_T
  refine few_tree l most q13 (fun v => r13_Few_L2_step l m' v) (by omega) m' hm' (fun i hi hm => ?_) (fun i hi => ?_)
  · have h4 : (i : Int) < m' := by omega
    unfold r13_Few_L2_step q13
    simp only [Tree.run, Int.ofNat_lt, hi, h4, decide_true, cond_true, inb_nat, Int.toNat_natCast, getD_lt _ _ _ hi, Bool.and_true, Bool.or_true]
    generalize (((decide ((100 : Int) < (l[i].1.length : Int))) || (decide ((100 : Int) < (l[i].2.1.length : Int)))) || (decide ((100 : Int) < (l[i].2.2.1.length : Int)))) = z
    cases z <;> rfl
  · have : (decide ((i : Int) < (l.length : Int)) && decide ((i : Int) < m')) = false := by
      simp only [Bool.and_eq_false_iff, decide_eq_false_iff_not]; omega
    unfold r13_Few_L2_step
    simp only [Tree.run, this, cond_false]
theorem few13_mem {l : List Member} {most : Nat} (h : fewB q13 most l = true) : ∀ x ∈ l, x.1.length ≤ 100 ∧ x.2.1.length ≤ 100 ∧ x.2.2.1.length ≤ 100 := by
  intro x hx
  have := fewB_mem h hx
  unfold q13 at this
  simp only [Bool.or_eq_false_iff, decide_eq_false_iff_not] at this
  omega

theorem awake13 : l13_awake_T.run = some true := by
  have sm : ∀ l : List Entry, l = [(([110, 111, 100, 101, 47, 110, 49] : Str), ((1 : Int), (([] : Str), ([114, 49, 47, 122, 49, 47, 117, 112] : Str)))), (([110, 111, 100, 101, 47, 110, 50] : Str), ((1 : Int), (([] : Str), ([120] : Str))))] → SmallE l := fun l hl => by
    subst hl
    exact ⟨by decide, by decide⟩
  unfold l13_awake_T
  refine (run_bnd (a := (([114, 49, 47, 122, 49, 47, 117, 112] : Str), (0 : Int), ())) ((value_run _ (by decide) (by decide)).trans (by kernel_rfl))).trans ?_
  refine (run_bnd (a := ((([110, 49] : Str), (([114, 49] : Str), (([122, 49] : Str), true))), true, ())) ((member_run _ _ (by decide)).trans (by kernel_rfl))).trans ?_
  refine (run_bnd (a := (zM, false, ())) ((member_run _ _ (by decide)).trans (by kernel_rfl))).trans ?_
  refine (run_bnd (a := ([110, 111, 100, 101, 47, 110, 49] : Str)) ((topoKey_run _ (by decide)).trans (by kernel_rfl))).trans ?_
  refine (run_bnd (a := [(([110, 49] : Str), (([114, 49] : Str), (([122, 49] : Str), true)))]) ((members_run _ (sm _ rfl)).trans (by kernel_rfl))).trans ?_
  refine (run_grd (mSame_run _ _ (by decide) rfl)).trans ?_
  refine (run_grd (up_run _ (by decide))).trans ?_
  refine (run_grd (a := [([114, 49] : Str)]) ((racks_run _ (by decide)).trans (by kernel_rfl))).trans ?_
  refine (run_grd (sameTexts_run _ _ (by decide) rfl)).trans ?_
  refine (run_grd (a := [([122, 49] : Str)]) ((zones_run _ (by decide)).trans (by kernel_rfl))).trans ?_
  refine (run_grd (sameTexts_run _ _ (by decide) rfl)).trans ?_
  show some _ = some true
  kernel_rfl
theorem topoTells_law (x : ElP l13_TopoTells_g.ps) (_ : okP l13_TopoTells_g.ps x) : (l13_TopoTells_g.f x).run = some true := by
  obtain ⟨l, n, v, _⟩ := x
  show (l13_TopoTells_T l n v).run = _
  unfold l13_TopoTells_T
  refine (run_bnd (few10_run l 30 (by omega) 30 rfl)).trans ?_
  by_cases hc : (((!(fewB q10 30 l)) || (decide ((200 : Int) < (n.length : Int)))) || (decide ((200 : Int) < (v.length : Int)))) = true
  · exact (run_t hc).trans ((run_bnd awake13).trans rfl)
  · have hc := Bool.not_eq_true _ ▸ hc
    refine (run_f hc).trans ?_
    simp only [Bool.or_eq_false_iff, Bool.not_eq_false', decide_eq_false_iff_not] at hc
    obtain ⟨⟨hf, hn⟩, hv⟩ := hc
    have hl := few10_small (by omega) hf
    have hl1 := hl.1
    have hlen := membersS_len l
    refine (run_bnd (member_run n v (by omega))).trans ?_
    refine (run_bnd (rMember_run n v (by omega) (by omega))).trans ?_
    refine (run_grd (members_run l hl)).trans ?_
    refine (run_grd (rMembers_run l hl)).trans ?_
    refine (run_grd (mSame_run _ _ (by omega) rfl)).trans ?_
    refine (run_grd (topoKey_run n (by omega))).trans ?_
    refine (run_grd (rTopoKey_run n (by omega))).trans ?_
    refine (run_grd awake13).trans ?_
    simp only [Tree.run, beq_self_eq_true, Bool.and_true]
theorem setS_len (l : List Str) : (setS l).length ≤ l.length := (setS_ok l).2.2
theorem topoSets_law (x : ElP l13_TopoSets_g.ps) (_ : okP l13_TopoSets_g.ps x) : (l13_TopoSets_g.f x).run = some true := by
  obtain ⟨l, m, _⟩ := x
  show (l13_TopoSets_T l m).run = _
  unfold l13_TopoSets_T
  refine (run_bnd (few13_run l 40 (by omega) 40 rfl)).trans ?_
  refine (run_grd (few13_run [m] 1 (by omega) 1 rfl)).trans ?_
  by_cases hc : ((!(fewB q13 40 l)) || (!(fewB q13 1 [m]))) = true
  · exact (run_t hc).trans ((run_bnd awake13).trans rfl)
  · have hc := Bool.not_eq_true _ ▸ hc
    refine (run_f hc).trans ?_
    simp only [Bool.or_eq_false_iff, Bool.not_eq_false'] at hc
    have hl := fewB_len hc.1
    have hm := few13_mem hc.2 m (by simp)
    have h1 := List.length_filter_le (fun x : Member => x.2.2.2) l
    have h2 := setS_len (l.map fun m => m.2.1)
    have h3 := setS_len (l.map fun m => m.2.2.1)
    rw [List.length_map] at h2 h3
    refine (run_bnd (value_run m (by omega) (by omega))).trans ?_
    refine (run_bnd (rValue_run m (by omega) (by omega))).trans ?_
    refine (run_grd (up_run l (by omega))).trans ?_
    refine (run_grd (rUp_run l (by omega))).trans ?_
    refine (run_grd (mSame_run _ _ (by omega) rfl)).trans ?_
    refine (run_grd (racks_run l (by omega))).trans ?_
    refine (run_grd (rRacks_run l (by omega))).trans ?_
    refine (run_grd (sameTexts_run _ _ (Nat.le_trans h2 (by omega)) rfl)).trans ?_
    refine (run_grd (zones_run l (by omega))).trans ?_
    refine (run_grd (rZones_run l (by omega))).trans ?_
    refine (run_grd (sameTexts_run _ _ (Nat.le_trans h3 (by omega)) rfl)).trans ?_
    refine (run_grd awake13).trans ?_
    simp only [Tree.run, decide_true, beq_self_eq_true, Bool.and_true]
theorem mem_val {m : Member} (h1 : nameS m.2.1 = true) (h2 : nameS m.2.2.1 = true) : memS m.1 (joinS ([47] : Str) [m.2.1, m.2.2.1, stateS m.2.2.2]) = bif nameS m.1 then (m, true, ()) else (zM, false, ()) := by
  have hs : nameS (stateS m.2.2.2) = true := by cases m.2.2.2 <;> rfl
  have hp : partsS (joinS ([47] : Str) [m.2.1, m.2.2.1, stateS m.2.2.2]) = [m.2.1, m.2.2.1, stateS m.2.2.2] := parts_path _ fun x hx => by
    simp only [List.mem_cons, List.not_mem_nil, or_false] at hx
    rcases hx with rfl | rfl | rfl
    · exact h1
    · exact h2
    · exact hs
  unfold memS
  rw [hp]
  have e0 : [m.2.1, m.2.2.1, stateS m.2.2.2].getD 0 [] = m.2.1 := rfl
  have e1 : [m.2.1, m.2.2.1, stateS m.2.2.2].getD 1 [] = m.2.2.1 := rfl
  have e2 : [m.2.1, m.2.2.1, stateS m.2.2.2].getD 2 [] = stateS m.2.2.2 := rfl
  have e3 : decide ([m.2.1, m.2.2.1, stateS m.2.2.2].length = 3) = true := rfl
  rw [e0, e1, e2, e3, h1, h2]
  obtain ⟨a, b, c, d⟩ := m
  cases nameS a <;> cases d <;> rfl
theorem members_more (l : List Entry) (x : Entry) (h : underB ([110, 111, 100, 101] : Str) x = false) : membersS (l ++ [x]) = membersS l := by
  unfold membersS
  rw [List.filter_append]
  have : [x].filter (underB ([110, 111, 100, 101] : Str)) = [] := by simp [h]
  rw [this, List.append_nil]
theorem topoBack_law (x : ElP l13_TopoBack_g.ps) (_ : okP l13_TopoBack_g.ps x) : (l13_TopoBack_g.f x).run = some true := by
  obtain ⟨l, m, y, _⟩ := x
  show (l13_TopoBack_T l m y).run = _
  unfold l13_TopoBack_T
  refine (run_bnd (few10_run l 30 (by omega) 30 rfl)).trans ?_
  refine (run_grd (few13_run [m] 1 (by omega) 1 rfl)).trans ?_
  refine (run_grd (few10_run [y] 1 (by omega) 1 rfl)).trans ?_
  by_cases hc : (((!(fewB q10 30 l)) || (!(fewB q13 1 [m]))) || (!(fewB q10 1 [y]))) = true
  · exact (run_t hc).trans ((run_bnd awake13).trans rfl)
  · have hc := Bool.not_eq_true _ ▸ hc
    refine (run_f hc).trans ?_
    simp only [Bool.or_eq_false_iff, Bool.not_eq_false'] at hc
    obtain ⟨⟨hf, hm⟩, hy⟩ := hc
    have hl := few10_small (by omega) hf
    have hl30 := fewB_len hf
    have hm1 := few13_mem hm m (by simp)
    have hy1 := few10_mem hy y (by simp)
    have hl2 : SmallE (l ++ [y]) := ⟨by simp only [List.length_append, List.length_cons, List.length_nil]; omega, fun z hz => by
      rcases List.mem_append.1 hz with hz | hz
      · exact hl.2 z hz
      · rw [List.mem_singleton.1 hz]; exact hy1⟩
    have hlen := membersS_len l
    have r1 : decide (l.length * 56 ≤ roomNat) = true := room_le _ _ (by omega) (by omega)
    have r2 : decide ((l ++ [y]).length * 56 ≤ roomNat) = true := room_le _ _ (by simp only [List.length_append, List.length_cons, List.length_nil]; omega) (by omega)
    -- what comes behind
    have i5 : ((!(decide ((5 : Int) ≤ (y.1.length : Int)))) || inbe 5 y.1.length) = true := by
      have := inbe_nat 5 y.1.length
      rw [show ((5 : Nat) : Int) = 5 from rfl] at this
      rw [this]
      by_cases h : 5 ≤ y.1.length
      · rw [decide_eq_true h, Bool.or_true]
      · rw [decide_eq_false (by omega : ¬ (5 : Int) ≤ (y.1.length : Int))]; rfl
    have hund : ((decide ((5 : Int) ≤ (y.1.length : Int))) && ((subS y.1 0 (5 : Int).toNat) == ([110, 111, 100, 101, 47] : Str))) = false → underB ([110, 111, 100, 101] : Str) y = false := fun h => by
      cases hu : underB ([110, 111, 100, 101] : Str) y with
      | false => rfl
      | true =>
        have hpre : ([110, 111, 100, 101, 47] : Str).isPrefixOf y.1 = true := hu
        have hp := List.isPrefixOf_iff_prefix.1 hpre
        have h5 : 5 ≤ y.1.length := by have := hp.length_le; simpa using this
        have e : subS y.1 0 (5 : Int).toNat = ([110, 111, 100, 101, 47] : Str) := by
          show (y.1.drop 0).take 5 = _
          rw [List.drop_zero]
          exact (List.prefix_iff_eq_take.1 hp).symm
        rw [e, beq_self_eq_true, decide_eq_true (by omega : (5 : Int) ≤ (y.1.length : Int))] at h
        cases h
    have hback : ∀ hp : ((decide ((5 : Int) ≤ (y.1.length : Int))) && ((subS y.1 0 (5 : Int).toNat) == ([110, 111, 100, 101, 47] : Str))) = false, (topo_Members_T (l ++ [y])).run = some (membersS l) := fun hp => by
      rw [members_run _ hl2, members_more l y (hund hp)]
    have hsame := mSame_run (membersS l) (membersS l) (by omega) rfl
    refine (run_bnd (value_run m (by omega) (by omega))).trans ?_
    cases hv : decide ((valS m).2.1 = 0) with
    | true =>
      refine (run_t rfl).trans ?_
      have hvv : nameS m.2.1 = true ∧ nameS m.2.2.1 = true := by
        unfold valS at hv
        cases h1 : nameS m.2.1 <;> cases h2 : nameS m.2.2.1 <;> rw [h1, h2] at hv <;> first | exact ⟨rfl, rfl⟩ | (exact absurd (show (false : Bool) = true from hv) (by decide))
      have hval : (valS m).1 = joinS ([47] : Str) [m.2.1, m.2.2.1, stateS m.2.2.2] := by unfold valS; rw [hvv.1, hvv.2]; rfl
      rw [hval]
      have hjl := joinS_len [m.2.1, m.2.2.1, stateS m.2.2.2]
      have hst : (stateS m.2.2.2).length ≤ 4 := by cases m.2.2.2 <;> decide
      refine (run_bnd (member_run m.1 _ (by
        simp only [lenAll, List.map_cons, List.map_nil, List.sum_cons, List.sum_nil, List.length_cons, List.length_nil] at hjl; omega))).trans ?_
      rw [mem_val hvv.1 hvv.2]
      refine (run_f ?_).trans ?_
      · cases nameS m.1
        · rfl
        · simp only [cond_true, beq_self_eq_true, Bool.and_self, Bool.not_true, Bool.and_false]
      · refine (run_ask i5).trans ?_
        cases hp : ((decide ((5 : Int) ≤ (y.1.length : Int))) && ((subS y.1 0 (5 : Int).toNat) == ([110, 111, 100, 101, 47] : Str))) with
        | true => exact (run_t rfl).trans ((run_bnd awake13).trans rfl)
        | false =>
          refine (run_f rfl).trans ?_
          simp only [Tree.run, r1, r2, cond_true, hback hp, members_run l hl, hsame, awake13, Option.bind_some, Option.isNone_some, Bool.and_false, cond_false, Option.getD_some, Bool.and_self, if_true]
    | false =>
      refine (run_f rfl).trans ?_
      refine (run_ask i5).trans ?_
      cases hp : ((decide ((5 : Int) ≤ (y.1.length : Int))) && ((subS y.1 0 (5 : Int).toNat) == ([110, 111, 100, 101, 47] : Str))) with
      | true => exact (run_t rfl).trans ((run_bnd awake13).trans rfl)
      | false =>
        refine (run_f rfl).trans ?_
        simp only [Tree.run, r1, r2, cond_true, hback hp, members_run l hl, hsame, awake13, Option.bind_some, Option.isNone_some, Bool.and_false, cond_false, Option.getD_some, Bool.and_self, if_true]

end Go.Eng

