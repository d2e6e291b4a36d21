/- Laws in plain Lean: c39. -/
import Derived.Test.YtapnoaalcbcmaaaA39
namespace Go.Eng
open Go Go.Proofs Go.RowKit

/-! The document's hand-overs: a rising list. -/
theorem flat_loop {α β ρ : Type} (L : List α) (f : α → List β) (hf : ∀ x, (f x).length ≤ 1) (st : Int × List β → Tree ((Int × List β) ⊕ ρ)) (fin : List β → ρ) (hl : L.length ≤ 1000000)
    (h : ∀ i (hi : i < L.length) (out : List β), out.length ≤ i → (st ((i : Int), out)).run = some (.inl (w64 ((i : Int) + 1), out ++ f L[i]))) (h0 : ∀ out, (st ((L.length : Int), out)).run = some (.inr (fin out))) :
    loopF (fun v : Int × List β => (st v).run) (0, []) = some (fin (L.flatMap f)) := by
  have hlen : ∀ i, ((L.take i).flatMap f).length ≤ i := fun i => by
    have : ∀ l : List α, (l.flatMap f).length ≤ l.length := fun l => by
      induction l with
      | nil => exact Nat.le_refl _
      | cons x l ih => rw [List.flatMap_cons, List.length_append, List.length_cons]; have := hf x; omega
    refine Nat.le_trans (this _) ?_
    rw [List.length_take]; omega
  refine loopF_run (S := fun i => (((i : Nat) : Int), (L.take i).flatMap f)) (n := L.length) (fun i hi => ?_) ?_ rfl
  · show (st ((i : Int), (L.take i).flatMap f)).run = _
    rw [h i hi _ (hlen i), w64_nat i (by omega)]
    rw [List.take_add_one, List.getElem?_eq_getElem hi, Option.toList_some, List.flatMap_append, List.flatMap_singleton]
  · show (st ((L.length : Int), (L.take L.length).flatMap f)).run = _
    rw [h0, List.take_length]
abbrev OvL : Type := List R39_Over
def rdropL (L : OvL) (k : Str) : OvL := L.flatMap fun x => if x.2.1 = k then [] else [x]
theorem rdrop_run (k : Str) (a : Int) (L : OvL) (hl : L.length ≤ 1000000) : (r39_Hand_Drop_T k a L).run = some ((), ((a, ((), ())), (rdropL L k, ()))) := by
  unfold r39_Hand_Drop_T
  have hloop : (Tree.loop (fun v => r39_Hand_Drop_L2_step k a L v.1 v.2) (0, ([] : OvL))).run = some (rdropL L k) := by
    refine flat_loop L (fun x => if x.2.1 = k then [] else [x]) (fun x => by split <;> simp) (fun v => r39_Hand_Drop_L2_step k a L v.1 v.2) id hl (fun i hi out ho => ?_) (fun out => ?_)
    · have hb : inb (i : Int) L.length = true := by rw [inb_nat]; exact decide_eq_true hi
      unfold r39_Hand_Drop_L2_step
      simp only [Int.toNat_natCast, getD_lt _ _ _ hi]
      refine (run_t (decide_eq_true (by omega))).trans ((run_ask hb).trans ?_)
      by_cases e : L[i].2.1 = k
      · rw [if_pos e, List.append_nil]
        exact (run_f (by rw [beq_iff_eq.2 e]; rfl)).trans rfl
      · rw [if_neg e]
        refine (run_t (by rw [beq_eq_false_iff_ne.2 e]; rfl)).trans ((run_ask hb).trans ((run_ask (decide_eq_true ?_)).trans rfl))
        unfold roomNat; rw [List.length_append, List.length_singleton]; omega
    · unfold r39_Hand_Drop_L2_step
      exact (run_f (decide_eq_false (by omega))).trans rfl
  exact (run_bnd hloop).trans rfl
def geP (L : OvL) (k : Str) : Nat := geI ltS k (L.map (·.2.1))
def insP (L : OvL) (k : Str) (o : R39_Over) : OvL := L.take (geP L k) ++ [o] ++ L.drop (geP L k)
def rstartL (L : OvL) (k : Str) (n : Int) (d : Str) : OvL := insP (rdropL L k) k (n, (k, (d, [])))
theorem rdropL_len (L : OvL) (k : Str) : (rdropL L k).length ≤ L.length := by
  unfold rdropL
  induction L with
  | nil => exact Nat.le_refl _
  | cons x L ih =>
    rw [List.flatMap_cons, List.length_append, List.length_cons]
    have : (if x.2.1 = k then [] else [x] : OvL).length ≤ 1 := by split <;> simp
    omega
theorem geP_le (L : OvL) (k : Str) : geP L k ≤ L.length := by
  have := geI_le ltS k (L.map (·.2.1))
  rw [List.length_map] at this
  exact this
theorem rstart_run (k d : Str) (a : Int) (L : OvL) (hl : L.length ≤ 100000) : (r39_Hand_Start_T k d a L).run = some (w64 (a + 1), ((w64 (a + 1), ((), ())), (rstartL L k (w64 (a + 1)) d, ()))) := by
  unfold r39_Hand_Start_T
  refine (run_bnd (rdrop_run k a L (by omega))).trans ?_
  have hd := rdropL_len L k
  unfold rstartL
  generalize rdropL L k = M at hd
  have hloop : (Tree.loop (fun v => r39_Hand_Start_L4_step k d (w64 (a + 1)) M v) 0).run = some ((geP M k : Nat) : Int) := by
    show loopF (fun v => (r39_Hand_Start_L4_step k d (w64 (a + 1)) M v).run) 0 = _
    have hm : (M.map (·.2.1)).length = M.length := List.length_map _
    refine ge_loop ltS k (M.map (·.2.1)) (fun v => r39_Hand_Start_L4_step k d (w64 (a + 1)) M v) (by omega) (fun i hi => ?_) ?_
    · rw [hm] at hi
      unfold r39_Hand_Start_L4_step
      simp only [Int.toNat_natCast, getD_lt _ _ _ hi]
      refine (run_ask (by rw [inb_nat, decide_eq_true hi, Bool.or_true])).trans ?_
      rw [decide_eq_true (show (i : Int) < (M.length : Int) by omega), Bool.true_and, List.getElem_map]
      cases ltS M[i].2.1 k with
      | true => exact (run_t rfl).trans rfl
      | false => exact (run_f rfl).trans rfl
    · rw [hm]
      unfold r39_Hand_Start_L4_step
      rw [decide_eq_false (show ¬ ((M.length : Int) < (M.length : Int)) by omega)]
      exact (run_ask rfl).trans ((run_f rfl).trans rfl)
  refine (run_bnd hloop).trans ?_
  have hg := geP_le M k
  have hin : inbe ((geP M k : Nat) : Int) M.length = true := by rw [inbe_nat]; exact decide_eq_true hg
  unfold insP
  generalize geP M k = j at hg hin
  have htl : (M.take j).length = j := by rw [List.length_take]; omega
  have hl3 : ((M.take ((j : Nat) : Int).toNat ++ [((w64 (a + 1), (k, (d, []))) : R39_Over)]) ++ (M.drop ((j : Nat) : Int).toNat).take (M.length - ((j : Nat) : Int).toNat)).length = M.length + 1 := by
    rw [Int.toNat_natCast, List.length_append, List.length_append, htl, List.length_singleton, List.length_take, List.length_drop]; omega
  refine (run_ask hin).trans ((run_ask (decide_eq_true ?_)).trans ((run_ask (decide_eq_true ?_)).trans ((run_ask hin).trans ((run_ask (decide_eq_true ?_)).trans ?_))))
  · rw [Int.toNat_natCast, htl]; unfold roomNat; omega
  · rw [Int.toNat_natCast, List.length_append, htl, List.length_singleton]; unfold roomNat; omega
  · exact Nat.le_trans (Nat.le_of_eq (congrArg (· * 64) hl3)) (by unfold roomNat; show (M.length + 1) * 64 ≤ _; omega)
  · show some _ = some _
    rw [Int.toNat_natCast]
    have : (M.drop j).take (M.length - j) = M.drop j := List.take_of_length_le (by rw [List.length_drop]; omega)
    rw [this]
def tkO (number : Int) (node : Str) (x : R39_Over) : R39_Over := if x.1 = number then (x.1, (x.2.1, (x.2.2.1, x.2.2.2 ++ [node]))) else x
theorem rtaken_run (number : Int) (node : Str) (a : Int) (L : OvL) (hl : L.length ≤ 1000000) (hn : ∀ x ∈ L, x.2.2.2.length ≤ 1000000) : (r39_Hand_Taken_T number node a L).run = some ((), ((a, ((), ())), (L.map (tkO number node), ()))) := by
  unfold r39_Hand_Taken_T
  have hloop : (Tree.loop (fun v => r39_Hand_Taken_L2_step number node a L v.1 v.2) (0, ([] : OvL))).run = some (L.map (tkO number node)) := by
    have hm : L.map (tkO number node) = L.flatMap (fun x => [tkO number node x]) := List.map_eq_flatMap
    rw [hm]
    refine flat_loop L (fun x => [tkO number node x]) (fun x => Nat.le_refl _) (fun v => r39_Hand_Taken_L2_step number node a L v.1 v.2) id hl (fun i hi out ho => ?_) (fun out => ?_)
    · have hb : inb (i : Int) L.length = true := by rw [inb_nat]; exact decide_eq_true hi
      have hx := hn L[i] (List.getElem_mem hi)
      unfold r39_Hand_Taken_L2_step tkO
      simp only [Int.toNat_natCast, getD_lt _ _ _ hi]
      refine (run_t (decide_eq_true (by omega))).trans ((run_ask hb).trans ?_)
      by_cases e : L[i].1 = number
      · rw [if_pos e]
        refine (run_t (decide_eq_true e)).trans ((run_ask (decide_eq_true ?_)).trans ((run_ask (decide_eq_true ?_)).trans ((run_ask (decide_eq_true ?_)).trans rfl)))
        · unfold roomNat; omega
        · unfold roomNat; rw [List.length_append, List.length_singleton]; omega
        · unfold roomNat; rw [List.length_append, List.length_singleton]; omega
      · rw [if_neg e]
        refine (run_f (decide_eq_false e)).trans ((run_ask (decide_eq_true ?_)).trans rfl)
        unfold roomNat; rw [List.length_append, List.length_singleton]; omega
    · unfold r39_Hand_Taken_L2_step
      exact (run_f (decide_eq_false (by omega))).trans rfl
  exact (run_bnd hloop).trans rfl
theorem rplaces_run (a : Int) (L : OvL) (hl : L.length ≤ 1000000) : (r39_Hand_Places_T (a, L)).run = some (L.map (·.2.1)) := by
  unfold r39_Hand_Places_T
  have hloop : (Tree.loop (fun v => r39_Hand_Places_L3_step (a, L) v.1 v.2) (0, ([] : List Str))).run = some (L.map (·.2.1)) := by
    have hm : L.map (·.2.1) = L.flatMap (fun x => [x.2.1]) := List.map_eq_flatMap
    rw [hm]
    refine flat_loop L (fun x => [x.2.1]) (fun x => Nat.le_refl _) (fun v => r39_Hand_Places_L3_step (a, L) v.1 v.2) id hl (fun i hi out ho => ?_) (fun out => ?_)
    · have hb : inb (i : Int) L.length = true := by rw [inb_nat]; exact decide_eq_true hi
      unfold r39_Hand_Places_L3_step
      simp only [Int.toNat_natCast, getD_lt _ _ _ hi]
      refine (run_t (decide_eq_true (by omega))).trans ((run_ask hb).trans ((run_ask (decide_eq_true ?_)).trans rfl))
      unfold roomNat; rw [List.length_append, List.length_singleton]; omega
    · unfold r39_Hand_Places_L3_step
      exact (run_f (decide_eq_false (by simp))).trans rfl
  exact (run_bnd hloop).trans rfl
theorem rin_run (l : List Str) (s : Str) (hl : l.length ≤ 1000000) : (r39_in_T l s).run = some (l.any fun x => x == s) := by
  unfold r39_in_T
  have hloop : (Tree.loop (fun v => r39_in_L2_step l s v) 0).run = some (bif l.any (fun x => x == s) then .inl true else .inr ()) := by
    refine any_loop l (fun x => x == s) (fun v => r39_in_L2_step l s v) _ _ hl (fun i hi => ?_) ?_
    · have hb : inb (i : Int) l.length = true := by rw [inb_nat]; exact decide_eq_true hi
      unfold r39_in_L2_step
      simp only [Int.toNat_natCast, getD_lt _ _ _ hi]
      refine (run_t (decide_eq_true (by omega))).trans ((run_ask hb).trans ?_)
      cases l[i] == s with
      | true => exact (run_t rfl).trans rfl
      | false => exact (run_f rfl).trans rfl
    · unfold r39_in_L2_step
      exact (run_f (decide_eq_false (by omega))).trans rfl
  refine (run_bnd hloop).trans ?_
  cases l.any (fun x => x == s) <;> rfl
/-- It is ready, by a hand-over. -/
def okO (x : R39_Over) (ns : List Str) : Bool := decide (0 < ns.length) && ns.all fun s => x.2.2.2.any fun y => y == s
def rreadyL (L : OvL) (k d : Str) (ns : List Str) : Bool := match L.find? fun x => x.2.1 == k && x.2.2.1 == d with
  | some x => okO x ns
  | none => false
theorem rready_run (a : Int) (L : OvL) (k d : Str) (ns : List Str) (hl : L.length ≤ 1000000) (hn : ∀ x ∈ L, x.2.2.2.length ≤ 1000000) (hs : ns.length ≤ 1000000) : (r39_Hand_Ready_T (a, L) k d ns).run = some (rreadyL L k d ns) := by
  unfold r39_Hand_Ready_T
  have hin : ∀ x ∈ L, (Tree.loop (fun v => r39_Hand_Ready_L7_step ns x v) 0).run = some (bif ns.any (fun s => !x.2.2.2.any fun y => y == s) then .inl false else .inr ()) := fun x hx => by
    refine any_loop ns (fun s => !x.2.2.2.any fun y => y == s) (fun v => r39_Hand_Ready_L7_step ns x v) _ _ hs (fun i hi => ?_) ?_
    · have hb : inb (i : Int) ns.length = true := by rw [inb_nat]; exact decide_eq_true hi
      unfold r39_Hand_Ready_L7_step
      simp only [Int.toNat_natCast, getD_lt _ _ _ hi]
      refine (run_t (decide_eq_true (by omega))).trans ((run_ask hb).trans ((run_bnd (rin_run _ _ (hn x hx))).trans ?_))
      cases x.2.2.2.any fun y => y == ns[i] with
      | true => exact (run_f rfl).trans rfl
      | false => exact (run_t rfl).trans rfl
    · unfold r39_Hand_Ready_L7_step
      exact (run_f (decide_eq_false (by omega))).trans rfl
  have hfin : ∀ x : R39_Over, (match (bif ns.any (fun s => !x.2.2.2.any fun y => y == s) then .inl false else .inr () : Bool ⊕ Unit) with | .inl b => b | .inr _ => decide ((0 : Int) < (ns.length : Int))) = okO x ns := fun x => by
    unfold okO
    have e1 : decide ((0 : Int) < (ns.length : Int)) = decide (0 < ns.length) := by rw [decide_eq_decide]; omega
    have e2 : (ns.all fun s => x.2.2.2.any fun y => y == s) = !(ns.any fun s => !x.2.2.2.any fun y => y == s) := by rw [List.all_eq_not_any_not]
    rw [e1, e2]
    cases ns.any fun s => !x.2.2.2.any fun y => y == s with
    | true => rw [cond_true]; simp
    | false => rw [cond_false]; simp
  rcases loopF_find (st := fun v => (r39_Hand_Ready_L2_step (a, L) k d ns v).run) L (fun x => x.2.1 == k && x.2.2.1 == d) (fun i => (i : Int)) (fun i => (.inl (match L[i]? with | some x => okO x ns | none => false) : Bool ⊕ Unit)) (.inr ()) (fun i hi => by
      have hb : inb (i : Int) L.length = true := by rw [inb_nat]; exact decide_eq_true hi
      unfold r39_Hand_Ready_L2_step
      simp only [Int.toNat_natCast, getD_lt _ _ _ hi]
      refine (run_t (decide_eq_true (by omega))).trans ((run_ask hb).trans ?_)
      have hc : ((!(L[i].2.1 == k)) || (!(L[i].2.2.1 == d))) = !(L[i].2.1 == k && L[i].2.2.1 == d) := by rw [Bool.not_and]
      rw [hc]
      cases hq : (L[i].2.1 == k && L[i].2.2.1 == d) with
      | false =>
        refine (run_t rfl).trans ?_
        show some (Sum.inl (w64 _)) = _
        rw [w64_nat i (by omega)]; rfl
      | true =>
        refine (run_f rfl).trans ((run_bnd (hin _ (List.getElem_mem hi))).trans ?_)
        rw [cond_true, List.getElem?_eq_getElem hi]
        show _ = some (Sum.inr (Sum.inl (okO L[i] ns)))
        rw [← hfin L[i]]
        cases ns.any fun s => !L[i].2.2.2.any fun y => y == s <;> rfl) (by
      unfold r39_Hand_Ready_L2_step
      exact (run_f (decide_eq_false (by simp))).trans rfl) (s0 := (0 : Int)) rfl with ⟨h1, h2⟩ | ⟨i, hi, h1, h2, _, h3⟩
  · refine (run_bnd (show (Tree.loop (fun v => r39_Hand_Ready_L2_step (a, L) k d ns v) 0).run = _ from h1)).trans ?_
    show some false = _
    unfold rreadyL
    rw [List.find?_eq_none.2 (fun x hx => by have := List.any_eq_false.1 h2 x hx; simpa using this)]
  · refine (run_bnd (show (Tree.loop (fun v => r39_Hand_Ready_L2_step (a, L) k d ns v) 0).run = _ from h1)).trans ?_
    show some (match L[i]? with | some x => okO x ns | none => false) = _
    unfold rreadyL
    have hf : L.find? (fun x => x.2.1 == k && x.2.2.1 == d) = some L[i] := by
      rw [List.find?_eq_some_iff_getElem]
      exact ⟨h2, i, hi, rfl, fun j hj => by rw [h3 j hj]; rfl⟩
    rw [hf, List.getElem?_eq_getElem hi]

end Go.Eng

