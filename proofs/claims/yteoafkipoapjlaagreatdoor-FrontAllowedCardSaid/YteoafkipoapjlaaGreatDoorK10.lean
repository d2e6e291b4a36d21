/- Laws in plain Lean: e10chk e10get e10same path z10. -/
import Derived.Test.YteoafkipoapjlaaGreatDoorK09
import Derived.Test.YteoafkipoapjlaaGreatDoorN24
namespace Go.Eng
open Go Go.Proofs Go.RowKit

/-! Entries: may they be? -/
def SmallE (l : List Entry) : Prop := l.length ≤ 10000 ∧ ∀ x ∈ l, x.1.length ≤ 1000 ∧ x.2.2.1.length ≤ 1000 ∧ x.2.2.2.length ≤ 1000
def entB (x : Entry) : Bool := (decide (1 ≤ x.1.length) && decide (x.1.length ≤ 128)) && regB x.2
def ppB (p : Option Str) (s : Str) : Bool := match p with | none => true | some p => ltS p s
def entG (p : Option Str) (x : Entry) : Bool := entB x && ppB p x.1
def mayB (l : List Entry) : Bool := decide (l.length ≤ 4096) && chain entG (fun _ x => some x.1) none l
theorem rIsEntry_run (x : Entry) (h : x.2.2.1.length ≤ 1000) : (r10_isEntry_T x).run = some (entB x) := by
  unfold r10_isEntry_T entB
  simp only [Tree.run, regMay_run x.2 (by omega), Option.isNone_some, Bool.and_false, cond_false, Option.getD_some]
  have f1 : decide ((1 : Int) ≤ (x.1.length : Int)) = decide (1 ≤ x.1.length) := by rw [decide_eq_decide]; omega
  have f2 : decide ((x.1.length : Int) ≤ 128) = decide (x.1.length ≤ 128) := by rw [decide_eq_decide]; omega
  rw [f1, f2]
def ppOf (c : List Entry) (i : Nat) : Option Str := if i = 0 then none else (c[i - 1]?).map fun x => x.1
theorem pp_ok (c : List Entry) (hc : c.length ≤ 10000) (i : Nat) (hi : i < c.length) (y : Bool) : ((!((!(!y)) && (decide ((0 : Int) < (i : Int))))) || inb (w64 ((i : Int) - 1)) c.length) = true := by
  cases i with
  | zero => simp
  | succ i =>
    have e1 : w64 (((i + 1 : Nat) : Int) - 1) = (i : Int) := by
      show IntKind.i64.wrap _ = _
      rw [IntKind.wrap_i64]; omega
    have hi' : i < c.length := by omega
    rw [e1, inb_nat, decide_eq_true hi', Bool.or_true]
theorem pp_lt (c : List Entry) (hc : c.length ≤ 10000) (i : Nat) (hi : i < c.length) (s : Str) : ((decide ((0 : Int) < (i : Int))) && (!ltS (c.getD ((w64 ((i : Int) - 1)).toNat) (dfl tEntry : Entry)).1 s)) = !ppB (ppOf c i) s := by
  cases i with
  | zero => rfl
  | succ i =>
    have e1 : w64 (((i + 1 : Nat) : Int) - 1) = (i : Int) := by
      show IntKind.i64.wrap _ = _
      rw [IntKind.wrap_i64]; omega
    have hi' : i < c.length := by omega
    have e0 : decide ((0 : Int) < ((i + 1 : Nat) : Int)) = true := by rw [decide_eq_true_eq]; omega
    rw [e1, e0, Int.toNat_natCast, getD_lt _ _ _ hi']
    unfold ppOf
    rw [if_neg (by omega), Nat.add_sub_cancel, List.getElem?_eq_getElem hi']
    rfl
theorem pp_next (c : List Entry) (i : Nat) (hi : i < c.length) : some c[i].1 = ppOf c (i + 1) := by
  unfold ppOf
  rw [if_neg (by omega), Nat.add_sub_cancel, List.getElem?_eq_getElem hi]; rfl
theorem regM_run (l : List Entry) (hl : SmallE l) : (r10_May_T l).run = some (mayB l) := by
  unfold r10_May_T mayB
  have f : decide ((4096 : Int) < (l.length : Int)) = !decide (l.length ≤ 4096) := by rw [← decide_not]; congr 1; rw [eq_iff_iff]; omega
  simp only [Tree.run, f]
  rw [chain_loop (st := fun v => (r10_May_L4_step l v).run) l entG (fun _ x => some x.1) (fun i _ => (i : Int)) (fun i g => g = ppOf l i) (Sum.inl false : Bool ⊕ Unit) (.inr ()) (fun i g hi hg => by
    subst hg
    have hl1 := hl.1
    refine ⟨?_, fun _ => pp_next l i hi⟩
    unfold r10_May_L4_step entG
    simp only [Tree.run, Int.ofNat_lt, hi, decide_true, cond_true, inb_nat, Int.toNat_natCast, getD_lt _ _ _ hi, Bool.or_true, rIsEntry_run _ (hl.2 l[i] (List.getElem_mem hi)).2.1, Option.bind_some, w64_i i (by omega), pp_ok l hl1 i hi, pp_lt l hl1 i hi]
    cases entB l[i] <;> cases ppB (ppOf l i) l[i].1 <;> rfl) (fun g _ => by unfold r10_May_L4_step; simp [Tree.run]) none rfl (s0 := (0 : Int)) rfl]
  cases decide (l.length ≤ 4096) <;> cases chain entG (fun _ x => some x.1) none l <;> rfl

/-! What a key has. -/
def findR (l : List Entry) (k : Str) : Option Reg := (l.find? fun x => x.1 == k).map fun x => x.2
def getR (l : List Entry) (k : Str) : Reg := (findR l k).getD (0, ([], []))
theorem rGet_run (l : List Entry) (k : Str) (hl : l.length ≤ 1000000) : (r10_Get_T l k).run = some (getR l k) := by
  unfold r10_Get_T
  simp only [Tree.run]
  have h := loopF_find (st := fun v => (r10_Get_L2_step l k (0, ([], [])) v).run) l (fun x => x.1 == k) (fun i => (i : Int)) (fun i => (Sum.inl (l.getD i ([], (0, ([], [])))).2 : Reg ⊕ Unit)) (.inr ()) (fun i hi => by
    unfold r10_Get_L2_step
    simp only [Tree.run, Int.ofNat_lt, hi, decide_true, cond_true, inb_nat, Int.toNat_natCast, getD_lt _ _ _ hi, w64_i i (by omega)]
    cases l[i].1 == k <;> rfl) (by unfold r10_Get_L2_step; simp [Tree.run]) (s0 := (0 : Int)) rfl
  unfold getR findR
  rcases h with ⟨h, n⟩ | ⟨i, hi, h, n, _, n2⟩
  · rw [h]
    have : l.find? (fun x => x.1 == k) = none := by
      rw [List.find?_eq_none]; intro x hx
      have := List.any_eq_false.1 n x hx; exact this
    rw [this]; rfl
  · rw [h]
    have : l.find? (fun x => x.1 == k) = some l[i] := by
      rw [List.find?_eq_some_iff_getElem]
      exact ⟨n, i, hi, rfl, fun j hj => by have := n2 j hj; simpa using this⟩
    rw [this]
    show some (l.getD i _).2 = some l[i].2
    rw [getD_lt _ _ _ hi]
theorem get_run (l : List Entry) (k : Str) (hl : l.length ≤ 1000000) : (registry_Get_T l k).run = some (getR l k) := by
  unfold registry_Get_T
  simp only [Tree.run]
  rw [slices_IndexFunc_Entry_registry_Get_1_run l k (fun x => x.1 == k) hl (fun x _ => rfl)]
  unfold getR findR
  simp only [Option.bind_some]
  rcases idxI_cases (fun x : Entry => x.1 == k) l with ⟨h, n⟩ | ⟨i, hi, h, n, _, n2⟩
  · rw [h]
    have : l.find? (fun x => x.1 == k) = none := by
      rw [List.find?_eq_none]; intro x hx
      have := List.any_eq_false.1 n x hx; exact this
    rw [this]; rfl
  · rw [h]
    have : l.find? (fun x => x.1 == k) = some l[i] := by
      rw [List.find?_eq_some_iff_getElem]
      exact ⟨n, i, hi, rfl, fun j hj => by have := n2 j hj; simpa using this⟩
    rw [this]
    have hn : ¬ ((i : Int) < 0) := by omega
    simp only [hn, decide_false, cond_false, inb_nat, hi, decide_true, cond_true, Int.toNat_natCast, getD_lt _ _ _ hi]
    rfl
theorem find_mem {l : List Entry} {k : Str} {r : Reg} (h : findR l k = some r) : (k, r) ∈ l := by
  unfold findR at h
  cases hf : l.find? (fun x => x.1 == k) with
  | none => rw [hf] at h; cases h
  | some x =>
    rw [hf] at h; cases h
    have h1 := List.find?_some hf
    have h2 := List.mem_of_find?_eq_some hf
    have e : x.1 = k := by simpa using h1
    rw [← e]; exact h2

/-! Are entries the same? -/
def lenAll (l : List Str) : Nat := (l.map List.length).sum
theorem joinS_len (l : List Str) : (joinS ([47] : Str) l).length ≤ lenAll l + l.length := by
  have key : ∀ r : List Str, ((r.map fun y => ([47] : Str) ++ y).flatten).length = lenAll r + r.length := fun r => by
    unfold lenAll
    induction r with
    | nil => rfl
    | cons y r ih => simp only [List.map_cons, List.flatten_cons, List.length_append, List.length_cons, List.length_nil, List.sum_cons, ih]; omega
  cases l with
  | nil => exact Nat.zero_le _
  | cons x l =>
    show (x ++ _).length ≤ _
    rw [List.length_append, key]
    unfold lenAll
    simp only [List.map_cons, List.sum_cons, List.length_cons]; omega
theorem path_run (l : List Str) (hl : l.length ≤ 1000000) (hs : lenAll l ≤ 1000000) : (name_Path_T l).run = some (joinS ([47] : Str) l) := by
  have hj : (strings_Join_T l ([47] : Str)).run = some (joinS ([47] : Str) l) := by
    show (joinT _ _).run = _
    unfold joinT
    have := joinS_len l
    exact (run_ask (decide_eq_true (by omega))).trans ((run_ask (decide_eq_true (by omega))).trans rfl)
  unfold name_Path_T
  exact (run_bnd hj).trans rfl
def q10 (x : Entry) : Bool := (decide ((200 : Int) < (x.1.length : Int))) || !((decide ((x.2.2.1.length : Int) ≤ 100)) && (decide ((x.2.2.2.length : Int) ≤ 300)))
theorem few10_run (l : List Entry) (most : Nat) (hm : most ≤ 1000) (m' : Int) (hm' : m' = (most : Int)) : (r10_Few_T l m').run = some (fewB q10 most l) := by
  unfold r10_Few_T
  refine few_tree l most q10 (fun v => r10_Few_L2_step l m' v) (by omega) m' hm' (fun i hi hm => ?_) (fun i hi => ?_)
  · have h4 : (i : Int) < m' := by omega
    unfold r10_Few_L2_step r09_Few_T q10
    simp only [Tree.run, Int.ofNat_lt, hi, h4, decide_true, cond_true, inb_nat, Int.toNat_natCast, getD_lt _ _ _ hi, Bool.and_true, Bool.or_true, Option.isNone_some, Bool.and_false, cond_false, Option.getD_some]
    generalize ((decide ((200 : Int) < (l[i].1.length : Int))) || !((decide ((l[i].2.2.1.length : Int) ≤ 100)) && (decide ((l[i].2.2.2.length : Int) ≤ 300)))) = z
    cases z <;> rfl
  · have : (decide ((i : Int) < (l.length : Int)) && decide ((i : Int) < m')) = false := by
      simp only [Bool.and_eq_false_iff, decide_eq_false_iff_not]; omega
    unfold r10_Few_L2_step
    simp only [Tree.run, this, cond_false]
theorem few10_mem {l : List Entry} {most : Nat} (h : fewB q10 most l = true) : ∀ x ∈ l, x.1.length ≤ 1000 ∧ x.2.2.1.length ≤ 1000 ∧ x.2.2.2.length ≤ 1000 := by
  intro x hx
  have := fewB_mem h hx
  unfold q10 at this
  simp only [Bool.or_eq_false_iff, Bool.not_eq_false', Bool.and_eq_true, decide_eq_true_eq, decide_eq_false_iff_not] at this
  omega
theorem few10_small {l : List Entry} {most : Nat} (hm : most ≤ 1000) (h : fewB q10 most l = true) : SmallE l := ⟨by have := fewB_len h; omega, few10_mem h⟩

end Go.Eng

