/- Histories in plain Lean: what the program's functions and the reference's come to. -/
import Derived.Test.YtklklgjkgjfbkaaK06
namespace Go.Eng
open Go Go.Proofs

theorem awake44 : l44_awake_T.run = some true := Tree.runN_run (n := 20) (by kernel_rfl)

/-! Few. -/
def q06 (x : Seen) : Bool := (decide ((100 : Int) < (x.1.length : Int))) || (decide ((40 : Int) < (x.2.2.length : Int)))
theorem few06_run (c : List Seen) : (r06_Few_T c).run = some (fewB q06 12 c) := by
  unfold r06_Few_T
  refine few_tree c 12 q06 (fun v => r06_Few_L2_step c v) (by omega) 12 rfl (fun i hi hm => ?_) (fun i hi => ?_)
  · have h4 : (i : Int) < 12 := by omega
    unfold r06_Few_L2_step q06
    simp only [Tree.run, Int.ofNat_lt, hi, h4, decide_true, cond_true, inb_nat, Int.toNat_natCast, getD_lt _ _ _ hi, Bool.and_true, Bool.or_true]
    cases (decide ((100 : Int) < (c[i].1.length : Int))) || (decide ((40 : Int) < (c[i].2.2.length : Int))) <;> rfl
  · have : (decide ((i : Int) < (c.length : Int)) && decide ((i : Int) < 12)) = false := by
      simp only [Bool.and_eq_false_iff, decide_eq_false_iff_not]; omega
    unfold r06_Few_L2_step
    simp only [Tree.run, this, cond_false]
theorem few06_small {c : List Seen} (h : fewB q06 12 c = true) : SmallC c := by
  refine ⟨by have := fewB_len h; omega, fun x hx => ?_⟩
  have := fewB_mem h hx
  unfold q06 at this
  simp only [Bool.or_eq_false_iff, decide_eq_false_iff_not] at this
  omega

/-- Deeds that are not great. -/
def OkD (d : Deed) : Prop := d.2.2.2.2.2.2.1.2.2.1.length ≤ 100 ∧ d.2.2.2.2.2.2.1.2.2.2.1.length ≤ 100 ∧ SmallC d.2.2.2.2.2.2.1.2.2.2.2.2.1 ∧ SmallC d.2.2.2.2.2.2.2.2.2.2.1 ∧ d.2.2.2.2.2.2.2.2.2.1.length ≤ 12
def q44 (x : Deed) : Bool := ((((((((decide ((100 : Int) < (x.1.length : Int))) || (decide ((100 : Int) < (x.2.1.length : Int)))) || (decide ((100 : Int) < (x.2.2.2.2.2.2.1.2.2.1.length : Int)))) || (decide ((100 : Int) < (x.2.2.2.2.2.2.1.2.2.2.1.length : Int)))) || (decide ((300 : Int) < (x.2.2.2.2.2.2.1.2.2.2.2.1.length : Int)))) || (!fewB q06 12 x.2.2.2.2.2.2.1.2.2.2.2.2.1)) || (!fewB q06 12 x.2.2.2.2.2.2.2.2.2.2.1)) || (decide ((12 : Int) < (x.2.2.2.2.2.2.2.2.2.1.length : Int))))
theorem few44_run (l : List Deed) (most : Nat) (hm : most ≤ 1000) (m' : Int) (hm' : m' = (most : Int)) : (r44_Few_T l m').run = some (fewB q44 most l) := by
  unfold r44_Few_T
  refine few_tree l most q44 (fun v => r44_Few_L2_step l m' v) (by omega) m' hm' (fun i hi hm => ?_) (fun i hi => ?_)
  · have h4 : (i : Int) < m' := by omega
    unfold r44_Few_L2_step q44
    simp only [Tree.run, Int.ofNat_lt, hi, h4, decide_true, cond_true, inb_nat, Int.toNat_natCast, getD_lt _ _ _ hi, Bool.and_true, few06_run, Option.isNone_some, Bool.and_false, cond_false, Option.getD_some]
    generalize ((((((((decide ((100 : Int) < (l[i].1.length : Int))) || (decide ((100 : Int) < (l[i].2.1.length : Int)))) || (decide ((100 : Int) < (l[i].2.2.2.2.2.2.1.2.2.1.length : Int)))) || (decide ((100 : Int) < (l[i].2.2.2.2.2.2.1.2.2.2.1.length : Int)))) || (decide ((300 : Int) < (l[i].2.2.2.2.2.2.1.2.2.2.2.1.length : Int)))) || (!fewB q06 12 l[i].2.2.2.2.2.2.1.2.2.2.2.2.1)) || (!fewB q06 12 l[i].2.2.2.2.2.2.2.2.2.2.1)) || (decide ((12 : Int) < (l[i].2.2.2.2.2.2.2.2.2.1.length : Int)))) = z
    cases z <;> rfl
  · have : (decide ((i : Int) < (l.length : Int)) && decide ((i : Int) < m')) = false := by
      simp only [Bool.and_eq_false_iff, decide_eq_false_iff_not]; omega
    unfold r44_Few_L2_step
    simp only [Tree.run, this, cond_false]
theorem few44_ok {l : List Deed} {most : Nat} (h : fewB q44 most l = true) : ∀ d ∈ l, OkD d := by
  intro d hd
  have := fewB_mem h hd
  unfold q44 at this
  simp only [Bool.or_eq_false_iff, decide_eq_false_iff_not, Bool.not_eq_false'] at this
  obtain ⟨⟨⟨⟨⟨⟨⟨_, _⟩, h1⟩, h2⟩, _⟩, h3⟩, h4⟩, h5⟩ := this
  exact ⟨by omega, by omega, few06_small h3, few06_small h4, by omega⟩

/-! Small functions. -/
def wB (d : Deed) : Bool := (decide (d.2.2.2.2.2.2.1.1 = 2)) || (decide (d.2.2.2.2.2.2.1.1 = 3))
def gB (d : Deed) : Bool := d.2.2.2.2.2.2.2.1 && (decide (d.2.2.2.2.2.2.2.2.1 = 0))
def plc (d : Deed) : Str := (d.2.2.2.2.2.2.1.2.2.1 ++ ([47] : Str)) ++ d.2.2.2.2.2.2.1.2.2.2.1
def mB (a b : Deed) : Bool := (a.2.1 == b.2.1) && (plc a == plc b)
theorem w_run (d : Deed) : (history_isWrite_T d).run = some (wB d) := rfl
theorem rw_run (d : Deed) : (r43_Writes_T d).run = some (wB d) := rfl
theorem g_run (d : Deed) : (history_isGood_T d).run = some (gB d) := rfl
theorem rg_run (d : Deed) : (r43_Good_T d).run = some (gB d) := rfl
theorem join_ok {a b : Str} (ha : a.length ≤ 1000) (hb : b.length ≤ 1000) : decide (a.length + ([47] : Str).length ≤ 9223372036854775807) = true ∧ decide ((a ++ ([47] : Str)).length + b.length ≤ 9223372036854775807) = true := by
  simp only [decide_eq_true_eq, List.length_append, List.length_cons, List.length_nil]; omega
theorem place_run {d : Deed} (h : OkD d) : (history_place_T d).run = some (plc d) := by
  unfold history_place_T name_Join_T plc
  obtain ⟨h1, h2⟩ := join_ok (a := d.2.2.2.2.2.2.1.2.2.1) (b := d.2.2.2.2.2.2.1.2.2.2.1) (by have := h.1; omega) (by have := h.2.1; omega)
  simp only [Tree.run, h1, h2, cond_true, Option.bind_some]
theorem rPlace_run {d : Deed} (h : OkD d) : (r43_Place_T d).run = some (plc d) := by
  unfold r43_Place_T r05_Join_T plc
  obtain ⟨h1, h2⟩ := join_ok (a := d.2.2.2.2.2.2.1.2.2.1) (b := d.2.2.2.2.2.2.1.2.2.2.1) (by have := h.1; omega) (by have := h.2.1; omega)
  simp only [Tree.run, h1, h2, cond_true, Option.bind_some]
theorem meet_run {a b : Deed} (ha : OkD a) (hb : OkD b) : (history_meet_T a b).run = some (mB a b) := by
  unfold history_meet_T mB
  simp only [Tree.run, place_run ha, place_run hb, Option.isNone_some, Bool.and_false, cond_false, Option.getD_some]
theorem rMeet_run {a b : Deed} (ha : OkD a) (hb : OkD b) : (r43_Meets_T a b).run = some (mB a b) := by
  unfold r43_Meets_T mB
  simp only [Tree.run, rPlace_run ha, rPlace_run hb, Option.isNone_some, Bool.and_false, cond_false, Option.getD_some]
theorem mB_comm (a b : Deed) : mB a b = mB b a := by
  unfold mB
  rw [Bool.beq_comm (a := a.2.1), Bool.beq_comm (a := plc a)]

/-! Closed. -/
def clo2 (d w : Deed) : Bool := hasB d.2.2.2.2.2.2.1.2.2.2.2.2.1 w.2.2.2.2.2.2.2.2.2.2.2.2 && !coversB d.2.2.2.2.2.2.1.2.2.2.2.2.1 w.2.2.2.2.2.2.1.2.2.2.2.2.1
def wrB (d : Deed) (so : Deed → Bool) (w : Deed) : Bool := ((wB w && gB w) && mB w d) && so w
def closedB (l : List Deed) : Bool := !l.any fun d => wB d && l.any (wrB d (clo2 d))
theorem closed11_run {w d : Deed} (hw : OkD w) (hd : OkD d) : (history_Closed_1_1_T w d).run = some (clo2 d w) := by
  unfold history_Closed_1_1_T clo2
  simp only [Tree.run, has_run _ _ hd.2.2.1, covers_run _ _ hd.2.2.1 hw.2.2.1, Option.bind_some, Option.isNone_some, Bool.and_false, cond_false, Option.getD_some]
theorem closed_run {l : List Deed} (hn : l.length ≤ 1000) (hl : ∀ d ∈ l, OkD d) : (history_Closed_T l).run = some (closedB l) := by
  unfold history_Closed_T closedB
  simp only [Tree.run]
  rw [slices_ContainsFunc_Deed_history_Closed_1_run l l (fun d => wB d && l.any (wrB d (clo2 d))) (by omega) (fun d hd => by
    unfold history_Closed_1_T history_wrote_history_Closed_1_1_T
    simp only [Tree.run, w_run, Option.bind_some]
    rw [slices_ContainsFunc_Deed_history_wrote_1_run l d d (wrB d (clo2 d)) (by omega) (fun w hw => by
      unfold history_wrote_1_T wrB
      simp only [Tree.run, w_run, g_run, meet_run (hl w hw) (hl d hd), closed11_run (hl w hw) (hl d hd), Option.bind_some, Option.isNone_some, Bool.and_false, cond_false, Option.getD_some])]
    simp only [Option.isNone_some, Bool.and_false, cond_false, Option.getD_some, Option.bind_some])]
  rfl
theorem rClosed_run {l : List Deed} (hn : l.length ≤ 1000) (hl : ∀ d ∈ l, OkD d) : (r43_Closed_T l).run = some (closedB l) := by
  unfold r43_Closed_T closedB
  simp only [Tree.run]
  rw [any_loop l (fun d => wB d && l.any (wrB d (clo2 d))) (fun v => r43_Closed_L2_step l v) (Sum.inl false : Bool ⊕ Unit) (.inr ()) (by omega) (fun i hi => by
    have hd := hl l[i] (List.getElem_mem hi)
    unfold r43_Closed_L2_step
    simp only [Tree.run, Int.ofNat_lt, hi, decide_true, cond_true]
    rw [any_loop l (fun w => wB l[i] && wrB l[i] (clo2 l[i]) w) (fun v => r43_Closed_L5_step l (i : Int) v) (Sum.inl false : Bool ⊕ Unit) (.inr ()) (by omega) (fun n hnl => by
      have hw := hl l[n] (List.getElem_mem hnl)
      unfold r43_Closed_L5_step wrB
      simp only [Tree.run, Int.ofNat_lt, hi, hnl, decide_true, cond_true, inb_nat, Int.toNat_natCast, getD_lt _ _ _ hi, getD_lt _ _ _ hnl, Bool.or_true, rw_run, rg_run, rMeet_run hd hw, rHas_run _ _ hd.2.2.1, rCovers_run _ _ hd.2.2.1 hw.2.2.1, Option.bind_some, Option.isNone_some, Bool.and_false, cond_false, Option.getD_some, mB_comm l[i] l[n]]
      unfold clo2
      cases wB l[i] <;> cases wB l[n] <;> cases gB l[n] <;> cases mB l[n] l[i] <;> cases hasB l[i].2.2.2.2.2.2.1.2.2.2.2.2.1 l[n].2.2.2.2.2.2.2.2.2.2.2.2 <;> cases coversB l[i].2.2.2.2.2.2.1.2.2.2.2.2.1 l[n].2.2.2.2.2.2.1.2.2.2.2.2.1 <;> rfl) (by unfold r43_Closed_L5_step; simp [Tree.run])]
    have : l.any (fun w => wB l[i] && wrB l[i] (clo2 l[i]) w) = (wB l[i] && l.any (wrB l[i] (clo2 l[i]))) := by
      cases wB l[i] <;> simp
    rw [this]
    cases wB l[i] && l.any (wrB l[i] (clo2 l[i])) <;> rfl) (by unfold r43_Closed_L2_step; simp [Tree.run])]
  cases l.any fun d => wB d && l.any (wrB d (clo2 d)) <;> rfl

/-! Covers. -/
def cov2 (d w : Deed) : Bool := decide (w.2.2.2.2.1 < d.2.2.2.1) && !hasB d.2.2.2.2.2.2.2.2.2.2.1 w.2.2.2.2.2.2.2.2.2.2.2.2
def reB (d : Deed) : Bool := ((decide (d.2.2.2.2.2.2.1.1 = 1)) && d.2.2.2.2.2.2.2.1) && ((decide (d.2.2.2.2.2.2.2.2.1 = 0)) || (decide (d.2.2.2.2.2.2.2.2.1 = 5)))
def coverHB (l : List Deed) : Bool := !l.any fun d => reB d && l.any (wrB d (cov2 d))
theorem coversH_run {l : List Deed} (hn : l.length ≤ 1000) (hl : ∀ d ∈ l, OkD d) : (history_Covers_T l).run = some (coverHB l) := by
  unfold history_Covers_T coverHB
  simp only [Tree.run]
  rw [slices_ContainsFunc_Deed_history_Covers_1_run l l (fun d => reB d && l.any (wrB d (cov2 d))) (by omega) (fun d hd => by
    unfold history_Covers_1_T history_wrote_history_Covers_1_1_T reB
    simp only [Tree.run, Option.bind_some]
    rw [slices_ContainsFunc_Deed_history_wrote_1___run l d d (wrB d (cov2 d)) (by omega) (fun w hw => by
      unfold history_wrote_1___T history_Covers_1_1_T wrB cov2
      simp only [Tree.run, w_run, g_run, meet_run (hl w hw) (hl d hd), has_run _ _ (hl d hd).2.2.2.1, Option.bind_some, Option.isNone_some, Bool.and_false, cond_false, Option.getD_some])]
    simp only [Option.isNone_some, Bool.and_false, cond_false, Option.getD_some, Option.bind_some])]
  rfl
theorem rCoversH_run {l : List Deed} (hn : l.length ≤ 1000) (hl : ∀ d ∈ l, OkD d) : (r43_Covers_T l).run = some (coverHB l) := by
  unfold r43_Covers_T coverHB
  simp only [Tree.run]
  rw [any_loop l (fun d => reB d && l.any (wrB d (cov2 d))) (fun v => r43_Covers_L2_step l v) (Sum.inl false : Bool ⊕ Unit) (.inr ()) (by omega) (fun i hi => by
    have hd := hl l[i] (List.getElem_mem hi)
    unfold r43_Covers_L2_step
    simp only [Tree.run, Int.ofNat_lt, hi, decide_true, cond_true, inb_nat, Int.toNat_natCast, getD_lt _ _ _ hi]
    have hr : (((!decide (l[i].2.2.2.2.2.2.1.1 = 1)) || (!l[i].2.2.2.2.2.2.2.1)) || ((!decide (l[i].2.2.2.2.2.2.2.2.1 = 0)) && (!decide (l[i].2.2.2.2.2.2.2.2.1 = 5)))) = !reB l[i] := by
      unfold reB
      simp only [Bool.not_and, Bool.not_or]
    rw [hr, any_loop l (wrB l[i] (cov2 l[i])) (fun v => r43_Covers_L7_step l (i : Int) l[i] v) (Sum.inl false : Bool ⊕ Unit) (.inr ()) (by omega) (fun n hnl => by
      have hw := hl l[n] (List.getElem_mem hnl)
      unfold r43_Covers_L7_step wrB
      simp only [Tree.run, Int.ofNat_lt, hnl, decide_true, cond_true, inb_nat, Int.toNat_natCast, getD_lt _ _ _ hnl, Bool.or_true, rw_run, rg_run, rMeet_run hw hd, rHas_run _ _ hd.2.2.2.1, Option.bind_some, Option.isNone_some, Bool.and_false, cond_false, Option.getD_some]
      unfold cov2
      cases wB l[n] <;> cases gB l[n] <;> cases mB l[n] l[i] <;> cases decide (l[n].2.2.2.2.1 < l[i].2.2.2.1) <;> cases hasB l[i].2.2.2.2.2.2.2.2.2.2.1 l[n].2.2.2.2.2.2.2.2.2.2.2.2 <;> rfl) (by unfold r43_Covers_L7_step; simp [Tree.run])]
    cases reB l[i] <;> cases l.any (wrB l[i] (cov2 l[i])) <;> rfl) (by unfold r43_Covers_L2_step; simp [Tree.run])]
  cases l.any fun d => reB d && l.any (wrB d (cov2 d)) <;> rfl

/-! Put. -/
def putB (g : Deed) (s : Sib) (d : Deed) : Bool := ((((((wB d && mB d g) && (d.1 == s.1.1)) && (decide (d.2.2.2.1 < g.2.2.2.2.1))) && (d.2.2.2.2.2.2.1.2.2.2.2.1 == s.2.1)) && (decide (d.2.2.2.2.2.2.1.2.2.2.2.2.2 = s.2.2.2))) && ((decide (d.2.2.2.2.2.2.1.1 = 3)) == s.2.2.1)) && ((!gB d) || ((d.2.2.2.2.2.2.2.2.2.2.2.2.1 == s.1.1) && ((decide (d.2.2.2.2.2.2.2.2.2.2.2.2.2 = s.1.2)) && true)))
theorem put_run {l : List Deed} (hn : l.length ≤ 1000) (hl : ∀ d ∈ l, OkD d) {g : Deed} (hg : OkD g) (s : Sib) : (history_Put_T l g s).run = some (l.any (putB g s)) := by
  unfold history_Put_T
  simp only [Tree.run]
  rw [slices_ContainsFunc_Deed_history_Put_1_run l s g (putB g s) (by omega) (fun d hd => by
    unfold history_Put_1_T putB
    simp only [Tree.run, w_run, g_run, meet_run (hl d hd) hg, Option.isNone_some, Bool.and_false, cond_false, Option.getD_some, Option.some.injEq]
    cases wB d <;> cases mB d g <;> cases (d.1 == s.1.1) <;> cases (decide (d.2.2.2.1 < g.2.2.2.2.1)) <;> cases (d.2.2.2.2.2.2.1.2.2.2.2.1 == s.2.1) <;> cases (decide (d.2.2.2.2.2.2.1.2.2.2.2.2.2 = s.2.2.2)) <;> cases ((decide (d.2.2.2.2.2.2.1.1 = 3)) == s.2.2.1) <;> rfl)]
  rfl
theorem rput1_run {d g : Deed} (hd : OkD d) (hg : OkD g) (s : Sib) : (r43_put_T d g s).run = some (putB g s d) := by
  unfold r43_put_T putB
  simp only [Tree.run, rw_run, rg_run, rMeet_run hd hg, Option.isNone_some, Bool.and_false, cond_false, Option.getD_some, Option.bind_some]
theorem rPut_run {l : List Deed} (hn : l.length ≤ 1000) (hl : ∀ d ∈ l, OkD d) {g : Deed} (hg : OkD g) (s : Sib) : (r44_Put_T l g s).run = some (l.any (putB g s)) := by
  unfold r44_Put_T
  simp only [Tree.run]
  rw [any_loop l (putB g s) (fun v => r44_Put_L2_step l g s v) (Sum.inl true : Bool ⊕ Unit) (.inr ()) (by omega) (fun n hnl => by
    have hw := hl l[n] (List.getElem_mem hnl)
    unfold r44_Put_L2_step
    simp only [Tree.run, Int.ofNat_lt, hnl, decide_true, cond_true, inb_nat, Int.toNat_natCast, getD_lt _ _ _ hnl, rw_run, rg_run, rMeet_run hw hg, Option.bind_some, Option.isNone_some, Bool.and_false, cond_false, Option.getD_some]
    have : (((((((wB l[n] && mB l[n] g) && (l[n].1 == s.1.1)) && (decide (l[n].2.2.2.1 < g.2.2.2.2.1))) && (l[n].2.2.2.2.2.2.1.2.2.2.2.1 == s.2.1)) && (decide (l[n].2.2.2.2.2.2.1.2.2.2.2.2.2 = s.2.2.2))) && ((decide (l[n].2.2.2.2.2.2.1.1 = 3)) == s.2.2.1)) && ((!gB l[n]) || ((l[n].2.2.2.2.2.2.2.2.2.2.2.2.1 == s.1.1) && ((decide (l[n].2.2.2.2.2.2.2.2.2.2.2.2.2 = s.1.2)) && true)))) = putB g s l[n] := rfl
    rw [this]
    cases putB g s l[n] <;> rfl) (by unfold r44_Put_L2_step; simp [Tree.run])]
  cases l.any (putB g s) <;> rfl

/-! Causal. -/
def rep2 (d : Deed) (s : Sib) (w : Deed) : Bool := hasB d.2.2.2.2.2.2.2.2.2.2.1 w.2.2.2.2.2.2.2.2.2.2.2.2 && hasB w.2.2.2.2.2.2.1.2.2.2.2.2.1 s.1
def badB (l : List Deed) (d : Deed) (s : Sib) : Bool := ((s.2.2.1 || (!hasB d.2.2.2.2.2.2.2.2.2.2.1 s.1)) || (!l.any (putB d s))) || (closedB l && l.any (wrB d (rep2 d s)))
def getB (d : Deed) : Bool := decide (d.2.2.2.2.2.2.1.1 = 1) && gB d
def causalB (l : List Deed) : Bool := !l.any fun d => getB d && d.2.2.2.2.2.2.2.2.2.1.any (badB l d)
theorem causal_run {l : List Deed} (hn : l.length ≤ 1000) (hl : ∀ d ∈ l, OkD d) : (history_Causal_T l).run = some (causalB l) := by
  unfold history_Causal_T causalB
  simp only [Tree.run, closed_run hn hl, Option.bind_some]
  rw [any_loop l (fun d => getB d && d.2.2.2.2.2.2.2.2.2.1.any (badB l d)) (fun v => history_Causal_L3_step l (closedB l) l (l.length : Int) v) (Sum.inl false : Bool ⊕ Unit) (.inr ()) (by omega) (fun i hi => by
    have hd := hl l[i] (List.getElem_mem hi)
    unfold history_Causal_L3_step
    simp only [Tree.run, Int.ofNat_lt, hi, decide_true, cond_true, inb_nat, Int.toNat_natCast, getD_lt _ _ _ hi, g_run, Option.isNone_some, Bool.and_false, cond_false, Option.getD_some]
    rw [any_loop l[i].2.2.2.2.2.2.2.2.2.1 (badB l l[i]) (fun v => history_Causal_L7_step l (closedB l) l (l.length : Int) (i : Int) l[i].2.2.2.2.2.2.2.2.2.1 (l[i].2.2.2.2.2.2.2.2.2.1.length : Int) l[i] v) (Sum.inl false : Bool ⊕ Unit) (.inr ()) (by have := hd.2.2.2.2; omega) (fun k hk => by
      unfold history_Causal_L7_step history_wrote_history_Causal_1_T badB
      simp only [Tree.run, Int.ofNat_lt, hk, decide_true, cond_true, inb_nat, Int.toNat_natCast, getD_lt _ _ _ hk, has_run _ _ hd.2.2.2.1, put_run hn hl hd, Option.isNone_some, Bool.and_false, cond_false, Option.getD_some]
      rw [slices_ContainsFunc_Deed_history_wrote_1__run l l[i] l[i] _ (wrB l[i] (rep2 l[i] l[i].2.2.2.2.2.2.2.2.2.1[k])) (by omega) (fun w hw => by
        unfold history_wrote_1__T history_Causal_1_T wrB rep2
        simp only [Tree.run, w_run, g_run, meet_run (hl w hw) hd, has_run _ _ hd.2.2.2.1, has_run _ _ (hl w hw).2.2.1, Option.bind_some, Option.isNone_some, Bool.and_false, cond_false, Option.getD_some])]
      simp only [Option.isNone_some, Bool.and_false, cond_false, Option.getD_some, Option.bind_some]
      cases l[i].2.2.2.2.2.2.2.2.2.1[k].2.2.1 <;> cases hasB l[i].2.2.2.2.2.2.2.2.2.2.1 l[i].2.2.2.2.2.2.2.2.2.1[k].1 <;> cases l.any (putB l[i] l[i].2.2.2.2.2.2.2.2.2.1[k]) <;> cases closedB l <;> cases l.any (wrB l[i] (rep2 l[i] l[i].2.2.2.2.2.2.2.2.2.1[k])) <;> rfl) (by unfold history_Causal_L7_step; simp [Tree.run])]
    unfold getB
    cases decide (l[i].2.2.2.2.2.2.1.1 = 1) <;> cases gB l[i] <;> cases l[i].2.2.2.2.2.2.2.2.2.1.any (badB l l[i]) <;> rfl) (by unfold history_Causal_L3_step; simp [Tree.run])]
  cases l.any fun d => getB d && d.2.2.2.2.2.2.2.2.2.1.any (badB l d) <;> rfl

theorem rCausal13 {l : List Deed} (hn : l.length ≤ 1000) (hl : ∀ d ∈ l, OkD d) (cl : Bool) (i k : Int) {g : Deed} (hg : OkD g) (s : Sib) :
    loopF (fun v => (r43_Causal_L13_step l cl i k g s v.1 v.2).run) (false, 0) = some (bif cl && l.any (wrB g (rep2 g s)) then .inl false else .inr (l.any (putB g s))) := by
  have key : ∀ (d n : Nat) (was : Bool), n + d = l.length → loopF (fun v => (r43_Causal_L13_step l cl i k g s v.1 v.2).run) (was, (n : Int)) = some (bif cl && (l.drop n).any (wrB g (rep2 g s)) then .inl false else .inr (was || (l.drop n).any (putB g s))) := by
    intro d
    induction d with
    | zero =>
      intro n was h
      have : n = l.length := h
      subst this
      rw [loopF_eq]
      have : (r43_Causal_L13_step l cl i k g s was (l.length : Int)).run = some (.inr (.inr was)) := by unfold r43_Causal_L13_step; simp [Tree.run]
      rw [this, List.drop_length]
      simp [loopStep]
    | succ d ih =>
      intro n was h
      have hnl : n < l.length := by omega
      have hw := hl l[n] (List.getElem_mem hnl)
      have hst : (r43_Causal_L13_step l cl i k g s was (n : Int)).run = some (bif cl && wrB g (rep2 g s) l[n] then .inr (.inl false) else .inl (was || (!was && putB g s l[n]), ((n + 1 : Nat) : Int))) := by
        unfold r43_Causal_L13_step
        simp only [Tree.run, Int.ofNat_lt, hnl, decide_true, cond_true, inb_nat, Int.toNat_natCast, getD_lt _ _ _ hnl, Bool.or_true, rw_run, rg_run, rMeet_run hw hg, rput1_run hw hg, rHas_run _ _ hg.2.2.2.1, rHas_run _ _ hw.2.2.1, Option.bind_some, Option.isNone_some, Bool.and_false, cond_false, Option.getD_some, w64_i n (by omega)]
        unfold wrB rep2
        cases was <;> cases cl <;> cases wB l[n] <;> cases gB l[n] <;> cases mB l[n] g <;> cases hasB g.2.2.2.2.2.2.2.2.2.2.1 l[n].2.2.2.2.2.2.2.2.2.2.2.2 <;> cases hasB l[n].2.2.2.2.2.2.1.2.2.2.2.2.1 s.1 <;> rfl
      rw [loopF_eq, hst, List.drop_eq_getElem_cons hnl, List.any_cons, List.any_cons]
      cases hx : cl && wrB g (rep2 g s) l[n] with
      | true =>
        have : (cl && (wrB g (rep2 g s) l[n] || (l.drop (n + 1)).any (wrB g (rep2 g s)))) = true := by
          rw [Bool.and_eq_true] at hx ⊢; exact ⟨hx.1, by rw [hx.2]; rfl⟩
        rw [this]; rfl
      | false =>
        have e : (cl && (wrB g (rep2 g s) l[n] || (l.drop (n + 1)).any (wrB g (rep2 g s)))) = (cl && (l.drop (n + 1)).any (wrB g (rep2 g s))) := by
          cases cl
          · rfl
          · simp only [Bool.true_and] at hx ⊢; rw [hx]; rfl
        show loopF _ _ = _
        rw [ih (n + 1) _ (by omega), e]
        cases cl && (l.drop (n + 1)).any (wrB g (rep2 g s))
        · show some (Sum.inr _) = some (Sum.inr _)
          congr 2
          cases was <;> cases putB g s l[n] <;> rfl
        · rfl
  have := key l.length 0 false (by omega)
  simpa using this
theorem rCausal_run {l : List Deed} (hn : l.length ≤ 1000) (hl : ∀ d ∈ l, OkD d) : (r43_Causal_T l).run = some (causalB l) := by
  unfold r43_Causal_T causalB
  simp only [Tree.run, rClosed_run hn hl, Option.bind_some]
  rw [any_loop l (fun d => getB d && d.2.2.2.2.2.2.2.2.2.1.any (badB l d)) (fun v => r43_Causal_L3_step l (closedB l) v) (Sum.inl false : Bool ⊕ Unit) (.inr ()) (by omega) (fun i hi => by
    have hd := hl l[i] (List.getElem_mem hi)
    unfold r43_Causal_L3_step
    simp only [Tree.run, Int.ofNat_lt, hi, decide_true, cond_true, inb_nat, Int.toNat_natCast, getD_lt _ _ _ hi, rg_run, Option.isNone_some, Bool.and_false, cond_false, Option.getD_some]
    rw [any_loop l[i].2.2.2.2.2.2.2.2.2.1 (badB l l[i]) (fun v => r43_Causal_L8_step l (closedB l) (i : Int) l[i] v) (Sum.inl false : Bool ⊕ Unit) (.inr ()) (by have := hd.2.2.2.2; omega) (fun k hk => by
      unfold r43_Causal_L8_step badB
      simp only [Tree.run, Int.ofNat_lt, hk, decide_true, cond_true, inb_nat, Int.toNat_natCast, getD_lt _ _ _ hk, rHas_run _ _ hd.2.2.2.1, rCausal13 hn hl _ _ _ hd, Option.isNone_some, Bool.and_false, cond_false, Option.getD_some, Option.bind_some]
      generalize (closedB l && l.any (wrB l[i] (rep2 l[i] l[i].2.2.2.2.2.2.2.2.2.1[k]))) = z
      generalize l.any (putB l[i] l[i].2.2.2.2.2.2.2.2.2.1[k]) = pz
      cases z
      · simp only [cond_false, Tree.run, rHas_run _ _ hd.2.2.2.1, Option.isNone_some, Bool.and_false, Option.getD_some, Bool.or_false]
        cases pz <;> cases l[i].2.2.2.2.2.2.2.2.2.1[k].2.2.1 <;> cases hasB l[i].2.2.2.2.2.2.2.2.2.2.1 l[i].2.2.2.2.2.2.2.2.2.1[k].1 <;> rfl
      · simp only [cond_true, Tree.run, Bool.or_true]) (by unfold r43_Causal_L8_step; simp [Tree.run])]
    unfold getB
    cases decide (l[i].2.2.2.2.2.2.1.1 = 1) <;> cases gB l[i] <;> cases l[i].2.2.2.2.2.2.2.2.2.1.any (badB l l[i]) <;> rfl) (by unfold r43_Causal_L3_step; simp [Tree.run])]
  cases l.any fun d => getB d && d.2.2.2.2.2.2.2.2.2.1.any (badB l d) <;> rfl

/-! Of a key; unanswered. -/
def ofL (l : List Deed) (t p : Str) : List Deed := l.filter fun d => (d.2.1 == t) && (plc d == p)
theorem of44_run {l : List Deed} (hn : l.length ≤ 1000) (hl : ∀ d ∈ l, OkD d) (t p : Str) : (history_Of_T l t p).run = some (ofL l t p) := by
  unfold history_Of_T ofL
  simp only [Tree.run, slices_Clone_Deed_run l (by omega), Option.bind_some]
  rw [slices_DeleteFunc_Deed_history_Of_1_run l t p (fun d => !((d.2.1 == t) && (plc d == p))) (by omega) (fun d hd => by
    unfold history_Of_1_T
    simp only [Tree.run, place_run (hl d hd), Option.isNone_some, Bool.and_false, cond_false, Option.getD_some, Bool.not_and])]
  simp only [Option.bind_some, Bool.not_not]
theorem rOf44_run {l : List Deed} (hn : l.length ≤ 1000) (hl : ∀ d ∈ l, OkD d) (t p : Str) : (r44_Of_T l t p).run = some (ofL l t p) := by
  unfold r44_Of_T ofL
  simp only [Tree.run]
  rw [filter_loop l (fun d => (d.2.1 == t) && (plc d == p)) (fun v => r44_Of_L3_step l t p v.1 v.2) (by omega) (fun i c hi hc => by
    have hd := hl l[i] (List.getElem_mem hi)
    have hr : decide ((c ++ [l[i]]).length * 280 ≤ roomNat) = true := room_le _ _ (by simp; omega) (by omega)
    unfold r44_Of_L3_step
    simp only [Tree.run, Int.ofNat_lt, hi, decide_true, cond_true, inb_nat, Int.toNat_natCast, getD_lt _ _ _ hi, Bool.or_true, rPlace_run hd, Option.isNone_some, Bool.and_false, cond_false, Option.getD_some, hr]
    cases (l[i].2.1 == t) && (plc l[i] == p) <;> rfl) (fun c => by unfold r44_Of_L3_step; simp [Tree.run])]
  rfl
theorem un_run {l : List Deed} (hn : l.length ≤ 1000) : (history_Unanswered_T l).run = some ((l.filter fun d => !d.2.2.2.2.2.2.2.1).length : Int) := by
  unfold history_Unanswered_T
  simp only [Tree.run, slices_Clone_Deed_run l (by omega), Option.bind_some]
  rw [slices_DeleteFunc_Deed_history_Unanswered_1_run l (fun d => d.2.2.2.2.2.2.2.1) (by omega) (fun d hd => rfl)]
  rfl
theorem rUn_run {l : List Deed} (hn : l.length ≤ 1000) : (r44_Unanswered_T l).run = some ((l.filter fun d => !d.2.2.2.2.2.2.2.1).length : Int) := by
  unfold r44_Unanswered_T
  simp only [Tree.run]
  rw [count_loop l (fun d => !d.2.2.2.2.2.2.2.1) (fun v => r44_Unanswered_L3_step l v.1 v.2) (by omega) (fun i n hi hni => by
    unfold r44_Unanswered_L3_step
    simp only [Tree.run, Int.ofNat_lt, hi, decide_true, cond_true, inb_nat, Int.toNat_natCast, getD_lt _ _ _ hi]
    cases l[i].2.2.2.2.2.2.2.1 <;> rfl) (fun n => by unfold r44_Unanswered_L3_step; simp [Tree.run])]
  rw [List.countP_eq_length_filter]; rfl

end Go.Eng
