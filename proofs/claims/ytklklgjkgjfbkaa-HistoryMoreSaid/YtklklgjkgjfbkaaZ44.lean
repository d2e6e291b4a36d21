/- Chapter 44: the three laws, in plain Lean. -/
import Derived.Test.YtklklgjkgjfbkaaW44
namespace Go.Eng
open Go Go.Proofs

theorem mem_of_filter {α : Type} {l : List α} {p : α → Bool} {x : α} (h : x ∈ l.filter p) : x ∈ l := (List.mem_filter.1 h).1
theorem sameInts_refl (l : List Int) (hl : l.length ≤ 1000000) : (r06_SameInts_T l l).run = some true := by
  unfold r06_SameInts_T
  simp only [Tree.run, decide_true, Bool.not_true, cond_false]
  rw [same_loop l.length (fun v => r06_SameInts_L4_step l l v) (.inr () : Bool ⊕ Unit) (by omega) (fun i hi => by
    unfold r06_SameInts_L4_step
    simp only [Tree.run, Int.ofNat_lt, hi, decide_true, Bool.and_self, cond_true, inb_nat, Bool.not_true, cond_false]) (by unfold r06_SameInts_L4_step; simp [Tree.run])]
  rfl
theorem same06_refl (l : List Seen) (hl : SmallC l) : (r06_Same_T l l).run = some true := by
  unfold r06_Same_T
  simp only [Tree.run, decide_true, Bool.not_true, cond_false]
  rw [same_loop l.length (fun v => r06_Same_L4_step l l v) (.inr () : Bool ⊕ Unit) (by have := hl.1; omega) (fun i hi => by
    unfold r06_Same_L4_step
    have := (hl.2 l[i] (List.getElem_mem hi)).2
    simp only [Tree.run, Int.ofNat_lt, hi, decide_true, Bool.and_self, cond_true, inb_nat, Bool.not_true, cond_false, getD_lt _ _ _ hi, Int.toNat_natCast, beq_self_eq_true, Bool.or_true, Bool.or_false, sameInts_refl l[i].2.2 (by omega), Option.isNone_some, Bool.and_false, Option.getD_some]) (by unfold r06_Same_L4_step; simp [Tree.run])]
  rfl
theorem same07_refl (l : List Sib) (hl : l.length ≤ 1000000) : (r07_SameSibs_T l l).run = some true := by
  unfold r07_SameSibs_T
  simp only [Tree.run, decide_true, Bool.not_true, cond_false]
  rw [same_loop l.length (fun v => r07_SameSibs_L4_step l l v) (.inr () : Bool ⊕ Unit) (by omega) (fun i hi => by
    unfold r07_SameSibs_L4_step
    simp only [Tree.run, Int.ofNat_lt, hi, decide_true, Bool.and_self, cond_true, inb_nat, Bool.not_true, cond_false, beq_self_eq_true]) (by unfold r07_SameSibs_L4_step; simp [Tree.run])]
  rfl
theorem same42_refl (a : Answer) (h1 : a.2.1.length ≤ 1000) (h2 : SmallC a.2.2.1) (h3 : a.2.2.2.1.length ≤ 9223372036854775807) : (r42_Same_T a a).run = some true := by
  unfold r42_Same_T
  simp only [Tree.run, decide_true, Bool.not_true, cond_false, beq_self_eq_true, Bool.and_self, Bool.or_false, Bool.or_self, same07_refl a.2.1 (by omega), same06_refl _ h2, Option.isNone_some, Bool.and_false, Option.getD_some]
  rw [same_loop a.2.2.2.1.length (fun v => r42_Same_L4_step a a v) (.inr () : Bool ⊕ Unit) h3 (fun i hi => by
    unfold r42_Same_L4_step
    simp only [Tree.run, Int.ofNat_lt, hi, decide_true, Bool.and_self, cond_true, inb_nat, Bool.not_true, cond_false, beq_self_eq_true]) (by unfold r42_Same_L4_step; simp [Tree.run])]
  rfl
theorem same43_refl (l : List Deed) (hn : l.length ≤ 1000) (hl : ∀ d ∈ l, OkD d ∧ d.2.2.2.2.2.2.2.2.2.2.2.1.length ≤ 9223372036854775807) : (r43_Same_T l l).run = some true := by
  unfold r43_Same_T
  simp only [Tree.run, decide_true, Bool.not_true, cond_false]
  rw [same_loop l.length (fun v => r43_Same_L4_step l l v) (.inr () : Bool ⊕ Unit) (by omega) (fun i hi => by
    obtain ⟨hd, hk⟩ := hl l[i] (List.getElem_mem hi)
    unfold r43_Same_L4_step
    simp only [Tree.run, Int.ofNat_lt, hi, decide_true, Bool.and_self, cond_true, inb_nat, Int.toNat_natCast, getD_lt _ _ _ hi, Bool.not_true, cond_false, beq_self_eq_true, Bool.or_false, Bool.or_self, rPlace_run hd, same42_refl l[i].2.2.2.2.2.2.2.2 (by have := hd.2.2.2.2; omega) hd.2.2.2.1 hk, Option.isNone_some, Bool.and_false, Option.getD_some, if_true]) (by unfold r43_Same_L4_step; simp [Tree.run])]
  rfl

theorem historyIs_law (x : ElP l44_HistoryIs_g.ps) (hx : okP l44_HistoryIs_g.ps x) : (l44_HistoryIs_g.f x).run = some true := by
  obtain ⟨l, s, _⟩ := x
  obtain ⟨hxl, _⟩ := hx
  show (l44_HistoryIs_T l s).run = _
  unfold l44_HistoryIs_T
  simp only [Tree.run, few44_run l 14 (by omega) 14 rfl, awake44, Option.bind_some]
  cases hf : fewB q44 14 l with
  | false => rfl
  | true =>
    have hn := fewB_len hf
    have hl := few44_ok hf
    have hn' : l.length ≤ 1000 := by omega
    cases hb : (decide ((300 : Int) < (s.2.1.length : Int))) || (decide ((100 : Int) < (s.1.1.length : Int))) with
    | true => simp only [Bool.not_true, Bool.false_or, hb, cond_true]
    | false =>
      simp only [Bool.not_true, Bool.false_or, hb, cond_false]
      rw [same_loop l.length (fun v => l44_HistoryIs_L4_step l s v) (.inr () : Bool ⊕ Unit) (by omega) (fun i hi => by
        have hd := hl l[i] (List.getElem_mem hi)
        have hs : ∀ d ∈ ofL l l[i].2.1 (plc l[i]), OkD d ∧ d.2.2.2.2.2.2.2.2.2.2.2.1.length ≤ 9223372036854775807 := fun d hd => by
          have hm : d ∈ l := mem_of_filter hd
          refine ⟨hl d hm, ?_⟩
          have := (hxl.2 d hm).2.2.2.2.2.2.2.2.2.2.2.1.1
          unfold maxLen at this
          omega
        have hsl : (ofL l l[i].2.1 (plc l[i])).length ≤ 1000 := Nat.le_trans (List.length_filter_le _ _) hn'
        unfold l44_HistoryIs_L4_step
        simp only [Tree.run, Int.ofNat_lt, hi, decide_true, cond_true, inb_nat, Int.toNat_natCast, getD_lt _ _ _ hi, put_run hn' hl hd, rPut_run hn' hl hd, Option.bind_some, beq_self_eq_true, Bool.not_true, Bool.or_true, rPlace_run hd, of44_run hn' hl, rOf44_run hn' hl, same43_refl _ hsl hs, Option.isNone_some, Bool.and_false, cond_false, Option.getD_some, Bool.or_self]) (by unfold l44_HistoryIs_L4_step; simp [Tree.run])]
      simp only [Tree.run, Option.bind_some, causal_run hn' hl, rCausal_run hn' hl, coversH_run hn' hl, rCoversH_run hn' hl, closed_run hn' hl, rClosed_run hn' hl, un_run hn', rUn_run hn', awake44, beq_self_eq_true, decide_true, Bool.and_self, Option.isNone_some, Bool.and_false, cond_false, Option.getD_some]

/-! A write that nobody read. -/
theorem has_nil (d : Dot) : hasB [] d = false := rfl
theorem closed_more {l : List Deed} {d : Deed} (h1 : gB d = false) (h2 : d.2.2.2.2.2.2.1.2.2.2.2.2.1 = []) : closedB (l ++ [d]) = closedB l := by
  have hw : ∀ (e : Deed) (so : Deed → Bool), (l ++ [d]).any (wrB e so) = l.any (wrB e so) := fun e so => by
    simp [List.any_append, wrB, h1]
  unfold closedB
  simp only [hw, List.any_append, List.any_cons, List.any_nil, Bool.or_false]
  have : l.any (wrB d (clo2 d)) = false := by
    rw [List.any_eq_false]; intro w _; simp [wrB, clo2, h2, has_nil]
  rw [this, Bool.and_false, Bool.or_false]
theorem covers_more {l : List Deed} {d : Deed} (h1 : gB d = false) (h2 : reB d = false) : coverHB (l ++ [d]) = coverHB l := by
  have hw : ∀ (e : Deed) (so : Deed → Bool), (l ++ [d]).any (wrB e so) = l.any (wrB e so) := fun e so => by
    simp [List.any_append, wrB, h1]
  unfold coverHB
  simp only [hw, List.any_append, List.any_cons, List.any_nil, Bool.or_false, h2, Bool.false_and]
theorem causal_more {l : List Deed} {d : Deed} (h1 : gB d = false) (h2 : d.2.2.2.2.2.2.1.2.2.2.2.2.1 = []) (h3 : getB d = false) (h : causalB l = true) : causalB (l ++ [d]) = true := by
  have hw : ∀ (e : Deed) (so : Deed → Bool), (l ++ [d]).any (wrB e so) = l.any (wrB e so) := fun e so => by
    simp [List.any_append, wrB, h1]
  unfold causalB at h ⊢
  simp only [Bool.not_eq_true'] at h ⊢
  rw [List.any_append, List.any_cons, List.any_nil, h3, Bool.or_false, Bool.false_and, Bool.or_false]
  rw [List.any_eq_false] at h ⊢
  intro e he hb
  refine h e he ?_
  simp only [Bool.and_eq_true] at hb ⊢
  refine ⟨hb.1, ?_⟩
  obtain ⟨s, hs, hbad⟩ := List.any_eq_true.1 hb.2
  refine List.any_eq_true.2 ⟨s, hs, ?_⟩
  unfold badB at hbad ⊢
  rw [closed_more h1 h2, hw] at hbad
  simp only [List.any_append, Bool.or_eq_true, Bool.not_eq_true', Bool.or_eq_false_iff] at hbad ⊢
  rcases hbad with (hb | hb) | hb
  · exact .inl (.inl hb)
  · exact .inl (.inr hb.1)
  · exact .inr hb

theorem historyMore_law (x : ElP l44_HistoryMore_g.ps) (_ : okP l44_HistoryMore_g.ps x) : (l44_HistoryMore_g.f x).run = some true := by
  obtain ⟨l, d, _⟩ := x
  show (l44_HistoryMore_T l d).run = _
  unfold l44_HistoryMore_T
  simp only [Tree.run, few44_run l 14 (by omega) 14 rfl, few44_run [d] 1 (by omega) 1 rfl, awake44, Option.bind_some, Option.isNone_some, Bool.and_false, cond_false, Option.getD_some]
  cases hf : fewB q44 14 l with
  | false => rfl
  | true =>
    cases hg : fewB q44 1 [d] with
    | false => rfl
    | true =>
      have hn := fewB_len hf
      have hl := few44_ok hf
      have hn' : l.length ≤ 1000 := by omega
      have hd := few44_ok hg d (by simp)
      simp only [Bool.not_true, Bool.or_self, cond_false]
      generalize hd' : ((d.1, (d.2.1, (d.2.2.1, (d.2.2.2.1, (d.2.2.2.2.1, (d.2.2.2.2.2.1, ((2, (d.2.2.2.2.2.2.1.2.1, (d.2.2.2.2.2.2.1.2.2.1, (d.2.2.2.2.2.2.1.2.2.2.1, (d.2.2.2.2.2.2.1.2.2.2.2.1, ([], d.2.2.2.2.2.2.1.2.2.2.2.2.2)))))), (false, d.2.2.2.2.2.2.2.2)))))))) : Deed) = e
      have e1 : gB e = false := by rw [← hd']; rfl
      have e2 : reB e = false := by rw [← hd']; rfl
      have e3 : getB e = false := by rw [← hd']; rfl
      have e4 : e.2.2.2.2.2.2.1.2.2.2.2.2.1 = [] := by rw [← hd']
      have e5 : e.2.2.2.2.2.2.2.1 = false := by rw [← hd']
      have he : OkD e := by
        rw [← hd']
        exact ⟨hd.1, hd.2.1, ⟨Nat.zero_le _, fun x hx => by cases hx⟩, hd.2.2.2.1, hd.2.2.2.2⟩
      have hm : (l ++ [e]).length ≤ 1000 := by simp; omega
      have hml : ∀ x ∈ l ++ [e], OkD x := fun x hx => by
        rcases List.mem_append.1 hx with h | h
        · exact hl x h
        · rw [List.mem_singleton.1 h]; exact he
      have r1 : decide (l.length * 280 ≤ roomNat) = true := room_le _ _ (by omega) (by omega)
      have r2 : decide ((l ++ [e]).length * 280 ≤ roomNat) = true := room_le _ _ (by omega) (by omega)
      have hu : ((l ++ [e]).filter fun d => !d.2.2.2.2.2.2.2.1).length = (l.filter fun d => !d.2.2.2.2.2.2.2.1).length + 1 := by
        rw [List.filter_append, List.length_append]; simp [e5]
      have hul : (l.filter fun d => !d.2.2.2.2.2.2.2.1).length ≤ 1000 := Nat.le_trans (List.length_filter_le _ _) hn'
      simp only [r1, r2, cond_true, coversH_run hm hml, coversH_run hn' hl, closed_run hm hml, closed_run hn' hl, un_run hm, un_run hn', causal_run hm hml, causal_run hn' hl, covers_more e1 e2, closed_more e1 e4, hu, w64_i _ (Nat.le_trans hul (by omega : 1000 ≤ 1000000)), Option.bind_some, beq_self_eq_true, decide_true, Bool.not_true, Bool.not_false, Bool.or_false, Bool.or_self, cond_false, Option.isNone_some, Bool.and_false, Option.getD_some, if_true]
      cases hc : causalB l with
      | false => rfl
      | true => rw [causal_more e1 e4 e3 hc]; rfl

/-! Key by key. -/
theorem any_keys {l : List Deed} {t u p q : Str} (hl : ∀ d ∈ l, (d.2.1 = t ∨ d.2.1 = u) ∧ (plc d = p ∨ plc d = q)) (f : Deed → Bool) (so : Deed → Deed → Bool) :
    (l.any fun d => f d && l.any (wrB d (so d))) = ((((ofL l t p).any fun d => f d && (ofL l t p).any (wrB d (so d))) || ((ofL l t q).any fun d => f d && (ofL l t q).any (wrB d (so d)))) || (((ofL l u p).any fun d => f d && (ofL l u p).any (wrB d (so d))) || ((ofL l u q).any fun d => f d && (ofL l u q).any (wrB d (so d))))) := by
  have hw : ∀ (d : Deed) (a b : Str), d.2.1 = a → plc d = b → (ofL l a b).any (wrB d (so d)) = l.any (wrB d (so d)) := by
    intro d a b ha hb
    rw [Bool.eq_iff_iff, List.any_eq_true, List.any_eq_true]
    constructor
    · rintro ⟨w, h1, h2⟩; exact ⟨w, mem_of_filter h1, h2⟩
    · rintro ⟨w, h1, h2⟩
      refine ⟨w, List.mem_filter.2 ⟨h1, ?_⟩, h2⟩
      unfold wrB mB at h2
      simp only [Bool.and_eq_true, beq_iff_eq] at h2 ⊢
      exact ⟨h2.1.2.1.trans ha, h2.1.2.2.trans hb⟩
  have hk : ∀ (a b : Str), ((ofL l a b).any fun d => f d && (ofL l a b).any (wrB d (so d))) = (ofL l a b).any fun d => f d && l.any (wrB d (so d)) := by
    intro a b
    refine any_congr fun d hd => ?_
    have h2 := (List.mem_filter.1 hd).2
    simp only [Bool.and_eq_true, beq_iff_eq] at h2
    rw [hw d a b h2.1 h2.2]
  rw [hk, hk, hk, hk, Bool.eq_iff_iff]
  simp only [Bool.or_eq_true, List.any_eq_true]
  constructor
  · rintro ⟨d, h1, h2⟩
    have hin : ∀ a b, d.2.1 = a → plc d = b → d ∈ ofL l a b := fun a b ha hb => List.mem_filter.2 ⟨h1, by simp [ha, hb]⟩
    rcases hl d h1 with ⟨ha | ha, hb | hb⟩
    · exact .inl (.inl ⟨d, hin _ _ ha hb, h2⟩)
    · exact .inl (.inr ⟨d, hin _ _ ha hb, h2⟩)
    · exact .inr (.inl ⟨d, hin _ _ ha hb, h2⟩)
    · exact .inr (.inr ⟨d, hin _ _ ha hb, h2⟩)
  · rintro ((⟨d, h1, h2⟩ | ⟨d, h1, h2⟩) | (⟨d, h1, h2⟩ | ⟨d, h1, h2⟩)) <;> exact ⟨d, mem_of_filter h1, h2⟩

abbrev laneT : Str := [116]
abbrev laneU : Str := [117]
abbrev keyJ : Str := [98, 47, 106]
abbrev keyK : Str := [98, 47, 107]
theorem keys_covers {l : List Deed} (hl : ∀ d ∈ l, (d.2.1 = laneT ∨ d.2.1 = laneU) ∧ (plc d = keyJ ∨ plc d = keyK)) :
    coverHB l = (((coverHB (ofL l laneT keyJ) && coverHB (ofL l laneT keyK)) && coverHB (ofL l laneU keyJ)) && coverHB (ofL l laneU keyK)) := by
  have := any_keys hl reB cov2
  unfold coverHB
  rw [this]
  simp only [Bool.not_or, Bool.and_assoc]
theorem keys_closed {l : List Deed} (hl : ∀ d ∈ l, (d.2.1 = laneT ∨ d.2.1 = laneU) ∧ (plc d = keyJ ∨ plc d = keyK)) :
    closedB l = (((closedB (ofL l laneT keyJ) && closedB (ofL l laneT keyK)) && closedB (ofL l laneU keyJ)) && closedB (ofL l laneU keyK)) := by
  have := any_keys hl wB clo2
  unfold closedB
  rw [this]
  simp only [Bool.not_or, Bool.and_assoc]

def keyQ (d : Deed) : Bool := ((((!(d.2.1 == ([116] : Str))) && (!(d.2.1 == ([117] : Str)))) || (!(d.2.2.2.2.2.2.1.2.2.1 == ([98] : Str)))) || ((!(d.2.2.2.2.2.2.1.2.2.2.1 == ([106] : Str))) && (!(d.2.2.2.2.2.2.1.2.2.2.1 == ([107] : Str)))))
theorem historyKeys_law (x : ElP l44_HistoryKeys_g.ps) (_ : okP l44_HistoryKeys_g.ps x) : (l44_HistoryKeys_g.f x).run = some true := by
  obtain ⟨l, _⟩ := x
  show (l44_HistoryKeys_T l).run = _
  unfold l44_HistoryKeys_T
  simp only [Tree.run, few44_run l 14 (by omega) 14 rfl, awake44, Option.bind_some]
  cases hf : fewB q44 14 l with
  | false => rfl
  | true =>
    have hn := fewB_len hf
    have hl := few44_ok hf
    have hn' : l.length ≤ 1000 := by omega
    simp only [Bool.not_true, cond_false]
    rw [any_loop l keyQ (fun v => l44_HistoryKeys_L4_step l v) (Sum.inl true : Bool ⊕ Unit) (.inr ()) (by omega) (fun i hi => by
      unfold l44_HistoryKeys_L4_step
      simp only [Tree.run, Int.ofNat_lt, hi, decide_true, cond_true, inb_nat, Int.toNat_natCast, getD_lt _ _ _ hi, awake44, Option.bind_some]
      have : ((((!(l[i].2.1 == ([116] : Str))) && (!(l[i].2.1 == ([117] : Str)))) || (!(l[i].2.2.2.2.2.2.1.2.2.1 == ([98] : Str)))) || ((!(l[i].2.2.2.2.2.2.1.2.2.2.1 == ([106] : Str))) && (!(l[i].2.2.2.2.2.2.1.2.2.2.1 == ([107] : Str))))) = keyQ l[i] := rfl
      rw [this]
      cases keyQ l[i] <;> rfl) (by unfold l44_HistoryKeys_L4_step; simp [Tree.run])]
    cases hq : l.any keyQ with
    | true => rfl
    | false =>
      simp only [cond_false, Option.bind_some, Tree.run]
      have hk : ∀ d ∈ l, (d.2.1 = laneT ∨ d.2.1 = laneU) ∧ (plc d = keyJ ∨ plc d = keyK) := by
        intro d hd
        have h := List.any_eq_false.1 hq d hd
        unfold keyQ at h
        simp only [Bool.not_eq_true, Bool.or_eq_false_iff, Bool.and_eq_false_iff, Bool.not_eq_false', beq_iff_eq] at h
        obtain ⟨⟨h1, h2⟩, h3⟩ := h
        refine ⟨h1, ?_⟩
        unfold plc
        rw [h2]
        rcases h3 with h3 | h3 <;> rw [h3]
        · left; rfl
        · right; rfl
      have hs : ∀ a b, (ofL l a b).length ≤ 1000 := fun a b => Nat.le_trans (List.length_filter_le _ _) hn'
      have hsl : ∀ a b, ∀ d ∈ ofL l a b, OkD d := fun a b d hd => hl d (mem_of_filter hd)
      have inner : ∀ (c e : Bool) (i : Nat) (a : Str), (i = 0 ∧ a = laneT) ∨ (i = 1 ∧ a = laneU) → loopF (fun v => (l44_HistoryKeys_L15_step l (([116] : Str), ([117] : Str)) (([98, 47, 106] : Str), ([98, 47, 107] : Str)) v.1 v.2.1 v.2.2.1 v.2.2.2).run) (c, e, (i : Int), 0) = some ((c && coverHB (ofL l a keyJ)) && coverHB (ofL l a keyK), (e && closedB (ofL l a keyJ)) && closedB (ofL l a keyK), (i : Int)) := by
        intro c e i a hi
        have s0 : (l44_HistoryKeys_L15_step l (([116] : Str), ([117] : Str)) (([98, 47, 106] : Str), ([98, 47, 107] : Str)) c e (i : Int) 0).run = some (.inl (c && coverHB (ofL l a keyJ), e && closedB (ofL l a keyJ), (i : Int), 1)) := by
          unfold l44_HistoryKeys_L15_step
          rcases hi with ⟨rfl, rfl⟩ | ⟨rfl, rfl⟩
          · simp only [Tree.run, of44_run hn' hl, coversH_run (hs _ _) (hsl _ _), closed_run (hs _ _) (hsl _ _), Option.bind_some, Option.isNone_some, Bool.and_false, cond_false, Option.getD_some]
            rfl
          · simp only [Tree.run, of44_run hn' hl, coversH_run (hs _ _) (hsl _ _), closed_run (hs _ _) (hsl _ _), Option.bind_some, Option.isNone_some, Bool.and_false, cond_false, Option.getD_some]
            rfl
        have s1 : ∀ c e, (l44_HistoryKeys_L15_step l (([116] : Str), ([117] : Str)) (([98, 47, 106] : Str), ([98, 47, 107] : Str)) c e (i : Int) 1).run = some (.inl (c && coverHB (ofL l a keyK), e && closedB (ofL l a keyK), (i : Int), 2)) := by
          intro c e
          unfold l44_HistoryKeys_L15_step
          rcases hi with ⟨rfl, rfl⟩ | ⟨rfl, rfl⟩
          · simp only [Tree.run, of44_run hn' hl, coversH_run (hs _ _) (hsl _ _), closed_run (hs _ _) (hsl _ _), Option.bind_some, Option.isNone_some, Bool.and_false, cond_false, Option.getD_some]
            rfl
          · simp only [Tree.run, of44_run hn' hl, coversH_run (hs _ _) (hsl _ _), closed_run (hs _ _) (hsl _ _), Option.bind_some, Option.isNone_some, Bool.and_false, cond_false, Option.getD_some]
            rfl
        have s2 : ∀ c e, (l44_HistoryKeys_L15_step l (([116] : Str), ([117] : Str)) (([98, 47, 106] : Str), ([98, 47, 107] : Str)) c e (i : Int) 2).run = some (.inr (c, e, (i : Int))) := fun c e => by unfold l44_HistoryKeys_L15_step; rfl
        rw [loopF_eq, s0]
        show loopF _ _ = _
        rw [loopF_eq, s1]
        show loopF _ _ = _
        rw [loopF_eq, s2]
        rfl
      have outer : loopF (fun v => (l44_HistoryKeys_L12_step l (([116] : Str), ([117] : Str)) (([98, 47, 106] : Str), ([98, 47, 107] : Str)) v.1 v.2.1 v.2.2).run) (true, true, 0) = some (coverHB l, closedB l) := by
        have s0 : (l44_HistoryKeys_L12_step l (([116] : Str), ([117] : Str)) (([98, 47, 106] : Str), ([98, 47, 107] : Str)) true true 0).run = some (.inl ((true && coverHB (ofL l laneT keyJ)) && coverHB (ofL l laneT keyK), (true && closedB (ofL l laneT keyJ)) && closedB (ofL l laneT keyK), 1)) := by
          have := inner true true 0 laneT (.inl ⟨rfl, rfl⟩)
          unfold l44_HistoryKeys_L12_step
          simp only [Tree.run]
          rw [show ((true, true, (0 : Int), (0 : Int)) : Bool × Bool × Int × Int) = (true, true, ((0 : Nat) : Int), 0) from rfl, this]
          rfl
        have s1 : ∀ c e, (l44_HistoryKeys_L12_step l (([116] : Str), ([117] : Str)) (([98, 47, 106] : Str), ([98, 47, 107] : Str)) c e 1).run = some (.inl ((c && coverHB (ofL l laneU keyJ)) && coverHB (ofL l laneU keyK), (e && closedB (ofL l laneU keyJ)) && closedB (ofL l laneU keyK), 2)) := by
          intro c e
          have := inner c e 1 laneU (.inr ⟨rfl, rfl⟩)
          unfold l44_HistoryKeys_L12_step
          simp only [Tree.run]
          rw [show ((c, e, (1 : Int), (0 : Int)) : Bool × Bool × Int × Int) = (c, e, ((1 : Nat) : Int), 0) from rfl, this]
          rfl
        have s2 : ∀ c e, (l44_HistoryKeys_L12_step l (([116] : Str), ([117] : Str)) (([98, 47, 106] : Str), ([98, 47, 107] : Str)) c e 2).run = some (.inr (c, e)) := fun c e => by unfold l44_HistoryKeys_L12_step; rfl
        rw [loopF_eq, s0]
        show loopF _ _ = _
        rw [loopF_eq, s1]
        show loopF _ _ = _
        rw [loopF_eq, s2, keys_covers hk, keys_closed hk, Bool.true_and, Bool.true_and]
        rfl
      rw [outer]
      simp only [Option.bind_some, coversH_run hn' hl, closed_run hn' hl, awake44, beq_self_eq_true, Bool.and_self, Option.isNone_some, Bool.and_false, cond_false, Option.getD_some]

end Go.Eng
