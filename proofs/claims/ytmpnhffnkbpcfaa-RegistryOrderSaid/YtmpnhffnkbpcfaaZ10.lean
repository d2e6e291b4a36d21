/- Laws in plain Lean: z10 z10laws. -/
import Derived.Test.YtmpnhffnkbpcfaaK10
namespace Go.Eng
open Go Go.Proofs Go.RowKit

theorem awake10 : l10_awake_T.run = some true := Tree.runN_run (n := 20) (by kernel_rfl)
def q10 (x : Entry) : Bool := (decide ((200 : Int) < (x.1.length : Int))) || !((decide ((x.2.2.1.length : Int) ≤ 100)) && (decide ((x.2.2.2.length : Int) ≤ 300)))
theorem few10_run (l : List Entry) (most : Nat) (hm : most ≤ 1000) (m' : Int) (hm' : m' = (most : Int)) : (r10_Few_T l m').run = some (fewB q10 most l) := by
  unfold r10_Few_T
  refine few_tree l most q10 (fun v => r10_Few_L2_step l m' v) (by omega) m' hm' (fun i hi hm => ?_) (fun i hi => ?_)
  · have h4 : (i : Int) < m' := by omega
    unfold r10_Few_L2_step r09_Few_T q10
    simp only [Tree.run, Int.ofNat_lt, hi, h4, decide_true, cond_true, inb_nat, Int.toNat_natCast, getD_lt _ _ _ hi, Bool.and_true, Bool.or_true, Option.isNone_some, Bool.and_false, cond_false, Option.getD_some]
    generalize ((decide ((200 : Int) < (l[i].1.length : Int))) || !((decide ((l[i].2.2.1.length : Int) ≤ 100)) && (decide ((l[i].2.2.2.length : Int) ≤ 300)))) = z
    cases z <;> rfl
  · have : (decide ((i : Int) < (l.length : Int)) && decide ((i : Int) < m')) = false := by
      simp only [Bool.and_eq_false_iff, decide_eq_false_iff_not]; omega
    unfold r10_Few_L2_step
    simp only [Tree.run, this, cond_false]
theorem few10_mem {l : List Entry} {most : Nat} (h : fewB q10 most l = true) : ∀ x ∈ l, x.1.length ≤ 1000 ∧ x.2.2.1.length ≤ 1000 ∧ x.2.2.2.length ≤ 1000 := by
  intro x hx
  have := fewB_mem h hx
  unfold q10 at this
  simp only [Bool.or_eq_false_iff, Bool.not_eq_false', Bool.and_eq_true, decide_eq_true_eq, decide_eq_false_iff_not] at this
  omega
theorem few10_small {l : List Entry} {most : Nat} (hm : most ≤ 1000) (h : fewB q10 most l = true) : SmallE l := ⟨by have := fewB_len h; omega, few10_mem h⟩

theorem registryIs_law (x : ElP l10_RegistryIs_g.ps) (_ : okP l10_RegistryIs_g.ps x) : (l10_RegistryIs_g.f x).run = some true := by
  obtain ⟨a, b, s, _⟩ := x
  show (l10_RegistryIs_T a b s).run = _
  unfold l10_RegistryIs_T
  simp only [Tree.run, few10_run a 30 (by omega) 30 rfl, few10_run b 30 (by omega) 30 rfl, awake10, Option.bind_some, Option.isNone_some, Bool.and_false, cond_false, Option.getD_some]
  cases hf : fewB q10 30 a with
  | false => rfl
  | true =>
    cases hg : fewB q10 30 b with
    | false => rfl
    | true =>
      have ha := few10_small (by omega) hf
      have hb := few10_small (by omega) hg
      have ha1 := ha.1
      have hb1 := hb.1
      by_cases hs : (200 : Int) < (s.length : Int)
      · simp only [hs, decide_true, Bool.or_true, cond_true]
      · have hs' : s.length ≤ 1000 := by omega
        simp only [hs, decide_false, Bool.not_true, Bool.or_false, cond_false, regChk_run a ha, chk_run a ha, get_run a s (by omega), rGet_run a s (by omega), under_run a s ha hs', rUnder_run a s ha hs', news_run a b (by omega) (by omega), rNews_run a b (by omega) (by omega), same_run a b (by omega), rSame_run a b (by omega),
          rSame_run (a.filter (underB s)) (a.filter (underB s)) (Nat.le_trans (List.length_filter_le _ _) (by omega)), rSame_run (a.filter (newsB b)) (a.filter (newsB b)) (Nat.le_trans (List.length_filter_le _ _) (by omega)), same_self,
          Option.bind_some, Option.isNone_some, Bool.and_false, Option.getD_some, decide_true, beq_self_eq_true, Bool.and_self, Bool.and_true]

theorem joinP_small {a b : List Entry} (ha : SmallE a) (hb : SmallE b) : (joinP a b).1.length ≤ a.length + b.length := by
  unfold joinP
  cases !mayB a || !mayB b
  · cases decide (4096 < (mergeE a b).length)
    · exact mergeE_len _ a b (Nat.le_refl _)
    · exact Nat.zero_le _
  · exact Nat.zero_le _
theorem putP_len {l : List Entry} (hl : SmallE l) {x : Entry} (hx : x.1.length ≤ 1000 ∧ x.2.2.1.length ≤ 1000 ∧ x.2.2.2.length ≤ 1000) : (putP l x).1.length ≤ l.length + 1 := by
  unfold putP
  cases entB x
  · exact Nat.zero_le _
  · exact joinP_small hl (isSmall1 hx)
theorem registryPuts_law (x : ElP l10_RegistryPuts_g.ps) (_ : okP l10_RegistryPuts_g.ps x) : (l10_RegistryPuts_g.f x).run = some true := by
  obtain ⟨a, b, x, _⟩ := x
  show (l10_RegistryPuts_T a b x).run = _
  unfold l10_RegistryPuts_T
  simp only [Tree.run, few10_run a 30 (by omega) 30 rfl, few10_run b 30 (by omega) 30 rfl, few10_run [x] 1 (by omega) 1 rfl, awake10, Option.bind_some, Option.isNone_some, Bool.and_false, cond_false, Option.getD_some]
  cases hf : fewB q10 30 a with
  | false => rfl
  | true =>
    cases hg : fewB q10 30 b with
    | false => rfl
    | true =>
      cases hx : fewB q10 1 [x] with
      | false => rfl
      | true =>
        have ha := few10_small (by omega) hf
        have hb := few10_small (by omega) hg
        have ha1 := ha.1
        have hb1 := hb.1
        have hx1 := few10_mem hx x (by simp)
        simp only [Bool.not_true, Bool.or_false, cond_false, put_run a x ha hx1, rPut_run a x ha hx1, join_run a b ha hb, rJoin_run a b ha hb, rSame_run (putP a x).1 (putP a x).1 (Nat.le_trans (putP_len ha hx1) (by omega)), rSame_run (joinP a b).1 (joinP a b).1 (Nat.le_trans (joinP_small ha hb) (by omega)), same_self,
          Option.bind_some, Option.isNone_some, Bool.and_false, Option.getD_some, decide_true, Bool.and_self]

theorem regB_next {r : Reg} {b v : Str} {r' : Reg} (hr : zeroR r = true ∨ regB r = true) (h : nextB r b v = (r', 0, ())) : regB r' = true ∧ r'.2.2 = v ∧ newR r' r = true := by
  unfold nextB at h
  cases hz : zeroR r <;> cases hg : regB r <;> cases hn : nameS b <;> cases hv : decide (256 < v.length) <;> simp only [hz, hg, hn, hv] at h hr <;> first | (simp at hr; done) | (simp at h; done) | skip
  all_goals
    cases hd : decide ((9007199254740992 : Int) ≤ r.1) with
    | true => rw [hd] at h; simp at h
    | false =>
      rw [hd] at h
      simp only [Bool.not_true, Bool.not_false, Bool.or_false, Bool.and_false, Bool.and_self, Bool.and_true, Bool.false_or, cond_false, Prod.mk.injEq, and_true] at h
      have h0 : 0 ≤ r.1 := by
        first
          | (unfold zeroR at hz; simp only [Bool.and_eq_true, decide_eq_true_eq] at hz; omega)
          | (unfold regB at hg; simp only [Bool.and_eq_true, decide_eq_true_eq] at hg; omega)
      have hd := of_decide_eq_false hd
      have hv := of_decide_eq_false hv
      have e : w64 (r.1 + 1) = r.1 + 1 := by
        show IntKind.i64.wrap _ = _
        rw [IntKind.wrap_i64]; omega
      rw [e] at h
      subst h
      refine ⟨?_, rfl, ?_⟩
      · unfold regB
        simp only [hn, Bool.or_true, Bool.and_true, Bool.and_eq_true, decide_eq_true_eq]
        exact ⟨⟨by omega, by omega⟩, by omega⟩
      · rw [newR_iff]; left; show r.1 < r.1 + 1; omega

theorem registrySets_law (x : ElP l10_RegistrySets_g.ps) (_ : okP l10_RegistrySets_g.ps x) : (l10_RegistrySets_g.f x).run = some true := by
  obtain ⟨l, x, _⟩ := x
  show (l10_RegistrySets_T l x).run = _
  unfold l10_RegistrySets_T
  have i0 : inb 0 3 = true := rfl
  have i1 : inb 1 3 = true := rfl
  have i2 : inb 2 3 = true := rfl
  simp only [Tree.run, few10_run l 30 (by omega) 30 rfl, awake10, i0, i1, i2, Bool.or_true, cond_true, Option.bind_some, Option.isNone_some, Bool.and_false, cond_false, Option.getD_some]
  cases hf : fewB q10 30 l with
  | false => rfl
  | true =>
    have hl := few10_small (by omega) hf
    have hl1 := hl.1
    have hl2 := fewB_len hf
    by_cases h1 : (100 : Int) < (x.1.length : Int)
    · simp only [h1, decide_true, Bool.or_true, Bool.true_or, cond_true]
    by_cases h2 : (200 : Int) < (x.2.1.length : Int)
    · simp only [h2, decide_true, Bool.or_true, Bool.true_or, cond_true]
    by_cases h3 : (300 : Int) < (x.2.2.length : Int)
    · simp only [h3, decide_true, Bool.or_true, cond_true]
    simp only [h1, h2, h3, decide_false, Bool.not_true, Bool.or_false, cond_false, set_run l _ _ _ hl, rSet_run l x.1 x.2.1 x.2.2 hl (by omega), Option.bind_some, beq_self_eq_true, decide_true, Bool.and_self, Bool.not_true]
    cases he : decide ((setP l x.1 x.2.1 x.2.2).2.1 = 0) with
    | false => rfl
    | true =>
      have he := of_decide_eq_true he
      -- what it is
      unfold setP at he ⊢
      cases hm : mayB l with
      | false => rw [hm] at he; simp at he
      | true =>
        cases hk1 : decide (1 ≤ x.2.1.length) with
        | false => rw [hm, hk1] at he; simp at he
        | true =>
          cases hk2 : decide (128 < x.2.1.length) with
          | true => rw [hm, hk1, hk2] at he; simp at he
          | false =>
            rw [hm, hk1, hk2] at he
            simp only [Bool.not_true, Bool.or_self, cond_false] at he ⊢
            cases hn : decide ((nextB (getR l x.2.1) x.1 x.2.2).2.1 = 0) with
            | false =>
              rw [hn] at he
              simp only [Bool.not_false, cond_true] at he
              rw [he] at hn; exact absurd hn (by decide)
            | true =>
              simp only [Bool.not_true, cond_false]
              have hn := of_decide_eq_true hn
              obtain ⟨hm1, hm2, hm3⟩ := (mayB_iff l).1 hm
              have hz : zeroR (getR l x.2.1) = true ∨ regB (getR l x.2.1) = true := by
                unfold getR
                cases hfr : findR l x.2.1 with
                | none => left; rfl
                | some r => right; have := hm3 _ (find_mem hfr); unfold entB at this; rw [Bool.and_eq_true] at this; exact this.2
              obtain ⟨k1, k2, k3⟩ := regB_next (r' := (nextB (getR l x.2.1) x.1 x.2.2).1) hz (by
                have : nextB (getR l x.2.1) x.1 x.2.2 = ((nextB (getR l x.2.1) x.1 x.2.2).1, (nextB (getR l x.2.1) x.1 x.2.2).2.1, ()) := rfl
                rw [this, hn])
              generalize hr' : (nextB (getR l x.2.1) x.1 x.2.2).1 = r' at k1 k2 k3 ⊢
              have he : entB (x.2.1, r') = true := by
                unfold entB
                rw [hk1, k1]
                have : decide (x.2.1.length ≤ 128) = true := by rw [decide_eq_true_eq]; have := of_decide_eq_false hk2; omega
                rw [this]; rfl
              have hby : r'.2.1.length ≤ 1000 := by
                have := k1
                unfold regB at this
                simp only [Bool.and_eq_true, Bool.or_eq_true, beq_iff_eq, decide_eq_true_eq] at this
                rcases this.1.2 with h | h
                · rw [h]; simp
                · unfold nameS at h; simp only [Bool.and_eq_true, decide_eq_true_eq] at h; omega
              have hsm : x.2.1.length ≤ 1000 ∧ r'.2.1.length ≤ 1000 ∧ r'.2.2.length ≤ 1000 := ⟨by omega, hby, by rw [k2]; omega⟩
              have hput : putP l (x.2.1, r') = (putE l (x.2.1, r'), 0, ()) := by
                unfold putP joinP
                have hlen := putE_len l (x.2.1, r')
                have hlt : decide (4096 < (putE l (x.2.1, r')).length) = false := by rw [decide_eq_false_iff_not]; omega
                rw [he, hm, mayB_one, he, mergeE_one hm2, hlt]; rfl
              have hget : getR (putE l (x.2.1, r')) x.2.1 = r' := by
                obtain ⟨_, p2⟩ := putE_spec hm2 (x.2.1, r')
                unfold getR
                rw [p2, beq_self_eq_true]
                unfold getR at k3
                cases hfr : findR l x.2.1 with
                | none => rfl
                | some r =>
                  rw [hfr] at k3
                  have k3 : newR r' r = true := k3
                  show joinR r r' = r'
                  unfold joinR; rw [k3]; rfl
              have hlen := putE_len l (x.2.1, r')
              simp only [decide_true, Bool.not_true, cond_false, put_run l (x.2.1, r') hl hsm, hput, Option.bind_some, get_run (putE l (x.2.1, r')) x.2.1 (by omega), hget, k2, beq_self_eq_true, Bool.and_self, Option.isNone_some, Bool.and_false, Option.getD_some]

theorem merge_len {a b : List Entry} : (mergeE a b).length ≤ a.length + b.length := mergeE_len _ a b (Nat.le_refl _)
theorem mergeE_regs {a b : List Entry} (ha : Srt a) (hb : Srt b) (q : Entry → Prop) (h1 : ∀ x ∈ a, q x) (h2 : ∀ x ∈ b, q x) : ∀ x ∈ mergeE a b, q x := by
  intro x hx
  obtain ⟨m1, m2, m3⟩ := mergeE_spec _ a b (Nat.le_refl _) ha hb
  have hf : findR (mergeE a b) x.1 = some x.2 := by
    have key : ∀ (l : List Entry), Srt l → x ∈ l → findR l x.1 = some x.2 := by
      intro l hl hx
      induction l with
      | nil => cases hx
      | cons y l ih =>
        have hl := List.pairwise_cons.1 hl
        rw [findR_cons]
        rcases List.mem_cons.1 hx with rfl | hx
        · rw [beq_self_eq_true]; rfl
        · have := hl.1 x hx
          have hne : (y.1 == x.1) = false := by
            cases e : y.1 == x.1 with
            | false => rfl
            | true => have e : y.1 = x.1 := by simpa using e
                      rw [e, ltS_irrefl'] at this; cases this
          rw [hne]; exact ih hl.2 hx
    exact key _ m1 hx
  rw [m2] at hf
  cases e1 : findR a x.1 with
  | none =>
    rw [e1] at hf
    cases e2 : findR b x.1 with
    | none => rw [e2] at hf; cases hf
    | some s => rw [e2] at hf; cases hf; exact h2 _ (find_mem e2)
  | some r =>
    cases e2 : findR b x.1 with
    | none => rw [e1, e2] at hf; cases hf; exact h1 _ (find_mem e1)
    | some s =>
      rw [e1, e2] at hf
      have hf : joinR r s = x.2 := by injection hf
      have : x.2 = r ∨ x.2 = s := by
        unfold joinR at hf
        cases hn : newR s r with
        | false => rw [hn] at hf; left; exact hf.symm
        | true => rw [hn] at hf; right; exact hf.symm
      have hxx : x = (x.1, x.2) := rfl
      rcases this with h | h
      · rw [hxx, h]; exact h1 _ (find_mem e1)
      · rw [hxx, h]; exact h2 _ (find_mem e2)
theorem merge_ok {a b : List Entry} (ha : mayB a = true) (hb : mayB b = true) (hl : a.length + b.length ≤ 4096) : mayB (mergeE a b) = true ∧ joinP a b = (mergeE a b, 0, ()) := by
  obtain ⟨_, a2, a3⟩ := (mayB_iff a).1 ha
  obtain ⟨_, b2, b3⟩ := (mayB_iff b).1 hb
  have hlen := merge_len (a := a) (b := b)
  refine ⟨(mayB_iff _).2 ⟨by omega, (mergeE_spec _ a b (Nat.le_refl _) a2 b2).1, mergeE_regs a2 b2 (fun x => entB x = true) a3 b3⟩, ?_⟩
  unfold joinP
  have hlt : decide (4096 < (mergeE a b).length) = false := by rw [decide_eq_false_iff_not]; omega
  rw [ha, hb, hlt]; rfl
theorem merge_small {a b : List Entry} (ha : mayB a = true) (hb : mayB b = true) (ha' : SmallE a) (hb' : SmallE b) (hl : a.length + b.length ≤ 10000) : SmallE (mergeE a b) := by
  obtain ⟨_, a2, _⟩ := (mayB_iff a).1 ha
  obtain ⟨_, b2, _⟩ := (mayB_iff b).1 hb
  have hlen := merge_len (a := a) (b := b)
  exact ⟨by omega, mergeE_regs a2 b2 _ ha'.2 hb'.2⟩
theorem findR_filter {l : List Entry} (hl : Srt l) (q : Entry → Bool) (k : Str) : findR (l.filter q) k = (findR l k).bind fun r => bif q (k, r) then some r else none := by
  induction l with
  | nil => rfl
  | cons x l ih =>
    have hl := List.pairwise_cons.1 hl
    rw [List.filter_cons, findR_cons]
    cases e : x.1 == k with
    | false =>
      cases q x
      · simpa using ih hl.2
      · simp only [if_true, findR_cons, e, cond_false]; exact ih hl.2
    | true =>
      have e' : x.1 = k := by simpa using e
      have hx : (k, x.2) = x := by rw [← e']
      have hno : findR (l.filter q) k = none := by
        rw [ih hl.2, srt_find fun z hz => e' ▸ hl.1 z hz]; rfl
      simp only [cond_true, Option.bind_some, hx]
      cases hq : q x
      · simpa using hno
      · simp only [if_true, findR_cons, e, cond_true]

theorem registryOrder_law (x : ElP l10_RegistryOrder_g.ps) (_ : okP l10_RegistryOrder_g.ps x) : (l10_RegistryOrder_g.f x).run = some true := by
  obtain ⟨a, b, c, _⟩ := x
  show (l10_RegistryOrder_T a b c).run = _
  unfold l10_RegistryOrder_T
  refine (run_bnd (few10_run a 30 (by omega) 30 rfl)).trans ?_
  refine (run_grd (few10_run b 30 (by omega) 30 rfl)).trans ?_
  refine (run_grd (few10_run c 30 (by omega) 30 rfl)).trans ?_
  cases hfa : fewB q10 30 a with
  | false => exact (run_off rfl).trans ((run_off rfl).trans ((run_off rfl).trans ((run_t rfl).trans (run_bnd awake10))))
  | true =>
  cases hfb : fewB q10 30 b with
  | false => exact (run_off rfl).trans ((run_off rfl).trans ((run_off rfl).trans ((run_t rfl).trans (run_bnd awake10))))
  | true =>
  cases hfc : fewB q10 30 c with
  | false => exact (run_off rfl).trans ((run_off rfl).trans ((run_off rfl).trans ((run_t rfl).trans (run_bnd awake10))))
  | true =>
  have sa := few10_small (by omega) hfa
  have sb := few10_small (by omega) hfb
  have sc := few10_small (by omega) hfc
  refine (run_grd (regM_run a sa)).trans ?_
  refine (run_grd (regM_run b sb)).trans ?_
  refine (run_grd (regM_run c sc)).trans ?_
  cases ma : mayB a with
  | false => exact (run_t rfl).trans (run_bnd awake10)
  | true =>
  cases mb : mayB b with
  | false => exact (run_t rfl).trans (run_bnd awake10)
  | true =>
  cases mc : mayB c with
  | false => exact (run_t rfl).trans (run_bnd awake10)
  | true =>
  refine (run_f rfl).trans ?_
  have la := fewB_len hfa
  have lb := fewB_len hfb
  have lc := fewB_len hfc
  obtain ⟨_, ra, _⟩ := (mayB_iff a).1 ma
  obtain ⟨_, rb, _⟩ := (mayB_iff b).1 mb
  obtain ⟨_, rc, _⟩ := (mayB_iff c).1 mc
  obtain ⟨mab, jab⟩ := merge_ok ma mb (by omega)
  obtain ⟨mba, jba⟩ := merge_ok mb ma (by omega)
  obtain ⟨maa, jaa⟩ := merge_ok ma ma (by omega)
  obtain ⟨mbc, jbc⟩ := merge_ok mb mc (by omega)
  have lab := merge_len (a := a) (b := b)
  have lbc := merge_len (a := b) (b := c)
  have sab := merge_small ma mb sa sb (by omega)
  have sbc := merge_small mb mc sb sc (by omega)
  obtain ⟨m1, j1⟩ := merge_ok mab mc (by omega)
  obtain ⟨m2, j2⟩ := merge_ok ma mbc (by omega)
  obtain ⟨oab, fab, _⟩ := mergeE_spec _ a b (Nat.le_refl _) ra rb
  obtain ⟨oba, fba, _⟩ := mergeE_spec _ b a (Nat.le_refl _) rb ra
  obtain ⟨oaa, faa, _⟩ := mergeE_spec _ a a (Nat.le_refl _) ra ra
  obtain ⟨obc, fbc, _⟩ := mergeE_spec _ b c (Nat.le_refl _) rb rc
  obtain ⟨o1, f1, _⟩ := mergeE_spec _ (mergeE a b) c (Nat.le_refl _) oab rc
  obtain ⟨o2, f2, _⟩ := mergeE_spec _ a (mergeE b c) (Nat.le_refl _) ra obc
  have e1 : mergeE b a = mergeE a b := srt_ext oba oab fun k => by rw [fba, fab, joinO_comm]
  have e2 : mergeE a a = a := srt_ext oaa ra fun k => by rw [faa, joinO_idem]
  have e3 : mergeE (mergeE a b) c = mergeE a (mergeE b c) := srt_ext o1 o2 fun k => by rw [f1, f2, fab, fbc, joinO_assoc]
  -- the news
  have hn1 : mayB (a.filter (newsB b)) = true := (mayB_iff _).2 ⟨Nat.le_trans (List.length_filter_le _ _) (by omega), List.Pairwise.sublist List.filter_sublist ra, fun x hx => ((mayB_iff a).1 ma).2.2 x (List.mem_filter.1 hx).1⟩
  have hnl : (a.filter (newsB b)).length ≤ 30 := Nat.le_trans (List.length_filter_le _ _) la
  have hn2 : SmallE (a.filter (newsB b)) := ⟨by omega, fun x hx => sa.2 x (List.mem_filter.1 hx).1⟩
  obtain ⟨mn, jn⟩ := merge_ok mb hn1 (by omega)
  obtain ⟨on, fn, _⟩ := mergeE_spec _ b (a.filter (newsB b)) (Nat.le_refl _) rb ((mayB_iff _).1 hn1).2.1
  have hpos : ∀ k r, findR a k = some r → 1 ≤ r.1 := fun k r h => by
    have := ((mayB_iff a).1 ma).2.2 _ (find_mem h)
    unfold entB regB at this
    simp only [Bool.and_eq_true, decide_eq_true_eq] at this
    exact this.2.1.1.1
  have e4 : mergeE b (a.filter (newsB b)) = mergeE a b := srt_ext on oab fun k => by
    rw [fn, fab, findR_filter ra]
    cases h1 : findR a k with
    | none => cases findR b k <;> rfl
    | some r =>
      simp only [Option.bind_some]
      unfold newsB getR
      cases h2 : findR b k with
      | none =>
        have : newR r (0, ([], [])) = true := by rw [newR_iff]; left; have := hpos k r h1; show 0 < r.1; omega
        simp only [h2, Option.getD_none, this, cond_true]; rfl
      | some s =>
        simp only [h2, Option.getD_some]
        cases h3 : newR r s with
        | true =>
          show some (joinR s r) = some (joinR r s)
          rw [joinR_comm]
        | false =>
          show some s = some (joinR r s)
          unfold joinR
          cases h4 : newR s r with
          | true => rfl
          | false => exact congrArg some (newR_total h4 h3)
  have e5 : a.filter (newsB (mergeE a b)) = [] := by
    rw [List.filter_eq_nil_iff]
    intro x hx
    unfold newsB getR
    rw [fab]
    have hfx : findR a x.1 = some x.2 := by
      have hxx := findR_filter ra (fun y => y.1 == x.1) x.1
      cases h1 : findR a x.1 with
      | none =>
        exfalso
        unfold findR at h1
        rw [Option.map_eq_none_iff, List.find?_eq_none] at h1
        exact h1 x hx (by simp)
      | some r =>
        have hm := find_mem h1
        by_cases e : (x.1, r) = x
        · rw [← e]
        · exfalso
          obtain ⟨i, hi, hxi⟩ := List.mem_iff_getElem.1 hx
          obtain ⟨j, hj, hxj⟩ := List.mem_iff_getElem.1 hm
          rcases Nat.lt_trichotomy i j with h | h | h
          · have := List.pairwise_iff_getElem.1 ra i j hi hj h
            rw [hxi, hxj] at this
            exact absurd this (by rw [show ltS x.1 x.1 = false from ltS_irrefl' _]; simp)
          · subst h; rw [hxi] at hxj; exact e hxj.symm
          · have := List.pairwise_iff_getElem.1 ra j i hj hi h
            rw [hxi, hxj] at this
            exact absurd this (by rw [show ltS x.1 x.1 = false from ltS_irrefl' _]; simp)
    rw [hfx]
    cases h2 : findR b x.1 with
    | none => show ¬ newR x.2 x.2 = true; rw [newR_irrefl]; simp
    | some s =>
      show ¬ newR x.2 (joinR x.2 s) = true
      unfold joinR
      cases h3 : newR s x.2 with
      | true => rw [cond_true, newR_asymm h3]; simp
      | false => rw [cond_false, newR_irrefl]; simp
  have ll : ∀ {l : List Entry}, l.length ≤ 1000 → (r10_Same_T l l).run = some true := fun {l} h => by rw [rSame_run l l (by omega), same_self]
  have l1 := merge_len (a := mergeE a b) (b := c)
  rw [e3] at l1
  have lab' : (mergeE a b).length ≤ 1000 := by omega
  have l1' : (mergeE a (mergeE b c)).length ≤ 1000 := by omega
  have laa' : a.length ≤ 1000 := by omega
  refine (run_bnd ((join_run a b sa sb).trans (congrArg some jab))).trans ?_
  refine (run_bnd ((join_run b a sb sa).trans (congrArg some jba))).trans ?_
  refine (run_bnd ((join_run a a sa sa).trans (congrArg some jaa))).trans ?_
  refine (run_bnd ((join_run b c sb sc).trans (congrArg some jbc))).trans ?_
  refine (run_bnd ((join_run (mergeE a b) c sab sc).trans (congrArg some j1))).trans ?_
  refine (run_bnd ((join_run a (mergeE b c) sa sbc).trans (congrArg some j2))).trans ?_
  rw [e1, e2, e3]
  refine (run_grd (ll lab')).trans ?_
  refine (run_grd (ll laa')).trans ?_
  refine (run_grd (ll l1')).trans ?_
  refine (run_f rfl).trans ?_
  refine (run_bnd (news_run a b (by omega) (by omega))).trans ?_
  refine (run_bnd ((join_run b _ sb hn2).trans (congrArg some jn))).trans ?_
  rw [e4]
  refine (run_grd (ll lab')).trans ?_
  refine (run_grd ((news_run a (mergeE a b) (by omega) (by omega)).trans (congrArg some e5))).trans ?_
  exact (run_grd awake10).trans rfl

end Go.Eng
