/- The rule for a region that may go in any order. -/
import Derived.Test.YtedmkgnbgkhloaaEngO
namespace Go.Eng
open Go Go.RowKit

variable {P : Program} {T : Tab} {base : Env} {w : World} {S : Nat → Prop} {m : Locs} {M : Mem}

/-- Two states that agree on what operation i looks at. -/
theorem Hyb.agree {ops : Array Oper} (hd : DrawOk ops) {s0 sn s h : St} {i : Nat} {o : Oper} (hi : ops[i]? = some o) {L : Nat → Prop} (hs : Hyb ops s0 sn (fun j => j < i) s) (hh : Hyb ops s0 sn L h)
    (hL : ¬ L i) (hp : ∀ j ∈ predsOf o, L j) (hcl : ∀ (j : Nat) (o' : Oper), L j → ops[j]? = some o' → ∀ k ∈ predsOf o', L k) : Agree ops.toList s h o := by
  have hback := hd.back i o hi
  have key : ∀ t, t ∈ o.looksAt ops → nth s.ts t = nth h.ts t ∧ tagOf s.tg t = tagOf h.tg t := fun t ht => by
    by_cases hw : Wr ops (fun j => j < i) t
    · obtain ⟨j, o', hj, ho', hdj⟩ := hw
      have hwL : Wr ops L t := by
        rcases hd.look i j o o' t hi ho' hdj ht with h1 | h1
        · exact ⟨j, o', hp j h1, ho', hdj⟩
        · have := hd.back j o' ho' i h1
          have hj : j < i := hj
          omega
      obtain ⟨a1, a2⟩ := hs.wr t ⟨j, o', hj, ho', hdj⟩
      obtain ⟨b1, b2⟩ := hh.wr t hwL
      exact ⟨a1.trans b1.symm, a2.trans b2.symm⟩
    · have hwL : ¬ Wr ops L t := fun ⟨j, o', hj, ho', hdj⟩ => by
        rcases hd.look i j o o' t hi ho' hdj ht with h1 | h1
        · exact hw ⟨j, o', hback j h1, ho', hdj⟩
        · exact hL (hcl j o' hj ho' i h1)
      obtain ⟨a1, a2⟩ := hs.un t hw
      obtain ⟨b1, b2⟩ := hh.un t hwL
      exact ⟨a1.trans b1.symm, a2.trans b2.symm⟩
  refine ⟨hs.m.trans hh.m.symm, fun t ht => key t ?_, fun C hC => ?_⟩
  · exact List.mem_append_left _ (List.mem_filterMap.2 ⟨.tmp t, ht, rfl⟩)
  · rcases guard_chain hC with ⟨rfl, hg⟩ | ⟨j, b, o', d, hg, hj, hdj, rfl⟩
    · rw [hg]; exact ⟨rfl, fun t b hm => by simp at hm⟩
    · have hj' : ops[j]? = some o' := by rw [← Array.getElem?_toList]; exact hj
      have hdl : d ∈ o.looksAt ops := List.mem_append_right _ (by rw [hg]; simp only [hj', Option.bind_some, hdj]; simp)
      obtain ⟨k1, k2⟩ := key d hdl
      refine ⟨?_, fun t b' hm => ?_⟩
      · rw [hg] at hC ⊢
        have hn : nthO ops.toList j = some o' := by rw [nthO_eq]; exact hj
        have e : ∀ tg, chainOf ops.toList tg (some (j, b)) = some (tagOf tg d ++ [(d, b)]) := fun tg => by
          obtain ⟨dst, op, ty, pos, af, gu⟩ := o'
          have hdj : dst = some d := hdj
          subst hdj
          simp only [chainOf, hn, catC_eq]
        rw [e, k2]
      · rcases List.mem_append.1 hm with hm | hm
        · obtain ⟨C1, h1, h2⟩ := mem_tagOf hm
          rw [k2] at hm
          obtain ⟨C2, h3, h4⟩ := mem_tagOf hm
          exact (hs.wr t (hs.tg _ _ h1 _ _ h2)).1.trans (hh.wr t (hh.tg _ _ h3 _ _ h4)).1.symm
        · simp at hm
          obtain ⟨rfl, rfl⟩ := hm
          exact k1

theorem binds_pred {ops : Array Oper} {o : Oper} {e : Edge} (he : e ∈ o.after) (hb : Region.binds .any e = true) : e.on ∈ predsOf o :=
  List.mem_map.2 ⟨e, List.mem_filter.2 ⟨by simpa using he, hb⟩, rfl⟩

theorem pred_binds {o : Oper} {j : Nat} (h : j ∈ predsOf o) : ∃ e ∈ o.after, Region.binds .any e = true ∧ e.on = j := by
  obtain ⟨e, he, hj⟩ := List.mem_map.1 h
  obtain ⟨h1, h2⟩ := List.mem_filter.1 he
  exact ⟨e, by simpa using h1, h2, hj⟩

def Listed (ops : Array Oper) (listed : Array Bool) (j : Nat) : Prop := j < ops.size ∧ listed.getD j false = true

theorem getD_tf {listed : Array Bool} {j : Nat} (h : j < listed.size) : listed.getD j true = listed.getD j false := by simp [Array.getD_eq_getD_getElem?, h]

/-- Where nothing is ready, all is done. -/
theorem all_listed {ops : Array Oper} (hd : DrawOk ops) {listed : Array Bool} (hsz : listed.size = ops.size) (hr : Region.ready .any ops listed = []) : ∀ i, i < ops.size → Listed ops listed i := by
  intro i
  induction i using Nat.strongRecOn with
  | _ i ih =>
    intro hi
    refine Classical.byContradiction fun hn => ?_
    have hf : listed.getD i true = false := by
      rw [getD_tf (by omega)]
      cases h : listed.getD i false with
      | true => exact absurd ⟨hi, h⟩ hn
      | false => rfl
    have hg := Array.getElem?_eq_getElem hi
    have : i ∈ Region.ready .any ops listed := by
      rw [mem_ready]
      refine ⟨hf, _, hg, fun e he hb => ?_⟩
      have hlt := hd.back i _ hg _ (binds_pred (ops := ops) he hb)
      exact (ih _ hlt (by omega)).2
    rw [hr] at this
    cases this

theorem wpAny_text (hT : TabOk P T) {call : Oracle} (hcall : Sound P call) {ops : Array Oper} (hd : DrawOk ops) {s0 : St} (h0 : s0.tg = []) {Q : Exit → Act → World → Prop}
    (hk : AllT (stAt std T call ops s0 ops.size).ks) : ∀ (fuel : Nat) (listed : Array Bool) (rem : List Nat) {w : World} {S : Nat → Prop} {m : Locs} {a : Act} {h : St},
      listed.size = ops.size → rem.length ≤ fuel → (∀ i, i < ops.size → listed.getD i false = false → i ∈ rem) →
      (∀ (j : Nat) (o' : Oper), Listed ops listed j → ops[j]? = some o' → ∀ k ∈ predsOf o', Listed ops listed k) →
      Hyb ops s0 (stAt std T call ops s0 ops.size) (Listed ops listed) h → MRel base w S m h.m → FRel w S m a h → ThenS base w S m (stAt std T call ops s0 ops.size) (fun a w => Q .normal a w) →
      wpAny P .any ops Q fuel listed a w := by
  have fin : ∀ (listed : Array Bool) {w : World} {S : Nat → Prop} {m : Locs} {a : Act} {h : St}, (∀ i, i < ops.size → Listed ops listed i) → Hyb ops s0 (stAt std T call ops s0 ops.size) (Listed ops listed) h → MRel base w S m h.m → FRel w S m a h →
      ThenS base w S m (stAt std T call ops s0 ops.size) (fun a w => Q .normal a w) → Q .normal a w := fun listed {w S m a h} hall hh hM hF hK => by
    have hsn := stAt_hyb (p := std) (T := T) (call := call) hd h0 hk ops.size (Nat.le_refl _)
    have eqt : ∀ t, nth h.ts t = nth (stAt std T call ops s0 ops.size).ts t ∧ tagOf h.tg t = tagOf (stAt std T call ops s0 ops.size).tg t := fun t => by
      by_cases hw : Wr ops (Listed ops listed) t
      · exact hh.wr t hw
      · have hw' : ¬ Wr ops (fun j => j < ops.size) t := fun ⟨j, o, hj, ho, hdj⟩ => hw ⟨j, o, hall j hj, ho, hdj⟩
        obtain ⟨a1, a2⟩ := hh.un t hw
        obtain ⟨b1, b2⟩ := hsn.un t hw'
        exact ⟨a1.trans b1.symm, a2.trans b2.symm⟩
    refine hK a w S m (Prot.refl _ _) (fun _ h => h) (fun _ h => .inl h) (by rw [hsn.m, ← hh.m]; exact hM) ⟨?_, hF.defers, fun t ht => ?_, fun t => ?_⟩
    · rw [hF.size, hh.len, hsn.len]
    · rw [← (eqt t).1]; exact hF.rel t (by rw [(eqt t).2]; exact ht)
    · rw [← (eqt t).2]; exact hF.skip t
  intro fuel
  induction fuel with
  | zero =>
    intro listed rem w S m a h hsz hrem hin hcl hh hM hF hK
    have hall : ∀ i, i < ops.size → Listed ops listed i := fun i hi => by
      refine ⟨hi, ?_⟩
      cases e : listed.getD i false with
      | true => rfl
      | false =>
        have := hin i hi e
        have hnil : rem = [] := List.eq_nil_of_length_eq_zero (by omega)
        rw [hnil] at this; cases this
    refine ⟨?_, fin listed hall hh hM hF hK⟩
    rw [List.eq_nil_iff_forall_not_mem]
    intro i hi
    obtain ⟨h1, o, ho, _⟩ := mem_ready.1 hi
    have hlt := (Array.getElem?_eq_some_iff.1 ho).1
    rw [getD_tf (by omega), (hall i hlt).2] at h1
    cases h1
  | succ fuel ih =>
    intro listed rem w S m a h hsz hrem hin hcl hh hM hF hK
    refine ⟨fun hr => fin listed (all_listed hd hsz hr) hh hM hF hK, fun i hi => ?_⟩
    obtain ⟨h1, o, ho, hpr⟩ := mem_ready.1 hi
    have hlt := (Array.getElem?_eq_some_iff.1 ho).1
    rw [getD_tf (by omega)] at h1
    have hL : ¬ Listed ops listed i := fun x => by have := x.2; rw [h1] at this; cases this
    have hp : ∀ j ∈ predsOf o, Listed ops listed j := fun j hj => by
      obtain ⟨e, he, hb, rfl⟩ := pred_binds hj
      have := hd.back i o ho _ hj
      exact ⟨by omega, hpr e he hb⟩
    have hs := stAt_hyb (p := std) (T := T) (call := call) hd h0 hk i (by omega)
    have hag := hs.agree hd ho hh hL hp hcl
    have hks := stAt_ks' hk (k := i + 1) (by omega)
    have es := stAt_succ (T := T) (p := std) (call := call) (s0 := s0) ho
    rw [es] at hks
    unfold aOperQ at hks
    obtain ⟨C, v, ks, he, _, hkk⟩ := layE_ks hks
    rw [he] at hks
    have he' := eff_congr hag he
    have eL : (fun j => Listed ops listed j ∨ j = i) = Listed ops (listed.setIfInBounds i true) := by
      funext j; apply propext
      constructor
      · rintro (⟨hj, hj'⟩ | rfl)
        · exact ⟨hj, getD_set_true hj'⟩
        · exact ⟨hlt, by simp [Array.getD_eq_getD_getElem?, hsz, hlt]⟩
      · rintro ⟨hj, hj'⟩
        by_cases e : i = j
        · exact .inr e.symm
        · rw [getD_set_ne false e] at hj'; exact .inl ⟨hj, hj'⟩
    have hstep : Hyb ops s0 (stAt std T call ops s0 ops.size) (fun j => Listed ops listed j ∨ j = i) (layE h o.dst (some (C, v, ks))) := by
      refine hh.step hd ho hL hkk ?_ ?_
      · intro s b hm
        have hC : chainOf ops.toList h.tg o.guard = some C := by
          unfold eff at he'
          split at he'
          · simp at he'
          rename_i C' hC'
          rw [hC']
          unfold eff2 at he'
          split at he'
          · split at he'
            · cases he'; rfl
            · simp at he'
          · unfold effVal at he'
            split at he'
            · simp only at he'
              split at he'
              · cases he'; rfl
              · simp at he'
            · simp at he'
        rcases guard_chain hC with ⟨rfl, _⟩ | ⟨j, b', o', d, hgd, hj, hd', rfl⟩
        · simp at hm
        · rcases List.mem_append.1 hm with hm | hm
          · obtain ⟨C'', h1, h2⟩ := mem_tagOf hm
            exact hh.tg _ _ h1 _ _ h2
          · simp at hm
            obtain ⟨rfl, rfl⟩ := hm
            exact ⟨j, o', hp j (hd.guard i o j b ho hgd), by rw [← Array.getElem?_toList]; exact hj, hd'⟩
      · intro d hdst
        have hsn := stAt_hyb (p := std) (T := T) (call := call) hd h0 hk (i + 1) (by omega)
        obtain ⟨a1, a2⟩ := hsn.wr d ⟨i, o, Nat.lt_succ_self i, ho, hdst⟩
        rw [es] at a1 a2
        unfold aOperQ at a1 a2
        rw [he] at a1 a2
        obtain ⟨f1, f2, _, _⟩ := layE_form hks
        rw [f1, hdst] at a1
        rw [f2, hdst] at a2
        simp only [putO, tagO, if_true] at a1 a2
        refine ⟨a1.symm.trans ?_, a2.symm⟩
        rw [nth_put, nth_put, hs.len]
        by_cases hlt : d < lenA s0.ts
        · rw [if_pos ⟨rfl, hlt⟩, if_pos ⟨rfl, hlt⟩]
        · rw [if_neg (fun x => hlt x.2), if_neg (fun x => hlt x.2), nth_out _ _ (by rw [hs.len]; exact Nat.le_of_not_lt hlt), nth_out _ _ (Nat.le_of_not_lt hlt)]
    rw [eL] at hstep
    refine aOper_wp hT hcall ho hM hF (s := h) (by rw [aOperQ_eq he']; exact hstep.ks) ?_
    rw [aOperQ_eq he']
    intro a' w' S' m' hb hS hU hM' hF'
    refine ih (listed.setIfInBounds i true) (rem.erase i) (by simpa using hsz) ?_ ?_ ?_ hstep hM' hF' ?_
    · have := hin i hlt h1
      rw [List.length_erase_of_mem this]; omega
    · intro j hj hjf
      have e : i ≠ j := fun e => by
        subst e
        simp [Array.getD_eq_getD_getElem?, hsz, hlt] at hjf
      rw [getD_set_ne false e] at hjf
      exact (List.mem_erase_of_ne e.symm).2 (hin j hj hjf)
    · rw [← eL]
      intro j o' hj ho' k hkp
      rcases hj with hj | rfl
      · exact .inl (hcl j o' hj ho' k hkp)
      · rw [ho] at ho'; injection ho' with ho'; subst ho'; exact .inl (hp k hkp)
    · intro a'' w'' S'' m'' hb' hS' hU' hM'' hF''
      exact hK a'' w'' S'' m'' (hb.trans hb') (fun b h => hS' b (hS b h)) (fun b h => (hU' b h).elim (hU b) .inr) hM'' hF''

/-- A region in any order. -/
theorem AWp.regionDraw (hm : P.follows .mixedOrders = true) (hT : TabOk P T) {call : Oracle} (hcall : Sound P call) {id : Nat} {ops : Array Oper} {Q : Exit → AS → Prop} {A : AS} {s : St} (hd : drawOk ops = true)
    (hs : aOpsQ std T call ops.toList ops.toList ⟨A.ts, A.m, [], []⟩ = s) (hk : AllT s.ks) (hq : Q .normal ⟨wipe s.ts s.tg, s.m, A.np⟩) : AWp P (.region id ops true) Q A := by
  have es : stAt std T call ops ⟨A.ts, A.m, [], []⟩ ops.size = s := by unfold stAt; rw [← hs, ← Array.length_toList, List.take_length]
  subst es
  refine ⟨fun base w S m a hM hA => wp_region_any hm ?_⟩
  have hd := DrawOk.of hd
  have hM' : MRel base w.drew S m A.m := hM.rel.drew
  have hB : Prot base.Z w w.drew := ⟨rfl, rfl, rfl, Nat.le_refl _, fun _ _ => rfl⟩
  have hF : FRel w.drew S m a ⟨A.ts, A.m, [], []⟩ := ⟨hA.1, hA.2.1, fun t _ => Rel.mono (w := w) (w' := w.drew) (fun _ h => h) (fun _ _ => rfl) (hA.2.2 t) _ (fun _ _ h => h), fun t => .inl fun s b hm => by simp [tagOf] at hm⟩
  have hno : ∀ j, ¬ Listed ops (Array.replicate ops.size false) j := fun j ⟨hj, h⟩ => by simp [Array.getD_eq_getD_getElem?, hj] at h
  have h0 := stAt_hyb (p := std) (T := T) (call := call) (s0 := ⟨A.ts, A.m, [], []⟩) hd rfl hk 0 (Nat.zero_le _)
  have e0 : stAt std T call ops ⟨A.ts, A.m, [], []⟩ 0 = ⟨A.ts, A.m, [], []⟩ := by simp [stAt, aOpsQ]
  have eL : (fun j => j < 0) = Listed ops (Array.replicate ops.size false) := by
    funext j; apply propext
    exact ⟨fun h => absurd h (Nat.not_lt_zero _), fun h => absurd h (hno j)⟩
  rw [e0, eL] at h0
  refine wpAny_text (base := base) hT hcall hd rfl hk ops.size _ (List.range ops.size) (by simp) (by simp) (fun i hi _ => by simpa using hi) (fun j o' hj => absurd hj (hno j)) h0 hM' hF ?_
  intro a' w' S' m' hb hS hU hM'' hF''
  exact ⟨_, S', m', hq, hB.trans hb, hS, hU, ⟨hM'', hM.pins⟩, hF''.wipe⟩

end Go.Eng
