/- Chapter 08, in plain Lean: LastOne and LastApart. -/
import Derived.Test.YtbkbciegpakodaaQ08
namespace Go.Eng
open Go Go.Proofs

theorem maxF_spec (l : List Sib) : ∀ x, maxF x l ∈ x :: l ∧ ∀ y ∈ x :: l, later y (maxF x l) = false := by
  induction l with
  | nil => intro x; exact ⟨List.mem_singleton.2 rfl, fun y hy => by rw [List.mem_singleton.1 hy]; exact later_irrefl x⟩
  | cons z l ih =>
    intro x
    simp only [maxF]
    cases h : later z x with
    | true =>
      obtain ⟨h1, h2⟩ := ih z
      refine ⟨List.mem_cons_of_mem _ h1, fun y hy => ?_⟩
      rcases List.mem_cons.1 hy with e | hy
      · subst e
        cases k : later y (maxF z l) with
        | false => exact k
        | true => have := h2 z List.mem_cons_self; rw [later_trans h k] at this; cases this
      · exact h2 y hy
    | false =>
      obtain ⟨h1, h2⟩ := ih x
      refine ⟨?_, fun y hy => ?_⟩
      · rcases List.mem_cons.1 h1 with e | h1
        · show maxF x l ∈ _; rw [e]; exact List.mem_cons_self
        · exact List.mem_cons_of_mem _ (List.mem_cons_of_mem _ h1)
      · rcases List.mem_cons.1 hy with e | hy
        · subst e; exact h2 y List.mem_cons_self
        · rcases List.mem_cons.1 hy with e | hy
          · subst e
            show later y (maxF x l) = false
            cases k : later y (maxF x l) with
            | false => rfl
            | true =>
              have h3 := h2 x List.mem_cons_self
              -- x is not later than the greatest one, y is
              cases q : later (maxF x l) x with
              | true => rw [later_trans k q] at h; cases h
              | false =>
                have e := later_total h3 q
                have et : x.2.2.2 = (maxF x l).2.2.2 := by
                  have a1 : ¬ (later x (maxF x l) = true) := by simp [h3]
                  have a2 : ¬ (later (maxF x l) x = true) := by simp [q]
                  rw [later_iff] at a1 a2
                  have b1 : ¬ (maxF x l).2.2.2 < x.2.2.2 := fun e => a1 (.inl e)
                  have b2 : ¬ x.2.2.2 < (maxF x l).2.2.2 := fun e => a2 (.inl e)
                  omega
                rw [later_iff, ← et, ← e, ← later_iff] at k
                rw [k] at h; cases h
          · exact h2 y (List.mem_cons_of_mem _ hy)

def eqS (a b : Sib) : Bool := ((((a.1).1) == ((b.1).1)) && ((decide ((a.1).2 = (b.1).2)) && true)) && ((((a.2).1) == ((b.2).1)) && (((((a.2).2).1) == (((b.2).2).1)) && ((decide (((a.2).2).2 = ((b.2).2).2)) && true)))
theorem eqS_refl (a : Sib) : eqS a a = true := by simp [eqS]

theorem lastOne_law (x : ElP l08_LastOne_g.ps) (_ : okP l08_LastOne_g.ps x) : (l08_LastOne_g.f x).run = some true := by
  obtain ⟨o, _⟩ := x
  show (l08_LastOne_T o).run = _
  unfold l08_LastOne_T
  obtain ⟨f, hf, hf'⟩ := fewO_run o
  simp only [Tree.run, hf, awake08, Option.bind_some]
  cases f with
  | false => rfl
  | true =>
    have ho := hf' rfl
    have hla := answer_len o true (by omega)
    have hone : answer o false = [] ∨ ∃ m, answer o false = [m] ∧ m ∈ o.2 ∧ m.2.2.1 = false ∧ ∀ y ∈ o.2, later y m = false := by
      unfold answer
      cases hs : o.2 with
      | nil => exact .inl rfl
      | cons x l =>
        obtain ⟨h1, h2⟩ := maxF_spec l x
        show livs [maxF x l] = [] ∨ ∃ m, livs [maxF x l] = [m] ∧ _
        cases hg : (maxF x l).2.2.1 with
        | true => left; simp [livs, hg]
        | false => right; exact ⟨maxF x l, by simp [livs, hg], h1, hg, h2⟩
    have hall : answer o true = livs o.2 := rfl
    simp only [Bool.not_true, cond_false, answer_run o _ (show o.2.length ≤ 1000000 by omega), Option.bind_some]
    have hlen : (decide ((1 : Int) < ((answer o false).length : Int)) || decide (((answer o true).length : Int) < ((answer o false).length : Int))) = false := by
      rcases hone with h | ⟨m, h, h1, h2, _⟩
      · rw [h]; simp
      · have hm : m ∈ answer o true := by rw [hall]; unfold livs; exact List.mem_filter.2 ⟨h1, by simp [h2]⟩
        have : 0 < (answer o true).length := List.length_pos_of_mem hm
        rw [h]
        simp
        omega
    simp only [hlen, cond_false]
    rw [loopF_run (S := fun i => ((i : Nat) : Int)) (n := (answer o true).length) (a := (.inr () : Bool ⊕ Unit)) (fun i hi => by
      have hg : ((answer o true)[i]).2.2.1 = false := by
        have : (answer o true)[i] ∈ livs o.2 := List.getElem_mem hi
        have := (List.mem_filter.1 this).2
        simpa using this
      unfold l08_LastOne_L7_step
      simp only [Tree.run, Int.ofNat_lt, hi, decide_true, cond_true, inb_nat, Int.toNat_natCast, getD_lt _ _ _ hi, hg, cond_false, w64_nat i (by omega)]) (by unfold l08_LastOne_L7_step; simp [Tree.run]) (s0 := (0 : Int)) rfl]
    rcases hone with h | ⟨m, h, h1, h2, h3⟩
    · simp [Tree.run, h, awake08]
    · have hne : ¬ (((answer o false).length : Int) = 0) := by rw [h]; simp
      simp only [Tree.run, Option.bind_some, hne, decide_false, cond_false]
      have hi0 : inb 0 (answer o false).length = true := by rw [h]; rfl
      have hg0 : (answer o false).getD ((0 : Int).toNat) (dfl tSib : Sib) = m := by rw [h]; rfl
      rw [loopF_list (answer o true) (fun i c => (c, ((i : Nat) : Int))) (fun _ x c => (.inl (c || eqS x m) : Bool ⊕ Bool)) id (fun i c hi => by
        unfold l08_LastOne_L15_step
        simp only [Tree.run, Int.ofNat_lt, hi, decide_true, cond_true, inb_nat, Int.toNat_natCast, getD_lt _ _ _ hi, hi0, hg0, Bool.or_true, w64_nat i (by omega)]
        rfl) (fun c => by unfold l08_LastOne_L15_step; simp [Tree.run]) false (s0 := (false, (0 : Int))) rfl]
      have key : ∀ (l : List Sib) (i : Nat) (c : Bool), foldX (α := Bool) (fun _ x c => .inl (c || eqS x m)) id i l c = (c || l.any fun x => eqS x m) := by
        intro l
        induction l with
        | nil => intro i c; simp [foldX]
        | cons x l ih => intro i c; simp only [foldX]; rw [ih]; simp [Bool.or_assoc]
      rw [key]
      have hm : m ∈ answer o true := by rw [hall]; unfold livs; exact List.mem_filter.2 ⟨h1, by simp [h2]⟩
      have hany : ((answer o true).any fun x => eqS x m) = true := List.any_eq_true.2 ⟨m, hm, eqS_refl m⟩
      rw [hany]
      simp only [Option.bind_some, Bool.or_true]
      rw [loopF_run (S := fun i => ((i : Nat) : Int)) (n := o.2.length) (a := (.inr () : Bool ⊕ Unit)) (fun i hi => by
        unfold l08_LastOne_L19_step
        simp only [Tree.run, Int.ofNat_lt, hi, decide_true, cond_true, inb_nat, Int.toNat_natCast, getD_lt _ _ _ hi, hi0, hg0, prod_eta, later_run, Option.bind_some, h3 _ (List.getElem_mem hi), cond_false, w64_nat i (by omega)]) (by unfold l08_LastOne_L19_step; simp [Tree.run]) (s0 := (0 : Int)) rfl]
      simp [Tree.run, awake08]

/-! What a context has. -/
def hasP (d : Dot) (s : Seen) : Bool := (s.1 == d.1) && ((decide ((0 : Int) < d.2) && decide (d.2 ≤ s.2.1)) || s.2.2.any fun e => decide (d.2 = e))
def okC (c : List Seen) : Prop := c.length ≤ 9223372036854775807 ∧ ∀ s ∈ c, s.2.2.length ≤ 9223372036854775807
theorem contains_run (l : List Int) (v : Int) (hl : l.length ≤ 9223372036854775807) : (slices_Contains_int_T l v).run = some (l.any fun e => decide (v = e)) := by
  have h := loopF_find (st := fun t => (slices_Index_int_L2_step l v (l.length : Int) t).run) l (fun e => decide (v = e)) (fun i => (i : Int)) (fun i => (Sum.inl (i : Int) : Int ⊕ Unit)) (.inr ()) (fun i hi => by
    unfold slices_Index_int_L2_step
    simp only [Tree.run, Int.ofNat_lt, hi, decide_true, cond_true, inb_nat, Int.toNat_natCast, getD_lt _ _ _ hi, w64_nat i (by omega)]
    cases decide (v = l[i]) <;> rfl) (by unfold slices_Index_int_L2_step; simp [Tree.run]) (s0 := (0 : Int)) rfl
  unfold slices_Contains_int_T slices_Index_int_T
  simp only [Tree.run]
  rcases h with ⟨h, k⟩ | ⟨i, hi, h, _, k, _⟩
  · rw [h, k]; rfl
  · rw [h, k]; simp [Tree.run]
theorem in_run (l : List Int) (v : Int) (hl : l.length ≤ 9223372036854775807) : (r06_in_T l v).run = some (l.any fun e => decide (v = e)) := by
  unfold r06_in_T
  simp only [Tree.run]
  rw [loopF_any l (fun e => decide (v = e)) (fun i => (i : Int)) (Sum.inl true : Bool ⊕ Unit) (.inr ()) (fun i hi => by
    unfold r06_in_L2_step
    simp only [Tree.run, Int.ofNat_lt, hi, decide_true, cond_true, inb_nat, Int.toNat_natCast, getD_lt _ _ _ hi, w64_nat i (by omega), eq_comm (a := l[i])]
    cases decide (v = l[i]) <;> rfl) (by unfold r06_in_L2_step; simp [Tree.run]) (s0 := (0 : Int)) rfl]
  cases l.any fun e => decide (v = e) <;> rfl
theorem has1_run (s : Seen) (d : Dot) (hs : s.2.2.length ≤ 9223372036854775807) : (dots_Has_1_T s d).run = some (hasP d s) := by
  unfold dots_Has_1_T
  simp [Tree.run, contains_run _ _ hs, hasP]
theorem has_run (c : List Seen) (d : Dot) (hc : okC c) : (dots_Has_T c d).run = some (c.any (hasP d)) := by
  have h := loopF_find (st := fun t => (slices_IndexFunc_Seen_dots_Has_1_L2_step c d (c.length : Int) t).run) c (hasP d) (fun i => (i : Int)) (fun i => (Sum.inl (i : Int) : Int ⊕ Unit)) (.inr ()) (fun i hi => by
    have hb := hc.1
    unfold slices_IndexFunc_Seen_dots_Has_1_L2_step
    simp only [Tree.run, Int.ofNat_lt, hi, decide_true, cond_true, inb_nat, Int.toNat_natCast, getD_lt _ _ _ hi, prod_eta, has1_run _ d (hc.2 _ (List.getElem_mem hi)), Option.bind_some, w64_nat i (by omega)]
    cases hasP d c[i] <;> rfl) (by unfold slices_IndexFunc_Seen_dots_Has_1_L2_step; simp [Tree.run]) (s0 := (0 : Int)) rfl
  unfold dots_Has_T slices_ContainsFunc_Seen_dots_Has_1_T slices_IndexFunc_Seen_dots_Has_1_T
  simp only [Tree.run]
  rcases h with ⟨h, k⟩ | ⟨i, hi, h, _, k, _⟩
  · rw [h, k]; rfl
  · rw [h, k]; simp [Tree.run]
theorem rHas_run (c : List Seen) (d : Dot) (hc : okC c) : (r06_Has_T c d).run = some (c.any (hasP d)) := by
  unfold r06_Has_T
  simp only [Tree.run]
  rw [loopF_any c (hasP d) (fun i => (i : Int)) (Sum.inl true : Bool ⊕ Unit) (.inr ()) (fun i hi => by
    have hb := hc.1
    unfold r06_Has_L2_step
    simp only [Tree.run, Int.ofNat_lt, hi, decide_true, cond_true, inb_nat, Int.toNat_natCast, getD_lt _ _ _ hi, Bool.or_true, in_run _ _ (hc.2 _ (List.getElem_mem hi)), Option.isNone_some, Bool.and_false, cond_false, Option.getD_some, w64_nat i (by omega)]
    show (bif hasP d c[i] then _ else _) = _
    cases hasP d c[i] <;> rfl) (by unfold r06_Has_L2_step; simp [Tree.run]) (s0 := (0 : Int)) rfl]
  cases c.any (hasP d) <;> rfl

/-! What is apart. -/
def inner (d : Dot) (i : Nat) (known : List (List Seen)) : Bool ⊕ Unit := foldX (fun k c (_ : Unit) => bif (!decide ((i : Int) = (k : Int))) && c.any (hasP d) then .inr (Sum.inl false) else .inl ()) (fun _ => Sum.inr ()) 0 known ()
def apart (l : List Sib) (known : List (List Seen)) : Bool ⊕ Unit := foldX (fun i s (_ : Unit) => match inner s.1 i known with | .inl b => .inr (Sum.inl b) | .inr _ => .inl ()) (fun _ => Sum.inr ()) 0 l ()
theorem inner_run (l : List Sib) (known : List (List Seen)) (i : Nat) (hi : i < l.length) (hk : known.length ≤ 12) (ho : ∀ c ∈ known, okC c) :
    loopF (fun v => (last_Apart_L7_step known (i : Int) l (l.length : Int) (i : Int) known (known.length : Int) l[i].1.1 l[i].1.2 l[i].2.1 l[i].2.2.1 l[i].2.2.2 v).run) 0 = some (inner l[i].1 i known) := by
  refine loopF_list known (fun k (_ : Unit) => (k : Int)) _ _ (fun k _ hk' => ?_) (fun _ => by unfold last_Apart_L7_step; simp [Tree.run]) () rfl
  unfold last_Apart_L7_step
  simp only [Tree.run, Int.ofNat_lt, hk', decide_true, cond_true, inb_nat, Int.toNat_natCast, getD_lt _ _ _ hk', prod_eta, has_run _ _ (ho _ (List.getElem_mem hk')), Option.isNone_some, Bool.and_false, cond_false, Option.getD_some, w64_nat k (by omega)]
  cases (!decide ((i : Int) = (k : Int))) && (known[k].any (hasP l[i].1)) <;> rfl
theorem rInner_run (l : List Sib) (known : List (List Seen)) (i : Nat) (hi : i < l.length) (hl : l.length = known.length) (hk : known.length ≤ 12) (ho : ∀ c ∈ known, okC c) :
    loopF (fun v => (r08_Apart_L7_step l known (i : Int) v).run) 0 = some (inner l[i].1 i known) := by
  refine loopF_list known (fun k (_ : Unit) => (k : Int)) _ _ (fun k _ hk' => ?_) (fun _ => by unfold r08_Apart_L7_step; simp [Tree.run]) () rfl
  have hk2 : k < l.length := by omega
  unfold r08_Apart_L7_step
  simp only [Tree.run, Int.ofNat_lt, hk', hk2, hi, decide_true, cond_true, inb_nat, Int.toNat_natCast, getD_lt _ _ _ hk', getD_lt _ _ _ hi, Bool.and_true, Bool.or_true, rHas_run _ _ (ho _ (List.getElem_mem hk')), Option.isNone_some, Bool.and_false, cond_false, Option.getD_some, w64_nat k (by omega)]
  cases (!decide ((i : Int) = (k : Int))) && (known[k].any (hasP l[i].1)) <;> rfl
def apartB (l : List Sib) (known : List (List Seen)) : Bool := bif !decide ((l.length : Int) = (known.length : Int)) then false else match apart l known with | .inl b => b | .inr _ => true
theorem apart_run (l : List Sib) (known : List (List Seen)) (hk : known.length ≤ 12) (hl : l.length ≤ 12) (ho : ∀ c ∈ known, okC c) : (last_Apart_T l known).run = some (apartB l known) := by
  unfold last_Apart_T apartB
  cases hq : !decide ((l.length : Int) = (known.length : Int)) with
  | true => rfl
  | false =>
    simp only [Tree.run, cond_false]
    rw [loopF_list l (fun i (_ : Unit) => (i : Int)) (fun i s (_ : Unit) => match inner s.1 i known with | .inl b => .inr (Sum.inl b) | .inr _ => .inl ()) (fun _ => (Sum.inr () : Bool ⊕ Unit)) (fun i _ hi => by
      unfold last_Apart_L4_step
      simp only [Tree.run, Int.ofNat_lt, hi, decide_true, cond_true, inb_nat, Int.toNat_natCast, getD_lt _ _ _ hi, inner_run l known i hi hk ho, Option.bind_some, w64_nat i (by omega)]
      cases inner l[i].1 i known <;> rfl) (fun _ => by unfold last_Apart_L4_step; simp [Tree.run]) () (s0 := (0 : Int)) rfl]
    show ((some (apart l known)).bind fun a => (Tree.sum a (fun r2 => Tree.ret r2) fun _ => Tree.ret true : Tree Bool).run) = _
    cases apart l known <;> rfl
theorem rApart_run (l : List Sib) (known : List (List Seen)) (hk : known.length ≤ 12) (hl : l.length ≤ 12) (ho : ∀ c ∈ known, okC c) : (r08_Apart_T l known).run = some (apartB l known) := by
  unfold r08_Apart_T apartB
  cases hq : !decide ((l.length : Int) = (known.length : Int)) with
  | true => rfl
  | false =>
    have hq' : l.length = known.length := by simp at hq; omega
    simp only [Tree.run, cond_false]
    rw [loopF_list l (fun i (_ : Unit) => (i : Int)) (fun i s (_ : Unit) => match inner s.1 i known with | .inl b => .inr (Sum.inl b) | .inr _ => .inl ()) (fun _ => (Sum.inr () : Bool ⊕ Unit)) (fun i _ hi => by
      unfold r08_Apart_L4_step
      simp only [Tree.run, Int.ofNat_lt, hi, decide_true, cond_true, rInner_run l known i hi hq' hk ho, Option.bind_some, w64_nat i (by omega)]
      cases inner l[i].1 i known <;> rfl) (fun _ => by unfold r08_Apart_L4_step; simp [Tree.run]) () (s0 := (0 : Int)) rfl]
    show ((some (apart l known)).bind fun a => (Tree.sum a (fun r2 => Tree.ret r2) fun _ => Tree.ret true : Tree Bool).run) = _
    cases apart l known <;> rfl

theorem lastApart_law (x : ElP l08_LastApart_g.ps) (hx : okP l08_LastApart_g.ps x) : (l08_LastApart_g.f x).run = some true := by
  obtain ⟨l, known, _⟩ := x
  obtain ⟨_, hx, _⟩ := hx
  have ho : ∀ c ∈ known, okC c := fun c hc => by
    have := hx.2 c hc
    exact ⟨this.1, fun s hs => (this.2 s hs).2.2.1⟩
  show (l08_LastApart_T l known).run = _
  unfold l08_LastApart_T
  obtain ⟨f, hf, hf'⟩ := few_run l
  simp only [Tree.run, hf, awake08, Option.bind_some]
  cases f with
  | false => rfl
  | true =>
    have hl := hf' rfl
    cases hk : decide ((12 : Int) < (known.length : Int)) with
    | true => rfl
    | false =>
      have hk : known.length ≤ 12 := by simp at hk; omega
      simp only [Bool.not_true, Bool.or_false, cond_false]
      obtain ⟨a, h1, h2⟩ := loopF_tot (st := fun v => (l08_LastApart_L4_step l known v).run) (fun i => ((i : Nat) : Int)) known.length (fun a => a = Sum.inl true ∨ a = Sum.inr ()) (fun i hi => by
        obtain ⟨b, hb⟩ := fewD_run (known.getD (Int.toNat (i : Int)) ([] : List Seen))
        unfold l08_LastApart_L4_step
        simp only [Tree.run, Int.ofNat_lt, hi, decide_true, cond_true, inb_nat, hb, awake08, Option.bind_some]
        cases b
        · right; exact ⟨_, rfl, .inl rfl⟩
        · left; simp [w64_nat i (by omega)]) ⟨.inr (), by unfold l08_LastApart_L4_step; simp [Tree.run], .inr rfl⟩ (s0 := (0 : Int)) rfl
      rw [h1]
      rcases h2 with rfl | rfl
      · rfl
      · simp only [Tree.run, Option.bind_some, apart_run l known hk hl ho, rApart_run l known hk hl ho, awake08, Option.isNone_some, Bool.and_false, cond_false, Option.getD_some, beq_self_eq_true, Bool.and_true]

end Go.Eng
