/- Laws in plain Lean: i52. -/
import Derived.Test.YthmlpkdgmpbffaaGreatDoorHc52
namespace Go.Eng
open Go Go.Proofs Go.RowKit

/-! Contexts written are read. -/
theorem tailC_sep {b c : UInt8} (h : b ≠ c) {l : List Str} (hl : ∀ y ∈ l, b ∉ y) : b ∉ tailC c l := by
  intro hb
  obtain ⟨y, hy, hx⟩ := List.mem_flatMap.1 hb
  rcases List.mem_cons.1 hx with e | e
  · exact h e
  · exact hl y hy e
theorem numsS_sep {b : UInt8} (h : sepB b) (h2 : b ≠ 43) (l : List Int) : b ∉ numsS l :=
  tailC_sep h2 fun y hy => by
    obtain ⟨n, _, rfl⟩ := List.mem_map.1 hy
    exact decS_sep h n
theorem numI_dec {n : Int} (h : N64 n) : numI (decS n) = n := by unfold numI; rw [numS_dec h]
theorem numBad_dec {n : Int} (h : N64 n) : numBad (decS n) = false := by unfold numBad; rw [numS_dec h]; rfl
theorem map_num {l : List Int} (h : ∀ n ∈ l, N64 n) : (l.map decS).map numI = l := by
  rw [List.map_map]
  conv => rhs; rw [← List.map_id l]
  exact List.map_congr_left fun n hn => numI_dec (h n hn)
theorem any_num {l : List Int} (h : ∀ n ∈ l, N64 n) : (l.map decS).any numBad = false := by
  rw [List.any_eq_false]
  intro x hx
  obtain ⟨n, hn, rfl⟩ := List.mem_map.1 hx
  rw [numBad_dec (h n hn)]; exact Bool.false_ne_true
theorem sep58 : sepB 58 := .inr (.inr (.inr (.inl rfl)))
theorem sep44 : sepB 44 := .inr (.inr (.inl rfl))
theorem sep43 : sepB 43 := .inr (.inr (.inr (.inr rfl)))
theorem sep32 : sepB 32 := .inl rfl
theorem sep10 : sepB 10 := .inr (.inl rfl)
theorem seen_nums (s : Seen) : splitC 43 (decS s.2.1 ++ numsS s.2.2) = decS s.2.1 :: s.2.2.map decS :=
  split_tail (decS_sep sep43 _) fun y hy => by
    obtain ⟨n, _, rfl⟩ := List.mem_map.1 hy
    exact decS_sep sep43 n
theorem seenP_of {s : Seen} (h : GS s) : seenP (seenS s) = (s, false) := by
  obtain ⟨_, h2, _, h4⟩ := h
  have hc : cutC 58 (seenS s) = (wordS s.1, decS s.2.1 ++ numsS s.2.2, true) := cutC_app (wordS_sep sep58 _)
  unfold seenP
  rw [hc]
  show (((readW (wordS s.1)).1, (numI ((splitC 43 (decS s.2.1 ++ numsS s.2.2)).headD []), (splitC 43 (decS s.2.1 ++ numsS s.2.2)).tail.map numI)), ((!true) || (!(readW (wordS s.1)).2.1)) || (splitC 43 (decS s.2.1 ++ numsS s.2.2)).any numBad) = _
  rw [seen_nums, read_of_word]
  show ((s.1, (numI (decS s.2.1), (s.2.2.map decS).map numI)), (false || false) || (numBad (decS s.2.1) || (s.2.2.map decS).any numBad)) = _
  rw [numI_dec h2, map_num h4, numBad_dec h2, any_num h4]; rfl
theorem seenS_sep {b : UInt8} (h : sepB b) (h2 : b ≠ 43) (h3 : b ≠ 58) (s : Seen) : b ∉ seenS s := by
  unfold seenS
  rw [List.mem_append, List.mem_cons, List.mem_append, not_or, not_or, not_or]
  exact ⟨wordS_sep h _, h3, decS_sep h _, numsS_sep h h2 _⟩
theorem ctxS_sep {b : UInt8} (h : b = 32 ∨ b = 10) (c : List Seen) : b ∉ ctxS c := by
  have hb : sepB b := h.elim (fun e => e ▸ sep32) (fun e => e ▸ sep10)
  have n43 : b ≠ 43 := by rcases h with rfl | rfl <;> decide
  have n58 : b ≠ 58 := by rcases h with rfl | rfl <;> decide
  have n44 : b ≠ 44 := by rcases h with rfl | rfl <;> decide
  unfold ctxS
  cases decide ((c.length : Int) = 0) with
  | true => rw [cond_true]; rcases h with rfl | rfl <;> decide
  | false =>
    cases c with
    | nil => exact List.not_mem_nil
    | cons x c =>
      show b ∉ joinS [44] (seenS x :: c.map seenS)
      rw [joinS_tail, List.mem_append, not_or]
      exact ⟨seenS_sep hb n43 n58 x, tailC_sep n44 fun y hy => by
        obtain ⟨s, _, rfl⟩ := List.mem_map.1 hy
        exact seenS_sep hb n43 n58 s⟩
theorem ctx_parts (x : Seen) (c : List Seen) : splitC 44 (ctxS (x :: c)) = (x :: c).map seenS ∧ (ctxS (x :: c) == ([95] : Str)) = false := by
  have hd : decide (((x :: c).length : Int) = 0) = false := decide_eq_false (by rw [List.length_cons]; omega)
  unfold ctxS
  rw [hd]
  constructor
  · show splitC 44 (joinS [44] (seenS x :: c.map seenS)) = _
    exact split_join (seenS_sep sep44 (by decide) (by decide) x) fun y hy => by
      obtain ⟨s, _, rfl⟩ := List.mem_map.1 hy
      exact seenS_sep sep44 (by decide) (by decide) s
  · rw [beq_eq_false_iff_ne]
    intro e
    have h58 : (58 : UInt8) ∈ joinS [44] ((x :: c).map seenS) := by
      show (58 : UInt8) ∈ joinS [44] (seenS x :: c.map seenS)
      rw [joinS_tail]
      exact List.mem_append_left _ (List.mem_append_right _ List.mem_cons_self)
    have e : joinS [44] ((x :: c).map seenS) = [95] := e
    rw [e] at h58
    exact absurd h58 (by decide)
theorem ctxP_of {c : List Seen} (h : GX c) : ctxP (ctxS c) = (c, false) := by
  cases c with
  | nil => rfl
  | cons x c =>
    obtain ⟨h1, h2⟩ := ctx_parts x c
    unfold ctxP
    rw [h2, cond_false, h1, List.map_map]
    have e1 : ((x :: c).map ((fun y => (seenP y).1) ∘ seenS)) = x :: c := by
      conv => rhs; rw [← List.map_id (x :: c)]
      exact List.map_congr_left fun s hs => by
        show (seenP (seenS s)).1 = s
        rw [seenP_of (h.2 s hs)]
    have e2 : ((x :: c).map seenS).any (fun y => (seenP y).2) = false := by
      rw [List.any_eq_false]
      intro y hy
      obtain ⟨s, hs, rfl⟩ := List.mem_map.1 hy
      rw [seenP_of (h.2 s hs)]; exact Bool.false_ne_true
    rw [e1, e2]
theorem seenP_in {w : Str} (hw : w.length ≤ 100000) : GS (seenP w).1 := by
  have hc := cutC_len 58 w
  have hr := readW_len (cutC 58 w).1
  have hn := splitC_num 43 (cutC 58 w).2.1
  refine ⟨by show (readW (cutC 58 w).1).1.length ≤ _; omega, numS_in _, ?_, fun n hn => ?_⟩
  · show ((splitC 43 (cutC 58 w).2.1).tail.map numI).length ≤ _
    rw [List.length_map, List.length_tail]; omega
  · obtain ⟨x, _, rfl⟩ := List.mem_map.1 hn
    exact numS_in x
theorem gx_nil : GX [] := ⟨Nat.zero_le _, fun s hs => absurd hs List.not_mem_nil⟩
theorem ctxP_in {w : Str} (hw : w.length ≤ 100000) : GX (ctxP w).1 := by
  unfold ctxP
  cases w == ([95] : Str) with
  | true => exact gx_nil
  | false =>
    have hn := splitC_num 44 w
    refine ⟨by show ((splitC 44 w).map _).length ≤ _; rw [List.length_map]; omega, fun s hs => ?_⟩
    obtain ⟨x, hx, rfl⟩ := List.mem_map.1 hs
    have := splitC_len 44 w x hx
    exact seenP_in (by omega)
/-! Lines. -/
def call0 : Call := (0, ([], ([], ([], ([], ([], 0))))))
def adm0 : Admin := (0, ([], ([], ([], ([], (0, ([], ([], ([], false)))))))))
def ev0 : Event := (0, ([], ([], ([], (0, (call0, adm0))))))
def stS (b : Bool) : Str := bif b then [117, 112] else [100, 111, 119, 110]
def callF (c : Call) : List Str := [decS c.1, wordS c.2.1, wordS c.2.2.1, wordS c.2.2.2.1, wordS c.2.2.2.2.1, ctxS c.2.2.2.2.2.1, decS c.2.2.2.2.2.2]
def admF (a : Admin) : List Str := [decS a.1, wordS a.2.1, wordS a.2.2.1, wordS a.2.2.2.1, wordS a.2.2.2.2.1, decS a.2.2.2.2.2.1, wordS a.2.2.2.2.2.2.1, wordS a.2.2.2.2.2.2.2.1, wordS a.2.2.2.2.2.2.2.2.1, stS a.2.2.2.2.2.2.2.2.2]
def headF (e : Event) : List Str := [kindS e.1, wordS e.2.1, wordS e.2.2.1, wordS e.2.2.2.1, decS e.2.2.2.2.1]
def fieldsE (e : Event) : List Str := headF e ++ bif decide (e.1 = 1) then callF e.2.2.2.2.2.1 else bif decide (e.1 = 14) then admF e.2.2.2.2.2.2 else []
def lineS (e : Event) : Str := joinS [32] (fieldsE e)
def S1 (s : Str) : Prop := s.length ≤ 100000
def GC (c : Call) : Prop := N64 c.1 ∧ S1 c.2.1 ∧ S1 c.2.2.1 ∧ S1 c.2.2.2.1 ∧ S1 c.2.2.2.2.1 ∧ GX c.2.2.2.2.2.1 ∧ N64 c.2.2.2.2.2.2
def GA (a : Admin) : Prop := N64 a.1 ∧ S1 a.2.1 ∧ S1 a.2.2.1 ∧ S1 a.2.2.2.1 ∧ S1 a.2.2.2.2.1 ∧ N64 a.2.2.2.2.2.1 ∧ S1 a.2.2.2.2.2.2.1 ∧ S1 a.2.2.2.2.2.2.2.1 ∧ S1 a.2.2.2.2.2.2.2.2.1
def GE (e : Event) : Prop := N64 e.1 ∧ S1 e.2.1 ∧ S1 e.2.2.1 ∧ S1 e.2.2.2.1 ∧ N64 e.2.2.2.2.1 ∧ GC e.2.2.2.2.2.1 ∧ GA e.2.2.2.2.2.2
theorem stS_run (b : Bool) : (text_state_T b).run = some (stS b) := by cases b <;> rfl
theorem rst_run (b : Bool) : (r52_state_T b).run = some (stS b) := by cases b <;> rfl
theorem stS_len (b : Bool) : (stS b).length ≤ 4 := by cases b <;> decide
theorem fields_len {e : Event} (h : GE e) : ∀ y ∈ fieldsE e, y.length ≤ 250000000000 := by
  obtain ⟨h1, h2, h3, h4, h5, ⟨c1, c2, c3, c4, c5, c6, c7⟩, a1, a2, a3, a4, a5, a6, a7, a8, a9⟩ := h
  have hw : ∀ s : Str, S1 s → (wordS s).length ≤ 250000000000 := fun s hs => by have := wordS_len s; unfold S1 at hs; omega
  have hd : ∀ n : Int, N64 n → (decS n).length ≤ 250000000000 := fun n hn => by have := (decS_len hn).1; omega
  have hk := kindS_len h1
  have hs := stS_len e.2.2.2.2.2.2.2.2.2.2.2.2.2.2.2
  have hx := ctxS_len c6
  intro y hy
  unfold fieldsE at hy
  rcases List.mem_append.1 hy with hy | hy
  · simp only [headF, List.mem_cons, List.not_mem_nil, or_false] at hy
    rcases hy with rfl | rfl | rfl | rfl | rfl
    · omega
    · exact hw _ h2
    · exact hw _ h3
    · exact hw _ h4
    · exact hd _ h5
  · cases q1 : decide (e.1 = 1) with
    | true =>
      rw [q1, cond_true] at hy
      simp only [callF, List.mem_cons, List.not_mem_nil, or_false] at hy
      rcases hy with rfl | rfl | rfl | rfl | rfl | rfl | rfl
      · exact hd _ c1
      · exact hw _ c2
      · exact hw _ c3
      · exact hw _ c4
      · exact hw _ c5
      · exact hx
      · exact hd _ c7
    | false =>
      rw [q1, cond_false] at hy
      cases q2 : decide (e.1 = 14) with
      | true =>
        rw [q2, cond_true] at hy
        simp only [admF, List.mem_cons, List.not_mem_nil, or_false] at hy
        rcases hy with rfl | rfl | rfl | rfl | rfl | rfl | rfl | rfl | rfl | rfl
        · exact hd _ a1
        · exact hw _ a2
        · exact hw _ a3
        · exact hw _ a4
        · exact hw _ a5
        · exact hd _ a6
        · exact hw _ a7
        · exact hw _ a8
        · exact hw _ a9
        · omega
      | false => rw [q2, cond_false] at hy; exact absurd hy List.not_mem_nil
theorem fields_num (e : Event) : (fieldsE e).length ≤ 15 := by
  unfold fieldsE
  cases decide (e.1 = 1) <;> cases decide (e.1 = 14) <;> exact Nat.le_of_ble_eq_true rfl
theorem joinT_run {l : List Str} (h : l.length ≤ 15) (hl : ∀ y ∈ l, y.length ≤ 250000000000) : (strings_Join_T l [32]).run = some (joinS [32] l) := by
  have hj := joinS_len 32 _ l hl
  have : l.length * (250000000000 + 1) ≤ 15 * (250000000000 + 1) := Nat.mul_le_mul_right _ h
  show (joinT l [32]).run = _
  unfold joinT
  refine (run_ask (decide_eq_true (by omega))).trans ?_
  exact run_ask (decide_eq_true (by omega))
theorem field_sep {b : UInt8} (h : b = 32 ∨ b = 10) (e : Event) : ∀ y ∈ fieldsE e, b ∉ y := by
  have hb : sepB b := h.elim (fun e => e ▸ sep32) (fun e => e ▸ sep10)
  have hs : ∀ x, b ∉ stS x := by intro x; cases x <;> rcases h with rfl | rfl <;> decide
  intro y hy
  unfold fieldsE at hy
  rcases List.mem_append.1 hy with hy | hy
  · simp only [headF, List.mem_cons, List.not_mem_nil, or_false] at hy
    rcases hy with rfl | rfl | rfl | rfl | rfl
    · exact kindS_sep hb _
    · exact wordS_sep hb _
    · exact wordS_sep hb _
    · exact wordS_sep hb _
    · exact decS_sep hb _
  · cases q1 : decide (e.1 = 1) with
    | true =>
      rw [q1, cond_true] at hy
      simp only [callF, List.mem_cons, List.not_mem_nil, or_false] at hy
      rcases hy with rfl | rfl | rfl | rfl | rfl | rfl | rfl
      · exact decS_sep hb _
      · exact wordS_sep hb _
      · exact wordS_sep hb _
      · exact wordS_sep hb _
      · exact wordS_sep hb _
      · exact ctxS_sep h _
      · exact decS_sep hb _
    | false =>
      rw [q1, cond_false] at hy
      cases q2 : decide (e.1 = 14) with
      | true =>
        rw [q2, cond_true] at hy
        simp only [admF, List.mem_cons, List.not_mem_nil, or_false] at hy
        rcases hy with rfl | rfl | rfl | rfl | rfl | rfl | rfl | rfl | rfl | rfl
        · exact decS_sep hb _
        · exact wordS_sep hb _
        · exact wordS_sep hb _
        · exact wordS_sep hb _
        · exact wordS_sep hb _
        · exact decS_sep hb _
        · exact wordS_sep hb _
        · exact wordS_sep hb _
        · exact wordS_sep hb _
        · exact hs _
      | false => rw [q2, cond_false] at hy; exact absurd hy List.not_mem_nil
theorem fields_head (e : Event) : ∃ l, fieldsE e = kindS e.1 :: l := ⟨_, rfl⟩
theorem line_parts (e : Event) : splitC 32 (lineS e) = fieldsE e := by
  obtain ⟨l, hl⟩ := fields_head e
  have := field_sep (.inl rfl : (32 : UInt8) = 32 ∨ (32 : UInt8) = 10) e
  unfold lineS
  rw [hl] at this ⊢
  exact split_join (this _ List.mem_cons_self) fun y hy => this y (List.mem_cons_of_mem _ hy)
theorem line_no10 (e : Event) : (10 : UInt8) ∉ lineS e := by
  obtain ⟨l, hl⟩ := fields_head e
  have := field_sep (.inr rfl : (10 : UInt8) = 32 ∨ (10 : UInt8) = 10) e
  unfold lineS
  rw [hl] at this ⊢
  rw [joinS_tail, List.mem_append, not_or]
  exact ⟨this _ List.mem_cons_self, tailC_sep (by decide) fun y hy => this y (List.mem_cons_of_mem _ hy)⟩
theorem line_run (e : Event) (h : GE e) : (text_Line_T e).run = some (lineS e) := by
  have hf := fields_len h
  have hn := fields_num e
  obtain ⟨h1, h2, h3, h4, h5, ⟨c1, c2, c3, c4, c5, c6, c7⟩, a1, a2, a3, a4, a5, a6, a7, a8, a9⟩ := h
  unfold text_Line_T lineS
  refine (run_bnd (kind_run _ h1)).trans ?_
  refine (run_bnd (word_run _ h2)).trans ?_
  refine (run_bnd (word_run _ h3)).trans ?_
  refine (run_bnd (word_run _ h4)).trans ?_
  refine (run_bnd (nameDec_run _)).trans ?_
  unfold fieldsE headF at hf hn ⊢
  cases q1 : decide (e.1 = 1) with
  | true =>
    rw [q1, cond_true] at hf hn
    rw [cond_true]
    refine (run_t rfl).trans ?_
    refine (run_bnd (nameDec_run _)).trans ?_
    refine (run_bnd (word_run _ c2)).trans ?_
    refine (run_bnd (word_run _ c3)).trans ?_
    refine (run_bnd (word_run _ c4)).trans ?_
    refine (run_bnd (word_run _ c5)).trans ?_
    refine (run_bnd (ctx_run _ c6)).trans ?_
    refine (run_bnd (nameDec_run _)).trans ?_
    refine (run_ask rfl).trans ?_
    exact (run_bnd (joinT_run hn hf)).trans rfl
  | false =>
    rw [q1, cond_false] at hf hn
    rw [cond_false]
    refine (run_f rfl).trans ?_
    cases q2 : decide (e.1 = 14) with
    | true =>
      rw [q2, cond_true] at hf hn
      rw [cond_true]
      refine (run_t rfl).trans ?_
      refine Tree.run_both ?_ ?_
      all_goals
        refine (run_bnd (nameDec_run _)).trans ?_
        refine (run_bnd (word_run _ a2)).trans ?_
        refine (run_bnd (word_run _ a3)).trans ?_
        refine (run_bnd (word_run _ a4)).trans ?_
        refine (run_bnd (word_run _ a5)).trans ?_
        refine (run_bnd (nameDec_run _)).trans ?_
        refine (run_bnd (word_run _ a7)).trans ?_
        refine (run_bnd (word_run _ a8)).trans ?_
        refine (run_bnd (word_run _ a9)).trans ?_
        refine (run_bnd (stS_run _)).trans ?_
        refine (run_ask rfl).trans ?_
        exact (run_bnd (joinT_run hn hf)).trans rfl
    | false =>
      rw [q2, cond_false] at hf hn
      rw [cond_false]
      refine (run_f rfl).trans ?_
      exact (run_bnd (joinT_run hn hf)).trans rfl
theorem askL {α : Type} {n : Nat} {t : Tree α} (h : n ≤ 9000000000000000000) : (ask (decide (n ≤ 9223372036854775807)) t).run = t.run := run_ask (decide_eq_true (by omega))
theorem rline_run (e : Event) (h : GE e) : (r52_Line_T e).run = some (lineS e) := by
  obtain ⟨h1, h2, h3, h4, h5, ⟨c1, c2, c3, c4, c5, c6, c7⟩, a1, a2, a3, a4, a5, a6, a7, a8, a9⟩ := h
  have hw : ∀ s : Str, S1 s → (wordS s).length ≤ 300001 := fun s hs => by have := wordS_len s; unfold S1 at hs; omega
  have hd : ∀ n : Int, N64 n → (decS n).length ≤ 20 := fun n hn => (decS_len hn).1
  have l1 := kindS_len h1
  have l2 := hw _ h2
  have l3 := hw _ h3
  have l4 := hw _ h4
  have l5 := hd _ h5
  have r1 := rkind_run _ h1
  have r2 := rword_run _ h2
  have r3 := rword_run _ h3
  have r4 := rword_run _ h4
  have r5 := r05Dec_run _ h5
  unfold r52_Line_T lineS fieldsE headF
  generalize kindS e.1 = y1 at l1 r1 ⊢
  generalize wordS e.2.1 = y2 at l2 r2 ⊢
  generalize wordS e.2.2.1 = y3 at l3 r3 ⊢
  generalize wordS e.2.2.2.1 = y4 at l4 r4 ⊢
  generalize decS e.2.2.2.2.1 = y5 at l5 r5 ⊢
  refine (run_bnd r1).trans ?_
  refine (askL (by simp only [List.length_append, List.length_cons, List.length_nil]; omega)).trans ?_
  refine (run_bnd r2).trans ?_
  refine (askL (by simp only [List.length_append, List.length_cons, List.length_nil]; omega)).trans ?_
  refine (askL (by simp only [List.length_append, List.length_cons, List.length_nil]; omega)).trans ?_
  refine (run_bnd r3).trans ?_
  refine (askL (by simp only [List.length_append, List.length_cons, List.length_nil]; omega)).trans ?_
  refine (askL (by simp only [List.length_append, List.length_cons, List.length_nil]; omega)).trans ?_
  refine (run_bnd r4).trans ?_
  refine (askL (by simp only [List.length_append, List.length_cons, List.length_nil]; omega)).trans ?_
  refine (askL (by simp only [List.length_append, List.length_cons, List.length_nil]; omega)).trans ?_
  refine (run_bnd r5).trans ?_
  refine (askL (by simp only [List.length_append, List.length_cons, List.length_nil]; omega)).trans ?_
  cases q1 : decide (e.1 = 1) with
  | true =>
    rw [cond_true]
    unfold callF
    have m0 := hd _ c1
    have s0 := r05Dec_run _ c1
    generalize decS (e.2.2.2.2.2.1.1) = z0 at m0 s0 ⊢
    have m1 := hw _ c2
    have s1 := rword_run _ c2
    generalize wordS e.2.2.2.2.2.1.2.1 = z1 at m1 s1 ⊢
    have m2 := hw _ c3
    have s2 := rword_run _ c3
    generalize wordS e.2.2.2.2.2.1.2.2.1 = z2 at m2 s2 ⊢
    have m3 := hw _ c4
    have s3 := rword_run _ c4
    generalize wordS e.2.2.2.2.2.1.2.2.2.1 = z3 at m3 s3 ⊢
    have m4 := hw _ c5
    have s4 := rword_run _ c5
    generalize wordS e.2.2.2.2.2.1.2.2.2.2.1 = z4 at m4 s4 ⊢
    have m5 := ctxS_len c6
    have s5 := rctx_run _ c6
    generalize ctxS e.2.2.2.2.2.1.2.2.2.2.2.1 = z5 at m5 s5 ⊢
    have m6 := hd _ c7
    have s6 := r05Dec_run _ c7
    generalize decS (e.2.2.2.2.2.1.2.2.2.2.2.2) = z6 at m6 s6 ⊢
    refine (run_t rfl).trans ?_
    refine (askL (by simp only [List.length_append, List.length_cons, List.length_nil]; omega)).trans ?_
    refine (run_bnd s0).trans ?_
    refine (askL (by simp only [List.length_append, List.length_cons, List.length_nil]; omega)).trans ?_
    refine (askL (by simp only [List.length_append, List.length_cons, List.length_nil]; omega)).trans ?_
    refine (run_bnd s1).trans ?_
    refine (askL (by simp only [List.length_append, List.length_cons, List.length_nil]; omega)).trans ?_
    refine (askL (by simp only [List.length_append, List.length_cons, List.length_nil]; omega)).trans ?_
    refine (run_bnd s2).trans ?_
    refine (askL (by simp only [List.length_append, List.length_cons, List.length_nil]; omega)).trans ?_
    refine (askL (by simp only [List.length_append, List.length_cons, List.length_nil]; omega)).trans ?_
    refine (run_bnd s3).trans ?_
    refine (askL (by simp only [List.length_append, List.length_cons, List.length_nil]; omega)).trans ?_
    refine (askL (by simp only [List.length_append, List.length_cons, List.length_nil]; omega)).trans ?_
    refine (run_bnd s4).trans ?_
    refine (askL (by simp only [List.length_append, List.length_cons, List.length_nil]; omega)).trans ?_
    refine (askL (by simp only [List.length_append, List.length_cons, List.length_nil]; omega)).trans ?_
    refine (run_bnd s5).trans ?_
    refine (askL (by simp only [List.length_append, List.length_cons, List.length_nil]; omega)).trans ?_
    refine (askL (by simp only [List.length_append, List.length_cons, List.length_nil]; omega)).trans ?_
    refine (run_bnd s6).trans ?_
    refine (askL (by simp only [List.length_append, List.length_cons, List.length_nil]; omega)).trans ?_
    simp only [Tree.run, joinS, List.map, List.flatten_cons, List.flatten_nil, List.append_assoc, List.cons_append, List.nil_append, List.append_nil]
  | false =>
    rw [cond_false]
    refine (run_f rfl).trans ?_
    cases q2 : decide (e.1 = 14) with
    | true =>
      rw [cond_true]
      unfold admF
      have m0 := hd _ a1
      have s0 := r05Dec_run _ a1
      generalize decS (e.2.2.2.2.2.2.1) = z0 at m0 s0 ⊢
      have m1 := hw _ a2
      have s1 := rword_run _ a2
      generalize wordS e.2.2.2.2.2.2.2.1 = z1 at m1 s1 ⊢
      have m2 := hw _ a3
      have s2 := rword_run _ a3
      generalize wordS e.2.2.2.2.2.2.2.2.1 = z2 at m2 s2 ⊢
      have m3 := hw _ a4
      have s3 := rword_run _ a4
      generalize wordS e.2.2.2.2.2.2.2.2.2.1 = z3 at m3 s3 ⊢
      have m4 := hw _ a5
      have s4 := rword_run _ a5
      generalize wordS e.2.2.2.2.2.2.2.2.2.2.1 = z4 at m4 s4 ⊢
      have m5 := hd _ a6
      have s5 := r05Dec_run _ a6
      generalize decS (e.2.2.2.2.2.2.2.2.2.2.2.1) = z5 at m5 s5 ⊢
      have m6 := hw _ a7
      have s6 := rword_run _ a7
      generalize wordS e.2.2.2.2.2.2.2.2.2.2.2.2.1 = z6 at m6 s6 ⊢
      have m7 := hw _ a8
      have s7 := rword_run _ a8
      generalize wordS e.2.2.2.2.2.2.2.2.2.2.2.2.2.1 = z7 at m7 s7 ⊢
      have m8 := hw _ a9
      have s8 := rword_run _ a9
      generalize wordS e.2.2.2.2.2.2.2.2.2.2.2.2.2.2.1 = z8 at m8 s8 ⊢
      have m9 := stS_len e.2.2.2.2.2.2.2.2.2.2.2.2.2.2.2
      have s9 := rst_run e.2.2.2.2.2.2.2.2.2.2.2.2.2.2.2
      generalize stS e.2.2.2.2.2.2.2.2.2.2.2.2.2.2.2 = z9 at m9 s9 ⊢
      refine (run_t rfl).trans ?_
      refine (askL (by simp only [List.length_append, List.length_cons, List.length_nil]; omega)).trans ?_
      refine (run_bnd s0).trans ?_
      refine (askL (by simp only [List.length_append, List.length_cons, List.length_nil]; omega)).trans ?_
      refine (askL (by simp only [List.length_append, List.length_cons, List.length_nil]; omega)).trans ?_
      refine (run_bnd s1).trans ?_
      refine (askL (by simp only [List.length_append, List.length_cons, List.length_nil]; omega)).trans ?_
      refine (askL (by simp only [List.length_append, List.length_cons, List.length_nil]; omega)).trans ?_
      refine (run_bnd s2).trans ?_
      refine (askL (by simp only [List.length_append, List.length_cons, List.length_nil]; omega)).trans ?_
      refine (askL (by simp only [List.length_append, List.length_cons, List.length_nil]; omega)).trans ?_
      refine (run_bnd s3).trans ?_
      refine (askL (by simp only [List.length_append, List.length_cons, List.length_nil]; omega)).trans ?_
      refine (askL (by simp only [List.length_append, List.length_cons, List.length_nil]; omega)).trans ?_
      refine (run_bnd s4).trans ?_
      refine (askL (by simp only [List.length_append, List.length_cons, List.length_nil]; omega)).trans ?_
      refine (askL (by simp only [List.length_append, List.length_cons, List.length_nil]; omega)).trans ?_
      refine (run_bnd s5).trans ?_
      refine (askL (by simp only [List.length_append, List.length_cons, List.length_nil]; omega)).trans ?_
      refine (askL (by simp only [List.length_append, List.length_cons, List.length_nil]; omega)).trans ?_
      refine (run_bnd s6).trans ?_
      refine (askL (by simp only [List.length_append, List.length_cons, List.length_nil]; omega)).trans ?_
      refine (askL (by simp only [List.length_append, List.length_cons, List.length_nil]; omega)).trans ?_
      refine (run_bnd s7).trans ?_
      refine (askL (by simp only [List.length_append, List.length_cons, List.length_nil]; omega)).trans ?_
      refine (askL (by simp only [List.length_append, List.length_cons, List.length_nil]; omega)).trans ?_
      refine (run_bnd s8).trans ?_
      refine (askL (by simp only [List.length_append, List.length_cons, List.length_nil]; omega)).trans ?_
      refine (askL (by simp only [List.length_append, List.length_cons, List.length_nil]; omega)).trans ?_
      refine (run_bnd s9).trans ?_
      refine (askL (by simp only [List.length_append, List.length_cons, List.length_nil]; omega)).trans ?_
      simp only [Tree.run, joinS, List.map, List.flatten_cons, List.flatten_nil, List.append_assoc, List.cons_append, List.nil_append, List.append_nil]
    | false =>
      rw [cond_false]
      refine (run_f rfl).trans ?_
      simp only [Tree.run, joinS, List.map, List.flatten_cons, List.flatten_nil, List.append_assoc, List.cons_append, List.nil_append, List.append_nil]

end Go.Eng

