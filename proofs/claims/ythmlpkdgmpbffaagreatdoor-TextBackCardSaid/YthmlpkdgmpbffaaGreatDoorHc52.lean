/- Laws in plain Lean: h52. -/
import Derived.Test.YthmlpkdgmpbffaaGreatDoorG52
namespace Go.Eng
open Go Go.Proofs Go.RowKit

/-! Contexts. -/
def GS (s : Seen) : Prop := s.1.length ≤ 100000 ∧ N64 s.2.1 ∧ s.2.2.length ≤ 100001 ∧ ∀ n ∈ s.2.2, N64 n
def GX (c : List Seen) : Prop := c.length ≤ 100001 ∧ ∀ s ∈ c, GS s
def numsS (l : List Int) : Str := tailC 43 (l.map decS)
def seenS (s : Seen) : Str := wordS s.1 ++ 58 :: (decS s.2.1 ++ numsS s.2.2)
def ctxS (c : List Seen) : Str := bif decide ((c.length : Int) = 0) then [95] else joinS [44] (c.map seenS)
theorem tailC_app (c : UInt8) (a b : List Str) : tailC c (a ++ b) = tailC c a ++ tailC c b := List.flatMap_append
theorem numsS_succ (l : List Int) (i : Nat) (h : i < l.length) : numsS (l.take (i + 1)) = numsS (l.take i) ++ 43 :: decS l[i] := by
  unfold numsS
  rw [List.take_succ_eq_append_getElem h, List.map_append, tailC_app]
  show _ ++ (43 :: (decS l[i] ++ [])) = _
  rw [List.append_nil]
theorem numsS_len {l : List Int} (h : ∀ n ∈ l, N64 n) : (numsS l).length ≤ l.length * 21 := by
  have := tailC_len 43 20 (l.map decS) (fun y hy => by
    obtain ⟨n, hn, rfl⟩ := List.mem_map.1 hy
    exact (decS_len (h n hn)).1)
  rw [List.length_map] at this; exact this
theorem numsS_take {l : List Int} (h : ∀ n ∈ l, N64 n) (hl : l.length ≤ 100001) (i : Nat) : (numsS (l.take i)).length ≤ 2100021 := by
  have := numsS_len (l := l.take i) fun n hn => h n (List.mem_of_mem_take hn)
  rw [List.length_take] at this; omega
theorem seenS_len {s : Seen} (h : GS s) : (seenS s).length ≤ 2400043 := by
  obtain ⟨h1, h2, h3, h4⟩ := h
  have a := wordS_len s.1
  have b := (decS_len h2).1
  have c := numsS_len h4
  unfold seenS
  rw [List.length_append, List.length_cons, List.length_append]; omega
theorem joinS_snoc (c : UInt8) {l : List Str} (h : l ≠ []) (x : Str) : joinS [c] (l ++ [x]) = joinS [c] l ++ c :: x := by
  cases l with
  | nil => exact absurd rfl h
  | cons y l =>
    rw [List.cons_append, joinS_tail, joinS_tail, tailC_app, List.append_assoc]
    show _ ++ (_ ++ (c :: (x ++ []))) = _
    rw [List.append_nil]
theorem joinS_len (c : UInt8) (B : Nat) (l : List Str) (h : ∀ y ∈ l, y.length ≤ B) : (joinS [c] l).length ≤ l.length * (B + 1) := by
  cases l with
  | nil => exact Nat.zero_le _
  | cons x l =>
    have := tailC_len c B l fun y hy => h y (List.mem_cons_of_mem _ hy)
    have hx := h x List.mem_cons_self
    rw [joinS_tail, List.length_append, List.length_cons, Nat.add_mul, Nat.one_mul]; omega
theorem ctx_take {c : List Seen} (h : GX c) (i : Nat) : (joinS [44] ((c.take i).map seenS)).length ≤ 250000000000 := by
  have := joinS_len 44 2400043 ((c.take i).map seenS) (fun y hy => by
    obtain ⟨s, hs, rfl⟩ := List.mem_map.1 hy
    exact seenS_len (h.2 s (List.mem_of_mem_take hs)))
  rw [List.length_map, List.length_take] at this
  have h1 := h.1
  have h2 : min i c.length ≤ 100001 := by omega
  have h3 : min i c.length * (2400043 + 1) ≤ 100001 * (2400043 + 1) := Nat.mul_le_mul_right _ h2
  omega
theorem ctxS_len {c : List Seen} (h : GX c) : (ctxS c).length ≤ 250000000000 := by
  have := ctx_take h c.length
  rw [List.take_length] at this
  unfold ctxS
  cases decide ((c.length : Int) = 0) with
  | true => show 1 ≤ _; omega
  | false => exact this
theorem take_all_of {α : Type} {P : α → Prop} {l : List α} (h : ∀ x ∈ l, P x) {i : Nat} (hi : i < l.length) : P l[i] := h _ (List.getElem_mem hi)
theorem ctx_in_run (t : List Seen) (a b : Int) (l : List Int) (seens : List Str) (s0 : Str) (hl : l.length ≤ 100001) (hn : ∀ n ∈ l, N64 n) (h0 : s0.length ≤ 1000000) :
    (Tree.loop (fun v : Str × Int => text_ctx_L9_step t a b l (l.length : Int) seens v.1 v.2) (s0, 0)).run = some (s0 ++ numsS l) := by
  refine xloop (loopF_run (S := fun i => (s0 ++ numsS (l.take i), (i : Int))) (n := l.length) (fun i hi => ?_) ?_ ?_)
  · have hb := numsS_take hn hl i
    have hd := (decS_len (take_all_of hn hi)).1
    show (text_ctx_L9_step t a b l (l.length : Int) seens (s0 ++ numsS (l.take i)) (i : Int)).run = _
    unfold text_ctx_L9_step
    rw [Int.toNat_natCast, getD_lt _ _ _ hi, xw64 i (by omega), numsS_succ l i hi, ← List.append_assoc]
    refine (run_t (decide_eq_true (by omega))).trans ?_
    refine (run_ask (xin (by omega) (by omega))).trans ?_
    refine (run_bnd (nameDec_run _)).trans ?_
    refine (run_ask (decide_eq_true (by show 1 + _ ≤ _; omega))).trans ?_
    exact run_ask (decide_eq_true (by rw [List.length_append, List.length_append]; show _ + (1 + _) ≤ _; omega))
  · show (text_ctx_L9_step t a b l (l.length : Int) seens (s0 ++ numsS (l.take l.length)) (l.length : Int)).run = _
    unfold text_ctx_L9_step
    rw [List.take_length]
    exact run_f (decide_eq_false (by omega))
  · show (s0, (0 : Int)) = (s0 ++ [], (0 : Int))
    rw [List.append_nil]
theorem ctx_run (c : List Seen) (h : GX c) : (text_ctx_T c).run = some (ctxS c) := by
  unfold text_ctx_T ctxS
  cases hc : decide ((c.length : Int) = 0) with
  | true => rfl
  | false =>
    have hl := h.1
    have hf := ctx_take h c.length
    rw [List.take_length] at hf
    refine (run_f rfl).trans ?_
    refine (run_bnd (xloop (loopF_run (a := c.map seenS) (S := fun i => ((i : Int), (c.take i).map seenS)) (n := c.length) (fun i hi => ?_) ?_ rfl))).trans ?_
    · have hg : GS c[i] := h.2 _ (List.getElem_mem hi)
      have hw := wordS_len c[i].1
      have hd := (decS_len hg.2.1).1
      have hg1 := hg.1
      show (text_ctx_L5_step c (c.length : Int) (i : Int) ((c.take i).map seenS)).run = _
      unfold text_ctx_L5_step
      rw [Int.toNat_natCast, getD_lt _ _ _ hi, xw64 i (by omega)]
      refine (run_t (decide_eq_true (by omega))).trans ?_
      refine (run_ask (xin (by omega) (by omega))).trans ?_
      refine (run_bnd (word_run _ hg1)).trans ?_
      refine (run_ask (decide_eq_true (by show _ + 1 ≤ _; omega))).trans ?_
      refine (run_bnd (nameDec_run _)).trans ?_
      refine (run_ask (decide_eq_true (by rw [List.length_append]; show _ + 1 + _ ≤ _; omega))).trans ?_
      refine (run_bnd (ctx_in_run _ _ _ _ _ _ hg.2.2.1 hg.2.2.2 (by rw [List.length_append, List.length_append]; show _ + 1 + _ ≤ _; omega))).trans ?_
      refine (run_ask (xroomk _ _ (by rw [List.length_append, List.length_map, List.length_take]; show _ + 1 ≤ _; omega) (by omega))).trans ?_
      rw [List.take_succ_eq_append_getElem hi, List.map_append]
      show some (Sum.inl (_, _ ++ [((wordS c[i].1 ++ [58]) ++ decS c[i].2.1) ++ numsS c[i].2.2])) = some (Sum.inl (_, _ ++ [wordS c[i].1 ++ 58 :: (decS c[i].2.1 ++ numsS c[i].2.2)]))
      rw [List.append_assoc, List.append_assoc]; rfl
    · show (text_ctx_L5_step c (c.length : Int) (c.length : Int) ((c.take c.length).map seenS)).run = _
      unfold text_ctx_L5_step
      rw [List.take_length]
      exact run_f (decide_eq_false (by omega))
    · refine (run_bnd (a := joinS [44] (c.map seenS)) ?_).trans rfl
      show (joinT (c.map seenS) [44]).run = _
      unfold joinT
      refine (run_ask (decide_eq_true (by rw [List.length_map]; omega))).trans ?_
      exact run_ask (decide_eq_true (by omega))
theorem rctx_in_run (c : List Seen) (j : Nat) (hj : j < c.length) (s0 : Str) (hg : GS c[j]) (h0 : s0.length ≤ 1000000000000) :
    (Tree.loop (fun v : Str × Int => r52_Ctx_L11_step c (j : Int) v.1 v.2) (s0, 0)).run = some (s0 ++ numsS c[j].2.2) := by
  have hl := hg.2.2.1
  have hn := hg.2.2.2
  refine xloop (loopF_run (S := fun i => (s0 ++ numsS (c[j].2.2.take i), (i : Int))) (n := c[j].2.2.length) (fun i hi => ?_) ?_ ?_)
  · have hb := numsS_take hn hl i
    have hd := decS_len (take_all_of hn hi)
    have hd1 := hd.1
    show (r52_Ctx_L11_step c (j : Int) (s0 ++ numsS (c[j].2.2.take i)) (i : Int)).run = _
    unfold r52_Ctx_L11_step
    rw [Int.toNat_natCast, Int.toNat_natCast, getD_lt _ _ _ hj, getD_lt _ _ _ hi, xw64 i (by omega), numsS_succ _ i hi, ← List.append_assoc]
    refine (run_ask (xin (by omega) (by omega))).trans ?_
    refine (run_t (decide_eq_true (by omega))).trans ?_
    refine (run_ask (decide_eq_true (by rw [List.length_append]; show _ + 1 ≤ _; omega))).trans ?_
    refine (run_ask (xin (by omega) (by omega))).trans ?_
    refine (run_ask (xin (by omega) (by omega))).trans ?_
    refine (run_bnd (r05Dec_run _ (take_all_of hn hi))).trans ?_
    refine (run_ask (decide_eq_true (by rw [List.length_append, List.length_append]; show _ + 1 + _ ≤ _; omega))).trans ?_
    show some (Sum.inl ((s0 ++ numsS (List.take i c[j].2.2) ++ [43]) ++ decS c[j].2.2[i], _)) = _
    rw [List.append_assoc _ [43]]; rfl
  · show (r52_Ctx_L11_step c (j : Int) (s0 ++ numsS (c[j].2.2.take c[j].2.2.length)) (c[j].2.2.length : Int)).run = _
    unfold r52_Ctx_L11_step
    rw [List.take_length, Int.toNat_natCast, getD_lt _ _ _ hj]
    refine (run_ask (xin (by omega) (by omega))).trans ?_
    exact run_f (decide_eq_false (by omega))
  · show (s0, (0 : Int)) = (s0 ++ [], (0 : Int))
    rw [List.append_nil]
theorem rctx_run (c : List Seen) (h : GX c) : (r52_Ctx_T c).run = some (ctxS c) := by
  unfold r52_Ctx_T ctxS
  cases hc : decide ((c.length : Int) = 0) with
  | true => rfl
  | false =>
    have hl := h.1
    refine (run_f rfl).trans ?_
    refine (run_bnd (xloop (loopF_run (a := joinS [44] (c.map seenS)) (S := fun i => (joinS [44] ((c.take i).map seenS), (i : Int))) (n := c.length) (fun i hi => ?_) ?_ rfl))).trans rfl
    · have hg : GS c[i] := h.2 _ (List.getElem_mem hi)
      have hw := wordS_len c[i].1
      have hd := (decS_len hg.2.1).1
      have hg1 := hg.1
      have hs := ctx_take h i
      show (r52_Ctx_L5_step c (joinS [44] ((c.take i).map seenS)) (i : Int)).run = some (.inl (joinS [44] ((c.take (i + 1)).map seenS), _))
      have e2 : (c.take (i + 1)).map seenS = (c.take i).map seenS ++ [seenS c[i]] := by rw [List.take_succ_eq_append_getElem hi, List.map_append]; rfl
      rw [e2]
      unfold r52_Ctx_L5_step
      rw [Int.toNat_natCast, getD_lt _ _ _ hi, xw64 i (by omega)]
      refine (run_t (decide_eq_true (by omega))).trans ?_
      by_cases hi0 : i = 0
      · subst hi0
        show (Tree.ite (decide ((0 : Int) < 0)) _ (ask _ _)).run = some (Sum.inl (seenS c[0] ++ [], _))
        refine (run_f rfl).trans ?_
        refine (run_ask (xin (by omega) (by omega))).trans ?_
        refine (run_bnd (rword_run _ hg1)).trans ?_
        refine (run_ask (decide_eq_true (by show 0 + _ ≤ _; omega))).trans ?_
        refine (run_ask (decide_eq_true (by show (wordS c[0].1).length + 1 ≤ _; omega))).trans ?_
        refine (run_ask (xin (by omega) (by omega))).trans ?_
        refine (run_bnd (r05Dec_run _ hg.2.1)).trans ?_
        refine (run_ask (decide_eq_true (by show (wordS c[0].1 ++ ([58] : Str)).length + _ ≤ _; rw [List.length_append]; show _ + 1 + _ ≤ _; omega))).trans ?_
        refine (run_bnd (rctx_in_run c 0 hi _ hg (by show ((wordS c[0].1 ++ ([58] : Str)) ++ decS c[0].2.1).length ≤ _; rw [List.length_append, List.length_append]; show _ + 1 + _ ≤ _; omega))).trans ?_
        show some (Sum.inl (((wordS c[0].1 ++ ([58] : Str)) ++ decS c[0].2.1) ++ numsS c[0].2.2, _)) = some (Sum.inl ((wordS c[0].1 ++ (58 : UInt8) :: (decS c[0].2.1 ++ numsS c[0].2.2)) ++ ([] : Str), _))
        rw [List.append_nil, List.append_assoc, List.append_assoc]; rfl
      · have hne : (c.take i).map seenS ≠ [] := by
          intro e
          have := congrArg List.length e
          rw [List.length_map, List.length_take] at this
          simp only [List.length_nil] at this; omega
        rw [joinS_snoc 44 hne]
        generalize joinS [44] ((c.take i).map seenS) = p at hs ⊢
        refine (run_t (decide_eq_true (by omega))).trans ?_
        refine (run_ask (decide_eq_true (by show _ + 1 ≤ _; omega))).trans ?_
        refine (run_ask (xin (by omega) (by omega))).trans ?_
        refine (run_bnd (rword_run _ hg1)).trans ?_
        refine (run_ask (decide_eq_true (by rw [List.length_append]; show _ + 1 + _ ≤ _; omega))).trans ?_
        refine (run_ask (decide_eq_true (by rw [List.length_append, List.length_append]; show _ + 1 + _ + 1 ≤ _; omega))).trans ?_
        refine (run_ask (xin (by omega) (by omega))).trans ?_
        refine (run_bnd (r05Dec_run _ hg.2.1)).trans ?_
        refine (run_ask (decide_eq_true (by rw [List.length_append, List.length_append, List.length_append]; show _ + 1 + _ + 1 + _ ≤ _; omega))).trans ?_
        refine (run_bnd (rctx_in_run c i hi _ hg (by rw [List.length_append, List.length_append, List.length_append, List.length_append]; show _ + 1 + _ + 1 + _ ≤ _; omega))).trans ?_
        show some (Sum.inl (((((p ++ [44]) ++ wordS c[i].1) ++ [58]) ++ decS c[i].2.1) ++ numsS c[i].2.2, _)) = some (Sum.inl (p ++ 44 :: (wordS c[i].1 ++ 58 :: (decS c[i].2.1 ++ numsS c[i].2.2)), _))
        rw [List.append_assoc, List.append_assoc, List.append_assoc, List.append_assoc]; rfl
    · show (r52_Ctx_L5_step c (joinS [44] ((c.take c.length).map seenS)) (c.length : Int)).run = _
      unfold r52_Ctx_L5_step
      rw [List.take_length]
      exact run_f (decide_eq_false (by omega))

/-! Contexts read. -/
theorem readW_len (w : Str) : (readW w).1.length ≤ w.length := by
  unfold readW
  cases w == ([95] : Str) with
  | true => exact Nat.zero_le _
  | false =>
    rw [cond_false]
    cases hd : decW w with
    | none => exact Nat.zero_le _
    | some s =>
      have := decW_len w.length w s (Nat.le_refl _) hd
      show (bif (!(w == ([] : Str))) && (wordS s == w) then (s, true, ()) else ([], false, ()) : Str × Bool × Unit).1.length ≤ _
      cases (!(w == ([] : Str))) && (wordS s == w) with
      | true => exact this
      | false => exact Nat.zero_le _
def numI (x : Str) : Int := (numS x).1
def numBad (x : Str) : Bool := !(numS x).2
def seenP (w : Str) : Seen × Bool := (((readW (cutC 58 w).1).1, (numI ((splitC 43 (cutC 58 w).2.1).headD []), (splitC 43 (cutC 58 w).2.1).tail.map numI)), ((!(cutC 58 w).2.2) || (!(readW (cutC 58 w).1).2.1)) || (splitC 43 (cutC 58 w).2.1).any numBad)
theorem seen_loop (c : Seen) (x : Str) (rows : List Str) (hr : rows.length ≤ 1000000) (hw : ∀ w ∈ rows, w.length ≤ 1000000) (ws : List Str) (x2 : Int) : ∀ (d i : Nat) (b : Bool) (out : List Int), i + d = rows.length → 1 ≤ i → out.length ≤ i →
    loopF (fun v => (text_reader_seen_L7_step (rows.length : Int) c x rows v.1 v.2.1 v.2.2.1 v.2.2.2).run) ((i : Int), (ws, b), x2, out) = some ((ws, b || (rows.drop i).any numBad), x2, out ++ (rows.drop i).map numI) := by
  intro d
  induction d with
  | zero =>
    intro i b out hi _ _
    obtain rfl : i = rows.length := by omega
    rw [loopF_eq, List.drop_length]
    show ((text_reader_seen_L7_step (rows.length : Int) c x rows (rows.length : Int) (ws, b) x2 out).run).bind _ = some ((ws, b || false), x2, out ++ [])
    have s0 : (text_reader_seen_L7_step (rows.length : Int) c x rows (rows.length : Int) (ws, b) x2 out).run = some (.inr ((ws, b), x2, out)) := by
      unfold text_reader_seen_L7_step
      exact run_f (decide_eq_false (by omega))
    rw [s0, Bool.or_false, List.append_nil]; rfl
  | succ d ih =>
    intro i b out hi h1 ho
    have hlt : i < rows.length := by omega
    have hwl := hw _ (List.getElem_mem hlt)
    rw [loopF_eq, List.drop_eq_getElem_cons hlt]
    show ((text_reader_seen_L7_step (rows.length : Int) c x rows (i : Int) (ws, b) x2 out).run).bind _ = some ((ws, b || (numBad rows[i] || (rows.drop (i + 1)).any numBad)), x2, out ++ (numI rows[i] :: (rows.drop (i + 1)).map numI))
    have s0 : (text_reader_seen_L7_step (rows.length : Int) c x rows (i : Int) (ws, b) x2 out).run = some (.inl (((i + 1 : Nat) : Int), (ws, b || numBad rows[i]), x2, out ++ [numI rows[i]])) := by
      unfold text_reader_seen_L7_step
      rw [Int.toNat_natCast, getD_lt _ _ _ hlt, xw64 i (by omega)]
      have hroom : ∀ n : Int, decide ((out ++ [n]).length * 8 ≤ roomNat) = true := fun n => xroomk _ _ (by rw [List.length_append]; show _ + 1 ≤ _; omega) (by omega)
      refine (run_t (decide_eq_true (by omega))).trans ?_
      refine (run_ask (xin (by omega) (by omega))).trans ?_
      refine (run_f (decide_eq_false (by omega))).trans ?_
      refine Tree.run_both ?_ ?_
      · refine (run_bnd (digs_run _ _ hwl)).trans ?_
        exact run_ask (hroom _)
      · refine (run_bnd (digs_run _ _ hwl)).trans ?_
        exact Tree.run_both (run_ask (hroom _)) (run_ask (hroom _))
    rw [s0]
    have := ih (i + 1) (b || numBad rows[i]) (out ++ [numI rows[i]]) (by omega) (by omega) (by rw [List.length_append]; show _ + 1 ≤ _; omega)
    rw [Bool.or_assoc, List.append_assoc] at this
    exact this
theorem seen_run (w : Str) (r : Text_reader) (hw : w.length ≤ 100000) : (text_reader_seen_T w r).run = some ((seenP w).1, (((r.1, r.2 || (seenP w).2), ()), ())) := by
  have hc := cutC_len 58 w
  have hc1 := hc.1
  have hc2 := hc.2
  unfold text_reader_seen_T seenP
  refine (run_bnd (a := ((cutC 58 w).1, (cutC 58 w).2.1, (cutC 58 w).2.2, ())) (run_ask (decide_eq_true (by omega)))).trans ?_
  refine (run_bnd (read_word_run _ (by show (cutC 58 w).1.length ≤ _; omega))).trans ?_
  refine (run_bnd (split_run 43 _ (by show (cutC 58 w).2.1.length ≤ _; omega))).trans ?_
  have hn := splitC_num 43 (cutC 58 w).2.1
  have hl := splitC_len 43 (cutC 58 w).2.1
  have hne := splitC_ne 43 (cutC 58 w).2.1
  generalize hq : splitC 43 (cutC 58 w).2.1 = q at hn hl hne
  cases q with
  | nil => exact absurd rfl hne
  | cons a q =>
    refine (run_bnd (a := ((r.1, (r.2 || ((!(cutC 58 w).2.2) || (!(readW (cutC 58 w).1).2.1))) || (a :: q).any numBad), numI a, q.map numI)) ?_).trans ?_
    · refine xloop ?_
      rw [loopF_eq]
      have ha : a.length ≤ 1000000 := by have := hl a List.mem_cons_self; omega
      have s0 : (text_reader_seen_L7_step ((a :: q).length : Int) ([], (0, [])) (readW (cutC 58 w).1).1 (a :: q) 0 (r.1, ((r.2 || (!(cutC 58 w).2.2)) || (!(readW (cutC 58 w).1).2.1))) 0 []).run = some (.inl (((1 : Nat) : Int), (r.1, ((r.2 || (!(cutC 58 w).2.2)) || (!(readW (cutC 58 w).1).2.1)) || numBad a), numI a, [])) := by
        unfold text_reader_seen_L7_step
        refine (run_t (decide_eq_true (by rw [List.length_cons]; omega))).trans ?_
        refine (run_ask (xin (by omega) (by rw [List.length_cons]; omega))).trans ?_
        refine (run_t rfl).trans ?_
        exact (run_bnd (digs_run _ _ ha)).trans rfl
      show ((text_reader_seen_L7_step ((a :: q).length : Int) ([], (0, [])) (readW (cutC 58 w).1).1 (a :: q) 0 (r.1, ((r.2 || (!(cutC 58 w).2.2)) || (!(readW (cutC 58 w).1).2.1))) 0 []).run).bind _ = _
      rw [s0]
      have := seen_loop ([], (0, [])) (readW (cutC 58 w).1).1 (a :: q) (by omega) (fun y hy => by have := hl y hy; omega) r.1 (numI a) q.length 1 (((r.2 || (!(cutC 58 w).2.2)) || (!(readW (cutC 58 w).1).2.1)) || numBad a) [] (by rw [List.length_cons]; omega) (Nat.le_refl _) (Nat.zero_le _)
      refine this.trans ?_
      show some ((r.1, _), numI a, q.map numI) = some ((r.1, _ || (numBad a || q.any numBad)), numI a, q.map numI)
      rw [Bool.or_assoc r.2, Bool.or_assoc _ (numBad a)]; rfl
    · show some (_, ((((r.1, _), ()), ()))) = some (_, ((((r.1, r.2 || (_ || (a :: q).any numBad)), ()), ())))
      rw [Bool.or_assoc r.2]; rfl
def ctxP (w : Str) : List Seen × Bool := bif w == ([95] : Str) then ([], false) else ((splitC 44 w).map (fun x => (seenP x).1), (splitC 44 w).any fun x => (seenP x).2)
theorem rctx_loop (rows : List Str) (hr : rows.length ≤ 1000000) (hw : ∀ w ∈ rows, w.length ≤ 100000) (ws : List Str) : ∀ (d i : Nat) (b : Bool) (out : List Seen), i + d = rows.length → out.length ≤ i →
    loopF (fun v => (text_reader_ctx_L6_step (rows.length : Int) rows v.1 v.2.1 v.2.2).run) ((i : Int), (ws, b), out) = some ((ws, b || (rows.drop i).any fun x => (seenP x).2), out ++ (rows.drop i).map fun x => (seenP x).1) := by
  intro d
  induction d with
  | zero =>
    intro i b out hi _
    obtain rfl : i = rows.length := by omega
    rw [loopF_eq, List.drop_length]
    show ((text_reader_ctx_L6_step (rows.length : Int) rows (rows.length : Int) (ws, b) out).run).bind _ = some ((ws, b || false), out ++ [])
    have s0 : (text_reader_ctx_L6_step (rows.length : Int) rows (rows.length : Int) (ws, b) out).run = some (.inr ((ws, b), out)) := by
      unfold text_reader_ctx_L6_step
      exact run_f (decide_eq_false (by omega))
    rw [s0, Bool.or_false, List.append_nil]; rfl
  | succ d ih =>
    intro i b out hi ho
    have hlt : i < rows.length := by omega
    have hwl := hw _ (List.getElem_mem hlt)
    rw [loopF_eq, List.drop_eq_getElem_cons hlt]
    show ((text_reader_ctx_L6_step (rows.length : Int) rows (i : Int) (ws, b) out).run).bind _ = some ((ws, b || ((seenP rows[i]).2 || (rows.drop (i + 1)).any fun x => (seenP x).2)), out ++ ((seenP rows[i]).1 :: (rows.drop (i + 1)).map fun x => (seenP x).1))
    have s0 : (text_reader_ctx_L6_step (rows.length : Int) rows (i : Int) (ws, b) out).run = some (.inl (((i + 1 : Nat) : Int), (ws, b || (seenP rows[i]).2), out ++ [(seenP rows[i]).1])) := by
      unfold text_reader_ctx_L6_step
      rw [Int.toNat_natCast, getD_lt _ _ _ hlt, xw64 i (by omega)]
      refine (run_t (decide_eq_true (by omega))).trans ?_
      refine (run_ask (xin (by omega) (by omega))).trans ?_
      refine (run_bnd (seen_run _ _ hwl)).trans ?_
      exact run_ask (xroomk _ _ (by rw [List.length_append]; show _ + 1 ≤ _; omega) (by omega))
    rw [s0]
    have := ih (i + 1) (b || (seenP rows[i]).2) (out ++ [(seenP rows[i]).1]) (by omega) (by rw [List.length_append]; show _ + 1 ≤ _; omega)
    rw [Bool.or_assoc, List.append_assoc] at this
    exact this
def rdC (r : Text_reader) : List Seen × Text_reader := ((ctxP (rdW r).1).1, ((rdW r).2.1, (rdW r).2.2 || (ctxP (rdW r).1).2))
theorem readctx_run (r : Text_reader) (h : SmW r) : (text_reader_ctx_T r).run = some ((rdC r).1, (((rdC r).2, ()), ())) := by
  have hs := (rdW_sm h).1
  unfold text_reader_ctx_T rdC ctxP
  refine (run_bnd (rword2_run r)).trans ?_
  cases hu : (rdW r).1 == ([95] : Str) with
  | true =>
    refine (run_t rfl).trans ?_
    show some ([], (((rdW r).2, ()), ())) = some ([], ((((rdW r).2.1, (rdW r).2.2 || false), ()), ()))
    rw [Bool.or_false]
  | false =>
    refine (run_f rfl).trans ?_
    refine (run_bnd (split_run 44 _ (by show (rdW r).1.length ≤ _; omega))).trans ?_
    have hn := splitC_num 44 (rdW r).1
    have hl := splitC_len 44 (rdW r).1
    have := rctx_loop (splitC 44 (rdW r).1) (by omega) (fun w hw => by have := hl w hw; omega) (rdW r).2.1 (splitC 44 (rdW r).1).length 0 (rdW r).2.2 [] (by omega) (Nat.zero_le _)
    rw [List.drop_zero] at this
    exact (run_bnd (xloop this)).trans rfl
end Go.Eng

