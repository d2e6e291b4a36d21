/- Laws in plain Lean: k52. -/
import Derived.Test.YthmlpkdgmpbffaaGreatDoorJ52
namespace Go.Eng
open Go Go.Proofs Go.RowKit

/-! All lines. -/
def goAll : List Str → Nat → List Event → (List Event × Int × Int) ⊕ List Event
  | [], _, out => .inr out
  | s :: r, i, out => bif !decide ((parseS s).2.1 = 0) then .inl ([], ((i + 1 : Nat) : Int), 3) else goAll r (i + 1) (out ++ [(parseS s).1])
def parseAllS (s : Str) : List Event × Int × Int × Unit :=
  match goAll ((splitC 10 s).take ((splitC 10 s).length - 1)) 0 [] with
  | .inl a => (a.1, a.2.1, a.2.2, ())
  | .inr o => bif !((splitC 10 s).getD ((splitC 10 s).length - 1) [] == ([] : Str)) then ([], ((splitC 10 s).length : Int), 3, ()) else (o, 0, 0, ())
theorem wpred {n : Nat} (h1 : 1 ≤ n) (h : n ≤ 1000001) : w64 ((n : Int) - 1) = ((n - 1 : Nat) : Int) := by
  show IntKind.i64.wrap ((n : Int) - 1) = _
  rw [IntKind.wrap_i64]; omega
theorem all_loop (lines : List Str) (last : Int) (t : List Str) (n : Nat) (hn : t.length = n) (hr : n ≤ 900001) (hw : ∀ w ∈ t, w.length ≤ 100000) : ∀ (d i : Nat) (out : List Event), i + d = n → out.length ≤ i →
    loopF (fun v => (text_ParseAll_L5_step lines last t (n : Int) v.1 v.2).run) ((i : Int), out) = some (goAll (t.drop i) i out) := by
  intro d
  induction d with
  | zero =>
    intro i out hi _
    obtain rfl : i = n := by omega
    rw [loopF_eq, List.drop_of_length_le (by omega)]
    show ((text_ParseAll_L5_step lines last t (i : Int) (i : Int) out).run).bind _ = _
    have s0 : (text_ParseAll_L5_step lines last t (i : Int) (i : Int) out).run = some (.inr (.inr out)) := by
      unfold text_ParseAll_L5_step
      exact run_f (decide_eq_false (by omega))
    rw [s0]; rfl
  | succ d ih =>
    intro i out hi ho
    have hlt : i < t.length := by omega
    have hwl := hw _ (List.getElem_mem hlt)
    rw [loopF_eq, List.drop_eq_getElem_cons hlt]
    show ((text_ParseAll_L5_step lines last t (n : Int) (i : Int) out).run).bind _ = _
    unfold goAll
    cases hp : !decide ((parseS t[i]).2.1 = 0) with
    | true =>
      have s0 : (text_ParseAll_L5_step lines last t (n : Int) (i : Int) out).run = some (.inr (.inl ([], ((i + 1 : Nat) : Int), 3))) := by
        unfold text_ParseAll_L5_step
        rw [Int.toNat_natCast, getD_lt _ _ _ hlt, xw64 i (by omega)]
        refine (run_t (decide_eq_true (by omega))).trans ?_
        refine (run_ask (xin (by omega) (by omega))).trans ?_
        refine (run_bnd (parse_run _ hwl)).trans ?_
        exact run_t hp
      rw [s0]; rfl
    | false =>
      have s0 : (text_ParseAll_L5_step lines last t (n : Int) (i : Int) out).run = some (.inl (((i + 1 : Nat) : Int), out ++ [(parseS t[i]).1])) := by
        unfold text_ParseAll_L5_step
        rw [Int.toNat_natCast, getD_lt _ _ _ hlt, xw64 i (by omega)]
        refine (run_t (decide_eq_true (by omega))).trans ?_
        refine (run_ask (xin (by omega) (by omega))).trans ?_
        refine (run_bnd (parse_run _ hwl)).trans ?_
        refine (run_f hp).trans ?_
        exact run_ask (xroomk _ _ (by rw [List.length_append]; show _ + 1 ≤ _; omega) (by omega))
      rw [s0, cond_false]
      exact ih (i + 1) _ (by omega) (by rw [List.length_append]; show _ + 1 ≤ _; omega)
theorem parseAll_run (s : Str) (hs : s.length ≤ 900000) (hw : ∀ w ∈ splitC 10 s, w.length ≤ 100000) : (text_ParseAll_T s).run = some (parseAllS s) := by
  have hn := splitC_num 10 s
  have h1 : 1 ≤ (splitC 10 s).length := List.length_pos_iff.2 (splitC_ne 10 s)
  unfold text_ParseAll_T parseAllS
  refine (run_bnd (split_run 10 s (by omega))).trans ?_
  generalize splitC 10 s = l at hn h1 hw ⊢
  rw [wpred h1 (by omega), Int.toNat_natCast]
  have hlp := all_loop l ((l.length - 1 : Nat) : Int) (l.take (l.length - 1)) (l.length - 1) (by rw [List.length_take]; omega) (by omega) (fun w hw' => hw w (List.mem_of_mem_take hw')) (l.length - 1) 0 [] (by omega) (Nat.zero_le _)
  rw [List.drop_zero] at hlp
  refine (run_ask (xine (by omega) (by omega))).trans ?_
  refine (run_bnd (xloop hlp)).trans ?_
  cases goAll (l.take (l.length - 1)) 0 [] with
  | inl a => rfl
  | inr o =>
    show (ask (inb ((l.length - 1 : Nat) : Int) l.length) (Tree.ite (!(l.getD (l.length - 1) [] == ([] : Str))) (.ret ([], w64 (((l.length - 1 : Nat) : Int) + 1), 3, ())) (.ret (o, 0, 0, ())))).run = some (bif _ then _ else _)
    refine (run_ask (xin (by omega) (by omega))).trans ?_
    rw [xw64 _ (by omega), Nat.sub_add_cancel h1]
    cases !(l.getD (l.length - 1) [] == ([] : Str)) <;> rfl
def evsL : (List Event × Int × Int) ⊕ List Event → List Event | .inl a => a.1 | .inr o => o
theorem goAll_in : ∀ (l : List Str) (i : Nat) (out : List Event), (∀ w ∈ l, w.length ≤ 100000) → (∀ e ∈ out, GE e) → (∀ e ∈ evsL (goAll l i out), GE e) ∧ (evsL (goAll l i out)).length ≤ out.length + l.length
  | [], _, out, _, h => ⟨h, Nat.le_add_right _ _⟩
  | s :: r, i, out, hw, h => by
    unfold goAll
    cases !decide ((parseS s).2.1 = 0) with
    | true => exact ⟨fun e he => absurd he List.not_mem_nil, Nat.zero_le _⟩
    | false =>
      obtain ⟨h1, h2⟩ := goAll_in r (i + 1) (out ++ [(parseS s).1]) (fun w hw' => hw w (List.mem_cons_of_mem _ hw')) (fun e he => by
        rcases List.mem_append.1 he with he | he
        · exact h e he
        · rw [List.mem_singleton.1 he]; exact parseS_in s (hw s List.mem_cons_self))
      rw [List.length_append] at h2
      refine ⟨h1, ?_⟩
      rw [cond_false, List.length_cons]
      have : ([(parseS s).1] : List Event).length = 1 := rfl
      omega
theorem parseAllS_in (s : Str) (hw : ∀ w ∈ splitC 10 s, w.length ≤ 100000) : (∀ e ∈ (parseAllS s).1, GE e) ∧ (parseAllS s).1.length ≤ s.length + 1 := by
  have hn := splitC_num 10 s
  obtain ⟨h1, h2⟩ := goAll_in ((splitC 10 s).take ((splitC 10 s).length - 1)) 0 [] (fun w hw' => hw w (List.mem_of_mem_take hw')) (fun e he => absurd he List.not_mem_nil)
  rw [List.length_take] at h2
  have h2' : (evsL (goAll ((splitC 10 s).take ((splitC 10 s).length - 1)) 0 [])).length ≤ s.length + 1 := by
    have : ([] : List Event).length = 0 := rfl
    omega
  unfold parseAllS
  cases hq : goAll ((splitC 10 s).take ((splitC 10 s).length - 1)) 0 [] with
  | inl a => rw [hq] at h1 h2'; exact ⟨h1, h2'⟩
  | inr o =>
    rw [hq] at h1 h2'
    show (∀ e ∈ (bif _ then _ else _ : List Event × Int × Int × Unit).1, GE e) ∧ _
    cases !((splitC 10 s).getD ((splitC 10 s).length - 1) [] == ([] : Str)) with
    | true => exact ⟨fun e he => absurd he List.not_mem_nil, Nat.zero_le _⟩
    | false => exact ⟨h1, h2'⟩
theorem ge_sm {e : Event} (h : GE e) : SmS (ctxE e) := by
  obtain ⟨_, _, _, _, _, ⟨_, _, _, _, _, hx, _⟩, _⟩ := h
  exact ⟨Nat.le_trans hx.1 (by decide), fun s hs => Nat.le_trans (hx.2 s hs).2.2.1 (by decide)⟩
end Go.Eng

