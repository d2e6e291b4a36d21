/- Contract: the reference's Is. -/
import Derived.Test.YtpbpmbfgcgjgdaaNamA
namespace Go.Eng
open Go Go.Proofs Go.RowKit
set_option maxHeartbeats 4000000

theorem ArgsOk.str {l : List AV} {i : Nat} {s : List UInt8} (h : ArgsOk l) (hi : nth l i = .str s) : s.length ≤ maxLen := by
  obtain ⟨w, S, vs, h1, h2⟩ := h
  have hlt : i < lenA l := Nat.lt_of_not_le fun hn => by rw [nth_out _ _ hn] at hi; cases hi
  have := h2 i hlt
  rw [hi] at this
  generalize vs.getD i Go.undef = v at this
  cases this; assumption
theorem ArgsOk.int {l : List AV} {i : Nat} {k : IntKind} {n : Int} (h : ArgsOk l) (hi : nth l i = .int k n) : (Lit.int k n).wf = true := by
  obtain ⟨w, S, vs, h1, h2⟩ := h
  have hlt : i < lenA l := Nat.lt_of_not_le fun hn => by rw [nth_out _ _ hn] at hi; cases hi
  have := h2 i hlt
  rw [hi] at this
  generalize vs.getD i Go.undef = v at this
  cases this; assumption

theorem wrap_small {n : Int} (h0 : -9223372036854775808 ≤ n) (h1 : n ≤ 9223372036854775807) : IntKind.i64.wrap n = n := by
  rw [IntKind.wrap_i64]; omega

theorem okB_eq {b : UInt8} {x : Int} (h : x = (b.toNat : Int)) : okB b = isLetterS x := by subst h; rfl

theorem refIs_c (s : List UInt8) : ACalls Try.prog 19 [.str s] (.val (.bool (nameS s))) := by
  refine ACalls.ofK Try.func19 rfl nms mix tabOk noCall_sound ?_
  intro p L K hp hL hK ha
  have hlen : s.length ≤ maxLen := ha.str (i := 0) rfl
  generalize hs : nameS s = spec at hK
  cbv
  rw [hL]
  refine AWp.loopG (fun i : Nat => ⟨slots 46 [(0,.str s),(2,.bool false),(3,.int .i64 (i : Int))], []⟩) (fun i => i ≤ s.length ∧ (s.take i).all okB = true) (fun i => s.length - i) 0 (by simp) ?_ ?_
  · exact ⟨rfl, by cbv; exact ⟨rfl, trivial⟩⟩
  intro i hi N hN
  refine wpT_sound mix tabOk noCall_sound hp rfl _ _ _ ?_
  generalize hL' : leafOf Try.prog = L'
  clear hL
  generalize hz : (i : Int) = z
  cbv
  split
  · rename_i hlt
    cbv
    have hlt' : i < s.length := by subst hp hz; simpa [std] using hlt
    have hget : s.getD i 0 = s[i] := by simp [List.getD, hlt']
    have hg : std.sget s (std.toNat z) = ((s[i]).toNat : Int) := by subst hz; show (((s.getD (i : Int).toNat 0).toNat : Nat) : Int) = _; rw [Int.toNat_natCast, hget]
    refine ⟨?_, ?_⟩
    · have hin : (0 : Int) ≤ z ∧ z < (s.length : Int) := by subst hz; exact ⟨Int.natCast_nonneg _, by exact_mod_cast hlt'⟩
      clear hN
      subst hp
      simp [AllT, std, hin]
    split
    · rename_i hb
      cbv
      rw [hN]
      cbv
      rw [hK]
      refine post_ret rfl ?_
      clear hN
      show AV.bool false = _
      subst hs
      have hf : okB s[i] = false := by
        subst hp
        rw [okB_eq hg]
        unfold isLetterS
        generalize std.sget s (std.toNat z) = x at hb
        simp only [std, Bool.and_eq_true, Bool.or_eq_true, decide_eq_true_eq, Bool.not_eq_true', decide_eq_false_iff_not] at hb ⊢
        omega
      unfold nameS
      rw [all_false hlt' hf]
      simp
    · rename_i hb
      cbv
      rw [hN]
      have hf : okB s[i] = true := by
        subst hp
        rw [okB_eq hg]
        unfold isLetterS
        generalize std.sget s (std.toNat z) = x at hb
        simp only [std, Bool.and_eq_false_iff, Bool.or_eq_false_iff, decide_eq_true_eq, Bool.not_eq_false', decide_eq_false_iff_not] at hb ⊢
        omega
      refine NextQ.normal (i + 1) ?_ ?_ ?_
      · omega
      · exact ⟨by omega, all_step hlt' hi.2 hf⟩
      · refine ⟨rfl, ?_⟩
        cbv
        refine ⟨?_, trivial⟩
        congr 1
        subst hp hz
        show IntKind.i64.wrap ((i : Int) + 1) = ((i + 1 : Nat) : Int)
        unfold maxLen at hlen
        rw [wrap_small (by omega) (by omega)]
        rfl
  · rename_i hlt
    have hlt' : i = s.length := by have := hi.1; subst hp hz; simp [std] at hlt; omega
    cbv
    rw [hN]
    cbv
    clear hN
    rw [hK]
    refine post_ret rfl ?_
    show AV.bool _ = _
    subst hs hlt' hp
    unfold nameS
    have := hi.2
    rw [List.take_length] at this
    rw [this]
    congr 1
    simp only [std]
    cases s with
    | nil => rfl
    | cons x s =>
      rw [show ((x :: s) == []) = false from rfl]
      simp only [List.length_cons, Bool.not_false, Bool.true_and, Bool.and_true]
      rw [← Bool.decide_and]
      exact decide_eq_decide.2 ⟨fun h => by omega, fun h => by omega⟩

def cRefIs (g : List UInt8 → Bool) : Oracle := fun _ f args => match f, args with
  | 19, [.str s] => some ⟨.val (.bool (g s)), []⟩
  | _, _ => none
theorem cRefIs_ok : Sound Try.prog (cRefIs nameS) := by
  intro id args r ks h _
  unfold cRefIs at h
  split at h
  · cases h; exact refIs_c _
  · cases h

end Go.Eng
