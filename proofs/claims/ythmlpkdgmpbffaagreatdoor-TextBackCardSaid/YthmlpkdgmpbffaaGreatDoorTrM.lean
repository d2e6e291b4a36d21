/- strings.Cut and strings.Split at one byte, as contracts of lifted functions. -/
import Derived.Test.YthmlpkdgmpbffaaGreatDoorTrL
import Derived.Lib.Split
import Derived.Lib.CountLaws
import Derived.Lib.CutLaws
import Derived.Lib.SplitLaws
namespace Go.Eng
open Go Go.RowKit

theorem idx_cons (c x : UInt8) (l : Str) : Lib.index (x :: l) [c] = if c = x then 0 else if Lib.index l [c] = -1 then -1 else Lib.index l [c] + 1 := by
  show (if ([c] : Str).isPrefixOf (x :: l) then (0 : Int) else if Lib.index l [c] == -1 then -1 else Lib.index l [c] + 1) = _
  have e : ([c] : Str).isPrefixOf (x :: l) = (c == x) := by
    show (c == x && ([] : Str).isPrefixOf l) = _
    cases l <;> simp
  rw [e]
  by_cases h : c = x
  · rw [if_pos h, if_pos (by rw [h, beq_self_eq_true])]
  · rw [if_neg h, if_neg (by rw [beq_iff_eq]; exact h)]
    by_cases h2 : Lib.index l [c] = -1
    · rw [if_pos h2, if_pos (by rw [beq_iff_eq]; exact h2)]
    · rw [if_neg h2, if_neg (by rw [beq_iff_eq]; exact h2)]
/-- What stands ahead of a byte, and behind. -/
def cutC (c : UInt8) : Str → Str × Str × Bool
  | [] => ([], [], false)
  | x :: r => bif x == c then ([], r, true) else (x :: (cutC c r).1, (cutC c r).2.1, (cutC c r).2.2)
theorem cutC_hit (c : UInt8) (r : Str) : cutC c (c :: r) = ([], r, true) := by unfold cutC; rw [beq_self_eq_true]; rfl
theorem cutC_miss {c x : UInt8} (h : x ≠ c) (r : Str) : cutC c (x :: r) = (x :: (cutC c r).1, (cutC c r).2.1, (cutC c r).2.2) := by
  have : (x == c) = false := by rw [beq_eq_false_iff_ne]; exact h
  conv => lhs; unfold cutC
  rw [this]; rfl
theorem cut_eq (c : UInt8) (s : Str) : Lib.cut s [c] = cutC c s := by
  induction s with
  | nil => rfl
  | cons x r ih =>
    unfold Lib.cut
    rw [idx_cons]
    by_cases h : c = x
    · subst h
      rw [if_pos rfl, cutC_hit]; rfl
    · rw [if_neg h, cutC_miss (fun e => h e.symm), ← ih]
      have hg := Lib.index_ge r [c]
      unfold Lib.cut
      by_cases h2 : Lib.index r [c] = -1
      · rw [if_pos h2, if_neg (by omega), if_neg (by omega)]
      · rw [if_neg h2, if_pos (by omega), if_pos (by omega)]
        obtain ⟨k, hk⟩ : ∃ k : Nat, Lib.index r [c] = k := ⟨(Lib.index r [c]).toNat, by omega⟩
        rw [hk]
        have e1 : ((k : Int) + 1).toNat = k + 1 := by omega
        rw [e1, Int.toNat_natCast]
        rfl
theorem cutC_len (c : UInt8) (s : Str) : (cutC c s).1.length ≤ s.length ∧ (cutC c s).2.1.length ≤ s.length := by
  induction s with
  | nil => exact ⟨Nat.le_refl _, Nat.le_refl _⟩
  | cons x r ih =>
    by_cases h : x = c
    · subst h; rw [cutC_hit]; exact ⟨Nat.zero_le _, by simp⟩
    · rw [cutC_miss h]; simp only [List.length_cons]; omega
/-- The parts between a byte. -/
def splitC (c : UInt8) : Str → List Str
  | [] => [[]]
  | x :: r => bif x == c then [] :: splitC c r else (x :: (splitC c r).headD []) :: (splitC c r).tail
theorem splitC_hit (c : UInt8) (r : Str) : splitC c (c :: r) = [] :: splitC c r := by
  conv => lhs; unfold splitC
  rw [beq_self_eq_true]; rfl
theorem splitC_miss {c x : UInt8} (h : x ≠ c) (r : Str) : splitC c (x :: r) = (x :: (splitC c r).headD []) :: (splitC c r).tail := by
  have : (x == c) = false := by rw [beq_eq_false_iff_ne]; exact h
  conv => lhs; unfold splitC
  rw [this]; rfl
theorem split_none {c : UInt8} : ∀ {s : Str}, Lib.index s [c] = -1 → splitC c s = [s]
  | [], _ => rfl
  | x :: r, h => by
    rw [idx_cons] at h
    by_cases hc : c = x
    · rw [if_pos hc] at h; omega
    · rw [if_neg hc] at h
      have hg := Lib.index_ge r [c]
      have h2 : Lib.index r [c] = -1 := by
        by_cases h2 : Lib.index r [c] = -1
        · exact h2
        · rw [if_neg h2] at h; omega
      rw [splitC_miss (fun e => hc e.symm), split_none h2]; rfl
theorem split_some {c : UInt8} : ∀ {s : Str} {i : Nat}, Lib.index s [c] = (i : Int) → splitC c s = s.take i :: splitC c (s.drop (i + 1))
  | [], i, h => by
    have : Lib.index [] [c] = -1 := rfl
    rw [this] at h; omega
  | x :: r, i, h => by
    rw [idx_cons] at h
    by_cases hc : c = x
    · rw [if_pos hc] at h
      obtain rfl : i = 0 := by omega
      subst hc
      rw [splitC_hit]; rfl
    · rw [if_neg hc] at h
      have hg := Lib.index_ge r [c]
      by_cases h2 : Lib.index r [c] = -1
      · rw [if_pos h2] at h; omega
      · rw [if_neg h2] at h
        obtain ⟨k, rfl⟩ : ∃ k, i = k + 1 := ⟨i - 1, by omega⟩
        rw [splitC_miss (fun e => hc e.symm), split_some (i := k) (by omega)]; rfl
theorem split_eq (c : UInt8) : ∀ (n : Nat) (s : Str), s.length ≤ n → Lib.splitK [c] 0 (Lib.count s [c]) s = splitC c s ∧ (splitC c s).length = Lib.count s [c] + 1 := by
  intro n
  induction n with
  | zero =>
    intro s h
    obtain rfl : s = [] := List.length_eq_zero_iff.1 (by omega)
    exact ⟨rfl, rfl⟩
  | succ n ih =>
    intro s h
    have hg := Lib.index_ge s [c]
    by_cases h2 : Lib.index s [c] = -1
    · rw [Lib.count_miss h2, split_none h2]; exact ⟨rfl, rfl⟩
    · obtain ⟨k, hk⟩ : ∃ k : Nat, Lib.index s [c] = k := ⟨(Lib.index s [c]).toNat, by omega⟩
      have hr := Lib.index_room s [c] (by omega)
      rw [hk] at hr
      have hr : (k : Int) + 1 ≤ s.length := hr
      obtain ⟨i1, i2⟩ := ih (s.drop (k + 1)) (by rw [List.length_drop]; omega)
      rw [Lib.count_hit (by simp) hk, split_some hk]
      refine ⟨?_, by rw [List.length_cons, i2]; show _ = 1 + Lib.count (s.drop (k + 1)) [c] + 1; omega⟩
      rw [Nat.add_comm, Lib.splitK, if_neg (by rw [beq_iff_eq]; exact h2), hk, Int.toNat_natCast, Nat.add_zero]
      show _ :: Lib.splitK [c] 0 (Lib.count (s.drop (k + 1)) [c]) (s.drop (k + 1)) = _
      rw [i1]
theorem splitC_len (c : UInt8) : ∀ (s : Str) (x : Str), x ∈ splitC c s → x.length ≤ s.length
  | [], x, h => by rw [List.mem_singleton.1 h]; exact Nat.le_refl _
  | y :: r, x, h => by
    by_cases hc : y = c
    · subst hc
      rw [splitC_hit] at h
      rcases List.mem_cons.1 h with rfl | h
      · exact Nat.zero_le _
      · exact Nat.le_succ_of_le (splitC_len y r x h)
    · rw [splitC_miss hc] at h
      have hd : ((splitC c r).headD []).length ≤ r.length := by
        cases hs : splitC c r with
        | nil => exact Nat.zero_le _
        | cons p ps => exact splitC_len c r p (by rw [hs]; simp)
      rcases List.mem_cons.1 h with rfl | h
      · simp only [List.length_cons]; omega
      · exact Nat.le_succ_of_le (splitC_len c r x (List.mem_of_mem_tail h))

variable {P : Program}

def cutT (s t : Str) : Tree (Str × Str × Bool × Unit) := match t with
  | [c] => ask (decide (s.length < 4294967281)) <| .ret ((cutC c s).1, (cutC c s).2.1, (cutC c s).2.2, ())
  | _ => .fail
theorem strings_Cut_sig {f : Nat} {d : Str × Str × Bool × Unit} (hen : ∀ vs w, (callFunc f vs).run P w = .ok (.enter f vs) w)
    (h : ∀ (s sep : ByteArray) (w : World), GL w → s.size < 4294967281 → Calls P f #[.string s, .string sep] w fun e w' => e = .returned (.tuple #[.string ⟨(Lib.cut s.data.toList sep.data.toList).1.toArray⟩, .string ⟨(Lib.cut s.data.toList sep.data.toList).2.1.toArray⟩, .bool (Lib.cut s.data.toList sep.data.toList).2.2]) ∧ ∃ n, w' = w.drewN n) :
    (⟨f, .cons (.val false .str) (.cons (.val false .str) .nil), .vals (.cons (.val false .str) (.cons (.val false .str) (.cons (.val false .bool) .nil))), fun z => cutT z.1 z.2.1, d⟩ : Sig).ok P :=
  lib_ss (rs := .vals (.cons (.val false .str) (.cons (.val false .str) (.cons (.val false .bool) .nil)))) (g := cutT) hen fun s t y w S hy hg h0 h1 hs => by
    match t, hy with
    | [c], hy =>
      have hl : s.length < 4294967281 ∧ y = ((cutC c s).1, (cutC c s).2.1, (cutC c s).2.2, ()) := by
        have hy : (ask (decide (s.length < 4294967281)) (.ret ((cutC c s).1, (cutC c s).2.1, (cutC c s).2.2, ()))).run = some y := hy
        cases q1 : decide (s.length < 4294967281) with
        | false => rw [q1] at hy; cases hy
        | true => rw [q1] at hy; cases hy; exact ⟨of_decide_eq_true q1, rfl⟩
      obtain ⟨hl, rfl⟩ := hl
      have hsz : (bytes s).size = s.length := by unfold bytes; rfl
      refine Calls.mono (h (bytes s) (bytes [c]) w hg (by omega)) fun e w' hq => ?_
      obtain ⟨rfl, n, rfl⟩ := hq
      rw [data_bytes, data_bytes, cut_eq]
      refine ⟨_, rfl, ⟨rfl, rfl, rfl, Nat.le_refl _, fun j hj => rfl⟩, ?_⟩
      show Rel _ _ [] _ (.tup [.str (cutC c s).1, .str (cutC c s).2.1, .bool (cutC c s).2.2])
      have hc := cutC_len c s
      refine .tup _ _ _ rfl fun i hi => ?_
      match i, hi with
      | 0, _ => exact .str _ _ (Nat.le_trans hc.1 h0)
      | 1, _ => exact .str _ _ (Nat.le_trans hc.2 h0)
      | 2, _ => exact .bool _ _

def splitT (s t : Str) : Tree (List Str) := match t with
  | [c] => ask (decide (s.length < 4294967281)) <| .ret (splitC c s)
  | _ => .fail
theorem strings_Split_sig {f e : Nat} {d : List Str} (hen : ∀ vs w, (callFunc f vs).run P w = .ok (.enter f vs) w)
    (h : ∀ (s sep : ByteArray) (w : World), GL w → s.size < 4294967281 → 1 ≤ sep.size → Calls P f #[.string s, .string sep] w fun r w' =>
      r = .returned (.slice (some ⟨w.heap.size, 0, none⟩) (Lib.countB s sep + 1) (Lib.countB s sep + 1)) ∧ w' = w.alloc (.cells ((Lib.splitB sep 0 (Lib.countB s sep) s).map Value.string).toArray e)) :
    (⟨f, .cons (.val false .str) (.cons (.val false .str) .nil), .fresh e .str, fun z => splitT z.1 z.2.1, d⟩ : Sig).ok P :=
  lib_ss (rs := .fresh e .str) (g := splitT) hen fun s t y w S hy hg h0 h1 hs => by
    match t, hy with
    | [c], hy =>
      have hl : s.length < 4294967281 ∧ y = splitC c s := by
        have hy : (ask (decide (s.length < 4294967281)) (.ret (splitC c s))).run = some y := hy
        cases q1 : decide (s.length < 4294967281) with
        | false => rw [q1] at hy; cases hy
        | true => rw [q1] at hy; cases hy; exact ⟨of_decide_eq_true q1, rfl⟩
      obtain ⟨hl, rfl⟩ := hl
      have hsz : (bytes s).size = s.length := by unfold bytes; rfl
      refine Calls.mono (h (bytes s) (bytes [c]) w hg (by omega) (by show 1 ≤ [c].length; simp)) fun r w' hq => ?_
      obtain ⟨rfl, rfl⟩ := hq
      obtain ⟨k1, k2⟩ := split_eq c s.length s (Nat.le_refl _)
      have hcb : Lib.countB (bytes s) (bytes [c]) + 1 = (splitC c s).length := by
        show Lib.count (bytes s).data.toList (bytes [c]).data.toList + 1 = _
        rw [data_bytes, data_bytes, k2]
      have hcells : ((Lib.splitB (bytes [c]) 0 (Lib.countB (bytes s) (bytes [c])) (bytes s)).map Value.string).toArray = ((splitC c s).map sval).toArray := by
        congr 1
        have hd := Lib.splitB_data (bytes [c]) 0 (Lib.countB (bytes s) (bytes [c])) (bytes s)
        rw [data_bytes, data_bytes] at hd
        have e1 : Lib.countB (bytes s) (bytes [c]) = Lib.count s [c] := by show Lib.count (bytes s).data.toList (bytes [c]).data.toList = _; rw [data_bytes, data_bytes]
        rw [e1] at hd ⊢
        rw [k1] at hd
        rw [← hd, List.map_map]
        refine List.map_congr_left fun b _ => ?_
        show Value.string b = .string (bytes b.data.toList)
        rfl
      rw [hcb, hcells]
      have hsize : (w.alloc (.cells ((splitC c s).map sval).toArray e)).heap.size = w.heap.size + 1 := Array.size_push _
      have hnew : (w.alloc (.cells ((splitC c s).map sval).toArray e)).heap[w.heap.size]? = some (.cells ((splitC c s).map sval).toArray e (0, 0)) := Array.getElem?_push_size
      have hlen : (splitC c s).length ≤ s.length + 1 := by
        have : Lib.count s [c] ≤ s.length := by
          have := Lib.countB_le (bytes [c]) (by show 1 ≤ [c].length; simp) (bytes s).size (bytes s) (Nat.le_refl _)
          rw [hsz] at this
          have e1 : Lib.countB (bytes s) (bytes [c]) = Lib.count s [c] := by show Lib.count (bytes s).data.toList (bytes [c]).data.toList = _; rw [data_bytes, data_bytes]
          omega
        omega
      refine ⟨_, rfl, ⟨rfl, rfl, rfl, by rw [hsize]; exact Nat.le_succ _, fun j hj => Array.getElem?_push_lt hj |>.trans (Array.getElem?_eq_getElem hj).symm⟩, ?_⟩
      refine .inr ⟨⟨w.heap.size, (splitC c s).length, 1, (splitC c s).length, false⟩, ((splitC c s).map sval).toArray, rfl, Nat.le_refl _, by rw [hsize]; exact Nat.lt_succ_self _, rfl, rfl, Nat.le_refl _, ?_, hnew, by simp [szT], fun i hi j hj => ?_⟩
      · have : (4294967281 : Nat) ≤ maxLen := by decide
        exact Nat.le_trans hlen (by omega)
      · obtain rfl : j = 0 := by have hj : j < 1 := hj; omega
        rw [show szT Ty.str = 1 from rfl, Nat.mul_one, Nat.add_zero]
        have ev : (((splitC c s).map sval).toArray).getD i Go.undef = sval (splitC c s)[i] := by simp [Array.getD_eq_getD_getElem?, hi]
        have ew : vw .str (splitC c s) i 0 = .str (splitC c s)[i] := by
          show nth [.str ((splitC c s).getD i [])] 0 = _
          rw [getD_lt _ _ _ hi]; rfl
        rw [ev, ew]
        refine ⟨rfl, .str _ _ ?_⟩
        exact Nat.le_trans (splitC_len c s _ (List.getElem_mem hi)) h0

end Go.Eng
