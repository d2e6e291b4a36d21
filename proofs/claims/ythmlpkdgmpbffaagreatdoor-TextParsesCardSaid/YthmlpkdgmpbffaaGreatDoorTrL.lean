/- Contracts of Go's library on plain values (numbers, strings, lists of strings) as contracts of lifted functions. -/
import Derived.Test.YthmlpkdgmpbffaaGreatDoorTrI
import Derived.Lib.ItoaNum
import Derived.Lib.AtoiAllCases
import Derived.Lib.Join
import Derived.Lib.Strings
import Derived.Lib.IndexMore
import Derived.Sort.Grow
import Derived.Deep.Draws
namespace Go.Eng
open Go Go.RowKit

/-! Numbers and their digits. -/
theorem dig_toNat (d : Nat) (h : d < 10) : (UInt8.ofNat (48 + d)).toNat = 48 + d := by
  rw [UInt8.toNat_ofNat']; exact Nat.mod_eq_of_lt (by omega)
theorem decDigits_small {u : Nat} (h : u < 10) : Lib.decDigits u = [UInt8.ofNat (48 + u)] := by rw [Lib.decDigits, dif_pos h]
theorem decDigits_big {u : Nat} (h : ¬ u < 10) : Lib.decDigits u = Lib.decDigits (u / 10) ++ [UInt8.ofNat (48 + u % 10)] := by rw [Lib.decDigits, dif_neg h]
/-- The digits, by a count of steps. -/
def decF : Nat → Nat → Str
  | 0, u => [UInt8.ofNat (48 + u % 10)]
  | k + 1, u => bif decide (u < 10) then [UInt8.ofNat (48 + u)] else decF k (u / 10) ++ [UInt8.ofNat (48 + u % 10)]
theorem decF_eq (k u : Nat) (h : u < 10 ^ (k + 1)) : decF k u = Lib.decDigits u := by
  induction k generalizing u with
  | zero =>
    have h : u < 10 := by simpa using h
    rw [decDigits_small h]; unfold decF; rw [Nat.mod_eq_of_lt h]
  | succ k ih =>
    unfold decF
    by_cases hu : u < 10
    · rw [decide_eq_true hu, cond_true, decDigits_small hu]
    · rw [decide_eq_false hu, cond_false, decDigits_big hu, ih]
      rw [Nat.div_lt_iff_lt_mul (by omega)]
      exact Nat.lt_of_lt_of_le h (Nat.le_of_eq (Nat.pow_succ 10 (k + 1)))
def N64 (n : Int) : Prop := -9223372036854775808 ≤ n ∧ n ≤ 9223372036854775807
def decS (n : Int) : Str := bif decide (n < 0) then 45 :: decF 19 n.natAbs else decF 19 n.toNat
theorem decS_eq {n : Int} (h : N64 n) : decS n = Lib.itoa n := by
  obtain ⟨h0, h1⟩ := h
  have hp : (10 : Nat) ^ (19 + 1) = 100000000000000000000 := by decide
  unfold decS Lib.itoa
  by_cases hn : n < 0
  · rw [decide_eq_true hn, cond_true, if_pos hn, decF_eq 19 _ (by omega)]
  · rw [decide_eq_false hn, cond_false, if_neg hn, decF_eq 19 _ (by omega)]
theorem parse_app (l1 l2 : List UInt8) (acc v : Nat) (h : Lib.parseUint10 acc l1 = .ok v) : Lib.parseUint10 acc (l1 ++ l2) = Lib.parseUint10 v l2 := by
  induction l1 generalizing acc with
  | nil => cases h; rfl
  | cons c l ih =>
    rw [List.cons_append]
    rw [Lib.parseUint10] at h ⊢
    split at h
    · rename_i hc
      rw [if_pos hc]
      split at h
      · cases h
      · rename_i h1
        rw [if_neg h1]
        split at h
        · cases h
        · rename_i h2
          rw [if_neg h2]
          exact ih _ h
    · cases h
theorem parse_dec (u : Nat) (h : u < 18446744073709551616) : Lib.parseUint10 0 (Lib.decDigits u) = .ok u := by
  induction u using Nat.strongRecOn with
  | ind u ih =>
    have step : ∀ acc, acc * 10 + u % 10 = u → Lib.parseUint10 acc [UInt8.ofNat (48 + u % 10)] = .ok u := fun acc he => by
      have hd := dig_toNat (u % 10) (by omega)
      unfold Lib.parseUint10
      rw [if_pos (by rw [hd]; omega), if_neg (by omega), if_neg (by rw [hd]; omega)]
      unfold Lib.parseUint10
      rw [hd]
      congr 1; omega
    by_cases hu : u < 10
    · rw [decDigits_small hu]
      have := step 0 (by omega)
      rwa [Nat.mod_eq_of_lt hu] at this
    · rw [decDigits_big hu, parse_app _ _ 0 (u / 10) (ih (u / 10) (by omega) (by omega))]
      exact step _ (by omega)
theorem dec_head (u : Nat) : ∃ c r, Lib.decDigits u = c :: r ∧ 48 ≤ c.toNat ∧ c.toNat ≤ 57 := by
  induction u using Nat.strongRecOn with
  | ind u ih =>
    by_cases hu : u < 10
    · exact ⟨_, _, decDigits_small hu, by rw [dig_toNat u hu]; omega, by rw [dig_toNat u hu]; omega⟩
    · obtain ⟨c, r, e, h1, h2⟩ := ih (u / 10) (by omega)
      exact ⟨c, r ++ [UInt8.ofNat (48 + u % 10)], by rw [decDigits_big hu, e]; rfl, h1, h2⟩
theorem atoi_at {c : UInt8} {r : List UInt8} {u : Nat} (h : Lib.parseMag (if c.toNat = 43 ∨ c.toNat = 45 then r else c :: r) = .ok u) :
    Lib.atoiAll (c :: r) = (if ¬ c.toNat = 45 ∧ 9223372036854775808 ≤ u then Lib.NumEnd.range else if c.toNat = 45 ∧ 9223372036854775808 < u then .range else .ok (if c.toNat = 45 then -(u : Int) else u)) := by
  unfold Lib.atoiAll
  simp only [h]
theorem atoi_itoa {n : Int} (h : N64 n) : Lib.atoiAll (Lib.itoa n) = .ok n := by
  obtain ⟨h0, h1⟩ := h
  have mag : ∀ u, u < 18446744073709551616 → Lib.parseMag (Lib.decDigits u) = .ok u := fun u hu => by
    obtain ⟨c, r, e, _, _⟩ := dec_head u
    unfold Lib.parseMag
    rw [if_neg (by rw [e]; simp), parse_dec u hu]
  unfold Lib.itoa
  by_cases hn : n < 0
  · rw [if_pos hn]
    rw [atoi_at (u := n.natAbs) (by rw [if_pos (.inr rfl)]; exact mag _ (by omega))]
    show (if ¬ (45 : UInt8).toNat = 45 ∧ 9223372036854775808 ≤ n.natAbs then Lib.NumEnd.range else if (45 : UInt8).toNat = 45 ∧ 9223372036854775808 < n.natAbs then .range else .ok (if (45 : UInt8).toNat = 45 then -(n.natAbs : Int) else n.natAbs)) = _
    rw [if_neg (fun h => h.1 rfl), if_neg (fun h => by omega)]
    show Lib.NumEnd.ok (-(n.natAbs : Int)) = _
    congr 1; omega
  · rw [if_neg hn]
    obtain ⟨c, r, e, q1, q2⟩ := dec_head n.toNat
    have hm := mag n.toNat (by omega)
    rw [e] at hm ⊢
    rw [atoi_at (u := n.toNat) (by rw [if_neg (by omega)]; exact hm)]
    show (if ¬ c.toNat = 45 ∧ 9223372036854775808 ≤ n.toNat then Lib.NumEnd.range else if c.toNat = 45 ∧ 9223372036854775808 < n.toNat then .range else .ok (if c.toNat = 45 then -(n.toNat : Int) else n.toNat)) = _
    rw [if_neg (by omega), if_neg (by omega), if_neg (by omega)]
    congr 1; omega
/-- The value of digits. -/
def valM (l : Str) : Nat := l.foldl (fun a c => a * 10 + (c.toNat - 48)) 0
theorem valM_snoc (l : Str) (c : UInt8) : valM (l ++ [c]) = valM l * 10 + (c.toNat - 48) := by unfold valM; rw [List.foldl_append]; rfl
theorem valM_dec (u : Nat) : valM (Lib.decDigits u) = u := by
  induction u using Nat.strongRecOn with
  | ind u ih =>
    by_cases hu : u < 10
    · rw [decDigits_small hu]
      show 0 * 10 + ((UInt8.ofNat (48 + u)).toNat - 48) = u
      rw [dig_toNat u hu]; omega
    · rw [decDigits_big hu, valM_snoc, ih _ (by omega), dig_toNat _ (by omega)]; omega
def numV : Str → Int
  | [] => 0
  | c :: r => bif c == 45 then -(valM r : Int) else (valM (c :: r) : Int)
theorem numV_itoa (n : Int) : numV (Lib.itoa n) = n := by
  unfold Lib.itoa
  by_cases hn : n < 0
  · rw [if_pos hn]
    show (bif (45 : UInt8) == 45 then -(valM (Lib.decDigits n.natAbs) : Int) else (valM (45 :: Lib.decDigits n.natAbs) : Int)) = n
    rw [beq_self_eq_true, cond_true, valM_dec]; omega
  · rw [if_neg hn]
    have hv := valM_dec n.toNat
    obtain ⟨c, r, e, q1, q2⟩ := dec_head n.toNat
    rw [e] at hv ⊢
    have hc : (c == 45) = false := by
      rw [beq_eq_false_iff_ne]; rintro rfl
      have : (45 : UInt8).toNat = 45 := rfl
      omega
    show (bif c == 45 then -(valM r : Int) else (valM (c :: r) : Int)) = n
    rw [hc, cond_false, hv]; omega
/-- The number that has just these digits. -/
def numS (s : Str) : Int × Bool := bif decide (-9223372036854775808 ≤ numV s) && decide (numV s ≤ 9223372036854775807) && (decS (numV s) == s) then (numV s, true) else (0, false)
theorem numS_iff (s : Str) (n : Int) : numS s = (n, true) ↔ N64 n ∧ decS n = s := by
  unfold numS
  constructor
  · intro h
    cases hb : decide (-9223372036854775808 ≤ numV s) && decide (numV s ≤ 9223372036854775807) && (decS (numV s) == s) with
    | false => rw [hb, cond_false] at h; cases h
    | true =>
      rw [hb, cond_true] at h
      simp only [Bool.and_eq_true, decide_eq_true_eq, beq_iff_eq] at hb
      have e : numV s = n := congrArg Prod.fst h
      rw [← e]; exact ⟨hb.1, hb.2⟩
  · rintro ⟨h1, rfl⟩
    have e : numV (decS n) = n := by rw [decS_eq h1, numV_itoa]
    rw [e, decide_eq_true h1.1, decide_eq_true h1.2, beq_self_eq_true]; rfl
theorem numS_cases (s : Str) : (∃ n, N64 n ∧ decS n = s ∧ numS s = (n, true)) ∨ ((∀ n, N64 n → decS n ≠ s) ∧ numS s = (0, false)) := by
  by_cases h : ∃ n, N64 n ∧ decS n = s
  · obtain ⟨n, h1, h2⟩ := h
    exact .inl ⟨n, h1, h2, (numS_iff s n).2 ⟨h1, h2⟩⟩
  · refine .inr ⟨fun n h1 h2 => h ⟨n, h1, h2⟩, ?_⟩
    unfold numS
    cases hb : decide (-9223372036854775808 ≤ numV s) && decide (numV s ≤ 9223372036854775807) && (decS (numV s) == s) with
    | false => rfl
    | true =>
      simp only [Bool.and_eq_true, decide_eq_true_eq, beq_iff_eq] at hb
      exact absurd ⟨numV s, hb.1, hb.2⟩ h
theorem decS_inj {m n : Int} (hm : N64 m) (hn : N64 n) (h : decS m = decS n) : m = n := by
  have h1 := numV_itoa m
  have h2 := numV_itoa n
  rw [← decS_eq hm, h, decS_eq hn, h2] at h1
  exact h1.symm
theorem numS_dec {n : Int} (h : N64 n) : numS (decS n) = (n, true) := (numS_iff _ _).2 ⟨h, rfl⟩
theorem numS_ok {s : Str} {v : Int} (h : Lib.atoiAll s = .ok v) : numS s = bif Lib.itoa v == s then (v, true) else (0, false) := by
  have hv : N64 v := Lib.atoiAll_bounds h
  rcases numS_cases s with ⟨n, h1, h2, h3⟩ | ⟨h1, h2⟩
  · rw [h3]
    have e : Lib.atoiAll s = .ok n := by rw [← h2, decS_eq h1]; exact atoi_itoa h1
    rw [e] at h; cases h
    rw [← decS_eq h1, h2, beq_self_eq_true]; rfl
  · rw [h2, ← decS_eq hv]
    have : (decS v == s) = false := by rw [beq_eq_false_iff_ne]; exact h1 v hv
    rw [this]; rfl
theorem numS_bad {s : Str} (h : ∀ v, Lib.atoiAll s ≠ .ok v) : numS s = (0, false) := by
  rcases numS_cases s with ⟨n, h1, h2, _⟩ | ⟨_, h2⟩
  · exact absurd (by rw [← h2, decS_eq h1]; exact atoi_itoa h1) (h n)
  · exact h2
theorem decDigits_len (u k : Nat) (h : u < 10 ^ (k + 1)) : (Lib.decDigits u).length ≤ k + 1 := by
  induction k generalizing u with
  | zero => rw [decDigits_small (by simpa using h)]; exact Nat.le_refl _
  | succ k ih =>
    by_cases hu : u < 10
    · rw [decDigits_small hu]; simp
    · rw [decDigits_big hu, List.length_append]
      have := ih (u / 10) (by
        rw [Nat.div_lt_iff_lt_mul (by omega)]
        exact Nat.lt_of_lt_of_le h (Nat.le_of_eq (Nat.pow_succ 10 (k + 1))))
      simp only [List.length_cons, List.length_nil]; omega
theorem decS_len {n : Int} (h : N64 n) : (decS n).length ≤ 20 ∧ decS n ≠ [] := by
  rw [decS_eq h]
  obtain ⟨h0, h1⟩ := h
  have hp : (10 : Nat) ^ (18 + 1) = 10000000000000000000 := by decide
  unfold Lib.itoa
  by_cases hn : n < 0
  · rw [if_pos hn]
    have := decDigits_len n.natAbs 18 (by omega)
    exact ⟨by simp only [List.length_cons]; omega, by simp⟩
  · rw [if_neg hn]
    have := decDigits_len n.toNat 18 (by omega)
    obtain ⟨c, r, e, _, _⟩ := dec_head n.toNat
    exact ⟨by omega, by rw [e]; simp⟩

variable {P : Program}

/-- How a value is typed that is a string. -/
abbrev sval (s : Str) : Value := .string (bytes s)
theorem rel_str {w : World} {S : Nat → Prop} {m : Locs} {v : Value} {s : Str} (h : Rel w S m v (.str s)) : v = sval s ∧ s.length ≤ maxLen := by cases h; exact ⟨rfl, by assumption⟩
theorem rel_int {w : World} {S : Nat → Prop} {m : Locs} {v : Value} {k : IntKind} {n : Int} (h : Rel w S m v (.int k n)) : v = .int k n ∧ (Lit.int k n).wf = true := by cases h; exact ⟨rfl, by assumption⟩
theorem arg0 {vs : Array Value} (h : vs.size = 1) : vs = #[vs.getD 0 Go.undef] := by
  obtain ⟨l⟩ := vs
  match l, h with
  | [a], _ => rfl
theorem arg01 {vs : Array Value} (h : vs.size = 2) : vs = #[vs.getD 0 Go.undef, vs.getD 1 Go.undef] := by
  obtain ⟨l⟩ := vs
  match l, h with
  | [a, b], _ => rfl

/-- By the call alone. -/
theorem acalls_in {f : Nat} {args : List AV} {r : CR} (hen : ∀ vs w, (callFunc f vs).run P w = .ok (.enter f vs) w)
    (h : ∀ (w : World) (S : Nat → Prop) (vs : Array Value), GL w → (∀ b, S b → b < w.heap.size) → RelL w S [] vs args → Calls P f vs w (CPost w S r)) : ACalls P f args r :=
  fun w S vs hg hs hr => .inl ⟨hen vs w, h w S vs hg hs hr⟩

/-- One string in, something told out. -/
theorem lib_s {f : Nat} {rs : RS} {g : Str → ElR rs} {d : ElR rs} (hen : ∀ vs w, (callFunc f vs).run P w = .ok (.enter f vs) w)
    (h : ∀ s w (S : Nat → Prop), GL w → s.length ≤ maxLen → (∀ b, S b → b < w.heap.size) → Calls P f #[sval s] w (CPost w S (crR rs (g s)))) :
    (⟨f, .cons (.val false .str) .nil, rs, fun z => .ret (g z.1), d⟩ : Sig).ok P := by
  rintro ⟨s, _⟩ y hy
  cases hy
  refine acalls_in hen fun w S vs hg hs hr => ?_
  have h0 := hr.2 0 (by show 0 < 1; omega)
  obtain ⟨e, hl⟩ := rel_str (s := s) h0
  rw [arg0 hr.1, e]
  exact h s w S hg hl hs
/-- Two strings in. -/
theorem lib_ss {f : Nat} {rs : RS} {g : Str → Str → Tree (ElR rs)} {d : ElR rs} (hen : ∀ vs w, (callFunc f vs).run P w = .ok (.enter f vs) w)
    (h : ∀ s t y w (S : Nat → Prop), (g s t).run = some y → GL w → s.length ≤ maxLen → t.length ≤ maxLen → (∀ b, S b → b < w.heap.size) → Calls P f #[sval s, sval t] w (CPost w S (crR rs y))) :
    (⟨f, .cons (.val false .str) (.cons (.val false .str) .nil), rs, fun z => g z.1 z.2.1, d⟩ : Sig).ok P := by
  rintro ⟨s, t, _⟩ y hy
  refine acalls_in hen fun w S vs hg hs hr => ?_
  have h0 := hr.2 0 (by show 0 < 2; omega)
  have h1 := hr.2 1 (by show 1 < 2; omega)
  obtain ⟨e, hl⟩ := rel_str (s := s) h0
  obtain ⟨e1, hl1⟩ := rel_str (s := t) h1
  rw [arg01 hr.1, e, e1]
  exact h s t y w S hy hg hl hl1 hs
/-- A number in. -/
theorem lib_i {f : Nat} {rs : RS} {g : Int → ElR rs} {d : ElR rs} (hen : ∀ vs w, (callFunc f vs).run P w = .ok (.enter f vs) w)
    (h : ∀ n w (S : Nat → Prop), GL w → -9223372036854775808 ≤ n → n ≤ 9223372036854775807 → (∀ b, S b → b < w.heap.size) → Calls P f #[.int .i64 n] w (CPost w S (crR rs (g n)))) :
    (⟨f, .cons (.val false (.int .i64)) .nil, rs, fun z => .ret (g z.1), d⟩ : Sig).ok P := by
  rintro ⟨n, _⟩ y hy
  cases hy
  refine acalls_in hen fun w S vs hg hs hr => ?_
  have h0 := hr.2 0 (by show 0 < 1; omega)
  obtain ⟨e, hl⟩ := rel_int (k := .i64) (n := n) h0
  rw [arg0 hr.1, e]
  have e1 : IntKind.i64.min = -9223372036854775808 := rfl
  have e2 : IntKind.i64.max = 9223372036854775807 := rfl
  simp only [Lit.wf, e1, e2, Bool.and_eq_true, decide_eq_true_eq] at hl
  exact h n w S hg hl.1 hl.2 hs
theorem rel_sl {w : World} {S : Nat → Prop} {v : Value} {sz n : Nat} {full : Bool} {c : Nat → Nat → AV} (h : Rel w S [] v (.slice sz n full c)) :
    (∃ a cap, v = .slice a 0 cap ∧ n = 0) ∨ ∃ (b o cap : Nat) (f : Nat → Nat → Value), S b ∧ v = .slice (some ⟨b, o, none⟩) n cap ∧ n ≤ cap ∧ cap ≤ maxLen ∧ ∀ i, i < n → ∀ j, j < sz → w.cell? ⟨b, o + i * sz + j, none⟩ = some (f i j) ∧ Rel w S [] (f i j) (c i j) := by
  cases h with
  | slice _ b o _ _ cap _ _ f hsb hn hcap hf hc h => exact .inr ⟨b, o, cap, f, hsb, rfl, hn, hcap, fun i hi j hj => ⟨(hc i hi j hj).1, h i hi j hj⟩⟩
  | slice0 _ a cap _ _ _ hcap hf => exact .inl ⟨a, cap, rfl, rfl⟩
/-- A list of strings, as it lies. -/
theorem rel_strs {w : World} {S : Nat → Prop} {v : Value} {l : List Str} (hs : ∀ b, S b → b < w.heap.size) (h : Rel w S [] v (.tsl .str l false)) :
    (∃ a c, v = .slice a 0 c ∧ l = []) ∨ ∃ b o c, v = .slice (some ⟨b, o, none⟩) l.length c ∧ b < w.heap.size ∧ l.length ≤ c ∧ c ≤ maxLen ∧ (∀ i (hi : i < l.length), w.cell? ⟨b, o + i, none⟩ = some (sval l[i]) ∧ l[i].length ≤ maxLen) := by
  cases h with
  | tsl _ _ _ _ _ h =>
    rcases rel_sl h with ⟨a, c, hv, h0⟩ | ⟨b, o, c, f, hsb, hv, hn', hcap, hc⟩
    · exact .inl ⟨a, c, hv, List.length_eq_zero_iff.1 h0⟩
    · refine .inr ⟨b, o, c, hv, hs b hsb, hn', hcap, fun i hi => ?_⟩
      obtain ⟨h1, h2⟩ := hc i hi 0 (by show 0 < 1; omega)
      have e : vw .str l i 0 = .str l[i] := by
        show nth [.str (l.getD i [])] 0 = _
        rw [getD_lt _ _ _ hi]; rfl
      rw [e] at h2
      obtain ⟨e1, e2⟩ := rel_str h2
      rw [show szT Ty.str = 1 from rfl, Nat.mul_one, Nat.add_zero, e1] at h1
      exact ⟨h1, e2⟩

/-- strings.Join. -/
def joinS (sep : Str) : List Str → Str
  | [] => []
  | x :: l => x ++ (l.map fun y => sep ++ y).flatten
theorem joinS_eq (sep : Str) (l : List Str) : Lib.join l sep = joinS sep l := by
  cases l with
  | nil => exact Lib.join_nil sep
  | cons x l => rw [Lib.join_cons]; rfl
def joinT (l : List Str) (sep : Str) : Tree Str := ask (decide (l.length ≤ 140737488355328)) <| ask (decide ((joinS sep l).length ≤ 140737488355328)) <| .ret (joinS sep l)
theorem data_bytes (s : Str) : (bytes s).data.toList = s := by unfold bytes; rfl
theorem strings_Join_sig {f : Nat} {d : Str} (hen : ∀ vs w, (callFunc f vs).run P w = .ok (.enter f vs) w)
    (h0 : ∀ (a : Option Addr) (c : Nat) (sep : ByteArray) (w : World), Calls P f #[.slice a 0 c, .string sep] w fun e w' => e = .returned (.string ⟨#[]⟩) ∧ w' = w)
    (h : ∀ (bk o c : Nat) (xs : List ByteArray) (sep : ByteArray) (w : World), (∀ (j : Nat) x, xs[j]? = some x → w.cell? ⟨bk, o + j, none⟩ = some (.string x)) → bk < w.heap.size → xs.length ≤ 140737488355328 → xs.length ≤ c →
      (Lib.join (xs.map (·.data.toList)) sep.data.toList).length ≤ 140737488355328 →
      Calls P f #[.slice (some ⟨bk, o, none⟩) xs.length c, .string sep] w fun e w' => e = .returned (.string ⟨(Lib.join (xs.map (·.data.toList)) sep.data.toList).toArray⟩) ∧ Below w.heap.size w w') :
    (⟨f, .cons (.val false (.list .str)) (.cons (.val false .str) .nil), .vals (.val false .str), fun z => joinT z.1 z.2.1, d⟩ : Sig).ok P := by
  rintro ⟨l, sep, _⟩ y hy
  refine acalls_in hen fun w S vs hg hs hr => ?_
  have hr0 := hr.2 0 (by show 0 < 2; omega)
  have hr1 := hr.2 1 (by show 1 < 2; omega)
  obtain ⟨e1, hl1⟩ := rel_str (s := sep) hr1
  have hlen : l.length ≤ 140737488355328 ∧ (joinS sep l).length ≤ 140737488355328 ∧ y = joinS sep l := by
    have hy : (joinT l sep).run = some y := hy
    unfold joinT at hy
    cases q1 : decide (l.length ≤ 140737488355328) with
    | false => rw [q1] at hy; cases hy
    | true =>
      cases q2 : decide ((joinS sep l).length ≤ 140737488355328) with
      | false => rw [q1, q2] at hy; cases hy
      | true =>
        rw [q1, q2] at hy
        cases hy
        exact ⟨of_decide_eq_true q1, of_decide_eq_true q2, rfl⟩
  obtain ⟨k1, k2, rfl⟩ := hlen
  have hmax : (joinS sep l).length ≤ maxLen := Nat.le_trans k2 (by decide)
  rw [arg01 hr.1, e1]
  rcases rel_strs hs hr0 with ⟨a, c, hv, hl⟩ | ⟨b, o, c, hv, hb, hc, hcm, hx⟩
  · rw [hv]
    subst hl
    refine Calls.mono (h0 a c (bytes sep) w) fun e w' hq => ?_
    obtain ⟨rfl, rfl⟩ := hq
    exact ⟨_, rfl, Below.refl _ _, .str _ _ hmax⟩
  · rw [hv]
    have hm : (l.map bytes).map (·.data.toList) = l := by
      rw [List.map_map]
      calc l.map ((fun x : ByteArray => x.data.toList) ∘ bytes) = l.map id := List.map_congr_left fun s _ => data_bytes s
        _ = l := List.map_id l
    have hb' := h b o c (l.map bytes) (bytes sep) w (fun j x hj => by
      rw [List.getElem?_map] at hj
      cases hq : l[j]? with
      | none => rw [hq] at hj; cases hj
      | some s =>
        rw [hq] at hj
        cases hj
        obtain ⟨hlt, rfl⟩ := List.getElem?_eq_some_iff.1 hq
        exact (hx j hlt).1) hb (by rw [List.length_map]; exact k1) (by rw [List.length_map]; exact hc) (by rw [hm, data_bytes, joinS_eq]; exact k2)
    rw [List.length_map, hm, data_bytes, joinS_eq] at hb'
    refine Calls.mono hb' fun e w' hq => ?_
    obtain ⟨rfl, hbel⟩ := hq
    exact ⟨_, rfl, hbel, .str _ _ hmax⟩

theorem below_growN (w : World) (k : Nat) (os : Array Obj) : Below w.heap.size w (Sort.grow (w.drewN k) os) :=
  ⟨rfl, rfl, rfl, by show w.heap.size ≤ (w.heap ++ os).size; rw [Array.size_append]; omega, fun j hj => Sort.heap_grow_old (w.drewN k) os hj⟩
/-- strconv.Itoa. -/
theorem strconv_Itoa_sig {f : Nat} {d : Str} (hen : ∀ vs w, (callFunc f vs).run P w = .ok (.enter f vs) w)
    (h : ∀ (n : Int) (w : World), -9223372036854775808 ≤ n → n ≤ 9223372036854775807 → GL w → Calls P f #[.int .i64 n] w fun e w' => e = .returned (.string ⟨(Lib.itoa n).toArray⟩) ∧ ∃ k os, w' = Sort.grow (w.drewN k) os) :
    (⟨f, .cons (.val false (.int .i64)) .nil, .vals (.val false .str), fun z => .ret (decS z.1), d⟩ : Sig).ok P :=
  lib_i (rs := .vals (.val false .str)) (g := fun n => decS n) hen fun n w S hg h0 h1 hs => Calls.mono (h n w h0 h1 hg) fun e w' hq => by
    obtain ⟨rfl, k, os, rfl⟩ := hq
    have hl := (decS_len ⟨h0, h1⟩).1
    refine ⟨_, rfl, below_growN w k os, ?_⟩
    show Rel _ _ [] _ (.str (decS n))
    rw [decS_eq ⟨h0, h1⟩] at hl ⊢
    exact .str _ _ (Nat.le_trans hl (by decide))

/-- strings.TrimPrefix. -/
def trimS (s p : Str) : Str := bif p.isPrefixOf s then s.drop p.length else s
theorem strings_TrimPrefix_sig {f : Nat} {d : Str} (hen : ∀ vs w, (callFunc f vs).run P w = .ok (.enter f vs) w)
    (h : ∀ (s p : ByteArray) (w : World), Calls P f #[.string s, .string p] w fun e w' => e = .returned (.string ⟨(Lib.trimPrefix s.data.toList p.data.toList).toArray⟩) ∧ w' = w) :
    (⟨f, .cons (.val false .str) (.cons (.val false .str) .nil), .vals (.val false .str), fun z => .ret (trimS z.1 z.2.1), d⟩ : Sig).ok P :=
  lib_ss (rs := .vals (.val false .str)) (g := fun s p => .ret (trimS s p)) hen fun s p y w S hy hg h0 h1 hs => Calls.mono (h (bytes s) (bytes p) w) fun e w' hq => by
    have hy : some (trimS s p) = some y := hy
    injection hy with hy
    subst hy
    obtain ⟨rfl, rfl⟩ := hq
    rw [data_bytes, data_bytes]
    refine ⟨_, rfl, Below.refl _ _, ?_⟩
    have e : Lib.trimPrefix s p = trimS s p := by
      unfold Lib.trimPrefix trimS Lib.hasPrefix
      cases p.isPrefixOf s <;> rfl
    rw [e]
    refine .str _ _ ?_
    unfold trimS
    cases p.isPrefixOf s
    · exact h0
    · exact Nat.le_trans (by simp) h0

/-- name.Num: the number that has just these digits. -/
def numT (s : Str) : Tree (Int × Bool × Unit) := ask (decide (s.length ≤ 281474976710656)) <| .ret ((numS s).1, (numS s).2, ())
theorem name_Num_sig {f : Nat} {d : Int × Bool × Unit} (hen : ∀ vs w, (callFunc f vs).run P w = .ok (.enter f vs) w)
    (h : ∀ (s : Str) (w : World), GL w → s.length ≤ 281474976710656 → Calls P f #[.string (bytes s)] w fun e w' => e = .returned (.tuple #[.int .i64 (numS s).1, .bool (numS s).2]) ∧ Below w.heap.size w w') :
    (⟨f, .cons (.val false .str) .nil, .vals (.cons (.val false (.int .i64)) (.cons (.val false .bool) .nil)), fun z => numT z.1, d⟩ : Sig).ok P := by
  rintro ⟨s, _⟩ y hy
  have hy : (numT s).run = some y := hy
  have hl : s.length ≤ 281474976710656 ∧ y = ((numS s).1, (numS s).2, ()) := by
    unfold numT at hy
    cases q1 : decide (s.length ≤ 281474976710656) with
    | false => rw [q1] at hy; cases hy
    | true => rw [q1] at hy; cases hy; exact ⟨of_decide_eq_true q1, rfl⟩
  obtain ⟨hl, rfl⟩ := hl
  refine acalls_in hen fun w S vs hg hs hr => ?_
  have h0 := hr.2 0 (by show 0 < 1; omega)
  obtain ⟨e, _⟩ := rel_str (s := s) h0
  rw [arg0 hr.1, e]
  refine Calls.mono (h s w hg hl) fun e w' hq => ?_
  obtain ⟨rfl, hb⟩ := hq
  refine ⟨_, rfl, hb, ?_⟩
  show Rel _ _ [] _ (.tup [.int .i64 (numS s).1, .bool (numS s).2])
  refine .tup _ _ _ rfl fun i hi => ?_
  have hw : (Lit.int .i64 (numS s).1).wf = true := by
    have e1 : IntKind.i64.min = -9223372036854775808 := rfl
    have e2 : IntKind.i64.max = 9223372036854775807 := rfl
    rcases numS_cases s with ⟨n, h1, _, h3⟩ | ⟨_, h2⟩
    · rw [h3]
      simp only [Lit.wf, e1, e2, Bool.and_eq_true, decide_eq_true_eq]; exact h1
    · rw [h2]; rfl
  match i, hi with
  | 0, _ => exact .int _ _ _ hw
  | 1, _ => exact .bool _ _

end Go.Eng
