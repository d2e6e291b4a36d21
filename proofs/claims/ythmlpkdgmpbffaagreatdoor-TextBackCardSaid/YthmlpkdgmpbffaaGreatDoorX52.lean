/- Laws in plain Lean: x52. -/
import Derived.Test.YthmlpkdgmpbffaaGreatDoorM52z
namespace Go.Eng
open Go Go.Proofs Go.RowKit

/-! Words: texts without signs. -/
theorem xroom {α : Type} (l : List α) (h : l.length ≤ 1000000) : decide (l.length * 1 ≤ roomNat) = true := decide_eq_true (by unfold roomNat; omega)
theorem xin {i : Int} {n : Nat} (h0 : 0 ≤ i) (h1 : i < (n : Int)) : inb i n = true := decide_eq_true ⟨h0, h1⟩
theorem xine {i : Int} {n : Nat} (h0 : 0 ≤ i) (h1 : i ≤ (n : Int)) : inbe i n = true := decide_eq_true ⟨h0, h1⟩
theorem xw64 (i : Nat) (h : i ≤ 1000000) : w64 ((i : Int) + 1) = ((i + 1 : Nat) : Int) := by
  show IntKind.i64.wrap ((i : Int) + 1) = _
  rw [IntKind.wrap_i64]; omega
theorem xstrI_app (a b : Str) : strI (a ++ b) = strI a ++ strI b := List.map_append
theorem xstrI_len (a : Str) : (strI a).length = a.length := List.length_map ..
theorem xstrB_I (s : Str) : strB (strI s) = s := by
  unfold strB strI
  rw [List.map_map]
  conv => rhs; rw [← List.map_id s]
  apply List.map_congr_left
  intro x _
  show UInt8.ofNat ((x.toNat : Int)).toNat = x
  rw [Int.toNat_natCast]; exact UInt8.ofNat_toNat
theorem xget (s : Str) (i : Nat) (h : i < s.length) : (strI s).getD i 0 = ((s[i].toNat : Nat) : Int) := by
  unfold strI
  rw [getD_lt _ _ _ (by rw [List.length_map]; exact h), List.getElem_map]
theorem xsget (s : Str) (i : Nat) (h : i < s.length) : sgetI s (i : Int) = ((s[i].toNat : Nat) : Int) := by
  show (((s.getD (i : Int).toNat 0).toNat : Nat) : Int) = _
  rw [Int.toNat_natCast, getD_lt _ _ _ h]
theorem xloop {σ α : Type} {st : σ → Tree (σ ⊕ α)} {s : σ} {a : α} (h : loopF (fun s => (st s).run) s = some a) : (Tree.loop st s).run = some a := h
def plI (x0 : Int) : Bool := (((((((decide ((97 : Int) ≤ x0)) && (decide (x0 ≤ 122))) || ((decide ((65 : Int) ≤ x0)) && (decide (x0 ≤ 90)))) || ((decide ((48 : Int) ≤ x0)) && (decide (x0 ≤ 57)))) || (decide (x0 = 45))) || (decide (x0 = 46))) || (decide (x0 = 47)))
def plB (b : UInt8) : Bool := plI (b.toNat : Int)
def hexS : Str := [48, 49, 50, 51, 52, 53, 54, 55, 56, 57, 97, 98, 99, 100, 101, 102]
def hexd (n : Nat) : UInt8 := hexS.getD n 0
def encB (b : UInt8) : Str := bif plB b then [b] else [37, hexd (b.toNat / 16), hexd (b.toNat % 16)]
def wordE (s : Str) : Str := s.flatMap encB
def wordS (s : Str) : Str := bif s == ([] : Str) then [95] else wordE s
theorem encB_len (b : UInt8) : (encB b).length ≤ 3 := by unfold encB; cases plB b <;> simp
theorem wordE_len (s : Str) : (wordE s).length ≤ 3 * s.length := by
  induction s with
  | nil => exact Nat.le_refl _
  | cons b s ih =>
    have := encB_len b
    have e : wordE (b :: s) = encB b ++ wordE s := rfl
    rw [e, List.length_append, List.length_cons]; omega
theorem wordS_len (s : Str) : (wordS s).length ≤ 3 * s.length + 1 := by
  have := wordE_len s
  unfold wordS
  cases s == ([] : Str) with
  | true => show 1 ≤ _; omega
  | false => show (wordE s).length ≤ _; omega
theorem wordE_app (a b : Str) : wordE (a ++ b) = wordE a ++ wordE b := List.flatMap_append
theorem wordE_succ (s : Str) (i : Nat) (h : i < s.length) : wordE (s.take (i + 1)) = wordE (s.take i) ++ encB s[i] := by
  rw [List.take_succ_eq_append_getElem h, wordE_app]
  show _ ++ (encB s[i] ++ []) = _
  rw [List.append_nil]
theorem isPlain_run (b : UInt8) : (text_isPlain_T (b.toNat : Int)).run = some (plB b) := by
  have key : ∀ n : Fin 256, (text_isPlain_T (n.1 : Int)).runN 5 = some (plI (n.1 : Int)) := by decide +kernel
  exact Tree.runN_run (key ⟨b.toNat, UInt8.toNat_lt b⟩)
theorem rplain_run (b : UInt8) : (r52_plain_T (b.toNat : Int)).run = some (plB b) := rfl
theorem shr4 (b : UInt8) : stdShift .shr .u8 (b.toNat : Int) 4 = ((b.toNat / 16 : Nat) : Int) := by
  have key : ∀ n : Fin 256, stdShift .shr .u8 (n.1 : Int) 4 = ((n.1 / 16 : Nat) : Int) := by decide +kernel
  exact key ⟨b.toNat, UInt8.toNat_lt b⟩
theorem and15 (b : UInt8) : stdArith .and .u8 (b.toNat : Int) 15 = ((b.toNat % 16 : Nat) : Int) := by
  have key : ∀ n : Fin 256, stdArith .and .u8 (n.1 : Int) 15 = ((n.1 % 16 : Nat) : Int) := by decide +kernel
  exact key ⟨b.toNat, UInt8.toNat_lt b⟩
theorem hex_get {n : Nat} (h : n < 16) : sgetI hexS (n : Int) = (((hexd n).toNat : Nat) : Int) := by
  show (((hexS.getD (n : Int).toNat 0).toNat : Nat) : Int) = _
  rw [Int.toNat_natCast]; rfl
theorem word_run (s : Str) (hs : s.length ≤ 100000) : (text_Word_T s).run = some (wordS s) := by
  have step : ∀ i : Nat, i < s.length → (text_Word_L5_step ((strI s).length : Int) (strI s) (i : Int) (strI (wordE (s.take i)))).run = some (.inl (((i + 1 : Nat) : Int), strI (wordE (s.take (i + 1))))) := by
    intro i hi
    have hl := wordE_len (s.take i)
    rw [List.length_take] at hl
    have hb := UInt8.toNat_lt s[i]
    unfold text_Word_L5_step
    rw [Int.toNat_natCast, xget s i hi, xw64 i (by omega), wordE_succ s i hi]
    refine (run_t (decide_eq_true (by rw [xstrI_len]; omega))).trans ?_
    refine (run_ask (xin (by omega) (by rw [xstrI_len]; omega))).trans ?_
    refine (run_bnd (isPlain_run s[i])).trans ?_
    unfold encB
    cases plB s[i] with
    | true =>
      refine (run_t rfl).trans ?_
      refine (run_ask (xroom _ (by rw [List.length_append, xstrI_len]; show _ + 1 ≤ _; omega))).trans ?_
      rw [cond_true, xstrI_app]; rfl
    | false =>
      refine (run_f rfl).trans ?_
      rw [shr4, and15]
      refine (run_ask rfl).trans ?_
      refine (run_ask (xin (by omega) (by show _ < (16 : Int); omega))).trans ?_
      refine (run_ask (xin (by omega) (by show _ < (16 : Int); omega))).trans ?_
      refine (run_ask (xroom _ (by rw [List.length_append, xstrI_len]; show _ + 3 ≤ _; omega))).trans ?_
      have e1 := hex_get (show s[i].toNat / 16 < 16 by omega)
      have e2 := hex_get (show s[i].toNat % 16 < 16 by omega)
      unfold hexS at e1 e2
      rw [e1, e2, cond_false, xstrI_app]; rfl
  unfold text_Word_T wordS
  cases h : s == ([] : Str) with
  | true => rfl
  | false =>
    refine (run_f rfl).trans ?_
    refine (run_bnd (xloop (loopF_run (a := strI (wordE s)) (S := fun i => ((i : Int), strI (wordE (s.take i)))) (n := s.length) step ?_ rfl))).trans ?_
    · show (text_Word_L5_step _ _ ((s.length : Nat) : Int) (strI (wordE (s.take s.length)))).run = _
      unfold text_Word_L5_step
      rw [List.take_length]
      exact run_f (decide_eq_false (by rw [xstrI_len]; omega))
    · show some (strB (strI (wordE s))) = _
      rw [xstrB_I]; rfl
theorem digits_run (b : UInt8) : (r02_Digits_T [b]).run = some [hexd (b.toNat / 16), hexd (b.toNat % 16)] := by
  have key : ∀ n : Fin 256, (r02_Digits_T [UInt8.ofNat n.1]).runN 5 = some [hexd (n.1 / 16), hexd (n.1 % 16)] := by decide +kernel
  have := Tree.runN_run (key ⟨b.toNat, UInt8.toNat_lt b⟩)
  rwa [UInt8.ofNat_toNat] at this
theorem sub1 (s : Str) (i : Nat) (h : i < s.length) : subS s i (i + 1) = [s[i]] := by
  show (s.drop i).take (i + 1 - i) = _
  rw [Nat.add_sub_cancel_left, List.drop_eq_getElem_cons h]; rfl
theorem rword_run (s : Str) (hs : s.length ≤ 100000) : (r52_Word_T s).run = some (wordS s) := by
  have step : ∀ i : Nat, i < s.length → (r52_Word_L5_step s (wordE (s.take i)) (i : Int)).run = some (.inl (wordE (s.take (i + 1)), ((i + 1 : Nat) : Int))) := by
    intro i hi
    have hl := wordE_len (s.take i)
    rw [List.length_take] at hl
    have hsub := sub1 s i hi
    unfold r52_Word_L5_step
    rw [xsget s i hi, xw64 i (by omega), Int.toNat_natCast, Int.toNat_natCast, hsub, wordE_succ s i hi]
    refine (run_t (decide_eq_true (by omega))).trans ?_
    refine (run_ask (xin (by omega) (by omega))).trans ?_
    refine (run_bnd (rplain_run s[i])).trans ?_
    unfold encB
    cases plB s[i] with
    | true =>
      refine (run_t rfl).trans ?_
      refine (run_ask (xine (by omega) (by omega))).trans ?_
      refine (run_ask (xine (by omega) (by omega))).trans ?_
      exact run_ask (decide_eq_true (by show _ + 1 ≤ _; omega))
    | false =>
      refine (run_f rfl).trans ?_
      refine (run_ask (decide_eq_true (by show _ + 1 ≤ _; omega))).trans ?_
      refine (run_ask (xine (by omega) (by omega))).trans ?_
      refine (run_ask (xine (by omega) (by omega))).trans ?_
      refine (run_bnd (digits_run s[i])).trans ?_
      refine (run_ask (decide_eq_true (by rw [List.length_append]; show _ + 1 + 2 ≤ _; omega))).trans ?_
      rw [cond_false, List.append_assoc]; rfl
  unfold r52_Word_T wordS
  cases h : s == ([] : Str) with
  | true => rfl
  | false =>
    refine (run_f rfl).trans ?_
    refine (run_bnd (xloop (loopF_run (a := wordE s) (S := fun i => (wordE (s.take i), (i : Int))) (n := s.length) step ?_ rfl))).trans rfl
    show (r52_Word_L5_step _ (wordE (s.take s.length)) ((s.length : Nat) : Int)).run = _
    unfold r52_Word_L5_step
    rw [List.take_length]
    exact run_f (decide_eq_false (by omega))

/-! The text of a word. -/
def digI (x : Int) : Int := bif (decide ((48 : Int) ≤ x)) && (decide (x ≤ 57)) then x - 48 else bif (decide ((97 : Int) ≤ x)) && (decide (x ≤ 102)) then x - 87 else -1
def hxB (b : UInt8) : Int := digI (b.toNat : Int)
def two (a b : UInt8) : UInt8 := UInt8.ofNat (16 * (hxB a).toNat + (hxB b).toNat)
def noDig (a b : UInt8) : Bool := (decide (hxB a < 0)) || (decide (hxB b < 0))
def decW : Str → Option Str
  | [] => some []
  | [c] => bif c == 37 then none else some [c]
  | [c, a] => bif c == 37 then none else (decW [a]).map fun s => c :: s
  | c :: a :: b :: r => bif c == 37 then (bif noDig a b then none else (decW r).map fun s => two a b :: s) else (decW (a :: b :: r)).map fun s => c :: s
theorem decW_go {c : UInt8} (h : (c == 37) = false) (r : Str) : decW (c :: r) = (decW r).map fun s => c :: s := by
  match r with
  | [] => unfold decW; rw [h]; rfl
  | [a] => simp only [decW]; rw [h]; rfl
  | a :: b :: r => rw [decW, h]; rfl
theorem hxB_in (b : UInt8) : hxB b = -1 ∨ (0 ≤ hxB b ∧ hxB b < 16) := by
  have key : ∀ n : Fin 256, digI (n.1 : Int) = -1 ∨ (0 ≤ digI (n.1 : Int) ∧ digI (n.1 : Int) < 16) := by decide +kernel
  exact key ⟨b.toNat, UInt8.toNat_lt b⟩
theorem index_run (b : UInt8) : (strings_IndexByte_T ([48, 49, 50, 51, 52, 53, 54, 55, 56, 57, 97, 98, 99, 100, 101, 102] : Str) (b.toNat : Int)).run = some (hxB b) := by
  have key : ∀ n : Fin 256, (strings_IndexByte_T ([48, 49, 50, 51, 52, 53, 54, 55, 56, 57, 97, 98, 99, 100, 101, 102] : Str) (n.1 : Int)).runN 3 = some (digI (n.1 : Int)) := by decide +kernel
  exact Tree.runN_run (key ⟨b.toNat, UInt8.toNat_lt b⟩)
theorem noDig_f {a b : UInt8} (h : noDig a b = false) : ∃ m n : Fin 16, hxB a = (m.1 : Int) ∧ hxB b = (n.1 : Int) := by
  unfold noDig at h
  simp only [Bool.or_eq_false_iff, decide_eq_false_iff_not] at h
  have h1 := hxB_in a
  have h2 := hxB_in b
  exact ⟨⟨(hxB a).toNat, by omega⟩, ⟨(hxB b).toNat, by omega⟩, by show _ = (((hxB a).toNat : Nat) : Int); omega, by show _ = (((hxB b).toNat : Nat) : Int); omega⟩
theorem two_p {a b : UInt8} (h : noDig a b = false) : IntKind.wrap .u8 (stdArith .or .i64 (stdShift .shl .i64 (hxB a) 4) (hxB b)) = (((two a b).toNat : Nat) : Int) := by
  obtain ⟨m, n, h1, h2⟩ := noDig_f h
  have key : ∀ m n : Fin 16, IntKind.wrap .u8 (stdArith .or .i64 (stdShift .shl .i64 (m.1 : Int) 4) (n.1 : Int)) = (((UInt8.ofNat (16 * m.1 + n.1)).toNat : Nat) : Int) := by decide +kernel
  unfold two
  rw [h1, h2, Int.toNat_natCast, Int.toNat_natCast]; exact key m n
def decR (o : Option Str) (out : List Int) : (Str × Bool) ⊕ List Int := match o with | some s => .inr (out ++ strI s) | none => .inl ([], false)
theorem decR_map (o : Option Str) (out : List Int) (c : UInt8) : decR (o.map fun s => c :: s) out = decR o (out ++ [((c.toNat : Nat) : Int)]) := by
  cases o with
  | none => rfl
  | some s => show Sum.inr (out ++ (((c.toNat : Nat) : Int) :: strI s)) = Sum.inr ((out ++ [((c.toNat : Nat) : Int)]) ++ strI s); rw [List.append_assoc]; rfl
theorem subS_tail (k : Nat) (s : Str) : subS s k s.length = s.drop k := by
  show (s.drop k).take (s.length - k) = _
  exact List.take_of_length_le (by rw [List.length_drop]; omega)
theorem beq37 (c : UInt8) : (!decide (((c.toNat : Nat) : Int) = 37)) = !(c == 37) := by
  congr 1
  by_cases h : c = 37
  · subst h; rfl
  · rw [decide_eq_false (fun e => h (UInt8.toNat_inj.1 (by show c.toNat = 37; omega)))]
    symm; rw [beq_eq_false_iff_ne]; exact h
theorem read_loop (w : Str) : ∀ (n : Nat) (rest : Str) (out : List Int), rest.length ≤ n → out.length + rest.length ≤ 500000 → loopF (fun v => (text_Read_L5_step w v.1 v.2).run) (rest, out) = some (decR (decW rest) out) := by
  intro n
  induction n with
  | zero =>
    intro rest out hn _
    obtain rfl := List.length_eq_zero_iff.1 (Nat.le_zero.1 hn)
    rw [loopF_eq]
    show some (Sum.inr out) = some (Sum.inr (out ++ []))
    rw [List.append_nil]
  | succ n ih =>
    intro rest out hn hb
    cases rest with
    | nil =>
      rw [loopF_eq]
      show some (Sum.inr out) = some (Sum.inr (out ++ []))
      rw [List.append_nil]
    | cons c r =>
      rw [List.length_cons] at hn hb
      have hg : sgetI (c :: r) 0 = ((c.toNat : Nat) : Int) := rfl
      rw [loopF_eq]
      show ((text_Read_L5_step w (c :: r) out).run).bind _ = _
      cases h37 : c == 37 with
      | false =>
        have s0 : (text_Read_L5_step w (c :: r) out).run = some (.inl (r, out ++ [((c.toNat : Nat) : Int)])) := by
          unfold text_Read_L5_step
          rw [hg, beq37, h37]
          refine (run_t rfl).trans ?_
          refine (run_ask (xin (by omega) (by rw [List.length_cons]; omega))).trans ?_
          refine (run_t rfl).trans ?_
          refine (run_ask (xine (by omega) (by rw [List.length_cons]; omega))).trans ?_
          refine (run_ask (xin (by omega) (by rw [List.length_cons]; omega))).trans ?_
          refine (run_ask (xroom _ (by rw [List.length_append]; show _ + 1 ≤ _; omega))).trans ?_
          rw [subS_tail]; rfl
        rw [s0, decW_go h37, decR_map]
        exact ih r _ (by omega) (by rw [List.length_append]; show _ + 1 + _ ≤ _; omega)
      | true =>
        match r, hn, hb with
        | [], hn, hb =>
          have s0 : (text_Read_L5_step w [c] out).run = some (.inr (.inl ([], false))) := by
            unfold text_Read_L5_step
            rw [show sgetI [c] 0 = ((c.toNat : Nat) : Int) from rfl, beq37, h37]
            refine (run_t rfl).trans ?_
            refine (run_ask rfl).trans ?_
            exact (run_f rfl).trans (run_t rfl)
          rw [s0]; unfold decW; rw [h37]; rfl
        | [a], hn, hb =>
          have s0 : (text_Read_L5_step w [c, a] out).run = some (.inr (.inl ([], false))) := by
            unfold text_Read_L5_step
            rw [show sgetI [c, a] 0 = ((c.toNat : Nat) : Int) from rfl, beq37, h37]
            refine (run_t rfl).trans ?_
            refine (run_ask rfl).trans ?_
            exact (run_f rfl).trans (run_t rfl)
          rw [s0]; rw [decW, h37]; rfl
        | a :: b :: r, hn, hb =>
          rw [List.length_cons, List.length_cons] at hn hb
          have hl : ((c :: a :: b :: r).length : Int) = (r.length : Int) + 3 := by simp only [List.length_cons]; omega
          rw [decW, h37, cond_true]
          cases hd : noDig a b with
          | true =>
            have s0 : (text_Read_L5_step w (c :: a :: b :: r) out).run = some (.inr (.inl ([], false))) := by
              unfold text_Read_L5_step
              rw [show sgetI (c :: a :: b :: r) 0 = ((c.toNat : Nat) : Int) from rfl, beq37, h37]
              refine (run_t rfl).trans ?_
              refine (run_ask (xin (by omega) (by omega))).trans ?_
              refine (run_f rfl).trans ?_
              refine (run_f (decide_eq_false (by omega))).trans ?_
              refine (run_ask (xin (by omega) (by omega))).trans ?_
              refine (run_bnd (index_run a)).trans ?_
              refine (run_ask (xin (by omega) (by omega))).trans ?_
              refine (run_bnd (index_run b)).trans ?_
              exact (run_t hd).trans rfl
            rw [s0]; rfl
          | false =>
            have s0 : (text_Read_L5_step w (c :: a :: b :: r) out).run = some (.inl (r, out ++ [(((two a b).toNat : Nat) : Int)])) := by
              unfold text_Read_L5_step
              rw [show sgetI (c :: a :: b :: r) 0 = ((c.toNat : Nat) : Int) from rfl, beq37, h37]
              refine (run_t rfl).trans ?_
              refine (run_ask (xin (by omega) (by omega))).trans ?_
              refine (run_f rfl).trans ?_
              refine (run_f (decide_eq_false (by omega))).trans ?_
              refine (run_ask (xin (by omega) (by omega))).trans ?_
              refine (run_bnd (index_run a)).trans ?_
              refine (run_ask (xin (by omega) (by omega))).trans ?_
              refine (run_bnd (index_run b)).trans ?_
              refine (run_f hd).trans ?_
              refine (run_ask (xine (by omega) (by omega))).trans ?_
              refine (run_ask rfl).trans ?_
              refine (run_ask (xroom _ (by rw [List.length_append]; show _ + 1 ≤ _; omega))).trans ?_
              rw [two_p hd, subS_tail]; rfl
            rw [s0, cond_false, decR_map]
            exact ih r _ (by omega) (by rw [List.length_append]; show _ + 1 + _ ≤ _; omega)
def readW (w : Str) : Str × Bool × Unit :=
  bif w == ([95] : Str) then ([], true, ()) else
    match decW w with
    | none => ([], false, ())
    | some s => bif (!(w == ([] : Str))) && (wordS s == w) then (s, true, ()) else ([], false, ())
theorem decW_len : ∀ (n : Nat) (w s : Str), w.length ≤ n → decW w = some s → s.length ≤ w.length := by
  intro n
  induction n with
  | zero =>
    intro w s hn h
    obtain rfl := List.length_eq_zero_iff.1 (Nat.le_zero.1 hn)
    cases h; exact Nat.le_refl _
  | succ n ih =>
    intro w s hn h
    cases w with
    | nil => cases h; exact Nat.le_refl _
    | cons c r =>
      rw [List.length_cons] at hn ⊢
      cases h37 : c == 37 with
      | false =>
        rw [decW_go h37] at h
        cases hr : decW r with
        | none => rw [hr] at h; cases h
        | some t => rw [hr] at h; cases h; have := ih r t (by omega) hr; rw [List.length_cons]; omega
      | true =>
        match r, hn, h with
        | [], _, h => unfold decW at h; rw [h37] at h; cases h
        | [a], _, h => rw [decW, h37] at h; cases h
        | a :: b :: r, hn, h =>
          rw [decW, h37, cond_true] at h
          rw [List.length_cons, List.length_cons] at hn
          cases hd : noDig a b with
          | true => rw [hd] at h; cases h
          | false =>
            rw [hd, cond_false] at h
            cases hr : decW r with
            | none => rw [hr] at h; cases h
            | some t => rw [hr] at h; cases h; have := ih r t (by omega) hr; simp only [List.length_cons]; omega
theorem read_word_run (w : Str) (hw : w.length ≤ 100000) : (text_Read_T w).run = some (readW w) := by
  unfold text_Read_T readW
  cases h : w == ([95] : Str) with
  | true => rfl
  | false =>
    refine (run_f rfl).trans ?_
    refine (run_bnd (xloop (read_loop w w.length w [] (Nat.le_refl _) (by show 0 + _ ≤ _; omega)))).trans ?_
    cases hd : decW w with
    | none => rfl
    | some s =>
      have hl := decW_len w.length w s (Nat.le_refl _) hd
      show (Tree.grd (!(w == ([] : Str))) (text_Word_T (strB ([] ++ strI s))) ([] : Str) _).run = _
      rw [List.nil_append, xstrB_I]
      refine (run_grd (word_run s (by omega))).trans ?_
      show (Tree.ite ((!(w == ([] : Str))) && (wordS s == w)) _ _).run = some (bif (!(w == ([] : Str))) && (wordS s == w) then (s, true, ()) else ([], false, ()))
      generalize ((!(w == ([] : Str))) && (wordS s == w)) = z
      cases z <;> rfl
/-! A word's text is the text that it is of. -/
theorem enc_dec (b : UInt8) : plB b = false → noDig (hexd (b.toNat / 16)) (hexd (b.toNat % 16)) = false ∧ two (hexd (b.toNat / 16)) (hexd (b.toNat % 16)) = b := by
  have key : ∀ n : Fin 256, plI (n.1 : Int) = false → noDig (hexd (n.1 / 16)) (hexd (n.1 % 16)) = false ∧ (two (hexd (n.1 / 16)) (hexd (n.1 % 16))).toNat = n.1 := by decide +kernel
  intro h
  obtain ⟨h1, h2⟩ := key ⟨b.toNat, UInt8.toNat_lt b⟩ h
  exact ⟨h1, UInt8.toNat_inj.1 h2⟩
theorem pl_not {b : UInt8} (h : plB b = true) : (b == 37) = false ∧ b ≠ 95 ∧ b ≠ 32 ∧ b ≠ 10 ∧ b ≠ 44 ∧ b ≠ 58 ∧ b ≠ 43 := by
  refine ⟨?_, ?_, ?_, ?_, ?_, ?_, ?_⟩
  · rw [beq_eq_false_iff_ne]; rintro rfl; exact absurd h (by decide)
  all_goals rintro rfl; exact absurd h (by decide)
theorem dec_word (s : Str) : decW (wordE s) = some s := by
  induction s with
  | nil => rfl
  | cons b s ih =>
    have e : wordE (b :: s) = encB b ++ wordE s := rfl
    rw [e]
    unfold encB
    cases hp : plB b with
    | true =>
      show decW (b :: wordE s) = _
      rw [decW_go (pl_not hp).1, ih]; rfl
    | false =>
      obtain ⟨h1, h2⟩ := enc_dec b hp
      show decW (37 :: hexd (b.toNat / 16) :: hexd (b.toNat % 16) :: wordE s) = _
      rw [decW, h1, ih, h2]; rfl
theorem wordE_head {b : UInt8} {s : Str} : ∃ c r, wordE (b :: s) = c :: r ∧ c ≠ 95 := by
  have e : wordE (b :: s) = encB b ++ wordE s := rfl
  rw [e]
  unfold encB
  cases hp : plB b with
  | true => exact ⟨b, wordE s, rfl, (pl_not hp).2.1⟩
  | false => exact ⟨37, _, rfl, by decide⟩
theorem read_of_word (s : Str) : readW (wordS s) = (s, true, ()) := by
  unfold readW wordS
  cases s with
  | nil => rfl
  | cons b s =>
    obtain ⟨c, r, e, hc⟩ := wordE_head (b := b) (s := s)
    have hne : ((b :: s : Str) == ([] : Str)) = false := rfl
    have h95 : (wordE (b :: s) == ([95] : Str)) = false := by
      rw [e, beq_eq_false_iff_ne]; intro h; injection h with h; exact hc h
    have h0 : (wordE (b :: s) == ([] : Str)) = false := by rw [e]; rfl
    rw [hne, cond_false, h95, cond_false, dec_word]
    show (bif (!(wordE (b :: s) == ([] : Str))) && ((bif ((b :: s : Str) == ([] : Str)) then ([95] : Str) else wordE (b :: s)) == wordE (b :: s)) then _ else _ : Str × Bool × Unit) = _
    rw [h0, hne, cond_false, beq_self_eq_true]; rfl

end Go.Eng

