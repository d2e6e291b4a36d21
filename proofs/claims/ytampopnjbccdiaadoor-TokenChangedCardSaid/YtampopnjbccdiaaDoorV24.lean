/- Laws in plain Lean: v24. -/
import Derived.Test.YtampopnjbccdiaaDoorU24
namespace Go.Eng
open Go Go.Proofs Go.RowKit

/-! What becomes of a token that was made. -/
theorem wf64 {n : Int} (h : (Lit.int .i64 n).wf = true) : N64 n := by
  have e1 : IntKind.i64.min = -9223372036854775808 := rfl
  have e2 : IntKind.i64.max = 9223372036854775807 := rfl
  simp only [Lit.wf, e1, e2, Bool.and_eq_true, decide_eq_true_eq] at h
  exact h
theorem wf8 {n : Int} (h : (Lit.int .u8 n).wf = true) : ∃ k : Nat, k < 256 ∧ n = (k : Int) := by
  have e1 : IntKind.u8.min = 0 := rfl
  have e2 : IntKind.u8.max = 255 := rfl
  simp only [Lit.wf, e1, e2, Bool.and_eq_true, decide_eq_true_eq] at h
  exact ⟨n.toNat, by omega, by omega⟩
theorem secB_of {s : Str} (h1 : 1 ≤ s.length) (h2 : s.length ≤ 64) : secB s = true := by
  unfold secB
  rw [decide_eq_true h2, Bool.and_true, Bool.not_eq_true', beq_eq_false_iff_ne]
  rintro rfl
  exact absurd h1 (by decide)
theorem take_says {t u : Str} {n : Int} {m : Str} (hm : m.length = 32) : (saysN t u n ++ m).take ((saysN t u n ++ m).length - 32) = saysN t u n ∧ (saysN t u n ++ m).drop ((saysN t u n ++ m).length - 32) = m := by
  have hl : (saysN t u n ++ m).length - 32 = (saysN t u n).length := by rw [List.length_append]; omega
  rw [hl]
  exact ⟨List.take_left, List.drop_left⟩
theorem check_says {t u sec : Str} {n : Int} (ht : nameS t = true) (hu : nameS u = true) (hs : secB sec = true) (hn : N64 n) (m : Str) (hm : m.length = 32) (now : Int) :
    checkN (knownN t sec) (saysN t u n ++ m) now = bif !decide (n < now) && (macN sec (saysN t u n) == m) then (t, u, 0, ()) else noOne := by
  have hr : readN (saysN t u n ++ m) = (t, u, n, true, ()) := read_says (Nat.le_trans (nameS_len ht) (by decide)) (Nat.le_trans (nameS_len hu) (by decide)) hn m hm
  obtain ⟨h1, h2⟩ := of_known (t := t) (s := sec) ht hs
  obtain ⟨e1, e2⟩ := take_says (t := t) (u := u) (n := n) hm
  unfold checkN goodB sumB
  rw [hr, e1, e2]
  show (bif (((true && (ofT (knownN t sec) t).2.1) && nameS u) && !decide (n < now)) && (macN (ofT (knownN t sec) t).1.2.1 (saysN t u n) == m) then _ else _ : Whose) = _
  rw [h1, h2, hu]
  rfl
theorem check_none {t u : Str} {n : Int} (ht : nameS t = true) (hu : nameS u = true) (hn : N64 n) (m : Str) (hm : m.length = 32) (now : Int) : checkN [] (saysN t u n ++ m) now = noOne := by
  have hr : readN (saysN t u n ++ m) = (t, u, n, true, ()) := read_says (Nat.le_trans (nameS_len ht) (by decide)) (Nat.le_trans (nameS_len hu) (by decide)) hn m hm
  unfold checkN goodB
  rw [hr]
  show (bif (((true && (ofT [] t).2.1) && nameS u) && !decide (n < now)) && sumB [] (saysN t u n ++ m) then _ else _ : Whose) = _
  rw [of_none t]
  rfl
theorem check_short (l : List Entry) {x : Str} (h : x.length < 32) (now : Int) : checkN l x now = noOne := by
  unfold checkN goodB
  rw [readN_short h]; rfl
theorem sm_nil : SmT [] := ⟨Nat.zero_le _, fun _ h => absurd h List.not_mem_nil⟩
theorem str_max {s : Str} (h : okE .str s) : s.length ≤ 9223372036854775807 := h
theorem cond24 {a b : Bool} {n : Nat} (hc : ((((!a) || (!b)) || (decide ((n : Int) < 1))) || (decide ((64 : Int) < (n : Int)))) = false) : a = true ∧ b = true ∧ 1 ≤ n ∧ n ≤ 64 := by
  cases a <;> cases b <;> simp at hc
  exact ⟨rfl, rfl, by omega, by omega⟩
theorem tokenGood_law (x : ElP l24_TokenGood_g.ps) (hx : okP l24_TokenGood_g.ps x) : (l24_TokenGood_g.f x).run = some true := by
  obtain ⟨⟨t, u, sec⟩, n, now, _⟩ := x
  obtain ⟨⟨hm1, hm2, hm3⟩, hn, _⟩ := hx
  have hn : N64 n := wf64 hn
  show (l24_TokenGood_T (t, (u, sec)) n now).run = _
  unfold l24_TokenGood_T
  refine (run_ask rfl).trans ?_
  refine (run_bnd (r05Is_runB t (str_max hm1))).trans ?_
  refine (run_ask (Bool.or_true _)).trans ?_
  refine (run_grd (r05Is_runB u (str_max hm2))).trans ?_
  refine (run_ask (Bool.or_true _)).trans ?_
  refine (run_ask (Bool.or_true _)).trans ?_
  by_cases hc : ((((!nameS t) || (!nameS u)) || (decide ((sec.length : Int) < 1))) || (decide ((64 : Int) < (sec.length : Int)))) = true
  · exact (run_t hc).trans ((run_bnd awake24).trans rfl)
  · have hc := Bool.not_eq_true _ ▸ hc
    refine (run_f hc).trans ?_
    obtain ⟨ht, hu, h1, h2⟩ := cond24 hc
    have hs := secB_of h1 h2
    have l1 := nameS_len ht
    have l2 := nameS_len hu
    have hl := tokN_len sec t u n
    have hmac : (macN sec (saysN t u n)).length = 32 := macN_len _ _
    refine (run_ask rfl).trans ?_
    refine (run_ask rfl).trans ?_
    refine (run_ask rfl).trans ?_
    refine (run_bnd (make_run sec t u n (by omega) (by omega) (by omega))).trans ?_
    refine (run_ask rfl).trans ?_
    refine (run_ask rfl).trans ?_
    refine (run_bnd (known_run t sec (by omega))).trans ?_
    refine (run_bnd (check_run _ _ now (known_sm _ _ (by omega)) (by omega))).trans ?_
    unfold tokN
    rw [check_says ht hu hs hn _ hmac now, beq_self_eq_true, Bool.and_true]
    by_cases hlt : n < now
    · refine (run_t (decide_eq_true hlt)).trans ?_
      rw [decide_eq_true hlt]
      exact (run_grd awake24).trans rfl
    · refine (run_f (decide_eq_false hlt)).trans ?_
      rw [decide_eq_false hlt]
      refine (run_bnd (check_run _ _ now sm_nil (show (tokN sec t u n).length ≤ 100000 by omega))).trans ?_
      rw [show checkN [] (tokN sec t u n) now = noOne from check_none ht hu hn _ hmac now]
      refine (run_ask (Bool.or_true _)).trans ?_
      refine (run_ask (Bool.or_true _)).trans ?_
      refine (run_grd awake24).trans ?_
      show some ((((decide ((0 : Int) = 0) && (t == t)) && (u == u)) && decide ((7 : Int) = 7)) && true) = _
      simp

/-! With one byte another one. -/
theorem and31 {a : Nat} (h : a < 256) : stdArith .and .u8 (a : Int) 31 = ((a % 32 : Nat) : Int) := by
  have e : stdArith .and .u8 (a : Int) ((31 : Nat) : Int) = ((a &&& 31 : Nat) : Int) := by
    show IntKind.u8.wrap ((BitVec.ofInt 8 (a : Int) &&& BitVec.ofInt 8 ((31 : Nat) : Int)).toNat : Int) = _
    rw [ofIntN, ofIntN, BitVec.toNat_and, BitVec.toNat_ofNat, BitVec.toNat_ofNat, Nat.mod_eq_of_lt (show a < 2 ^ 8 from h), Nat.mod_eq_of_lt (by decide : 31 < 2 ^ 8)]
    exact wrap8S (Nat.lt_of_le_of_lt Nat.and_le_left h)
  have e2 : a &&& 31 = a % 32 := Nat.and_two_pow_sub_one_eq_mod a 5
  rw [← e2]; exact e
theorem strI_set (s : Str) (k : Nat) (b : UInt8) : (strI s).set k (b.toNat : Int) = strI (s.set k b) := by
  unfold strI; rw [← List.map_set]
theorem flip_run (s : Str) (k : Nat) (hk : k < s.length) {b : Nat} (hb : b < 256) : strB ((strI s).set k (stdArith .xor .u8 ((strI s).getD k 0) (b : Int))) = s.set k (s[k] ^^^ UInt8.ofNat b) := by
  rw [strI_get s k hk, getD_lt _ _ _ hk, xor8 (UInt8.toNat_lt _) hb]
  have e : ((s[k].toNat ^^^ b : Nat) : Int) = (((s[k] ^^^ UInt8.ofNat b).toNat : Nat) : Int) := by
    rw [UInt8.toNat_xor, UInt8.toNat_ofNat_of_lt' hb]
  rw [e, strI_set, strB_I]
theorem set_app (a b : Str) (k : Nat) : (a ++ b).set (a.length + k) = fun x => a ++ b.set k x := by
  funext x
  rw [List.set_append_right _ _ (by omega), Nat.add_sub_cancel_left]
theorem app_at (a b : Str) (k : Nat) (h : a.length + k < (a ++ b).length) (h2 : k < b.length) : (a ++ b)[a.length + k] = b[k] := by
  rw [List.getElem_append_right (by omega)]
  congr 1
  omega
theorem tok_set (sec t u : Str) (n : Int) (k : Nat) (hk : k < (macN sec (saysN t u n)).length) (hl : (saysN t u n).length + k < (tokN sec t u n).length) (b : Nat) :
    (tokN sec t u n).set ((saysN t u n).length + k) ((tokN sec t u n)[(saysN t u n).length + k] ^^^ UInt8.ofNat b) = saysN t u n ++ (macN sec (saysN t u n)).set k ((macN sec (saysN t u n))[k] ^^^ UInt8.ofNat b) := by
  have e : (tokN sec t u n)[(saysN t u n).length + k] = (macN sec (saysN t u n))[k] := app_at (saysN t u n) (macN sec (saysN t u n)) k hl hk
  rw [e]
  show (saysN t u n ++ macN sec (saysN t u n)).set _ _ = _
  rw [set_app]
theorem set_same (m : Str) (k : Nat) (hk : k < m.length) {b : Nat} (hb : b < 256) : (m == m.set k (m[k] ^^^ UInt8.ofNat b)) = decide ((b : Int) = 0) := by
  by_cases h : b = 0
  · subst h
    rw [decide_eq_true (show ((0 : Nat) : Int) = 0 from rfl)]
    have e : m[k] ^^^ UInt8.ofNat 0 = m[k] := UInt8.xor_zero
    rw [e, List.set_getElem_self]; exact beq_self_eq_true _
  · rw [decide_eq_false (by omega), beq_eq_false_iff_ne]
    intro e
    have e1 := congrArg (fun l => l[k]?) e
    simp only [List.getElem?_set_self hk, List.getElem?_eq_getElem hk] at e1
    injection e1 with e1
    have e2 := congrArg UInt8.toNat e1
    rw [UInt8.toNat_xor, UInt8.toNat_ofNat_of_lt' hb] at e2
    have e3 := congrArg (fun z => m[k].toNat ^^^ z) e2
    simp only [← Nat.xor_assoc, Nat.xor_self, Nat.zero_xor] at e3
    exact h e3.symm
theorem tokenChanged_law (x : ElP l24_TokenChanged_g.ps) (hx : okP l24_TokenChanged_g.ps x) : (l24_TokenChanged_g.f x).run = some true := by
  obtain ⟨⟨t, u, sec⟩, at_, by_, _⟩ := x
  obtain ⟨⟨hm1, hm2, hm3⟩, ha0, hb0, _⟩ := hx
  obtain ⟨a, ha, ea⟩ := wf8 ha0
  obtain ⟨b, hb, eb⟩ := wf8 hb0
  have ea : at_ = (a : Int) := ea
  have eb : by_ = (b : Int) := eb
  subst ea eb
  have hn : N64 9 := ⟨by decide, by decide⟩
  show (l24_TokenChanged_T (t, (u, sec)) (a : Int) (b : Int)).run = _
  unfold l24_TokenChanged_T
  refine (run_ask rfl).trans ?_
  refine (run_bnd (r05Is_runB t (str_max hm1))).trans ?_
  refine (run_ask (Bool.or_true _)).trans ?_
  refine (run_grd (r05Is_runB u (str_max hm2))).trans ?_
  refine (run_ask (Bool.or_true _)).trans ?_
  refine (run_ask (Bool.or_true _)).trans ?_
  by_cases hc : ((((!nameS t) || (!nameS u)) || (decide ((sec.length : Int) < 1))) || (decide ((64 : Int) < (sec.length : Int)))) = true
  · exact (run_t hc).trans ((run_bnd awake24).trans rfl)
  · have hc := Bool.not_eq_true _ ▸ hc
    refine (run_f hc).trans ?_
    obtain ⟨ht, hu, h1, h2⟩ := cond24 hc
    have hs := secB_of h1 h2
    have l1 := nameS_len ht
    have l2 := nameS_len hu
    have hl := tokN_len sec t u 9
    have hmac : (macN sec (saysN t u 9)).length = 32 := macN_len _ _
    have hsl := saysN_len t u 9
    refine (run_ask rfl).trans ?_
    refine (run_ask rfl).trans ?_
    refine (run_ask rfl).trans ?_
    refine (run_bnd (make_run sec t u 9 (by omega) (by omega) (by omega))).trans ?_
    refine (run_f (decide_eq_false (by omega))).trans ?_
    have ek : w64 ((w64 (((strI (tokN sec t u 9)).length : Int) - 1)) - (w64 ((stdArith .and .u8 (a : Int) 31)))) = (((saysN t u 9).length + (31 - a % 32) : Nat) : Int) := by
      rw [and31 ha, strI_len, w64_of (n := ((tokN sec t u 9).length : Int) - 1) (by omega) (by omega), w64_of (n := ((a % 32 : Nat) : Int)) (by omega) (by omega), w64_of (by omega) (by omega)]
      omega
    rw [ek, Int.toNat_natCast]
    have hlt : (saysN t u 9).length + (31 - a % 32) < (tokN sec t u 9).length := by omega
    refine (run_ask (inb_in (by rw [strI_len]; omega))).trans ?_
    refine (run_ask (inb_in (by rw [strI_len]; omega))).trans ?_
    refine (run_ask rfl).trans ?_
    refine (run_ask rfl).trans ?_
    refine (run_bnd (known_run t sec (by omega))).trans ?_
    rw [flip_run _ _ hlt hb]
    have hk : 31 - a % 32 < (macN sec (saysN t u 9)).length := by omega
    have es := tok_set sec t u 9 (31 - a % 32) hk hlt b
    rw [es]
    refine (run_bnd (check_run _ _ 9 (known_sm _ _ (by omega)) (by rw [List.length_append, List.length_set]; omega))).trans ?_
    rw [check_says ht hu hs hn _ (by rw [List.length_set]; exact hmac) 9, set_same _ _ hk hb]
    refine (run_ask rfl).trans ?_
    refine (run_ask rfl).trans ?_
    refine (run_bnd (known_run t sec (by omega))).trans ?_
    refine (run_ask (decide_eq_true (show (0 : Int) ≤ 31 ∧ (31 : Int) ≤ ((tokN sec t u 9).length : Int) by omega))).trans ?_
    have e31 : (subS (tokN sec t u 9) 0 (31 : Int).toNat).length < 32 := by
      show (((tokN sec t u 9).drop 0).take ((31 : Int).toNat - 0)).length < 32
      rw [List.length_take]
      show min 31 _ < 32
      omega
    refine (run_bnd (check_run _ _ 9 (known_sm _ _ (by omega)) (by omega))).trans ?_
    rw [check_short _ e31]
    refine (run_grd awake24).trans ?_
    by_cases h0 : (b : Int) = 0
    · rw [decide_eq_true h0]; rfl
    · rw [decide_eq_false h0]; rfl

end Go.Eng

