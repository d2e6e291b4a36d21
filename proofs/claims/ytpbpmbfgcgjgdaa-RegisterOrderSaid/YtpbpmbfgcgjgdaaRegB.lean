/- Contracts: what compares registers. -/
import Derived.Test.YtpbpmbfgcgjgdaaRegA
namespace Go.Eng
open Go Go.Proofs Go.RowKit
set_option maxHeartbeats 4000000

theorem isNaN_c (x : Int) : ACalls Try.prog 24 [.int .i64 x] (.val (.bool (!(decide (x = x))))) := by
  refine ACalls.ofK Try.func24 rfl nms mix tabOk noCall_sound ?_
  intro p L K hp hL hK ha
  generalize hs : (!(decide (x = x))) = spec at hK
  cbv
  rw [hK]
  refine post_ret rfl ?_
  subst hs hp
  rfl
def cIsNaN : Oracle := fun _ f args => match f, args with
  | 24, [.int .i64 _] => some ⟨.val (.bool false), []⟩
  | _, _ => none
theorem cIsNaN_ok : Sound Try.prog cIsNaN := by
  intro id args r ks h _
  unfold cIsNaN at h
  split at h
  · rename_i x; cases h; have := isNaN_c x; simpa using this
  · cases h

def cmpS (a b : Int) : Int := if decide (a < b) = true then -1 else if decide (b < a) = true then 1 else 0
theorem compareInt_c (a b : Int) : ACalls Try.prog 22 [.int .i64 a, .int .i64 b] (.val (.int .i64 (cmpS a b))) := by
  refine ACalls.ofK Try.func22 rfl nms mix tabOk cIsNaN_ok ?_
  intro p L K hp hL hK ha
  generalize hs : cmpS a b = spec at hK
  cbv
  split
  · rename_i h
    cbv
    rw [hK]
    refine post_ret rfl ?_
    subst hs hp
    have h : decide (a < b) = true := h
    show AV.int .i64 (-1) = _
    unfold cmpS
    rw [if_pos h]
  · rename_i h
    cbv
    split
    · rename_i h'
      cbv
      rw [hK]
      refine post_ret rfl ?_
      subst hs hp
      have h : decide (a < b) = false := h
      have h' : decide (b < a) = true := h'
      show AV.int .i64 1 = _
      unfold cmpS
      rw [h, h']; rfl
    · rename_i h'
      cbv
      rw [hK]
      refine post_ret rfl ?_
      subst hs hp
      have h : decide (a < b) = false := h
      have h' : decide (b < a) = false := h'
      show AV.int .i64 0 = _
      unfold cmpS
      rw [h, h']; rfl

def cCmp (g : List UInt8 → List UInt8 → Int) : Oracle := fun _ f args => match f, args with
  | 26, [.str a, .str b] => some ⟨.val (.int .i64 (g a b)), []⟩
  | 25, [.str a, .str b] => some ⟨.val (.int .i64 (g a b)), []⟩
  | _, _ => none

theorem cmpstring_c (a b : List UInt8) : ACalls Try.prog 26 [.str a, .str b] (.val (.int .i64 (Lib.compareBytes a b))) :=
  ACalls.cmpstring Try.func26 (by kernel_rfl) (by kernel_rfl) (by kernel_rfl) (by kernel_rfl) a b

def cExt (g : List UInt8 → List UInt8 → Int) : Oracle := fun _ f args => match f, args with
  | 26, [.str a, .str b] => some ⟨.val (.int .i64 (g a b)), []⟩
  | _, _ => none
theorem cExt_ok : Sound Try.prog (cExt Lib.compareBytes) := by
  intro id args r ks h _
  unfold cExt at h
  split at h
  · cases h; exact cmpstring_c _ _
  · cases h

theorem compareString_c (a b : List UInt8) : ACalls Try.prog 25 [.str a, .str b] (.val (.int .i64 (Lib.compareBytes a b))) := by
  have hc := cExt_ok
  generalize hg : Lib.compareBytes = g at hc ⊢
  refine ACalls.ofK Try.func25 rfl nms mix tabOk hc ?_
  intro p L K hp hL hK ha
  cbv
  rw [hK]
  exact post_ret rfl rfl

theorem cCmp_ok : Sound Try.prog (cCmp Lib.compareBytes) := by
  intro id args r ks h _
  unfold cCmp at h
  split at h
  · cases h; exact cmpstring_c _ _
  · cases h; exact compareString_c _ _
  · cases h

theorem stringsCompare_c (a b : List UInt8) : ACalls Try.prog 23 [.str a, .str b] (.val (.int .i64 (Lib.compareBytes a b))) := by
  have hc := cCmp_ok
  generalize hg : Lib.compareBytes = g at hc ⊢
  refine ACalls.ofK Try.func23 rfl nms mix tabOk hc ?_
  intro p L K hp hL hK ha
  cbv
  rw [hK]
  exact post_ret rfl rfl

def orS (a b c : Int) : Int := if decide (a = 0) = false then a else if decide (b = 0) = false then b else c

theorem ACalls.weak {P : Program} {f : Nat} {args args' : List AV} {r : CR} (h : ACalls P f args' r) (hs : SubL args args') : ACalls P f args r := by
  intro w S vs hsb hr
  exact h w S vs hsb ⟨hr.1.trans hs.1, fun i hi => hs.2 i _ _ _ _ (hr.2 i (by rw [hs.1]; exact hi))⟩

theorem or_c (g : Nat → Int) : ACalls Try.prog 21 [.slice 1 3 false (fun i _ => .int .i64 (g i))] (.val (.int .i64 (orS (g 0) (g 1) (g 2)))) := by
  refine ACalls.ofK Try.func21 rfl nms mix tabOk noCall_sound ?_
  intro p L K hp hL hK ha
  generalize hs : orS (g 0) (g 1) (g 2) = spec at hK
  cbv
  rw [hL]
  refine AWp.loopG (fun i : Nat => ⟨slots 18 [(3,.int .i64 0),(6,.slice 1 3 false (fun i _ => .int .i64 (g i))),(7,.int .i64 (p.ofNat 3)),(8,.int .i64 (i : Int))], []⟩) (fun i => i ≤ 3 ∧ ∀ j, j < i → g j = 0) (fun i => 3 - i) 0 ⟨by omega, fun j hj => by omega⟩ ?_ ?_
  · refine ⟨rfl, ?_⟩
    cbv
    exact ⟨rfl, trivial⟩
  intro i hi N hN
  refine wpT_sound mix tabOk noCall_sound hp rfl _ _ _ ?_
  generalize hL' : leafOf Try.prog = L'
  clear hL
  generalize hz : (i : Int) = z
  cbv
  split
  · rename_i hlt
    have hlt' : i < 3 := by subst hp hz; have hlt : decide ((i : Int) < ((3 : Nat) : Int)) = true := hlt; have := of_decide_eq_true hlt; omega
    cbv
    refine ⟨?_, ?_⟩
    · have hin : (0 : Int) ≤ z ∧ z < 3 := by subst hz; exact ⟨Int.natCast_nonneg _, by exact_mod_cast hlt'⟩
      clear hN
      subst hp
      simp [AllT, std, hin]
    have ez : p.toNat z = i := by subst hp hz; exact Int.toNat_natCast i
    split
    · rename_i hb
      cbv
      rw [hN]
      cbv
      rw [hK]
      refine post_ret rfl ?_
      show AV.int .i64 (g (p.toNat z)) = _
      rw [ez]
      have hb : (!(decide (g (p.toNat z) = 0))) = true := by subst hp; exact hb
      rw [ez] at hb
      subst hs
      congr 1
      have hb : g i ≠ 0 := by simpa using hb
      unfold orS
      rcases (by omega : i = 0 ∨ i = 1 ∨ i = 2) with rfl | rfl | rfl
      · simp [hb]
      · simp [hb, hi.2 0 (by omega)]
      · simp [hi.2 0 (by omega), hi.2 1 (by omega)]
    · rename_i hb
      cbv
      rw [hN]
      have hb : (!(decide (g (p.toNat z) = 0))) = false := by subst hp; exact hb
      rw [ez] at hb
      have hb : g i = 0 := by simpa using hb
      refine NextQ.normal (i + 1) ?_ ?_ ?_
      · omega
      · exact ⟨by omega, fun j hj => by rcases (by omega : j < i ∨ j = i) with h | rfl; exact hi.2 j h; exact hb⟩
      · refine ⟨rfl, ?_⟩
        cbv
        refine ⟨?_, trivial⟩
        congr 1
        subst hp hz
        show IntKind.i64.wrap ((i : Int) + 1) = ((i + 1 : Nat) : Int)
        rw [wrap_small (by omega) (by omega)]
        rfl
  · rename_i hlt
    have hlt' : i = 3 := by
      have := hi.1
      subst hp hz
      have hlt : decide ((i : Int) < ((3 : Nat) : Int)) = false := hlt
      have := of_decide_eq_false hlt
      omega
    cbv
    rw [hN]
    cbv
    clear hN
    rw [hK]
    refine post_ret rfl ?_
    show AV.int .i64 0 = _
    subst hs hlt'
    unfold orS
    simp [hi.2 0 (by omega), hi.2 1 (by omega), hi.2 2 (by omega)]

def cOr (o : Int → Int → Int → Int) : Oracle := fun _ f args => match f, args with
  | 21, [.slice 1 3 _ c] => match c 0 0, c 1 0, c 2 0 with
    | .int .i64 a, .int .i64 b, .int .i64 d => some ⟨.val (.int .i64 (o a b d)), []⟩
    | _, _, _ => none
  | _, _ => none
theorem cOr_ok : Sound Try.prog (cOr orS) := by
  intro id args r ks h _
  unfold cOr at h
  split at h
  · split at h
    · rename_i c _ _ _ a b d h0 h1 h2
      cases h
      refine (or_c (fun i => if i = 0 then a else if i = 1 then b else d)).weak ⟨rfl, fun i => ?_⟩
      cases i with
      | zero =>
        refine Le.slice fun i hi j hj => ?_
        have hj : j = 0 := by omega
        subst hj
        rcases (by omega : i = 0 ∨ i = 1 ∨ i = 2) with rfl | rfl | rfl
        · exact h0
        · exact h1
        · exact h2
      | succ i => exact Le.refl _
    · cases h
  · cases h

end Go.Eng
