/- Contracts: the register's Check and the reference's May, Check, Few. -/
import Derived.Test.YtpbpmbfgcgjgdaaNamB
namespace Go.Eng
open Go Go.Proofs Go.RowKit
set_option maxHeartbeats 4000000

/-- Two tables of contracts. -/
def orC (c d : Oracle) : Oracle := fun p f args => match c p f args with
  | some r => some r
  | none => d p f args
theorem orC_ok {P : Program} {c d : Oracle} (hc : Sound P c) (hd : Sound P d) : Sound P (orC c d) := by
  intro id args r ks h hk
  unfold orC at h
  split at h
  · rename_i r' hr; cases h; exact hc id args r ks hr hk
  · exact hd id args r ks h hk

def regV (n : Int) (y v : List UInt8) : AV := .agg [.int .i64 n, .str y, .str v]
def mayS (n : Int) (y v : List UInt8) : Bool := decide (1 ≤ n) && decide (n ≤ 9007199254740992) && (y == [] || nameS y) && decide ((v.length : Int) ≤ 256)
def badS (n : Int) (y v : List UInt8) : Bool := decide (n < 1) || decide (9007199254740992 < n) || !(y == []) && !(nameS y) || decide (256 < (v.length : Int))
def fewS (y v : List UInt8) : Bool := decide ((y.length : Int) ≤ 100) && decide ((v.length : Int) ≤ 300)
def errS (b : Bool) : Int := if b then 1 else 0

theorem badS_eq (n : Int) (y v : List UInt8) : badS n y v = !(mayS n y v) := by
  unfold badS mayS
  rw [Bool.not_and, Bool.not_and, Bool.not_and, Bool.not_or, ← decide_not, ← decide_not, ← decide_not]
  simp only [Int.not_le]

theorem check_c (n : Int) (y v : List UInt8) : ACalls Try.prog 8 [.agg [.int .i64 n, .str y, .str v]] (.val (.int .i64 (errS (badS n y v)))) := by
  have hc := cNameIs_ok
  generalize hg : nameS = g at hc
  refine ACalls.ofK Try.func8 rfl nms mix tabOk hc ?_
  intro p L K hp hL hK ha
  generalize hs : badS n y v = spec at hK
  cbv
  split
  · rename_i h
    cbv
    rw [hK]
    refine post_ret rfl ?_
    subst hs hg hp
    have h : badS n y v = true := h
    show AV.int .i64 1 = _
    rw [h]; rfl
  · rename_i h
    cbv
    rw [hK]
    refine post_ret rfl ?_
    subst hs hg hp
    have h : badS n y v = false := h
    show AV.int .i64 0 = _
    rw [h]; rfl

theorem may_c (n : Int) (y v : List UInt8) : ACalls Try.prog 17 [.agg [.int .i64 n, .str y, .str v]] (.val (.bool (mayS n y v))) := by
  have hc := cRefIs_ok
  generalize hg : nameS = g at hc
  refine ACalls.ofK Try.func17 rfl nms mix tabOk hc ?_
  intro p L K hp hL hK ha
  generalize hs : mayS n y v = spec at hK
  cbv
  rw [hK]
  refine post_ret rfl ?_
  subst hs hg hp
  rfl

theorem few_c (n : Int) (y v : List UInt8) : ACalls Try.prog 6 [.agg [.int .i64 n, .str y, .str v]] (.val (.bool (fewS y v))) := by
  refine ACalls.ofK Try.func6 rfl nms mix tabOk noCall_sound ?_
  intro p L K hp hL hK ha
  generalize hs : fewS y v = spec at hK
  cbv
  rw [hK]
  refine post_ret rfl ?_
  subst hs hp
  rfl

def cMay (g : Int → List UInt8 → List UInt8 → Bool) : Oracle := fun _ f args => match f, args with
  | 17, [.agg [.int .i64 n, .str y, .str v]] => some ⟨.val (.bool (g n y v)), []⟩
  | _, _ => none
theorem cMay_ok : Sound Try.prog (cMay mayS) := by
  intro id args r ks h _
  unfold cMay at h
  split at h
  · cases h; exact may_c _ _ _
  · cases h

theorem refCheck_c (n : Int) (y v : List UInt8) : ACalls Try.prog 9 [.agg [.int .i64 n, .str y, .str v]] (.val (.int .i64 (errS (!(mayS n y v))))) := by
  have hc := cMay_ok
  generalize hg : mayS = g at hc
  refine ACalls.ofK Try.func9 rfl nms mix tabOk hc ?_
  intro p L K hp hL hK ha
  generalize hs : mayS n y v = spec at hK
  cbv
  split
  · rename_i h
    cbv
    rw [hK]
    refine post_ret rfl ?_
    subst hs hg hp
    have h : (!(mayS n y v)) = true := h
    show AV.int .i64 1 = _
    rw [h]; rfl
  · rename_i h
    cbv
    rw [hK]
    refine post_ret rfl ?_
    subst hs hg hp
    have h : (!(mayS n y v)) = false := h
    show AV.int .i64 0 = _
    rw [h]; rfl

end Go.Eng
