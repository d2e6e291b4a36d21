/- Contracts: the next register. -/
import Derived.Test.YtpbpmbfgcgjgdaaRegC
namespace Go.Eng
open Go Go.Proofs Go.RowKit
set_option maxHeartbeats 4000000

abbrev ThreeB := Int → List UInt8 → List UInt8 → Bool
def errB (n : Int) (y v : List UInt8) : Int := errS (badS n y v)
theorem errB_ne (n : Int) (y v : List UInt8) : (!(decide (errB n y v = 0))) = !(mayS n y v) := by
  unfold errB
  rw [badS_eq]
  cases mayS n y v <;> rfl
def cCheck (g : Int → List UInt8 → List UInt8 → Int) (i : List UInt8 → Bool) : Oracle := fun _ f args => match f, args with
  | 8, [.agg [.int .i64 n, .str y, .str v]] => some ⟨.val (.int .i64 (g n y v)), []⟩
  | 16, [.str s] => some ⟨.val (.bool (i s)), []⟩
  | _, _ => none
theorem cCheck_ok : Sound Try.prog (cCheck errB nameS) := by
  intro id args r ks h _
  unfold cCheck at h
  split at h
  · cases h; exact check_c _ _ _
  · cases h; exact nameIs_c _
  · cases h
def cRefMay (g : ThreeB) (i : List UInt8 → Bool) : Oracle := fun _ f args => match f, args with
  | 17, [.agg [.int .i64 n, .str y, .str v]] => some ⟨.val (.bool (g n y v)), []⟩
  | 19, [.str s] => some ⟨.val (.bool (i s)), []⟩
  | _, _ => none
theorem cRefMay_ok : Sound Try.prog (cRefMay mayS nameS) := by
  intro id args r ks h _
  unfold cRefMay at h
  split at h
  · cases h; exact may_c _ _ _
  · cases h; exact refIs_c _
  · cases h

def emptyS (n : Int) (y v : List UInt8) : Bool := decide (n = 0) && (y == [] && (v == [] && true))
def stopS (n : Int) (y v b x : List UInt8) : Bool := !(emptyS n y v) && !(mayS n y v) || !(nameS b) || decide (256 < (x.length : Int))
def nextN (n : Int) (y v b x : List UInt8) : Int := if stopS n y v b x then 0 else if decide (9007199254740992 ≤ n) then 0 else IntKind.i64.wrap (n + 1)
def nextY (n : Int) (y v b x : List UInt8) : List UInt8 := if stopS n y v b x then [] else if decide (9007199254740992 ≤ n) then [] else b
def nextV (n : Int) (y v b x : List UInt8) : List UInt8 := if stopS n y v b x then [] else if decide (9007199254740992 ≤ n) then [] else x
def nextE (n : Int) (y v b x : List UInt8) : Int := if stopS n y v b x then 1 else if decide (9007199254740992 ≤ n) then 4 else 0
def nextA (n : Int) (y v b x : List UInt8) : AV := .tup [.agg [.int .i64 (nextN n y v b x), .str (nextY n y v b x), .str (nextV n y v b x)], .int .i64 (nextE n y v b x)]
theorem nextA_stop {n : Int} {y v b x : List UInt8} (h : stopS n y v b x = true) : nextA n y v b x = .tup [.agg [.int .i64 0, .str [], .str []], .int .i64 1] := by
  unfold nextA nextN nextY nextV nextE; rw [h]; rfl
theorem nextA_long {n : Int} {y v b x : List UInt8} (h : stopS n y v b x = false) (h' : decide (9007199254740992 ≤ n) = true) : nextA n y v b x = .tup [.agg [.int .i64 0, .str [], .str []], .int .i64 4] := by
  unfold nextA nextN nextY nextV nextE; rw [h, h']; rfl
theorem nextA_ok {n : Int} {y v b x : List UInt8} (h : stopS n y v b x = false) (h' : decide (9007199254740992 ≤ n) = false) : nextA n y v b x = .tup [.agg [.int .i64 (IntKind.i64.wrap (n + 1)), .str b, .str x], .int .i64 0] := by
  unfold nextA nextN nextY nextV nextE; rw [h, h']; rfl

theorem next_c (n : Int) (y v b x : List UInt8) : ACalls Try.prog 14 [.agg [.int .i64 n, .str y, .str v], .str b, .str x] (.val (nextA n y v b x)) := by
  have hc := cCheck_ok
  have stop : ∀ t, (!(emptyS n y v) && !(decide (errB n y v = 0)) || !(nameS b) || decide (256 < (x.length : Int))) = t → stopS n y v b x = t := fun t h => by
    rw [errB_ne] at h; exact h
  generalize hg1 : errB = g1 at hc
  generalize hg2 : nameS = g2 at hc
  refine ACalls.ofK Try.func14 rfl nms mix tabOk hc ?_
  intro p L K hp hL hK ha
  generalize hs : nextA n y v b x = r at hK
  cbv
  split
  · rename_i h
    cbv
    rw [hK]
    refine post_ret rfl ?_
    subst hs hg1 hg2 hp
    rw [nextA_stop (stop _ h)]; rfl
  · rename_i h
    cbv
    split
    · rename_i h'
      cbv
      rw [hK]
      refine post_ret rfl ?_
      subst hs hg1 hg2 hp
      rw [nextA_long (stop _ h) h']; rfl
    · rename_i h'
      cbv
      rw [hK]
      refine post_ret rfl ?_
      subst hs hg1 hg2 hp
      rw [nextA_ok (stop _ h) h']; rfl

theorem refNext_c (n : Int) (y v b x : List UInt8) : ACalls Try.prog 15 [.agg [.int .i64 n, .str y, .str v], .str b, .str x] (.val (nextA n y v b x)) := by
  have hc := cRefMay_ok
  generalize hg1 : mayS = g1 at hc
  generalize hg2 : nameS = g2 at hc
  refine ACalls.ofK Try.func15 rfl nms mix tabOk hc ?_
  intro p L K hp hL hK ha
  generalize hs : nextA n y v b x = r at hK
  cbv
  split
  · rename_i h
    cbv
    rw [hK]
    refine post_ret rfl ?_
    subst hs hg1 hg2 hp
    have h : stopS n y v b x = true := h
    rw [nextA_stop h]; rfl
  · rename_i h
    cbv
    split
    · rename_i h'
      cbv
      rw [hK]
      refine post_ret rfl ?_
      subst hs hg1 hg2 hp
      have h : stopS n y v b x = false := h
      rw [nextA_long h h']; rfl
    · rename_i h'
      cbv
      rw [hK]
      refine post_ret rfl ?_
      subst hs hg1 hg2 hp
      have h : stopS n y v b x = false := h
      rw [nextA_ok h h']; rfl

end Go.Eng
