/- Contracts: which of two registers is newer; the later one; the next one. -/
import Derived.Test.YtpbpmbfgcgjgdaaRegB
namespace Go.Eng
open Go Go.Proofs Go.RowKit
set_option maxHeartbeats 4000000

def cCmps (ci : Int → Int → Int) (cs : List UInt8 → List UInt8 → Int) : Oracle := fun _ f args => match f, args with
  | 22, [.int .i64 a, .int .i64 b] => some ⟨.val (.int .i64 (ci a b)), []⟩
  | 23, [.str a, .str b] => some ⟨.val (.int .i64 (cs a b)), []⟩
  | _, _ => none
theorem cCmps_ok : Sound Try.prog (cCmps cmpS Lib.compareBytes) := by
  intro id args r ks h _
  unfold cCmps at h
  split at h
  · cases h; exact compareInt_c _ _
  · cases h; exact stringsCompare_c _ _
  · cases h

def compS (n : Int) (y v : List UInt8) (n' : Int) (y' v' : List UInt8) : Int := orS (cmpS n n') (Lib.compareBytes y y') (Lib.compareBytes v v')

theorem compare_c (n : Int) (y v : List UInt8) (n' : Int) (y' v' : List UInt8) :
    ACalls Try.prog 18 [.agg [.int .i64 n, .str y, .str v], .agg [.int .i64 n', .str y', .str v']] (.val (.int .i64 (compS n y v n' y' v'))) := by
  have hc := orC_ok cCmps_ok cOr_ok
  generalize hg1 : cmpS = g1 at hc
  generalize hg2 : Lib.compareBytes = g2 at hc
  generalize hg3 : orS = g3 at hc
  refine ACalls.ofK Try.func18 rfl nms mix tabOk hc ?_
  intro p L K hp hL hK ha
  generalize hs : compS n y v n' y' v' = spec at hK
  cbv
  rw [hK]
  refine post_ret rfl ?_
  subst hs hg1 hg2 hg3
  rfl

abbrev SixB := Int → List UInt8 → List UInt8 → Int → List UInt8 → List UInt8 → Bool
def cComp (g : Int → List UInt8 → List UInt8 → Int → List UInt8 → List UInt8 → Int) : Oracle := fun _ f args => match f, args with
  | 18, [.agg [.int .i64 n, .str y, .str v], .agg [.int .i64 n', .str y', .str v']] => some ⟨.val (.int .i64 (g n y v n' y' v')), []⟩
  | _, _ => none
theorem cComp_ok : Sound Try.prog (cComp compS) := by
  intro id args r ks h _
  unfold cComp at h
  split at h
  · cases h; exact compare_c _ _ _ _ _ _
  · cases h

def newerS (n : Int) (y v : List UInt8) (n' : Int) (y' v' : List UInt8) : Bool := decide (0 < compS n y v n' y' v')
theorem newer_c (n : Int) (y v : List UInt8) (n' : Int) (y' v' : List UInt8) :
    ACalls Try.prog 10 [.agg [.int .i64 n, .str y, .str v], .agg [.int .i64 n', .str y', .str v']] (.val (.bool (newerS n y v n' y' v'))) := by
  have hc := cComp_ok
  generalize hg1 : compS = g1 at hc
  refine ACalls.ofK Try.func10 rfl nms mix tabOk hc ?_
  intro p L K hp hL hK ha
  generalize hs : newerS n y v n' y' v' = spec at hK
  cbv
  rw [hK]
  refine post_ret rfl ?_
  subst hs hg1 hp
  rfl

def newerR (n : Int) (y v : List UInt8) (n' : Int) (y' v' : List UInt8) : Bool :=
  if (!(decide (n = n'))) = true then decide (n' < n) else if (!(y == y')) = true then !(Op.bytesLess y y' || y == y') else !(Op.bytesLess v v' || v == v')
theorem refNewer_c (n : Int) (y v : List UInt8) (n' : Int) (y' v' : List UInt8) :
    ACalls Try.prog 11 [.agg [.int .i64 n, .str y, .str v], .agg [.int .i64 n', .str y', .str v']] (.val (.bool (newerR n y v n' y' v'))) := by
  refine ACalls.ofK Try.func11 rfl nms mix tabOk noCall_sound ?_
  intro p L K hp hL hK ha
  generalize hs : newerR n y v n' y' v' = spec at hK
  cbv
  split
  · rename_i h
    cbv
    rw [hK]
    refine post_ret rfl ?_
    subst hs hp
    have h : (!(decide (n = n'))) = true := h
    show AV.bool (decide (n' < n)) = _
    unfold newerR
    rw [if_pos h]
  · rename_i h
    cbv
    split
    · rename_i h'
      cbv
      rw [hK]
      refine post_ret rfl ?_
      subst hs hp
      have h : (!(decide (n = n'))) = false := h
      have h' : (!(y == y')) = true := h'
      show AV.bool (!(Op.bytesLess y y' || y == y')) = _
      unfold newerR
      rw [h, h']; rfl
    · rename_i h'
      cbv
      rw [hK]
      refine post_ret rfl ?_
      subst hs hp
      have h : (!(decide (n = n'))) = false := h
      have h' : (!(y == y')) = false := h'
      show AV.bool (!(Op.bytesLess v v' || v == v')) = _
      unfold newerR
      rw [h, h']; rfl

def cNewer (f : Nat) (g : SixB) : Oracle := fun _ f' args => match Nat.beq f f', args with
  | true, [.agg [.int .i64 n, .str y, .str v], .agg [.int .i64 n', .str y', .str v']] => some ⟨.val (.bool (g n y v n' y' v')), []⟩
  | _, _ => none
theorem cNewer_ok : Sound Try.prog (cNewer 10 newerS) := by
  intro id args r ks h _
  unfold cNewer at h
  split at h
  · rename_i he; have he := Nat.eq_of_beq_eq_true he; subst he; cases h; exact newer_c _ _ _ _ _ _
  · cases h
theorem cRefNewer_ok : Sound Try.prog (cNewer 11 newerR) := by
  intro id args r ks h _
  unfold cNewer at h
  split at h
  · rename_i he; have he := Nat.eq_of_beq_eq_true he; subst he; cases h; exact refNewer_c _ _ _ _ _ _
  · cases h

def selI (b : Bool) (x y : Int) : Int := if b then x else y
def selL (b : Bool) (x y : List UInt8) : List UInt8 := if b then x else y

theorem join_c (n : Int) (y v : List UInt8) (n' : Int) (y' v' : List UInt8) :
    ACalls Try.prog 12 [.agg [.int .i64 n, .str y, .str v], .agg [.int .i64 n', .str y', .str v']]
      (.val (.agg [.int .i64 (selI (newerS n' y' v' n y v) n' n), .str (selL (newerS n' y' v' n y v) y' y), .str (selL (newerS n' y' v' n y v) v' v)])) := by
  have hc := cNewer_ok
  generalize newerS = g1 at hc ⊢
  refine ACalls.ofK Try.func12 rfl nms mix tabOk hc ?_
  intro p L K hp hL hK ha
  generalize h1 : selI (g1 n' y' v' n y v) n' n = s1 at hK
  generalize h2 : selL (g1 n' y' v' n y v) y' y = s2 at hK
  generalize h3 : selL (g1 n' y' v' n y v) v' v = s3 at hK
  cbv
  split
  · rename_i h
    cbv
    rw [hK]
    refine post_ret rfl ?_
    have h : g1 n' y' v' n y v = true := h
    subst h1 h2 h3
    rw [h]; rfl
  · rename_i h
    cbv
    rw [hK]
    refine post_ret rfl ?_
    have h : g1 n' y' v' n y v = false := h
    subst h1 h2 h3
    rw [h]; rfl

theorem refJoin_c (n : Int) (y v : List UInt8) (n' : Int) (y' v' : List UInt8) :
    ACalls Try.prog 13 [.agg [.int .i64 n, .str y, .str v], .agg [.int .i64 n', .str y', .str v']]
      (.val (.agg [.int .i64 (selI (newerR n' y' v' n y v) n' n), .str (selL (newerR n' y' v' n y v) y' y), .str (selL (newerR n' y' v' n y v) v' v)])) := by
  have hc := cRefNewer_ok
  generalize newerR = g1 at hc ⊢
  refine ACalls.ofK Try.func13 rfl nms mix tabOk hc ?_
  intro p L K hp hL hK ha
  generalize h1 : selI (g1 n' y' v' n y v) n' n = s1 at hK
  generalize h2 : selL (g1 n' y' v' n y v) y' y = s2 at hK
  generalize h3 : selL (g1 n' y' v' n y v) v' v = s3 at hK
  cbv
  split
  · rename_i h
    cbv
    rw [hK]
    refine post_ret rfl ?_
    have h : g1 n' y' v' n y v = true := h
    subst h1 h2 h3
    rw [h]; rfl
  · rename_i h
    cbv
    rw [hK]
    refine post_ret rfl ?_
    have h : g1 n' y' v' n y v = false := h
    subst h1 h2 h3
    rw [h]; rfl

end Go.Eng
