/- RegisterIs as a call. -/
import Derived.Test.YtpbpmbfgcgjgdaaRegF
namespace Go.Eng
open Go Go.Proofs Go.RowKit
set_option maxHeartbeats 4000000

def cLaw (few : List UInt8 → List UInt8 → Bool) (chk chk' : Int → List UInt8 → List UInt8 → Int) (nw nw' : SixB) (jn jn' : Int → List UInt8 → List UInt8 → Int → List UInt8 → List UInt8 → Int)
    (jy jy' jv jv' : Int → List UInt8 → List UInt8 → Int → List UInt8 → List UInt8 → List UInt8) : Oracle := fun _ f args => match f, args with
  | 7, [] => some ⟨.val (.bool true), []⟩
  | 6, [.agg [.int .i64 _, .str y, .str v]] => some ⟨.val (.bool (few y v)), []⟩
  | 8, [.agg [.int .i64 n, .str y, .str v]] => some ⟨.val (.int .i64 (chk n y v)), []⟩
  | 9, [.agg [.int .i64 n, .str y, .str v]] => some ⟨.val (.int .i64 (chk' n y v)), []⟩
  | 10, [.agg [.int .i64 n, .str y, .str v], .agg [.int .i64 n', .str y', .str v']] => some ⟨.val (.bool (nw n y v n' y' v')), []⟩
  | 11, [.agg [.int .i64 n, .str y, .str v], .agg [.int .i64 n', .str y', .str v']] => some ⟨.val (.bool (nw' n y v n' y' v')), []⟩
  | 12, [.agg [.int .i64 n, .str y, .str v], .agg [.int .i64 n', .str y', .str v']] => some ⟨.val (.agg [.int .i64 (jn n y v n' y' v'), .str (jy n y v n' y' v'), .str (jv n y v n' y' v')]), []⟩
  | 13, [.agg [.int .i64 n, .str y, .str v], .agg [.int .i64 n', .str y', .str v']] => some ⟨.val (.agg [.int .i64 (jn' n y v n' y' v'), .str (jy' n y v n' y' v'), .str (jv' n y v n' y' v')]), []⟩
  | _, _ => none

def errM (n : Int) (y v : List UInt8) : Int := errS (!(mayS n y v))
def joinN (g : SixB) (n : Int) (y v : List UInt8) (n' : Int) (y' v' : List UInt8) : Int := selI (g n' y' v' n y v) n' n
def joinY (g : SixB) (n : Int) (y v : List UInt8) (n' : Int) (y' v' : List UInt8) : List UInt8 := selL (g n' y' v' n y v) y' y
def joinV (g : SixB) (n : Int) (y v : List UInt8) (n' : Int) (y' v' : List UInt8) : List UInt8 := selL (g n' y' v' n y v) v' v

theorem cLaw_ok : Sound Try.prog (cLaw fewS errB errM newerS newerR (joinN newerS) (joinN newerR) (joinY newerS) (joinY newerR) (joinV newerS) (joinV newerR)) := by
  intro id args r ks h _
  unfold cLaw at h
  split at h
  · cases h; exact awake_c
  · cases h; exact few_c _ _ _
  · cases h; exact check_c _ _ _
  · cases h; exact refCheck_c _ _ _
  · cases h; exact newer_c _ _ _ _ _ _
  · cases h; exact refNewer_c _ _ _ _ _ _
  · cases h; exact join_c _ _ _ _ _ _
  · cases h; exact refJoin_c _ _ _ _ _ _
  · cases h

theorem registerIs_c (n : Int) (y v : List UInt8) (n' : Int) (y' v' : List UInt8) :
    ACalls Try.prog 3 [.agg [.int .i64 n, .str y, .str v], .agg [.int .i64 n', .str y', .str v']] (.val (.bool true)) := by
  have hc := cLaw_ok
  have e1 : errB = errM := by funext n y v; unfold errB errM; rw [badS_eq]
  rw [newer_eq, e1] at hc
  generalize fewS = g1 at hc
  generalize errM = g2 at hc
  generalize joinN newerR = g4 at hc
  generalize joinY newerR = g5 at hc
  generalize joinV newerR = g6 at hc
  generalize newerR = g3 at hc
  refine ACalls.ofK Try.func3 rfl nms mix tabOk hc ?_
  intro p L K hp hL hK ha
  cbv
  split
  · cbv
    rw [hK]
    exact post_ret rfl rfl
  · cbv
    rw [hK]
    refine post_ret rfl ?_
    clear hK hL
    subst hp
    show AV.bool _ = _
    congr 1
    simp [std]

end Go.Eng
