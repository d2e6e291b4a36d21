/- RegisterNext as a call. -/
import Derived.Test.YtpbpmbfgcgjgdaaRegG
namespace Go.Eng
open Go Go.Proofs Go.RowKit
set_option maxHeartbeats 4000000

abbrev FiveI := Int → List UInt8 → List UInt8 → List UInt8 → List UInt8 → Int
abbrev FiveL := Int → List UInt8 → List UInt8 → List UInt8 → List UInt8 → List UInt8
def cNext (N : FiveI) (Y V : FiveL) (E : FiveI) : Oracle := fun _ f args => match f, args with
  | 14, [.agg [.int .i64 n, .str y, .str v], .str b, .str x] => some ⟨.val (.tup [.agg [.int .i64 (N n y v b x), .str (Y n y v b x), .str (V n y v b x)], .int .i64 (E n y v b x)]), []⟩
  | 15, [.agg [.int .i64 n, .str y, .str v], .str b, .str x] => some ⟨.val (.tup [.agg [.int .i64 (N n y v b x), .str (Y n y v b x), .str (V n y v b x)], .int .i64 (E n y v b x)]), []⟩
  | _, _ => none
theorem cNext_ok : Sound Try.prog (cNext nextN nextY nextV nextE) := by
  intro id args r ks h _
  unfold cNext at h
  split at h
  · cases h; exact next_c _ _ _ _ _
  · cases h; exact refNext_c _ _ _ _ _
  · cases h

theorem next_law (n : Int) (y v b x : List UInt8) : nextE n y v b x = 0 → newerR (nextN n y v b x) (nextY n y v b x) (nextV n y v b x) n y v = true ∧
    newerR n y v (nextN n y v b x) (nextY n y v b x) (nextV n y v b x) = false ∧ errM (nextN n y v b x) (nextY n y v b x) (nextV n y v b x) = 0 := by
  unfold nextE nextN nextY nextV
  split
  · intro h; simp at h
  · rename_i hs
    split
    · intro h; simp at h
    · rename_i hl
      intro _
      have hl' : n < 9007199254740992 := by simpa using hl
      have hst : stopS n y v b x = false := by simpa using hs
      unfold stopS at hst
      simp only [Bool.or_eq_false_iff, Bool.and_eq_false_iff, Bool.not_eq_false'] at hst
      obtain ⟨⟨h1, h2⟩, h3⟩ := hst
      have h0 : 0 ≤ n := by
        rcases h1 with h1 | h1
        · unfold emptyS at h1; simp at h1; omega
        · unfold mayS at h1; simp at h1; omega
      have hw : IntKind.i64.wrap (n + 1) = n + 1 := wrap_small (by omega) (by omega)
      have e1 : decide (n + 1 = n) = false := by simp; omega
      have e2 : decide (n = n + 1) = false := by simp; omega
      refine ⟨?_, ?_, ?_⟩
      · unfold newerR
        simp only [hw, e1]
        simp; omega
      · unfold newerR
        simp only [hw, e2]
        simp; omega
      · unfold errM errS mayS
        have h3' : x.length ≤ 256 := by simp at h3; omega
        simp [h2, hw]
        omega

theorem registerNext_c (n : Int) (y v b x : List UInt8) :
    ACalls Try.prog 4 [.agg [.int .i64 n, .str y, .str v], .str b, .str x] (.val (.bool true)) := by
  have hc := orC_ok cNext_ok cLaw_ok
  have e1 : errB = errM := by funext n y v; unfold errB errM; rw [badS_eq]
  have law := next_law n y v b x
  have hJ : ∀ n y v n' y' v', newerR n' y' v' n y v = true → joinN newerR n y v n' y' v' = n' ∧ joinY newerR n y v n' y' v' = y' ∧ joinV newerR n y v n' y' v' = v' := by
    intro n y v n' y' v' h; unfold joinN joinY joinV; rw [h]; exact ⟨rfl, rfl, rfl⟩
  rw [newer_eq, e1] at hc
  generalize fewS = g1 at hc
  generalize errM = g2 at hc law
  generalize joinN newerR = g4 at hc hJ
  generalize joinY newerR = g5 at hc hJ
  generalize joinV newerR = g6 at hc hJ
  generalize newerR = g3 at hc law hJ
  generalize nextN = g7 at hc law
  generalize nextY = g8 at hc law
  generalize nextV = g9 at hc law
  generalize nextE = g10 at hc law
  refine ACalls.ofK Try.func4 rfl nms mix tabOk hc ?_
  intro p L K hp hL hK ha
  cbv
  split
  · cbv
    rw [hK]
    exact post_ret rfl rfl
  · cbv
    split
    · rename_i h
      exfalso
      subst hp
      simp [std] at h
    · cbv
      rw [hK]
      refine post_ret rfl ?_
      clear hK hL
      subst hp
      show AV.bool _ = _
      congr 1
      simp only [std]
      by_cases hE : g10 n y v b x = 0
      · obtain ⟨l1, l2, l3⟩ := law hE
        obtain ⟨j1, j2, j3⟩ := hJ _ _ _ _ _ _ l1
        simp [l1, l3, j1, j2, j3]
      · simp [hE]

end Go.Eng
