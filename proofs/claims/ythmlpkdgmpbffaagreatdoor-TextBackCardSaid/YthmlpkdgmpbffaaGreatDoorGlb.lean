/- The number that has just these digits: pantler/name.Num over the shelf's contracts; what the package-level variables hold, by their names. -/
import Derived.Test.YthmlpkdgmpbffaaGreatDoorTrL
import Derived.Test.YthmlpkdgmpbffaaGreatDoorGlp
import Derived.Test.YthmlpkdgmpbffaaGreatDoorShf
import Derived.WalkKit
import Derived.BigCall
import Derived.Lib.AtoiErrMem
namespace Go.Eng
open Go Go.Proofs Go.RowKit

theorem cell_of_in {w : World} {g : Nat} {v : Value} (h : cellsIn w g = some #[v]) : w.cell? ⟨g, 0, none⟩ = some v := by
  unfold cellsIn at h
  unfold World.cell?
  cases hh : w.heap[g]? with
  | none => rw [hh] at h; cases h
  | some o =>
    rw [hh] at h
    cases o with
    | cells cs e fr =>
      have h : some cs = some #[v] := h
      injection h with h
      subst h
      rfl
    | _ => cases h
set_option maxHeartbeats 4000000 in
set_option maxRecDepth 100000 in
theorem name_Num_walk (s : Str) (w : World) (hg : GL w) (hl : s.length ≤ 281474976710656) :
    Calls Tryz.prog 82 #[.string (bytes s)] w fun e w' => e = .returned (.tuple #[.int .i64 (numS s).1, .bool (numS s).2]) ∧ Below w.heap.size w w' := by
  have hsz : (bytes s).size = s.length := by unfold bytes; rfl
  have hlim : (bytes s).size ≤ 281474976710656 := by omega
  obtain ⟨tp0, p0, hv0⟩ := hg.syn
  obtain ⟨tp1, p1, hv1⟩ := hg.rng
  have hc0 := cell_of_in hv0
  have hc1 := cell_of_in hv1
  have hd : (bytes s).data.toList = s := data_bytes s
  cases h : Lib.atoiAll s with
  | ok v =>
    have hb : N64 v := Lib.atoiAll_bounds h
    have hgl : ∀ w', Below w.heap.size w w' → GL w' := fun w' hbel => hg.mono fun g hgm => hbel.block g (hg.lt g hgm)
    have hA := Tryz.strconv_Atoi_ok (bytes s) (by omega) v (by rw [hd]; exact h) w
    have hI := fun w' (hw : Below w.heap.size w w') => Tryz.strconv_Itoa v hb.1 hb.2 w' (gl_pow10 (hgl w' hw))
    rw [numS_ok h]
    go_enter Tryz.func82, Tryz.ntmps82
    go_wp2_with (go_at_call 92; refine hA.mono ?_; rintro e w1 ⟨rfl, hw⟩; refine Hid.out ?_)
    refine Lib.hid ?_
    have hbel : Below w.heap.size w w1 := by
      rcases hw with rfl | ⟨t, rfl⟩
      · exact Below.refl _ _
      · exact Lib.bytesWorld_below _ _ _
    clear hw
    go_wp2_with (go_at_call 57; refine (hI w1 hbel).mono ?_; rintro e w2 ⟨rfl, k, os, rfl⟩; refine Hid.out ?_)
    refine Lib.hid ?_
    have hb2 : Below w1.heap.size w1 (Sort.grow (w1.drewN k) os) := below_growN w1 k os
    generalize Sort.grow (w1.drewN k) os = w2 at hb2 ⊢
    have htl : (bytes s).toList = s := by rw [ByteArray.toList_eq, hd]
    have hb3 := hbel.trans (hb2.mono hbel.size)
    cases hq' : (Lib.itoa v == s) with
    | true =>
      go_wp2
      · go_ret2
        exact ⟨by rw [hq']; rfl, hb3⟩
      all_goals (rename_i hq; first | (rw [htl, hq'] at hq; exact absurd hq (by decide)) | (rw [hq'] at hq; exact absurd hq (by decide)))
    | false =>
      go_wp2
      · go_ret2
        exact ⟨by rw [hq']; rfl, hb3⟩
      all_goals (rename_i hq; first | (rw [htl, hq'] at hq; exact absurd hq (by decide)) | (rw [hq'] at hq; exact absurd hq (by decide)))
  | range =>
    rw [numS_bad (s := s) (by rw [h]; intro v e; cases e)]
    go_enter Tryz.func82, Tryz.ntmps82
    go_wp2_with (go_at_call 92; refine (Tryz.strconv_Atoi_range (bytes s) hlim (by rw [hd]; exact h) _ _ ?_ (.inr ⟨tp1, p1, rfl⟩)).mono ?_)
    · exact hc1
    rintro e W1 ⟨N, rfl, -, -, hb⟩
    go_wp2
    go_ret2
    exact ⟨rfl, hb⟩
  | _ =>
    rw [numS_bad (s := s) (by rw [h]; intro v e; cases e)]
    go_enter Tryz.func82, Tryz.ntmps82
    go_wp2_with (go_at_call 92; refine (Tryz.strconv_Atoi_syntax (bytes s) hlim (by rw [hd, h]; intro v e; cases e) (by rw [hd, h]; intro e; cases e) _ _ ?_ (.inr ⟨tp0, p0, rfl⟩)).mono ?_)
    · exact hc0
    rintro e W1 ⟨N, rfl, -, -, hb⟩
    go_wp2
    go_ret2
    exact ⟨rfl, hb⟩

end Go.Eng
