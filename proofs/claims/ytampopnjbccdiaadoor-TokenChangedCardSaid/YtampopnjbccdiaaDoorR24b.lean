/- TokenChanged: it returns true whatever its arguments are; the package-level variables that it lists hold what the program's text lays down. Conditions: none. -/
import Derived.Test.YtampopnjbccdiaaDoorV24
import Derived.Test.YtampopnjbccdiaaDoorGlc
import Derived.Test.YtampopnjbccdiaaDoorRows
import Derived.Test.YtampopnjbccdiaaDoorCards
import Derived.Test.YtampopnjbccdiaaDoorTie
import Derived.Test.YtampopnjbccdiaaDoorChecked
import Derived.ProofKit
import Derived.OpenShut
import Derived.LaidMore
import Derived.Lay
import Derived.SevenTiedAt
import Derived.Stop.Joined
namespace Go.Proofs.YtampopnjbccdiaaDoor
open Go Go.Eng Go.ChangeShapes Go.WideShapes Go.ChangeAt Go.RowKit

theorem own : ownKnob Tryd.prog.godebug = none := by kernel_rfl
theorem laidOut : laidOutB Tryd.prog = true := by kernel_rfl

set_option maxRecDepth 100000 in
theorem tokenChanged_lifted (os : Os) (started : os.Started) (H : Type) (enc : TypeId × Value → H) :
    ReturnsInHanded {} Tryd.checked os 4 .any (fun w args => (Rows.tokenChangedSpec.pre enc Tryd.prog Tryd.f4 Rows.tokenChangedRow.domain false w args ∧ laidMetH Tryd.prog Rows.tokenChangedRow.laid w) ∧ sizedMet enc Tryd.prog Tryd.f4 (OpenSpec.ofChange Rows.tokenChangedSpec) false w args)
      (Rows.tokenChangedSpec.post enc Tryd.prog Tryd.f4 false true false false) := by
  refine returnsInHanded_and_shaped (C := Tryd.checked) (X := fun w _ => laidMetH Tryd.prog Rows.tokenChangedRow.laid w) (fun _ _ _ hh h => h.of_heap hh) own started (by kernel_rfl) Tryd.func4
    (ChangeSpec.witness_shaped (enc := enc) (C := Tryd.checked) (os := os) (X := fun w _ => laidMetH Tryd.prog Rows.tokenChangedRow.laid w) false (World.laidAll Tryd.prog os Rows.tokenChangedRow.laid) #[.agg #[.string ⟨#[]⟩, .string ⟨#[]⟩, .string ⟨#[]⟩], .int .u8 0, .int .u8 0] 8 (World.laidAll_os _ _ _)
      (World.shaped_of_ZipB (by kernel_rfl) (by kernel_rfl)) (by kernel_rfl) (by kernel_rfl) (by kernel_rfl)
      (by rw [MakeChecks.laidMetH_plain _ _ _ (by kernel_rfl)]; exact laidMet_laidAll _ (by kernel_rfl) (by kernel_rfl))) ?_
  intro W base args ds gs before hval hW _ _ hL hsh
  have hL : laidMetH Tryd.prog Rows.tokenChangedRow.laid W := hL
  refine law_contractT (g := l24_TokenChanged_g) tabOk laidOut nms Tryd.func4 rfl rfl rfl Tryd.underlying4 ?_ (by kernel_rfl) (F := 8) (by kernel_rfl) (by kernel_rfl) (fun x hx => Sig.law l24_TokenChanged_ok (tr := true) rfl (tokenChanged_law x hx)) hval hW
    (gl_laid (by kernel_rfl) (by repeat' (first | exact trivial | refine ⟨?_, ?_⟩ | exact List.Mem.head _ | apply List.Mem.tail)) hsh hL)
  intro ds hd
  match ds, hd with
  | [d0, d1, d2], _ => exact ⟨rfl, rfl, rfl⟩

theorem tokenChanged_holds : Rows.TokenChangedSaid :=
  OpenClaim.holds_of_wide 4 Tryd.f4 rfl rfl rfl rfl rfl rfl rfl ⟨rfl, rfl, rfl, rfl, rfl⟩ rfl rfl rfl rfl rfl (by kernel_rfl) Tryd.func4 (by kernel_rfl)
    (of_decide_eq_true (by kernel_rfl)) (by unfold Func.isWrapper; first | (rw [if_pos (by decide +kernel)]; kernel_rfl) | (rw [if_neg (by decide +kernel)]; exact ⟨rfl, rfl⟩))
    (fun os started H enc _ => tokenChanged_lifted os started H enc)

theorem tokenChanged_card_holds : Rows.TokenChangedCardSaid :=
  Claim7.holds_tied_plain_at .later [] [.data, .data, .data, .sentinel, .sentinel] true (true, "a1d6b4be139f847f73273b3a370266cf6929e9590168cd19dd7f98837c518f9c") true tokenChanged_holds (fun _ h => by cases h) (by kernel_rfl) (fun _ h => by cases h) tokenChanged_row_tie rfl ⟨rfl, rfl⟩ (by kernel_rfl) rfl
    (fun f fn hf hfn => by
      obtain rfl : f = 4 := Option.some.inj ((show Tryd.prog.funcNamed "pantler/pantlerlaw24.TokenChanged" = some 4 by kernel_rfl).symm.trans hf) |>.symm
      obtain rfl : fn = Tryd.f4 := (Option.some.inj (Tryd.func4.symm.trans hfn)).symm
      exact ⟨by kernel_rfl, fun j t ht => by
        rw [Tryd.params4] at ht
        have hm : t ∈ [22, 5, 5] := by simpa using Array.mem_of_getElem? ht
        have hall : ([22, 5, 5].all fun u => !Tryd.prog.wantsStandIn u) = true := by kernel_rfl
        exact (show Tryd.prog.wantsStandIn t = false by simpa using List.all_eq_true.1 hall t hm)⟩)
    (by kernel_rfl)

end Go.Proofs.YtampopnjbccdiaaDoor
