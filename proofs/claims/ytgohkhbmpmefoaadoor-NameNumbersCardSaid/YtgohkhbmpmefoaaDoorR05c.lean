/- NameNumbers: it returns true whatever its arguments are; the package-level variables that it lists hold what the program's text lays down. Conditions: none. -/
import Derived.Test.YtgohkhbmpmefoaaDoorP05
import Derived.Test.YtgohkhbmpmefoaaDoorGlc
import Derived.Test.YtgohkhbmpmefoaaDoorRows
import Derived.Test.YtgohkhbmpmefoaaDoorCards
import Derived.Test.YtgohkhbmpmefoaaDoorTie
import Derived.Test.YtgohkhbmpmefoaaDoorChecked
import Derived.ProofKit
import Derived.OpenShut
import Derived.LaidMore
import Derived.Lay
import Derived.SevenTiedAt
import Derived.Stop.Joined
namespace Go.Proofs.YtgohkhbmpmefoaaDoor
open Go Go.Eng Go.ChangeShapes Go.WideShapes Go.ChangeAt Go.RowKit

theorem own : ownKnob Tryd.prog.godebug = none := by kernel_rfl
theorem laidOut : laidOutB Tryd.prog = true := by kernel_rfl

set_option maxRecDepth 100000 in
theorem nameNumbers_lifted (os : Os) (started : os.Started) (H : Type) (enc : TypeId × Value → H) :
    ReturnsInHanded {} Tryd.checked os 8 .any (fun w args => (Rows.nameNumbersSpec.pre enc Tryd.prog Tryd.f8 Rows.nameNumbersRow.domain false w args ∧ laidMetH Tryd.prog Rows.nameNumbersRow.laid w) ∧ sizedMet enc Tryd.prog Tryd.f8 (OpenSpec.ofChange Rows.nameNumbersSpec) false w args)
      (Rows.nameNumbersSpec.post enc Tryd.prog Tryd.f8 false true false false) := by
  refine returnsInHanded_and_shaped (C := Tryd.checked) (X := fun w _ => laidMetH Tryd.prog Rows.nameNumbersRow.laid w) (fun _ _ _ hh h => h.of_heap hh) own started (by kernel_rfl) Tryd.func8
    (ChangeSpec.witness_shaped (enc := enc) (C := Tryd.checked) (os := os) (X := fun w _ => laidMetH Tryd.prog Rows.nameNumbersRow.laid w) false (World.laidAll Tryd.prog os Rows.nameNumbersRow.laid) #[.int .i64 0, .string ⟨#[]⟩] 8 (World.laidAll_os _ _ _)
      (World.shaped_of_ZipB (by kernel_rfl) (by kernel_rfl)) (by kernel_rfl) (by kernel_rfl) (by kernel_rfl)
      (by rw [MakeChecks.laidMetH_plain _ _ _ (by kernel_rfl)]; exact laidMet_laidAll _ (by kernel_rfl) (by kernel_rfl))) ?_
  intro W base args ds gs before hval hW _ _ hL hsh
  have hL : laidMetH Tryd.prog Rows.nameNumbersRow.laid W := hL
  refine law_contractT (g := l05_NameNumbers_g) tabOk laidOut nms Tryd.func8 rfl rfl rfl Tryd.underlying4 ?_ (by kernel_rfl) (F := 8) (by kernel_rfl) (by kernel_rfl) (fun x hx => Sig.law l05_NameNumbers_ok (tr := true) rfl (nameNumbers_law x hx)) hval hW
    (gl_laid (by kernel_rfl) (by repeat' (first | exact trivial | refine ⟨?_, ?_⟩ | exact List.Mem.head _ | apply List.Mem.tail)) hsh hL)
  intro ds hd
  match ds, hd with
  | [d0, d1], _ => exact ⟨rfl, rfl, rfl⟩

theorem nameNumbers_holds : Rows.NameNumbersSaid :=
  OpenClaim.holds_of_wide 8 Tryd.f8 rfl rfl rfl rfl rfl rfl rfl ⟨rfl, rfl, rfl, rfl, rfl⟩ rfl rfl rfl rfl rfl (by kernel_rfl) Tryd.func8 (by kernel_rfl)
    (of_decide_eq_true (by kernel_rfl)) (by unfold Func.isWrapper; first | (rw [if_pos (by decide +kernel)]; kernel_rfl) | (rw [if_neg (by decide +kernel)]; exact ⟨rfl, rfl⟩))
    (fun os started H enc _ => nameNumbers_lifted os started H enc)

theorem nameNumbers_card_holds : Rows.NameNumbersCardSaid :=
  Claim7.holds_tied_plain_at .later [] [.data, .data, .data, .data, .sentinel, .sentinel, .pinned] true (true, "6d5906662f55bc4695de93782352f45d107318e86c76dac18cd8184266a978c0") true nameNumbers_holds (fun _ h => by cases h) (by kernel_rfl) (fun _ h => by cases h) nameNumbers_row_tie rfl ⟨rfl, rfl⟩ (by kernel_rfl) rfl
    (fun f fn hf hfn => by
      obtain rfl : f = 8 := Option.some.inj ((show Tryd.prog.funcNamed "pantler/pantlerlaw05.NameNumbers" = some 8 by kernel_rfl).symm.trans hf) |>.symm
      obtain rfl : fn = Tryd.f8 := (Option.some.inj (Tryd.func8.symm.trans hfn)).symm
      exact ⟨by kernel_rfl, fun j t ht => by
        rw [Tryd.params8] at ht
        have hm : t ∈ [3, 9] := by simpa using Array.mem_of_getElem? ht
        have hall : ([3, 9].all fun u => !Tryd.prog.wantsStandIn u) = true := by kernel_rfl
        exact (show Tryd.prog.wantsStandIn t = false by simpa using List.all_eq_true.1 hall t hm)⟩)
    (by kernel_rfl)

end Go.Proofs.YtgohkhbmpmefoaaDoor
