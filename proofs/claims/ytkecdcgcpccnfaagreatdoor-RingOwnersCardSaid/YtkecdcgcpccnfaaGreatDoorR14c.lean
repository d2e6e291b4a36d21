/- RingOwners: it returns true whatever its arguments are; the package-level variables that it lists hold what the program's text lays down. Conditions: none. -/
import Derived.Test.YtkecdcgcpccnfaaGreatDoorP14
import Derived.Test.YtkecdcgcpccnfaaGreatDoorGlc
import Derived.Test.YtkecdcgcpccnfaaGreatDoorRows
import Derived.Test.YtkecdcgcpccnfaaGreatDoorCards
import Derived.Test.YtkecdcgcpccnfaaGreatDoorTie
import Derived.Test.YtkecdcgcpccnfaaGreatDoorChecked
import Derived.ProofKit
import Derived.OpenShut
import Derived.LaidMore
import Derived.Lay
import Derived.SevenTiedAt
import Derived.Stop.Joined
namespace Go.Proofs.YtkecdcgcpccnfaaGreatDoor
open Go Go.Eng Go.ChangeShapes Go.WideShapes Go.ChangeAt Go.RowKit

theorem own : ownKnob Tryz.prog.godebug = none := by kernel_rfl
theorem laidOut : laidOutB Tryz.prog = true := by kernel_rfl

set_option maxRecDepth 100000 in
theorem ringOwners_lifted (os : Os) (started : os.Started) (H : Type) (enc : TypeId × Value → H) :
    ReturnsInHanded {} Tryz.checked os 3 .any (fun w args => (Rows.ringOwnersSpec.pre enc Tryz.prog Tryz.f3 Rows.ringOwnersRow.domain false w args ∧ laidMetH Tryz.prog Rows.ringOwnersRow.laid w) ∧ sizedMet enc Tryz.prog Tryz.f3 (OpenSpec.ofChange Rows.ringOwnersSpec) false w args)
      (Rows.ringOwnersSpec.post enc Tryz.prog Tryz.f3 false true false false) := by
  refine returnsInHanded_and_shaped (C := Tryz.checked) (X := fun w _ => laidMetH Tryz.prog Rows.ringOwnersRow.laid w) (fun _ _ _ hh h => h.of_heap hh) own started (by kernel_rfl) Tryz.func3
    (ChangeSpec.witness_shaped (enc := enc) (C := Tryz.checked) (os := os) (X := fun w _ => laidMetH Tryz.prog Rows.ringOwnersRow.laid w) false (World.laidAll Tryz.prog os Rows.ringOwnersRow.laid) #[.slice none 0 0, .int .i64 0, .slice none 0 0] 8 (World.laidAll_os _ _ _)
      (World.shaped_of_ZipB (by kernel_rfl) (by kernel_rfl)) (by kernel_rfl) (by kernel_rfl) (by kernel_rfl)
      (by rw [MakeChecks.laidMetH_plain _ _ _ (by kernel_rfl)]; exact laidMet_laidAll _ (by kernel_rfl) (by kernel_rfl))) ?_
  intro W base args ds gs before hval hW _ _ hL hsh
  have hL : laidMetH Tryz.prog Rows.ringOwnersRow.laid W := hL
  refine law_contractT (g := l14_RingOwners_g) tabOk laidOut nms Tryz.func3 rfl rfl rfl Tryz.underlying4 ?_ (by kernel_rfl) (F := 8) (by kernel_rfl) (by kernel_rfl) (fun x hx => Sig.law l14_RingOwners_ok (tr := true) rfl (ringOwners_law x hx)) hval hW
    (gl_laid (by kernel_rfl) (by repeat' (first | exact trivial | refine ⟨?_, ?_⟩ | exact List.Mem.head _ | apply List.Mem.tail)) hsh hL)
  intro ds hd
  match ds, hd with
  | [d0, d1, d2], _ => exact ⟨rfl, rfl, rfl⟩

theorem ringOwners_holds : Rows.RingOwnersSaid :=
  OpenClaim.holds_of_wide 3 Tryz.f3 rfl rfl rfl rfl rfl rfl rfl ⟨rfl, rfl, rfl, rfl, rfl⟩ rfl rfl rfl rfl rfl (by kernel_rfl) Tryz.func3 (by kernel_rfl)
    (of_decide_eq_true (by kernel_rfl)) (by unfold Func.isWrapper; first | (rw [if_pos (by decide +kernel)]; kernel_rfl) | (rw [if_neg (by decide +kernel)]; exact ⟨rfl, rfl⟩))
    (fun os started H enc _ => ringOwners_lifted os started H enc)

theorem ringOwners_card_holds : Rows.RingOwnersCardSaid :=
  Claim7.holds_tied_plain_at .later [] [.data, .data, .data] true (true, "82b2a20ac0281921b5a0afa3e961f45311b19fd9f1fdde884e6f4c96a4f6bbc8") false ringOwners_holds (fun _ h => by cases h) (by kernel_rfl) (fun _ h => by cases h) ringOwners_row_tie rfl ⟨rfl, rfl⟩ (by kernel_rfl) rfl
    (fun f fn hf hfn => by
      obtain rfl : f = 3 := Option.some.inj ((show Tryz.prog.funcNamed "pantler/pantlerlaw14.RingOwners" = some 3 by kernel_rfl).symm.trans hf) |>.symm
      obtain rfl : fn = Tryz.f3 := (Option.some.inj (Tryz.func3.symm.trans hfn)).symm
      exact ⟨by kernel_rfl, fun j t ht => by
        rw [Tryz.params3] at ht
        have hm : t ∈ [22, 3, 23] := by simpa using Array.mem_of_getElem? ht
        have hall : ([22, 3, 23].all fun u => !Tryz.prog.wantsStandIn u) = true := by kernel_rfl
        exact (show Tryz.prog.wantsStandIn t = false by simpa using List.all_eq_true.1 hall t hm)⟩)
    (by kernel_rfl)

end Go.Proofs.YtkecdcgcpccnfaaGreatDoor
