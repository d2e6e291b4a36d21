/- TopoBack: it returns true whatever its arguments are; the package-level variables that it lists hold what the program's text lays down. Conditions: none. -/
import Derived.Test.YthoojodooacjcaaDoorP13
import Derived.Test.YthoojodooacjcaaDoorGlc
import Derived.Test.YthoojodooacjcaaDoorRows
import Derived.Test.YthoojodooacjcaaDoorCards
import Derived.Test.YthoojodooacjcaaDoorTie
import Derived.Test.YthoojodooacjcaaDoorChecked
import Derived.ProofKit
import Derived.OpenShut
import Derived.LaidMore
import Derived.Lay
import Derived.SevenTiedAt
import Derived.Stop.Joined
namespace Go.Proofs.YthoojodooacjcaaDoor
open Go Go.Eng Go.ChangeShapes Go.WideShapes Go.ChangeAt Go.RowKit

theorem own : ownKnob Tryd.prog.godebug = none := by kernel_rfl
theorem laidOut : laidOutB Tryd.prog = true := by kernel_rfl

set_option maxRecDepth 100000 in
theorem topoBack_lifted (os : Os) (started : os.Started) (H : Type) (enc : TypeId × Value → H) :
    ReturnsInHanded {} Tryd.checked os 5 .any (fun w args => (Rows.topoBackSpec.pre enc Tryd.prog Tryd.f5 Rows.topoBackRow.domain false w args ∧ laidMetH Tryd.prog Rows.topoBackRow.laid w) ∧ sizedMet enc Tryd.prog Tryd.f5 (OpenSpec.ofChange Rows.topoBackSpec) false w args)
      (Rows.topoBackSpec.post enc Tryd.prog Tryd.f5 false true false false) := by
  refine returnsInHanded_and_shaped (C := Tryd.checked) (X := fun w _ => laidMetH Tryd.prog Rows.topoBackRow.laid w) (fun _ _ _ hh h => h.of_heap hh) own started (by kernel_rfl) Tryd.func5
    (ChangeSpec.witness_shaped (enc := enc) (C := Tryd.checked) (os := os) (X := fun w _ => laidMetH Tryd.prog Rows.topoBackRow.laid w) false (World.laidAll Tryd.prog os Rows.topoBackRow.laid) #[.slice none 0 0, .agg #[.string ⟨#[]⟩, .string ⟨#[]⟩, .string ⟨#[]⟩, .bool false], .agg #[.string ⟨#[]⟩, .int .i64 0, .string ⟨#[]⟩, .string ⟨#[]⟩]] 8 (World.laidAll_os _ _ _)
      (World.shaped_of_ZipB (by kernel_rfl) (by kernel_rfl)) (by kernel_rfl) (by kernel_rfl) (by kernel_rfl)
      (by rw [MakeChecks.laidMetH_plain _ _ _ (by kernel_rfl)]; exact laidMet_laidAll _ (by kernel_rfl) (by kernel_rfl))) ?_
  intro W base args ds gs before hval hW _ _ hL hsh
  have hL : laidMetH Tryd.prog Rows.topoBackRow.laid W := hL
  refine law_contractT (g := l13_TopoBack_g) tabOk laidOut nms Tryd.func5 rfl rfl rfl Tryd.underlying4 ?_ (by kernel_rfl) (F := 8) (by kernel_rfl) (by kernel_rfl) (fun x hx => Sig.law l13_TopoBack_ok (tr := true) rfl (topoBack_law x hx)) hval hW
    (gl_laid (by kernel_rfl) (by repeat' (first | exact trivial | refine ⟨?_, ?_⟩ | exact List.Mem.head _ | apply List.Mem.tail)) hsh hL)
  intro ds hd
  match ds, hd with
  | [d0, d1, d2], _ => exact ⟨rfl, rfl, rfl⟩

theorem topoBack_holds : Rows.TopoBackSaid :=
  OpenClaim.holds_of_wide 5 Tryd.f5 rfl rfl rfl rfl rfl rfl rfl ⟨rfl, rfl, rfl, rfl, rfl⟩ rfl rfl rfl rfl rfl (by kernel_rfl) Tryd.func5 (by kernel_rfl)
    (of_decide_eq_true (by kernel_rfl)) (by unfold Func.isWrapper; first | (rw [if_pos (by decide +kernel)]; kernel_rfl) | (rw [if_neg (by decide +kernel)]; exact ⟨rfl, rfl⟩))
    (fun os started H enc _ => topoBack_lifted os started H enc)

theorem topoBack_card_holds : Rows.TopoBackCardSaid :=
  Claim7.holds_tied_plain_at .later [] [.data, .pinned] true (true, "6a6143d4a2a88b8a0ad3b21713c33d66d9404d065f7567364ed7fec2fa348b7c") false topoBack_holds (fun _ h => by cases h) (by kernel_rfl) (fun _ h => by cases h) topoBack_row_tie rfl ⟨rfl, rfl⟩ (by kernel_rfl) rfl
    (fun f fn hf hfn => by
      obtain rfl : f = 5 := Option.some.inj ((show Tryd.prog.funcNamed "pantler/pantlerlaw13.TopoBack" = some 5 by kernel_rfl).symm.trans hf) |>.symm
      obtain rfl : fn = Tryd.f5 := (Option.some.inj (Tryd.func5.symm.trans hfn)).symm
      exact ⟨by kernel_rfl, fun j t ht => by
        rw [Tryd.params5] at ht
        have hm : t ∈ [22, 26, 46] := by simpa using Array.mem_of_getElem? ht
        have hall : ([22, 26, 46].all fun u => !Tryd.prog.wantsStandIn u) = true := by kernel_rfl
        exact (show Tryd.prog.wantsStandIn t = false by simpa using List.all_eq_true.1 hall t hm)⟩)
    (by kernel_rfl)

end Go.Proofs.YthoojodooacjcaaDoor
