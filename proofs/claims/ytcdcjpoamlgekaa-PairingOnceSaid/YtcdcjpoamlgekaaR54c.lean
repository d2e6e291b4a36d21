/- PairingOnce: it returns true whatever its arguments are. Conditions: none. -/
import Derived.Test.YtcdcjpoamlgekaaO54
import Derived.Test.YtcdcjpoamlgekaaRows
import Derived.Test.YtcdcjpoamlgekaaChecked
namespace Go.Proofs.Ytcdcjpoamlgekaa
open Go Go.Eng Go.ChangeShapes Go.WideShapes Go.ChangeAt Go.RowKit

theorem own : ownKnob Try.prog.godebug = none := by kernel_rfl
theorem laidOut : laidOutB Try.prog = true := by kernel_rfl

set_option maxRecDepth 100000 in
theorem pairingOnce_lifted (os : Os) (started : os.Started) (H : Type) (enc : TypeId × Value → H) :
    ReturnsInHanded {} Try.checked os 5 .any (Rows.pairingOnceSpec.pre6 enc Try.prog Try.f5 Rows.pairingOnceRow.domain false) (Rows.pairingOnceSpec.post enc Try.prog Try.f5 false true false false) := by
  refine returnsInHanded_of_change (C := Try.checked) own started (by kernel_rfl) Try.func5
    (ChangeSpec.witness6 (enc := enc) (C := Try.checked) false ⟨#[], #[.int .u8 0], []⟩ 8 (by kernel_rfl) (by kernel_rfl) (by kernel_rfl) (by kernel_rfl)) ?_
  intro W base args ds gs before hval hW _ _
  refine law_contractT (g := l54_PairingOnce_g) tabOk laidOut nms Try.func5 rfl rfl rfl Try.underlying4 ?_ (by kernel_rfl) (F := 8) (by kernel_rfl) (by kernel_rfl) (fun x hx => Sig.law l54_PairingOnce_ok (tr := true) rfl (pairingOnce_law x hx)) hval hW trivial
  intro ds hd
  match ds, hd with
  | [d0], _ => exact ⟨rfl, rfl, rfl⟩

theorem pairingOnce_holds : Rows.PairingOnceSaid :=
  OpenClaim.holds_of_wide 5 Try.f5 rfl rfl rfl rfl rfl rfl rfl ⟨rfl, rfl, rfl, rfl, rfl⟩ rfl rfl rfl rfl rfl (by kernel_rfl) Try.func5 (by kernel_rfl)
    (of_decide_eq_true (by kernel_rfl)) (by unfold Func.isWrapper; first | (rw [if_pos (by decide +kernel)]; kernel_rfl) | (rw [if_neg (by decide +kernel)]; exact ⟨rfl, rfl⟩))
    (fun os started H enc _ => pairingOnce_lifted os started H enc)

end Go.Proofs.Ytcdcjpoamlgekaa
