/- MatchProof: it returns true whatever its arguments are. Conditions: none. -/
import Derived.Test.YtgpbegogphcabaaP16
import Derived.Test.YtgpbegogphcabaaRows
import Derived.Test.YtgpbegogphcabaaChecked
namespace Go.Proofs.Ytgpbegogphcabaa
open Go Go.Eng Go.ChangeShapes Go.WideShapes Go.ChangeAt Go.RowKit

theorem own : ownKnob Try.prog.godebug = none := by kernel_rfl
theorem laidOut : laidOutB Try.prog = true := by kernel_rfl

set_option maxRecDepth 100000 in
theorem matchProof_lifted (os : Os) (started : os.Started) (H : Type) (enc : TypeId × Value → H) :
    ReturnsInHanded {} Try.checked os 9 .any (Rows.matchProofSpec.pre6 enc Try.prog Try.f9 Rows.matchProofRow.domain false) (Rows.matchProofSpec.post enc Try.prog Try.f9 false true false false) := by
  refine returnsInHanded_of_change (C := Try.checked) own started (by kernel_rfl) Try.func9
    (ChangeSpec.witness6 (enc := enc) (C := Try.checked) false ⟨#[], #[.slice none 0 0], []⟩ 8 (by kernel_rfl) (by kernel_rfl) (by kernel_rfl) (by kernel_rfl)) ?_
  intro W base args ds gs before hval hW _ _
  refine law_contractT (g := l16_MatchProof_g) tabOk laidOut nms Try.func9 rfl rfl rfl Try.underlying4 ?_ (by kernel_rfl) (F := 8) (by kernel_rfl) (by kernel_rfl) (fun x hx => Sig.law l16_MatchProof_ok (tr := true) rfl (matchProof_law x hx)) hval hW trivial
  intro ds hd
  match ds, hd with
  | [d0], _ => exact ⟨rfl, rfl, rfl⟩

theorem matchProof_holds : Rows.MatchProofSaid :=
  OpenClaim.holds_of_wide 9 Try.f9 rfl rfl rfl rfl rfl rfl rfl ⟨rfl, rfl, rfl, rfl, rfl⟩ rfl rfl rfl rfl rfl (by kernel_rfl) Try.func9 (by kernel_rfl)
    (of_decide_eq_true (by kernel_rfl)) (by unfold Func.isWrapper; first | (rw [if_pos (by decide +kernel)]; kernel_rfl) | (rw [if_neg (by decide +kernel)]; exact ⟨rfl, rfl⟩))
    (fun os started H enc _ => matchProof_lifted os started H enc)

end Go.Proofs.Ytgpbegogphcabaa
