/- TextWords: it returns true whatever its arguments are; the package-level variables that it lists hold what the program's text lays down. Conditions: none. -/
import Derived.Test.YthmlpkdgmpbffaaDoorV52
import Derived.Test.YthmlpkdgmpbffaaDoorGlc
import Derived.Test.YthmlpkdgmpbffaaDoorRows
import Derived.Test.YthmlpkdgmpbffaaDoorCards
import Derived.Test.YthmlpkdgmpbffaaDoorTie
import Derived.Test.YthmlpkdgmpbffaaDoorChecked
import Derived.ProofKit
import Derived.OpenShut
import Derived.LaidMore
import Derived.Lay
import Derived.SevenTiedAt
import Derived.Stop.Joined
namespace Go.Proofs.YthmlpkdgmpbffaaDoor
open Go Go.Eng Go.ChangeShapes Go.WideShapes Go.ChangeAt Go.RowKit

theorem own : ownKnob Tryd.prog.godebug = none := by kernel_rfl
theorem laidOut : laidOutB Tryd.prog = true := by kernel_rfl

set_option maxRecDepth 100000 in
theorem textWords_lifted (os : Os) (started : os.Started) (H : Type) (enc : TypeId × Value → H) :
    ReturnsInHanded {} Tryd.checked os 3 .any (fun w args => (Rows.textWordsSpec.pre enc Tryd.prog Tryd.f3 Rows.textWordsRow.domain false w args ∧ laidMetH Tryd.prog Rows.textWordsRow.laid w) ∧ sizedMet enc Tryd.prog Tryd.f3 (OpenSpec.ofChange Rows.textWordsSpec) false w args)
      (Rows.textWordsSpec.post enc Tryd.prog Tryd.f3 false true false false) := by
  refine returnsInHanded_and_shaped (C := Tryd.checked) (X := fun w _ => laidMetH Tryd.prog Rows.textWordsRow.laid w) (fun _ _ _ hh h => h.of_heap hh) own started (by kernel_rfl) Tryd.func3
    (ChangeSpec.witness_shaped (enc := enc) (C := Tryd.checked) (os := os) (X := fun w _ => laidMetH Tryd.prog Rows.textWordsRow.laid w) false (World.laidAll Tryd.prog os Rows.textWordsRow.laid) #[.string ⟨#[]⟩, .string ⟨#[]⟩] 8 (World.laidAll_os _ _ _)
      (World.shaped_of_ZipB (by kernel_rfl) (by kernel_rfl)) (by kernel_rfl) (by kernel_rfl) (by kernel_rfl)
      (by rw [MakeChecks.laidMetH_plain _ _ _ (by kernel_rfl)]; exact laidMet_laidAll _ (by kernel_rfl) (by kernel_rfl))) ?_
  intro W base args ds gs before hval hW _ _ hL hsh
  have hL : laidMetH Tryd.prog Rows.textWordsRow.laid W := hL
  refine law_contractT (g := l52_TextWords_g) tabOk laidOut nms Tryd.func3 rfl rfl rfl Tryd.underlying4 ?_ (by kernel_rfl) (F := 8) (by kernel_rfl) (by kernel_rfl) (fun x hx => Sig.law l52_TextWords_ok (tr := true) rfl (textWords_law x hx)) hval hW
    (gl_laid (by kernel_rfl) (by repeat' (first | exact trivial | refine ⟨?_, ?_⟩ | exact List.Mem.head _ | apply List.Mem.tail)) hsh hL)
  intro ds hd
  match ds, hd with
  | [d0, d1], _ => exact ⟨rfl, rfl, rfl⟩

theorem textWords_holds : Rows.TextWordsSaid :=
  OpenClaim.holds_of_wide 3 Tryd.f3 rfl rfl rfl rfl rfl rfl rfl ⟨rfl, rfl, rfl, rfl, rfl⟩ rfl rfl rfl rfl rfl (by kernel_rfl) Tryd.func3 (by kernel_rfl)
    (of_decide_eq_true (by kernel_rfl)) (by unfold Func.isWrapper; first | (rw [if_pos (by decide +kernel)]; kernel_rfl) | (rw [if_neg (by decide +kernel)]; exact ⟨rfl, rfl⟩))
    (fun os started H enc _ => textWords_lifted os started H enc)

theorem textWords_card_holds : Rows.TextWordsCardSaid :=
  Claim7.holds_tied_plain_at .later [] [.data, .data, .data, .data, .sentinel, .sentinel, .pinned] true (true, "868f6fb7ef0c8c8276a1a3afb1e433ecde4bc7d4137e50691abd7615e8fe76b7") true textWords_holds (fun _ h => by cases h) (by kernel_rfl) (fun _ h => by cases h) textWords_row_tie rfl ⟨rfl, rfl⟩ (by kernel_rfl) rfl
    (fun f fn hf hfn => by
      obtain rfl : f = 3 := Option.some.inj ((show Tryd.prog.funcNamed "pantler/pantlerlaw52.TextWords" = some 3 by kernel_rfl).symm.trans hf) |>.symm
      obtain rfl : fn = Tryd.f3 := (Option.some.inj (Tryd.func3.symm.trans hfn)).symm
      exact ⟨by kernel_rfl, fun j t ht => by
        rw [Tryd.params3] at ht
        have hm : t ∈ [9, 9] := by simpa using Array.mem_of_getElem? ht
        have hall : ([9, 9].all fun u => !Tryd.prog.wantsStandIn u) = true := by kernel_rfl
        exact (show Tryd.prog.wantsStandIn t = false by simpa using List.all_eq_true.1 hall t hm)⟩)
    (by kernel_rfl)

end Go.Proofs.YthmlpkdgmpbffaaDoor
