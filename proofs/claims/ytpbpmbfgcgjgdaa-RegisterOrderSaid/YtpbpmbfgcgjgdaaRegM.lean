/- RegisterOrder: it returns true whatever its arguments are. Conditions: none. -/
import Derived.Test.YtpbpmbfgcgjgdaaRegK
import Derived.Test.YtpbpmbfgcgjgdaaEngZc
import Derived.Test.YtpbpmbfgcgjgdaaRows
import Derived.Test.YtpbpmbfgcgjgdaaChecked
namespace Go.Proofs.Ytpbpmbfgcgjgdaa
open Go Go.Eng Go.ChangeShapes Go.WideShapes Go.ChangeAt Go.RowKit

theorem own : ownKnob Try.prog.godebug = none := by kernel_rfl
theorem laidOut : laidOutB Try.prog = true := by kernel_rfl

theorem reg_shape {c : Nat → AV} (h : Shape typs 8 23 c 0) : ∃ n y v, argV typs 23 c = .agg [.int .i64 n, .str y, .str v] := by
  have h0 : Shape typs 7 3 c 0 := h (3, 0) (by decide)
  have h1 : Shape typs 7 9 c 1 := h (9, 1) (by decide)
  have h2 : Shape typs 7 9 c 2 := h (9, 2) (by decide)
  obtain ⟨n, e0, _⟩ := h0
  obtain ⟨y, e1, _⟩ := h1
  obtain ⟨v, e2, _⟩ := h2
  refine ⟨n, y, v, ?_⟩
  show AV.agg [c 0, c 1, c 2] = _
  rw [e0, e1, e2]

theorem registerOrder_law (l : List AV) (h : ArgsSh typs 8 Try.f5.params.toList l) : ACalls Try.prog 5 l (.val (.bool true)) := by
  match l, h with
  | [a, b, x], ⟨⟨c, hc, ea⟩, ⟨d, hd, eb⟩, ⟨d', hd', ex⟩, _⟩ =>
    obtain ⟨n, y, v, e1⟩ := reg_shape hc
    obtain ⟨n', y', v', e2⟩ := reg_shape hd
    obtain ⟨n'', y'', v'', e3⟩ := reg_shape hd'
    rw [ea, eb, ex]
    show ACalls _ _ [argV typs 23 c, argV typs 23 d, argV typs 23 d'] _
    rw [e1, e2, e3]
    exact registerOrder_c _ _ _ _ _ _ _ _ _

set_option maxRecDepth 100000 in
theorem registerOrder_lifted (os : Os) (started : os.Started) (H : Type) (enc : TypeId × Value → H) :
    ReturnsInHanded {} Try.checked os 5 .any (Rows.registerOrderSpec.pre6 enc Try.prog Try.f5 Rows.registerOrderRow.domain false) (Rows.registerOrderSpec.post enc Try.prog Try.f5 false true false false) := by
  refine returnsInHanded_of_change (C := Try.checked) own started (by kernel_rfl) Try.func5
    (ChangeSpec.witness6 (enc := enc) (C := Try.checked) false ⟨#[], #[.agg #[.int .i64 0, .string ⟨#[]⟩, .string ⟨#[]⟩], .agg #[.int .i64 0, .string ⟨#[]⟩, .string ⟨#[]⟩], .agg #[.int .i64 0, .string ⟨#[]⟩, .string ⟨#[]⟩]], []⟩ 8 (by kernel_rfl) (by kernel_rfl) (by kernel_rfl) (by kernel_rfl)) ?_
  intro W base args ds gs before hval hW _ _
  refine law_contract tabOk laidOut nms Try.func5 rfl rfl rfl Try.underlying4 ?_ (by kernel_rfl) (F := 8) (by kernel_rfl) registerOrder_law hval hW
  intro ds hd
  match ds, hd with
  | [d1, d2, d3], _ => exact ⟨rfl, rfl, rfl⟩

theorem registerOrder_holds : Rows.RegisterOrderSaid :=
  OpenClaim.holds_of_wide 5 Try.f5 rfl rfl rfl rfl rfl rfl rfl ⟨rfl, rfl, rfl, rfl, rfl⟩ rfl rfl rfl rfl rfl (by kernel_rfl) Try.func5 (by kernel_rfl)
    (of_decide_eq_true (by kernel_rfl)) (by unfold Func.isWrapper; first | (rw [if_pos (by decide +kernel)]; kernel_rfl) | (rw [if_neg (by decide +kernel)]; exact ⟨rfl, rfl⟩))
    (fun os started H enc _ => registerOrder_lifted os started H enc)

end Go.Proofs.Ytpbpmbfgcgjgdaa
