/- Laws in plain Lean: y52. -/
import Derived.Test.YthmlpkdgmpbffaaGreatDoorL52z
namespace Go.Eng
open Go Go.Proofs Go.RowKit

end Go.Eng
namespace Go.Proofs
open Go Go.RowKit Go.Shelf Go.Eng

set_option maxHeartbeats 1000000 in
set_option maxRecDepth 100000 in
/-- (*strings.Builder).String: of a builder that nothing was written to. -/
theorem builder_StringE (b : Nat) (w : World) (hc : w.cell? ⟨b, 1, none⟩ = some (.slice none 0 0)) :
    Calls Tryz.prog 30 #[.pointer (some ⟨b, 0, none⟩)] w fun e w' => e = .returned (.string .empty) ∧ w' = w.drew := by
  have c1 : w.drew.cell? ⟨b, 1, none⟩ = some (.slice none 0 0) := hc
  have hSD : (Builtin.unsafeSliceData_ #[62] 98 #[.slice none 0 0]).run Tryz.prog w.drew = .ok (.pointer none) w.drew :=
    Lib.run_unsafeSliceData_nil _ _ _ _ _
  have hUS : (Builtin.unsafeString_ #[98, 3] 9 #[.pointer none, .int .i64 0]).run Tryz.prog w.drew = .ok (.string .empty) w.drew :=
    Lib.run_unsafeString_none _ _ _ _ _
  have mixed := mix
  go_enter Tryz.func30, Tryz.ntmps30
  go_wp2
  go_region_o
  all_goals (go_wp2; go_ret; exact ⟨rfl, rfl⟩)
end Go.Proofs
namespace Go.Eng
open Go Go.RowKit Go.Proofs
abbrev qE (e : Nat) : PM := .cells e (.cons .nilp (.cons .nils .nil)) .nil
theorem builder_StringE_msig (e : Nat) : MSig.ok Tryz.prog ⟨30, .cons (.ref 0 0) .nil, qE e, [], .val false .str, qE e, none, fun z => .ret (([] : Str), z.2)⟩ := by
  intro x y hy Z w S m vs hM hargs
  have hy : some (([] : Str), x.2) = some y := hy
  injection hy with hy
  subst hy
  obtain ⟨l, rfl, h0⟩ := one_ref hargs
  have hB0 : BRel w S m (some l) (.cells e [.nilptr, .nilsl]) := bk_of hM h0
  obtain ⟨c0, c1, b1, b2, b3, b4, b5⟩ := two_cells hB0
  cases b5
  have hcell : w.cell? ⟨l.g, 1, none⟩ = some (.slice none 0 0) := blk_cell b1 (o := 1) (by show 1 < 2; omega)
  have hen := enters_of Tryz.func30 (by kernel_rfl) rfl #[.pointer (some ⟨l.g, 0, none⟩)] w
  refine .inl ⟨hen, Calls.mono (builder_StringE l.g w hcell) ?_⟩
  rintro e' w' ⟨rfl, rfl⟩
  exact ⟨_, S, m, rfl, Trans.of_drew (Trans.refl _ _ _ _), hM.drew, .str _ [] (Nat.zero_le _)⟩

def builderE_T : Tree (Str × ((Unit × (Unit × Unit)) × Unit)) :=
 .ret (([] : Str), (((), ((), ())), ()))
def builderE_g : MSig := ⟨30, .cons (.ref 0 0) .nil, qE 64, [], .val false .str, qE 64, none, fun z => .ret (([] : Str), z.2)⟩
theorem builderE_ok : builderE_g.ok Tryz.prog := builder_StringE_msig 64
def text_AllE_fz : Nat → List Pre
  | 3 => [.unr 1]
  | _ => []
def text_AllE_T (x0 : List Event) : Tree Str :=
 .ite (decide ((0 : Int) < (x0.length : Int))) (
 ask (inb 0 x0.length) <|
 .fail) (
 .bnd builderE_T fun y1 =>
 .ret y1.1)
def text_AllE_g : Sig := ⟨13, (.cons (.val false (.list tEvent)) .nil), .vals (.val false .str), fun z => text_AllE_T z.1, ([] : Str)⟩
theorem text_AllE_ok : text_AllE_g.ok Tryz.prog := by
  refine Sig.lift mix tabOk nms _ Tryz.func13 (c := (bodyOf Tryz.f13)) (by kernel_rfl) (o := orM [] [builderE_g] [] text_AllE_fz) (orM_sound trivial ⟨builderE_ok, trivial⟩) (allLp_ofUM [] (by kernel_rfl) trivial rfl) ?_
  intro z; kernel_rfl
/-- text.All of any list. -/
def text_AllC_T (x0 : List Event) : Tree Str := .ite (decide ((0 : Int) < (x0.length : Int))) (text_All_T x0) (text_AllE_T x0)
def text_AllC_g : Sig := ⟨13, (.cons (.val false (.list tEvent)) .nil), .vals (.val false .str), fun z => text_AllC_T z.1, ([] : Str)⟩
theorem text_AllC_ok : text_AllC_g.ok Tryz.prog := by
  intro x y h
  have h : (bif decide ((0 : Int) < (x.1.length : Int)) then (text_All_T x.1).run else (text_AllE_T x.1).run) = some y := h
  cases hd : decide ((0 : Int) < (x.1.length : Int)) with
  | true => rw [hd] at h; exact text_All_ok x y h
  | false => rw [hd] at h; exact text_AllE_ok x y h
def l52_TextBackC_T (x0 : List Event) (x1 : Str) : Tree Bool :=
 .bnd (r43_Few_T x0 20) fun y1 =>
 .ite ((!y1) || (decide ((1024 : Int) < (x1.length : Int)))) (
 .bnd l52_awake_T fun y2 =>
 .ret y2) (
 .bnd (.loop (fun v => l52_TextBack_L5_step x0 x1 v.1 v.2) (0, ([] : List Event))) fun r3 =>
 .bnd (text_AllC_T x0) fun y4 =>
 .bnd (text_ParseAll_T y4) fun y5 =>
 .grd (!((!decide (y5.2.2.1 = 0)) || (!decide (y5.2.1 = 0)))) (r45_SameEvents_T y5.1 r3) false fun y6 =>
 .grd (!(((!decide (y5.2.2.1 = 0)) || (!decide (y5.2.1 = 0))) || (!y6))) (r52_All_T x0) ([] : Str) fun y7 =>
 .ite ((((!decide (y5.2.2.1 = 0)) || (!decide (y5.2.1 = 0))) || (!y6)) || (!(y4 == y7))) (
 .ret false) (
 .bnd (text_ParseAll_T x1) fun y8 =>
 .ite (!decide (y8.2.2.1 = 0)) (
 .grd (((decide (y8.2.2.1 = 3)) && (decide ((0 : Int) < y8.2.1))) && (decide ((y8.1.length : Int) = 0))) l52_awake_T false fun y9 =>
 .ret ((((decide (y8.2.2.1 = 3)) && (decide ((0 : Int) < y8.2.1))) && (decide ((y8.1.length : Int) = 0))) && y9)) (
 .bnd (text_AllC_T y8.1) fun y10 =>
 .grd ((y10 == x1) && (decide (y8.2.1 = 0))) l52_awake_T false fun y11 =>
 .ret (((y10 == x1) && (decide (y8.2.1 = 0))) && y11))))

def l52_TextBackC_g : Sig := ⟨4, (.cons (.val false (.list tEvent)) (.cons (.val false .str) .nil)), .vals (.val false .bool), fun z => l52_TextBackC_T z.1 z.2.1, false⟩

theorem l52_TextBackC_ok : l52_TextBackC_g.ok Tryz.prog := by
  refine Sig.lift mix tabOk nms _ Tryz.func4 (c := (bodyOf Tryz.f4)) (by kernel_rfl) (o := orT [r43_Few_g, l52_awake_g, l52_bare_g, text_AllC_g, text_ParseAll_g, r45_SameEvents_g, r52_All_g] [l52_TextBack_L5] noFz) (orT_sound ⟨r43_Few_ok, ⟨l52_awake_ok, ⟨l52_bare_ok, ⟨text_AllC_ok, ⟨text_ParseAll_ok, ⟨r45_SameEvents_ok, ⟨r52_All_ok, trivial⟩⟩⟩⟩⟩⟩⟩) (allLp_of [nthC (loopsOf (bodyOf Tryz.f4)) 0] (by kernel_rfl) ⟨l52_TextBack_L5_ok, trivial⟩ (by kernel_rfl)) ?_
  intro z; kernel_rfl


end Go.Eng

