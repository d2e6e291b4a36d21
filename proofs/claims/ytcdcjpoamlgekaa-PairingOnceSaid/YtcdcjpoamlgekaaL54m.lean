/- Lifted: 2 functions, part 1. -/
import Derived.Test.YtcdcjpoamlgekaaTrG
import Derived.Test.YtcdcjpoamlgekaaTrF
import Derived.Test.YtcdcjpoamlgekaaEngT
namespace Go.Eng
open Go Go.Proofs
set_option maxRecDepth 100000


def pairing_Count_T (x0 : Int) : Tree Int :=
  .ite ((decide (x0 < 2)) || (decide ((64 : Int) < x0))) (
    .ret 0) (
    ask (!decide ((2 : Int) = 0)) <|
    .ret (w64 ((w64 (x0 + (x0.tmod 2))) - 1)))

def pairing_Count_g : Sig := ⟨8, (.cons (.val false (.int .i64)) .nil), .vals (.val false (.int .i64)), fun z => pairing_Count_T z.1, (0 : Int)⟩

theorem pairing_Count_ok : pairing_Count_g.ok Try.prog := by
  refine Sig.lift mix tabOk nms _ Try.func8 (c := (bodyOf Try.f8)) (by kernel_rfl) (o := orT [] [] noFz) (orT_sound trivial) (allLp_of [] (by kernel_rfl) trivial rfl) ?_
  intro z; kernel_rfl

def pairing_Meets_T (x0 : Int) (x1 : Int) (x2 : Int) : Tree (Int × Bool × Unit) :=
  .bnd (pairing_Count_T x0) fun y1 =>
  .ite ((((decide (x1 < 0)) || (decide (y1 ≤ x1))) || (decide (x2 < 0))) || (decide (x0 ≤ x2))) (
    .ret (0, false, ())) (
    ask (!decide (y1 = 0)) <|
    .ite (decide (x2 = y1)) (
      .ite (decide (x0 ≤ x1)) (
        .ret (0, false, ())) (
        .ret (x1, true, ()))) (
      .ite (decide (x2 = x1)) (
        .ite (decide (x0 ≤ y1)) (
          .ret (0, false, ())) (
          .ret (y1, true, ()))) (
        .ite (decide (x0 ≤ ((w64 ((w64 ((w64 ((2 : Int) * x1)) - x2)) + (w64 ((2 : Int) * y1)))).tmod y1))) (
          .ret (0, false, ())) (
          .ret (((w64 ((w64 ((w64 ((2 : Int) * x1)) - x2)) + (w64 ((2 : Int) * y1)))).tmod y1), true, ())))))

def pairing_Meets_g : Sig := ⟨6, (.cons (.val false (.int .i64)) (.cons (.val false (.int .i64)) (.cons (.val false (.int .i64)) .nil))), .vals (.cons (.val false (.int .i64)) (.cons (.val false .bool) .nil)), fun z => pairing_Meets_T z.1 z.2.1 z.2.2.1, ((0 : Int), false, ())⟩

theorem pairing_Meets_ok : pairing_Meets_g.ok Try.prog := by
  refine Sig.lift mix tabOk nms _ Try.func6 (c := (bodyOf Try.f6)) (by kernel_rfl) (o := orT [pairing_Count_g] [] noFz) (orT_sound ⟨pairing_Count_ok, trivial⟩) (allLp_of [] (by kernel_rfl) trivial rfl) ?_
  intro z; kernel_rfl

end Go.Eng
