/- The types of the program, as the abstract machine has them; closed facts on the program. -/
import Derived.Test.YtapnoaalcbcmaaaEngS
import Derived.Test.YtapnoaalcbcmaaaProg
namespace Go.Eng
open Go

def typs : Tab :=
  [{ d := TD.other, sz := 1, bytes := 0, z := [AV.undef] },
    { d := TD.func, sz := 1, bytes := 8, z := [AV.nilfn] },
    { d := TD.int IntKind.i64, sz := 1, bytes := 8, z := [AV.int IntKind.i64 (0)],
      ty := some (Ty.int IntKind.i64) },
    { d := TD.int IntKind.i64, sz := 1, bytes := 8, z := [AV.int IntKind.i64 (0)],
      ty := some (Ty.int IntKind.i64) },
    { d := TD.bool, sz := 1, bytes := 1, z := [AV.bool false], ty := some Ty.bool },
    { d := TD.int IntKind.u8, sz := 1, bytes := 1, z := [AV.int IntKind.u8 (0)],
      ty := some (Ty.int IntKind.u8) },
    { d := TD.int IntKind.u8, sz := 1, bytes := 1, z := [AV.int IntKind.u8 (0)],
      ty := some (Ty.int IntKind.u8) },
    { d := TD.struct [(2, 0), (3, 1), (4, 2), (6, 3)], sz := 4, bytes := 24,
      z :=
        [AV.int IntKind.i64 (0), AV.int IntKind.i64 (0), AV.bool false,
          AV.int IntKind.u8 (0)],
      ty :=
        some ((Ty.int IntKind.i64).pair ((Ty.int IntKind.i64).pair (Ty.bool.pair (Ty.int IntKind.u8)))) },
    { d := TD.struct [(2, 0), (3, 1), (4, 2), (6, 3)], sz := 4, bytes := 24,
      z :=
        [AV.int IntKind.i64 (0), AV.int IntKind.i64 (0), AV.bool false,
          AV.int IntKind.u8 (0)],
      ty :=
        some ((Ty.int IntKind.i64).pair ((Ty.int IntKind.i64).pair (Ty.bool.pair (Ty.int IntKind.u8)))) },
    { d := TD.str, sz := 1, bytes := 16, z := [AV.str []], ty := some Ty.str },
    { d := TD.str, sz := 1, bytes := 16, z := [AV.str []], ty := some Ty.str },
    { d := TD.str, sz := 1, bytes := 16, z := [AV.str []], ty := some Ty.str },
    { d := TD.int IntKind.u64, sz := 1, bytes := 8, z := [AV.int IntKind.u64 (0)],
      ty := some (Ty.int IntKind.u64) },
    { d := TD.other, sz := 2, bytes := 24, z := [AV.str [], AV.int IntKind.u64 (0)] },
    { d := TD.other, sz := 2, bytes := 24, z := [AV.str [], AV.int IntKind.u64 (0)] },
    { d := TD.ptr 86, sz := 1, bytes := 8, z := [AV.nilptr] },
    { d := TD.ptr 89, sz := 1, bytes := 8, z := [AV.nilptr] },
    { d := TD.ptr 98, sz := 1, bytes := 8, z := [AV.nilptr] },
    { d := TD.other, sz := 1, bytes := 8, z := [AV.nilptr] },
    { d := TD.other, sz := 1, bytes := 8, z := [AV.nilptr] },
    { d := TD.other, sz := 1, bytes := 16, z := [AV.niliface] },
    { d := TD.int IntKind.i32, sz := 1, bytes := 4, z := [AV.int IntKind.i32 (0)],
      ty := some (Ty.int IntKind.i32) },
    { d := TD.int IntKind.u32, sz := 1, bytes := 4, z := [AV.int IntKind.u32 (0)],
      ty := some (Ty.int IntKind.u32) },
    { d := TD.slice 38, sz := 1, bytes := 24, z := [AV.nilsl],
      ty :=
        some
          ((Ty.int IntKind.i64).pair
              (Ty.str.pair (Ty.str.pair (Ty.str.pair (Ty.int IntKind.i64))))).list },
    { d := TD.slice 9, sz := 1, bytes := 24, z := [AV.nilsl], ty := some Ty.str.list },
    { d := TD.func, sz := 1, bytes := 8, z := [AV.nilfn] },
    { d := TD.func, sz := 1, bytes := 8, z := [AV.nilfn] },
    { d := TD.func, sz := 1, bytes := 8, z := [AV.nilfn] },
    { d := TD.ptr 36, sz := 1, bytes := 8, z := [AV.nilptr] },
    { d := TD.func, sz := 1, bytes := 8, z := [AV.nilfn] },
    { d := TD.ptr 33, sz := 1, bytes := 8, z := [AV.nilptr] },
    { d := TD.slice 50, sz := 1, bytes := 24, z := [AV.nilsl],
      ty := some ((Ty.int IntKind.i64).pair (Ty.str.pair (Ty.str.pair Ty.str.list))).list },
    { d := TD.struct [(3, 0), (31, 1)], sz := 2, bytes := 32,
      z := [AV.int IntKind.i64 (0), AV.nilsl],
      ty :=
        some
          ((Ty.int IntKind.i64).pair
            ((Ty.int IntKind.i64).pair (Ty.str.pair (Ty.str.pair Ty.str.list))).list) },
    { d := TD.struct [(3, 0), (31, 1)], sz := 2, bytes := 32,
      z := [AV.int IntKind.i64 (0), AV.nilsl],
      ty :=
        some
          ((Ty.int IntKind.i64).pair
            ((Ty.int IntKind.i64).pair (Ty.str.pair (Ty.str.pair Ty.str.list))).list) },
    { d := TD.map 9 53, sz := 1, bytes := 8, z := [AV.nilmap] },
    { d := TD.struct [(3, 0), (34, 1)], sz := 2, bytes := 16,
      z := [AV.int IntKind.i64 (0), AV.nilmap] },
    { d := TD.struct [(3, 0), (34, 1)], sz := 2, bytes := 16,
      z := [AV.int IntKind.i64 (0), AV.nilmap] },
    { d := TD.struct [(3, 0), (9, 1), (9, 2), (9, 3), (3, 4)], sz := 5, bytes := 64,
      z :=
        [AV.int IntKind.i64 (0), AV.str [], AV.str [], AV.str [],
          AV.int IntKind.i64 (0)],
      ty :=
        some
          ((Ty.int IntKind.i64).pair
            (Ty.str.pair (Ty.str.pair (Ty.str.pair (Ty.int IntKind.i64))))) },
    { d := TD.struct [(3, 0), (9, 1), (9, 2), (9, 3), (3, 4)], sz := 5, bytes := 64,
      z :=
        [AV.int IntKind.i64 (0), AV.str [], AV.str [], AV.str [],
          AV.int IntKind.i64 (0)],
      ty :=
        some
          ((Ty.int IntKind.i64).pair
            (Ty.str.pair (Ty.str.pair (Ty.str.pair (Ty.int IntKind.i64))))) },
    { d := TD.func, sz := 1, bytes := 8, z := [AV.nilfn] },
    { d := TD.func, sz := 1, bytes := 8, z := [AV.nilfn] },
    { d := TD.func, sz := 1, bytes := 8, z := [AV.nilfn] },
    { d := TD.func, sz := 1, bytes := 8, z := [AV.nilfn] },
    { d := TD.func, sz := 1, bytes := 8, z := [AV.nilfn] },
    { d := TD.func, sz := 1, bytes := 8, z := [AV.nilfn] },
    { d := TD.func, sz := 1, bytes := 8, z := [AV.nilfn] },
    { d := TD.func, sz := 1, bytes := 8, z := [AV.nilfn] },
    { d := TD.array 3 9, sz := 3, bytes := 48, z := [AV.str [], AV.str [], AV.str []],
      ty := some (Ty.str.pair (Ty.str.pair Ty.str)) },
    { d := TD.func, sz := 1, bytes := 8, z := [AV.nilfn] },
    { d := TD.struct [(3, 0), (9, 1), (9, 2), (24, 3)], sz := 4, bytes := 64,
      z := [AV.int IntKind.i64 (0), AV.str [], AV.str [], AV.nilsl],
      ty := some ((Ty.int IntKind.i64).pair (Ty.str.pair (Ty.str.pair Ty.str.list))) },
    { d := TD.struct [(3, 0), (9, 1), (9, 2), (24, 3)], sz := 4, bytes := 64,
      z := [AV.int IntKind.i64 (0), AV.str [], AV.str [], AV.nilsl],
      ty := some ((Ty.int IntKind.i64).pair (Ty.str.pair (Ty.str.pair Ty.str.list))) },
    { d := TD.map 9 3, sz := 1, bytes := 8, z := [AV.nilmap] },
    { d := TD.struct [(3, 0), (9, 1), (51, 2)], sz := 3, bytes := 32,
      z := [AV.int IntKind.i64 (0), AV.str [], AV.nilmap] },
    { d := TD.struct [(3, 0), (9, 1), (51, 2)], sz := 3, bytes := 32,
      z := [AV.int IntKind.i64 (0), AV.str [], AV.nilmap] },
    { d := TD.other, sz := 1, bytes := 0, z := [AV.undef] },
    { d := TD.func, sz := 1, bytes := 8, z := [AV.nilfn] },
    { d := TD.func, sz := 1, bytes := 8, z := [AV.nilfn] },
    { d := TD.func, sz := 1, bytes := 8, z := [AV.nilfn] },
    { d := TD.func, sz := 1, bytes := 8, z := [AV.nilfn] },
    { d := TD.func, sz := 1, bytes := 8, z := [AV.nilfn] },
    { d := TD.func, sz := 1, bytes := 8, z := [AV.nilfn] },
    { d := TD.func, sz := 1, bytes := 8, z := [AV.nilfn] },
    { d := TD.int IntKind.u64, sz := 1, bytes := 8, z := [AV.int IntKind.u64 (0)],
      ty := some (Ty.int IntKind.u64) },
    { d := TD.func, sz := 1, bytes := 8, z := [AV.nilfn] },
    { d := TD.int IntKind.i64, sz := 1, bytes := 8, z := [AV.int IntKind.i64 (0)],
      ty := some (Ty.int IntKind.i64) },
    { d := TD.other, sz := 1, bytes := 0, z := [AV.undef] },
    { d := TD.func, sz := 1, bytes := 8, z := [AV.nilfn] },
    { d := TD.func, sz := 1, bytes := 8, z := [AV.nilfn] },
    { d := TD.func, sz := 1, bytes := 8, z := [AV.nilfn] },
    { d := TD.func, sz := 1, bytes := 8, z := [AV.nilfn] },
    { d := TD.other, sz := 1, bytes := 0, z := [AV.undef] },
    { d := TD.func, sz := 1, bytes := 8, z := [AV.nilfn] },
    { d := TD.func, sz := 1, bytes := 8, z := [AV.nilfn] },
    { d := TD.func, sz := 1, bytes := 8, z := [AV.nilfn] },
    { d := TD.int IntKind.u64, sz := 1, bytes := 8, z := [AV.int IntKind.u64 (0)],
      ty := some (Ty.int IntKind.u64) },
    { d := TD.int IntKind.u64, sz := 1, bytes := 8, z := [AV.int IntKind.u64 (0)],
      ty := some (Ty.int IntKind.u64) },
    { d := TD.func, sz := 1, bytes := 8, z := [AV.nilfn] },
    { d := TD.func, sz := 1, bytes := 8, z := [AV.nilfn] },
    { d := TD.func, sz := 1, bytes := 8, z := [AV.nilfn] },
    { d := TD.ptr 3, sz := 1, bytes := 8, z := [AV.nilptr] },
    { d := TD.func, sz := 1, bytes := 8, z := [AV.nilfn] },
    { d := TD.ptr 75, sz := 1, bytes := 8, z := [AV.nilptr] },
    { d := TD.other, sz := 1, bytes := 0, z := [AV.undef] },
    { d := TD.func, sz := 1, bytes := 8, z := [AV.nilfn] },
    { d := TD.func, sz := 1, bytes := 8, z := [AV.nilfn] },
    { d := TD.other, sz := 4, bytes := 40, z := [AV.nilptr, AV.nilptr, AV.nilptr, AV.str []] },
    { d := TD.other, sz := 4, bytes := 40, z := [AV.nilptr, AV.nilptr, AV.nilptr, AV.str []] },
    { d := TD.array 0 16, sz := 0, bytes := 0, z := [] }, { d := TD.other, sz := 0, bytes := 0, z := [] },
    { d := TD.other, sz := 0, bytes := 0, z := [] }, { d := TD.func, sz := 1, bytes := 8, z := [AV.nilfn] },
    { d := TD.int IntKind.u8, sz := 1, bytes := 1, z := [AV.int IntKind.u8 (0)],
      ty := some (Ty.int IntKind.u8) },
    { d := TD.int IntKind.u8, sz := 1, bytes := 1, z := [AV.int IntKind.u8 (0)],
      ty := some (Ty.int IntKind.u8) },
    { d := TD.func, sz := 1, bytes := 8, z := [AV.nilfn] },
    { d := TD.ptr 5, sz := 1, bytes := 8, z := [AV.nilptr] },
    { d := TD.int IntKind.i32, sz := 1, bytes := 4, z := [AV.int IntKind.i32 (0)],
      ty := some (Ty.int IntKind.i32) },
    { d := TD.int IntKind.i32, sz := 1, bytes := 4, z := [AV.int IntKind.i32 (0)],
      ty := some (Ty.int IntKind.i32) },
    { d := TD.other, sz := 11, bytes := 48,
      z :=
        [AV.int IntKind.u64 (0), AV.int IntKind.u64 (0), AV.int IntKind.u32 (0),
          AV.int IntKind.u8 (0), AV.int IntKind.u8 (0), AV.int IntKind.u8 (0),
          AV.int IntKind.u8 (0), AV.nilfn, AV.nilptr, AV.int IntKind.i32 (0),
          AV.int IntKind.i32 (0)] },
    { d := TD.other, sz := 11, bytes := 48,
      z :=
        [AV.int IntKind.u64 (0), AV.int IntKind.u64 (0), AV.int IntKind.u32 (0),
          AV.int IntKind.u8 (0), AV.int IntKind.u8 (0), AV.int IntKind.u8 (0),
          AV.int IntKind.u8 (0), AV.nilfn, AV.nilptr, AV.int IntKind.i32 (0),
          AV.int IntKind.i32 (0)] },
    { d := TD.other, sz := 1, bytes := 8, z := [AV.nilptr] }]

theorem tabOk : TabOk Go.Proofs.Try.prog typs := tabOk_of 100 (by kernel_rfl)
theorem nms : namesOk Go.Proofs.Try.prog = true := by kernel_rfl
theorem mix : Go.Proofs.Try.prog.follows .mixedOrders = true := by kernel_rfl
theorem fnsOk : FnsOk Go.Proofs.Try.prog (fnsOf Go.Proofs.Try.prog) := fnsOf_ok nms

end Go.Eng
