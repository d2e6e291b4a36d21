/- The types of the program, as the abstract machine has them; closed facts on the program. -/
import Derived.Test.YthmlpkdgmpbffaaGreatDoorEngS
import Derived.Test.YthmlpkdgmpbffaaGreatDoorProg
namespace Go.Eng
open Go

def typs : Tab :=
  [{ d := TD.other, sz := 1, bytes := 0, z := [AV.undef] },
    { d := TD.func, sz := 1, bytes := 8, z := [AV.nilfn] },
    { d := TD.int IntKind.i64, sz := 1, bytes := 8, z := [AV.int IntKind.i64 (0)],
      ty := some (Ty.int IntKind.i64) },
    { d := TD.int IntKind.i64, sz := 1, bytes := 8, z := [AV.int IntKind.i64 (0)],
      ty := some (Ty.int IntKind.i64) },
    { d := TD.bool, sz := 1, bytes := 1, z := [AV.bool false], ty := some Ty.bool },
    { d := TD.int IntKind.u8, sz := 1, bytes := 1, z := [AV.int IntKind.u8 (0)],
      ty := some (Ty.int IntKind.u8) },
    { d := TD.int IntKind.u8, sz := 1, bytes := 1, z := [AV.int IntKind.u8 (0)],
      ty := some (Ty.int IntKind.u8) },
    { d := TD.struct [(2, 0), (3, 1), (4, 2), (6, 3)], sz := 4, bytes := 24,
      z :=
        [AV.int IntKind.i64 (0), AV.int IntKind.i64 (0), AV.bool false,
          AV.int IntKind.u8 (0)],
      ty :=
        some ((Ty.int IntKind.i64).pair ((Ty.int IntKind.i64).pair (Ty.bool.pair (Ty.int IntKind.u8)))) },
    { d := TD.struct [(2, 0), (3, 1), (4, 2), (6, 3)], sz := 4, bytes := 24,
      z :=
        [AV.int IntKind.i64 (0), AV.int IntKind.i64 (0), AV.bool false,
          AV.int IntKind.u8 (0)],
      ty :=
        some ((Ty.int IntKind.i64).pair ((Ty.int IntKind.i64).pair (Ty.bool.pair (Ty.int IntKind.u8)))) },
    { d := TD.str, sz := 1, bytes := 16, z := [AV.str []], ty := some Ty.str },
    { d := TD.str, sz := 1, bytes := 16, z := [AV.str []], ty := some Ty.str },
    { d := TD.str, sz := 1, bytes := 16, z := [AV.str []], ty := some Ty.str },
    { d := TD.int IntKind.u64, sz := 1, bytes := 8, z := [AV.int IntKind.u64 (0)],
      ty := some (Ty.int IntKind.u64) },
    { d := TD.other, sz := 2, bytes := 24, z := [AV.str [], AV.int IntKind.u64 (0)] },
    { d := TD.other, sz := 2, bytes := 24, z := [AV.str [], AV.int IntKind.u64 (0)] },
    { d := TD.ptr 164, sz := 1, bytes := 8, z := [AV.nilptr] },
    { d := TD.ptr 167, sz := 1, bytes := 8, z := [AV.nilptr] },
    { d := TD.ptr 174, sz := 1, bytes := 8, z := [AV.nilptr] },
    { d := TD.other, sz := 1, bytes := 8, z := [AV.nilptr] },
    { d := TD.other, sz := 1, bytes := 8, z := [AV.nilptr] },
    { d := TD.other, sz := 1, bytes := 16, z := [AV.niliface] },
    { d := TD.int IntKind.i32, sz := 1, bytes := 4, z := [AV.int IntKind.i32 (0)],
      ty := some (Ty.int IntKind.i32) },
    { d := TD.func, sz := 1, bytes := 8, z := [AV.nilfn] },
    { d := TD.slice 90, sz := 1, bytes := 24, z := [AV.nilsl],
      ty := some (Ty.str.pair ((Ty.int IntKind.i64).pair (Ty.int IntKind.i64).list)).list },
    { d := TD.struct [(3, 0), (9, 1), (9, 2), (9, 3), (9, 4), (23, 5), (3, 6)], sz := 7, bytes := 104,
      z :=
        [AV.int IntKind.i64 (0), AV.str [], AV.str [], AV.str [], AV.str [], AV.nilsl,
          AV.int IntKind.i64 (0)],
      ty :=
        some
          ((Ty.int IntKind.i64).pair
            (Ty.str.pair
              (Ty.str.pair
                (Ty.str.pair
                  (Ty.str.pair
                    ((Ty.str.pair ((Ty.int IntKind.i64).pair (Ty.int IntKind.i64).list)).list.pair
                      (Ty.int IntKind.i64))))))) },
    { d := TD.struct [(3, 0), (9, 1), (9, 2), (9, 3), (9, 4), (23, 5), (3, 6)], sz := 7, bytes := 104,
      z :=
        [AV.int IntKind.i64 (0), AV.str [], AV.str [], AV.str [], AV.str [], AV.nilsl,
          AV.int IntKind.i64 (0)],
      ty :=
        some
          ((Ty.int IntKind.i64).pair
            (Ty.str.pair
              (Ty.str.pair
                (Ty.str.pair
                  (Ty.str.pair
                    ((Ty.str.pair ((Ty.int IntKind.i64).pair (Ty.int IntKind.i64).list)).list.pair
                      (Ty.int IntKind.i64))))))) },
    { d := TD.struct [(9, 0), (9, 1), (9, 2), (4, 3)], sz := 4, bytes := 56,
      z := [AV.str [], AV.str [], AV.str [], AV.bool false],
      ty := some (Ty.str.pair (Ty.str.pair (Ty.str.pair Ty.bool))) },
    { d := TD.struct [(9, 0), (9, 1), (9, 2), (4, 3)], sz := 4, bytes := 56,
      z := [AV.str [], AV.str [], AV.str [], AV.bool false],
      ty := some (Ty.str.pair (Ty.str.pair (Ty.str.pair Ty.bool))) },
    { d := TD.struct [(3, 0), (9, 1), (9, 2), (9, 3), (9, 4), (3, 5), (27, 6)], sz := 10, bytes := 136,
      z :=
        [AV.int IntKind.i64 (0), AV.str [], AV.str [], AV.str [], AV.str [],
          AV.int IntKind.i64 (0), AV.str [], AV.str [], AV.str [], AV.bool false],
      ty :=
        some
          ((Ty.int IntKind.i64).pair
            (Ty.str.pair
              (Ty.str.pair
                (Ty.str.pair
                  (Ty.str.pair
                    ((Ty.int IntKind.i64).pair
                      (Ty.str.pair (Ty.str.pair (Ty.str.pair Ty.bool))))))))) },
    { d := TD.struct [(3, 0), (9, 1), (9, 2), (9, 3), (9, 4), (3, 5), (27, 6)], sz := 10, bytes := 136,
      z :=
        [AV.int IntKind.i64 (0), AV.str [], AV.str [], AV.str [], AV.str [],
          AV.int IntKind.i64 (0), AV.str [], AV.str [], AV.str [], AV.bool false],
      ty :=
        some
          ((Ty.int IntKind.i64).pair
            (Ty.str.pair
              (Ty.str.pair
                (Ty.str.pair
                  (Ty.str.pair
                    ((Ty.int IntKind.i64).pair
                      (Ty.str.pair (Ty.str.pair (Ty.str.pair Ty.bool))))))))) },
    { d := TD.struct [(3, 0), (9, 1), (9, 2), (9, 3), (3, 4), (25, 5), (29, 12)], sz := 22, bytes := 304,
      z :=
        [AV.int IntKind.i64 (0), AV.str [], AV.str [], AV.str [],
          AV.int IntKind.i64 (0), AV.int IntKind.i64 (0), AV.str [], AV.str [],
          AV.str [], AV.str [], AV.nilsl, AV.int IntKind.i64 (0),
          AV.int IntKind.i64 (0), AV.str [], AV.str [], AV.str [], AV.str [],
          AV.int IntKind.i64 (0), AV.str [], AV.str [], AV.str [], AV.bool false],
      ty :=
        some
          ((Ty.int IntKind.i64).pair
            (Ty.str.pair
              (Ty.str.pair
                (Ty.str.pair
                  ((Ty.int IntKind.i64).pair
                    (((Ty.int IntKind.i64).pair
                          (Ty.str.pair
                            (Ty.str.pair
                              (Ty.str.pair
                                (Ty.str.pair
                                  ((Ty.str.pair
                                          ((Ty.int IntKind.i64).pair (Ty.int IntKind.i64).list)).list.pair
                                    (Ty.int IntKind.i64))))))).pair
                      ((Ty.int IntKind.i64).pair
                        (Ty.str.pair
                          (Ty.str.pair
                            (Ty.str.pair
                              (Ty.str.pair
                                ((Ty.int IntKind.i64).pair
                                  (Ty.str.pair (Ty.str.pair (Ty.str.pair Ty.bool))))))))))))))) },
    { d := TD.struct [(3, 0), (9, 1), (9, 2), (9, 3), (3, 4), (25, 5), (29, 12)], sz := 22, bytes := 304,
      z :=
        [AV.int IntKind.i64 (0), AV.str [], AV.str [], AV.str [],
          AV.int IntKind.i64 (0), AV.int IntKind.i64 (0), AV.str [], AV.str [],
          AV.str [], AV.str [], AV.nilsl, AV.int IntKind.i64 (0),
          AV.int IntKind.i64 (0), AV.str [], AV.str [], AV.str [], AV.str [],
          AV.int IntKind.i64 (0), AV.str [], AV.str [], AV.str [], AV.bool false],
      ty :=
        some
          ((Ty.int IntKind.i64).pair
            (Ty.str.pair
              (Ty.str.pair
                (Ty.str.pair
                  ((Ty.int IntKind.i64).pair
                    (((Ty.int IntKind.i64).pair
                          (Ty.str.pair
                            (Ty.str.pair
                              (Ty.str.pair
                                (Ty.str.pair
                                  ((Ty.str.pair
                                          ((Ty.int IntKind.i64).pair (Ty.int IntKind.i64).list)).list.pair
                                    (Ty.int IntKind.i64))))))).pair
                      ((Ty.int IntKind.i64).pair
                        (Ty.str.pair
                          (Ty.str.pair
                            (Ty.str.pair
                              (Ty.str.pair
                                ((Ty.int IntKind.i64).pair
                                  (Ty.str.pair (Ty.str.pair (Ty.str.pair Ty.bool))))))))))))))) },
    { d := TD.int IntKind.i64, sz := 1, bytes := 8, z := [AV.int IntKind.i64 (0)],
      ty := some (Ty.int IntKind.i64) },
    { d := TD.other, sz := 1, bytes := 0, z := [AV.undef] },
    { d := TD.func, sz := 1, bytes := 8, z := [AV.nilfn] },
    { d := TD.slice 31, sz := 1, bytes := 24, z := [AV.nilsl],
      ty :=
        some
          ((Ty.int IntKind.i64).pair
              (Ty.str.pair
                (Ty.str.pair
                  (Ty.str.pair
                    ((Ty.int IntKind.i64).pair
                      (((Ty.int IntKind.i64).pair
                            (Ty.str.pair
                              (Ty.str.pair
                                (Ty.str.pair
                                  (Ty.str.pair
                                    ((Ty.str.pair
                                            ((Ty.int IntKind.i64).pair (Ty.int IntKind.i64).list)).list.pair
                                      (Ty.int IntKind.i64))))))).pair
                        ((Ty.int IntKind.i64).pair
                          (Ty.str.pair
                            (Ty.str.pair
                              (Ty.str.pair
                                (Ty.str.pair
                                  ((Ty.int IntKind.i64).pair
                                    (Ty.str.pair (Ty.str.pair (Ty.str.pair Ty.bool))))))))))))))).list },
    { d := TD.other, sz := 1, bytes := 0, z := [AV.undef] },
    { d := TD.func, sz := 1, bytes := 8, z := [AV.nilfn] },
    { d := TD.func, sz := 1, bytes := 8, z := [AV.nilfn] },
    { d := TD.func, sz := 1, bytes := 8, z := [AV.nilfn] },
    { d := TD.func, sz := 1, bytes := 8, z := [AV.nilfn] },
    { d := TD.func, sz := 1, bytes := 8, z := [AV.nilfn] },
    { d := TD.func, sz := 1, bytes := 8, z := [AV.nilfn] },
    { d := TD.func, sz := 1, bytes := 8, z := [AV.nilfn] },
    { d := TD.func, sz := 1, bytes := 8, z := [AV.nilfn] },
    { d := TD.other, sz := 1, bytes := 0, z := [AV.undef] },
    { d := TD.func, sz := 1, bytes := 8, z := [AV.nilfn] },
    { d := TD.func, sz := 1, bytes := 8, z := [AV.nilfn] },
    { d := TD.ptr 52, sz := 1, bytes := 8, z := [AV.nilptr] },
    { d := TD.slice 9, sz := 1, bytes := 24, z := [AV.nilsl], ty := some Ty.str.list },
    { d := TD.func, sz := 1, bytes := 8, z := [AV.nilfn] },
    { d := TD.struct [(49, 0), (4, 1)], sz := 2, bytes := 32, z := [AV.nilsl, AV.bool false],
      ty := some (Ty.str.list.pair Ty.bool) },
    { d := TD.struct [(49, 0), (4, 1)], sz := 2, bytes := 32, z := [AV.nilsl, AV.bool false],
      ty := some (Ty.str.list.pair Ty.bool) },
    { d := TD.func, sz := 1, bytes := 8, z := [AV.nilfn] },
    { d := TD.func, sz := 1, bytes := 8, z := [AV.nilfn] },
    { d := TD.func, sz := 1, bytes := 8, z := [AV.nilfn] },
    { d := TD.func, sz := 1, bytes := 8, z := [AV.nilfn] },
    { d := TD.func, sz := 1, bytes := 8, z := [AV.nilfn] },
    { d := TD.slice 25, sz := 1, bytes := 24, z := [AV.nilsl],
      ty :=
        some
          ((Ty.int IntKind.i64).pair
              (Ty.str.pair
                (Ty.str.pair
                  (Ty.str.pair
                    (Ty.str.pair
                      ((Ty.str.pair ((Ty.int IntKind.i64).pair (Ty.int IntKind.i64).list)).list.pair
                        (Ty.int IntKind.i64))))))).list },
    { d := TD.func, sz := 1, bytes := 8, z := [AV.nilfn] },
    { d := TD.func, sz := 1, bytes := 8, z := [AV.nilfn] },
    { d := TD.ptr 64, sz := 1, bytes := 8, z := [AV.nilptr] },
    { d := TD.slice 5, sz := 1, bytes := 24, z := [AV.nilsl], ty := some (Ty.int IntKind.u8).list },
    { d := TD.struct [(61, 0), (62, 1)], sz := 2, bytes := 32, z := [AV.nilptr, AV.nilsl] },
    { d := TD.struct [(61, 0), (62, 1)], sz := 2, bytes := 32, z := [AV.nilptr, AV.nilsl] },
    { d := TD.other, sz := 1, bytes := 16, z := [AV.niliface] },
    { d := TD.other, sz := 1, bytes := 16, z := [AV.niliface] },
    { d := TD.other, sz := 1, bytes := 0, z := [AV.undef] },
    { d := TD.func, sz := 1, bytes := 8, z := [AV.nilfn] },
    { d := TD.func, sz := 1, bytes := 8, z := [AV.nilfn] },
    { d := TD.func, sz := 1, bytes := 8, z := [AV.nilfn] },
    { d := TD.func, sz := 1, bytes := 8, z := [AV.nilfn] },
    { d := TD.func, sz := 1, bytes := 8, z := [AV.nilfn] },
    { d := TD.func, sz := 1, bytes := 8, z := [AV.nilfn] },
    { d := TD.func, sz := 1, bytes := 8, z := [AV.nilfn] },
    { d := TD.int IntKind.u64, sz := 1, bytes := 8, z := [AV.int IntKind.u64 (0)],
      ty := some (Ty.int IntKind.u64) },
    { d := TD.func, sz := 1, bytes := 8, z := [AV.nilfn] },
    { d := TD.func, sz := 1, bytes := 8, z := [AV.nilfn] },
    { d := TD.func, sz := 1, bytes := 8, z := [AV.nilfn] },
    { d := TD.func, sz := 1, bytes := 8, z := [AV.nilfn] },
    { d := TD.ptr 9, sz := 1, bytes := 8, z := [AV.nilptr] },
    { d := TD.ptr 25, sz := 1, bytes := 8, z := [AV.nilptr] },
    { d := TD.func, sz := 1, bytes := 8, z := [AV.nilfn] },
    { d := TD.ptr 29, sz := 1, bytes := 8, z := [AV.nilptr] },
    { d := TD.array 15 9, sz := 15, bytes := 240,
      z :=
        [AV.str [], AV.str [], AV.str [], AV.str [], AV.str [], AV.str [], AV.str [],
          AV.str [], AV.str [], AV.str [], AV.str [], AV.str [], AV.str [], AV.str [],
          AV.str []] },
    { d := TD.func, sz := 1, bytes := 8, z := [AV.nilfn] },
    { d := TD.other, sz := 1, bytes := 0, z := [AV.undef] },
    { d := TD.func, sz := 1, bytes := 8, z := [AV.nilfn] },
    { d := TD.slice 3, sz := 1, bytes := 24, z := [AV.nilsl], ty := some (Ty.int IntKind.i64).list },
    { d := TD.struct [(9, 0), (3, 1), (88, 2)], sz := 3, bytes := 48,
      z := [AV.str [], AV.int IntKind.i64 (0), AV.nilsl],
      ty := some (Ty.str.pair ((Ty.int IntKind.i64).pair (Ty.int IntKind.i64).list)) },
    { d := TD.struct [(9, 0), (3, 1), (88, 2)], sz := 3, bytes := 48,
      z := [AV.str [], AV.int IntKind.i64 (0), AV.nilsl],
      ty := some (Ty.str.pair ((Ty.int IntKind.i64).pair (Ty.int IntKind.i64).list)) },
    { d := TD.func, sz := 1, bytes := 8, z := [AV.nilfn] },
    { d := TD.slice 121, sz := 1, bytes := 24, z := [AV.nilsl],
      ty :=
        some
          ((Ty.str.pair (Ty.int IntKind.i64)).pair
              (Ty.str.pair (Ty.bool.pair (Ty.int IntKind.i64)))).list },
    { d := TD.struct [(23, 0), (92, 1)], sz := 2, bytes := 48, z := [AV.nilsl, AV.nilsl],
      ty :=
        some
          ((Ty.str.pair ((Ty.int IntKind.i64).pair (Ty.int IntKind.i64).list)).list.pair
            ((Ty.str.pair (Ty.int IntKind.i64)).pair
                (Ty.str.pair (Ty.bool.pair (Ty.int IntKind.i64)))).list) },
    { d := TD.struct [(23, 0), (92, 1)], sz := 2, bytes := 48, z := [AV.nilsl, AV.nilsl],
      ty :=
        some
          ((Ty.str.pair ((Ty.int IntKind.i64).pair (Ty.int IntKind.i64).list)).list.pair
            ((Ty.str.pair (Ty.int IntKind.i64)).pair
                (Ty.str.pair (Ty.bool.pair (Ty.int IntKind.i64)))).list) },
    { d := TD.func, sz := 1, bytes := 8, z := [AV.nilfn] },
    { d := TD.func, sz := 1, bytes := 8, z := [AV.nilfn] },
    { d := TD.slice 27, sz := 1, bytes := 24, z := [AV.nilsl],
      ty := some (Ty.str.pair (Ty.str.pair (Ty.str.pair Ty.bool))).list },
    { d := TD.ptr 5, sz := 1, bytes := 8, z := [AV.nilptr] },
    { d := TD.array 14 9, sz := 14, bytes := 224,
      z :=
        [AV.str [], AV.str [], AV.str [], AV.str [], AV.str [], AV.str [], AV.str [],
          AV.str [], AV.str [], AV.str [], AV.str [], AV.str [], AV.str [], AV.str []] },
    { d := TD.func, sz := 1, bytes := 8, z := [AV.nilfn] },
    { d := TD.func, sz := 1, bytes := 8, z := [AV.nilfn] },
    { d := TD.func, sz := 1, bytes := 8, z := [AV.nilfn] },
    { d := TD.func, sz := 1, bytes := 8, z := [AV.nilfn] },
    { d := TD.func, sz := 1, bytes := 8, z := [AV.nilfn] },
    { d := TD.func, sz := 1, bytes := 8, z := [AV.nilfn] },
    { d := TD.slice 80, sz := 1, bytes := 24, z := [AV.nilsl] },
    { d := TD.func, sz := 1, bytes := 8, z := [AV.nilfn] },
    { d := TD.func, sz := 1, bytes := 8, z := [AV.nilfn] },
    { d := TD.func, sz := 1, bytes := 8, z := [AV.nilfn] },
    { d := TD.func, sz := 1, bytes := 8, z := [AV.nilfn] },
    { d := TD.other, sz := 1, bytes := 8, z := [AV.nilptr] },
    { d := TD.func, sz := 1, bytes := 8, z := [AV.nilfn] },
    { d := TD.other, sz := 1, bytes := 0, z := [AV.undef] },
    { d := TD.func, sz := 1, bytes := 8, z := [AV.nilfn] },
    { d := TD.other, sz := 1, bytes := 0, z := [AV.undef] },
    { d := TD.func, sz := 1, bytes := 8, z := [AV.nilfn] },
    { d := TD.func, sz := 1, bytes := 8, z := [AV.nilfn] },
    { d := TD.struct [(9, 0), (3, 1)], sz := 2, bytes := 24,
      z := [AV.str [], AV.int IntKind.i64 (0)], ty := some (Ty.str.pair (Ty.int IntKind.i64)) },
    { d := TD.struct [(9, 0), (3, 1)], sz := 2, bytes := 24,
      z := [AV.str [], AV.int IntKind.i64 (0)], ty := some (Ty.str.pair (Ty.int IntKind.i64)) },
    { d := TD.struct [(119, 0), (9, 2), (4, 3), (3, 4)], sz := 5, bytes := 56,
      z :=
        [AV.str [], AV.int IntKind.i64 (0), AV.str [], AV.bool false,
          AV.int IntKind.i64 (0)],
      ty :=
        some
          ((Ty.str.pair (Ty.int IntKind.i64)).pair
            (Ty.str.pair (Ty.bool.pair (Ty.int IntKind.i64)))) },
    { d := TD.struct [(119, 0), (9, 2), (4, 3), (3, 4)], sz := 5, bytes := 56,
      z :=
        [AV.str [], AV.int IntKind.i64 (0), AV.str [], AV.bool false,
          AV.int IntKind.i64 (0)],
      ty :=
        some
          ((Ty.str.pair (Ty.int IntKind.i64)).pair
            (Ty.str.pair (Ty.bool.pair (Ty.int IntKind.i64)))) },
    { d := TD.func, sz := 1, bytes := 8, z := [AV.nilfn] },
    { d := TD.func, sz := 1, bytes := 8, z := [AV.nilfn] },
    { d := TD.func, sz := 1, bytes := 8, z := [AV.nilfn] },
    { d := TD.func, sz := 1, bytes := 8, z := [AV.nilfn] },
    { d := TD.array 24 5, sz := 24, bytes := 24,
      z :=
        [AV.int IntKind.u8 (0), AV.int IntKind.u8 (0), AV.int IntKind.u8 (0),
          AV.int IntKind.u8 (0), AV.int IntKind.u8 (0), AV.int IntKind.u8 (0),
          AV.int IntKind.u8 (0), AV.int IntKind.u8 (0), AV.int IntKind.u8 (0),
          AV.int IntKind.u8 (0), AV.int IntKind.u8 (0), AV.int IntKind.u8 (0),
          AV.int IntKind.u8 (0), AV.int IntKind.u8 (0), AV.int IntKind.u8 (0),
          AV.int IntKind.u8 (0), AV.int IntKind.u8 (0), AV.int IntKind.u8 (0),
          AV.int IntKind.u8 (0), AV.int IntKind.u8 (0), AV.int IntKind.u8 (0),
          AV.int IntKind.u8 (0), AV.int IntKind.u8 (0),
          AV.int IntKind.u8 (0)] },
    { d := TD.int IntKind.u64, sz := 1, bytes := 8, z := [AV.int IntKind.u64 (0)],
      ty := some (Ty.int IntKind.u64) },
    { d := TD.func, sz := 1, bytes := 8, z := [AV.nilfn] },
    { d := TD.func, sz := 1, bytes := 8, z := [AV.nilfn] },
    { d := TD.other, sz := 1, bytes := 0, z := [AV.undef] },
    { d := TD.func, sz := 1, bytes := 8, z := [AV.nilfn] },
    { d := TD.array 256 5, sz := 256, bytes := 256,
      z :=
        [AV.int IntKind.u8 (0), AV.int IntKind.u8 (0), AV.int IntKind.u8 (0),
          AV.int IntKind.u8 (0), AV.int IntKind.u8 (0), AV.int IntKind.u8 (0),
          AV.int IntKind.u8 (0), AV.int IntKind.u8 (0), AV.int IntKind.u8 (0),
          AV.int IntKind.u8 (0), AV.int IntKind.u8 (0), AV.int IntKind.u8 (0),
          AV.int IntKind.u8 (0), AV.int IntKind.u8 (0), AV.int IntKind.u8 (0),
          AV.int IntKind.u8 (0), AV.int IntKind.u8 (0), AV.int IntKind.u8 (0),
          AV.int IntKind.u8 (0), AV.int IntKind.u8 (0), AV.int IntKind.u8 (0),
          AV.int IntKind.u8 (0), AV.int IntKind.u8 (0), AV.int IntKind.u8 (0),
          AV.int IntKind.u8 (0), AV.int IntKind.u8 (0), AV.int IntKind.u8 (0),
          AV.int IntKind.u8 (0), AV.int IntKind.u8 (0), AV.int IntKind.u8 (0),
          AV.int IntKind.u8 (0), AV.int IntKind.u8 (0), AV.int IntKind.u8 (0),
          AV.int IntKind.u8 (0), AV.int IntKind.u8 (0), AV.int IntKind.u8 (0),
          AV.int IntKind.u8 (0), AV.int IntKind.u8 (0), AV.int IntKind.u8 (0),
          AV.int IntKind.u8 (0), AV.int IntKind.u8 (0), AV.int IntKind.u8 (0),
          AV.int IntKind.u8 (0), AV.int IntKind.u8 (0), AV.int IntKind.u8 (0),
          AV.int IntKind.u8 (0), AV.int IntKind.u8 (0), AV.int IntKind.u8 (0),
          AV.int IntKind.u8 (0), AV.int IntKind.u8 (0), AV.int IntKind.u8 (0),
          AV.int IntKind.u8 (0), AV.int IntKind.u8 (0), AV.int IntKind.u8 (0),
          AV.int IntKind.u8 (0), AV.int IntKind.u8 (0), AV.int IntKind.u8 (0),
          AV.int IntKind.u8 (0), AV.int IntKind.u8 (0), AV.int IntKind.u8 (0),
          AV.int IntKind.u8 (0), AV.int IntKind.u8 (0), AV.int IntKind.u8 (0),
          AV.int IntKind.u8 (0), AV.int IntKind.u8 (0), AV.int IntKind.u8 (0),
          AV.int IntKind.u8 (0), AV.int IntKind.u8 (0), AV.int IntKind.u8 (0),
          AV.int IntKind.u8 (0), AV.int IntKind.u8 (0), AV.int IntKind.u8 (0),
          AV.int IntKind.u8 (0), AV.int IntKind.u8 (0), AV.int IntKind.u8 (0),
          AV.int IntKind.u8 (0), AV.int IntKind.u8 (0), AV.int IntKind.u8 (0),
          AV.int IntKind.u8 (0), AV.int IntKind.u8 (0), AV.int IntKind.u8 (0),
          AV.int IntKind.u8 (0), AV.int IntKind.u8 (0), AV.int IntKind.u8 (0),
          AV.int IntKind.u8 (0), AV.int IntKind.u8 (0), AV.int IntKind.u8 (0),
          AV.int IntKind.u8 (0), AV.int IntKind.u8 (0), AV.int IntKind.u8 (0),
          AV.int IntKind.u8 (0), AV.int IntKind.u8 (0), AV.int IntKind.u8 (0),
          AV.int IntKind.u8 (0), AV.int IntKind.u8 (0), AV.int IntKind.u8 (0),
          AV.int IntKind.u8 (0), AV.int IntKind.u8 (0), AV.int IntKind.u8 (0),
          AV.int IntKind.u8 (0), AV.int IntKind.u8 (0), AV.int IntKind.u8 (0),
          AV.int IntKind.u8 (0), AV.int IntKind.u8 (0), AV.int IntKind.u8 (0),
          AV.int IntKind.u8 (0), AV.int IntKind.u8 (0), AV.int IntKind.u8 (0),
          AV.int IntKind.u8 (0), AV.int IntKind.u8 (0), AV.int IntKind.u8 (0),
          AV.int IntKind.u8 (0), AV.int IntKind.u8 (0), AV.int IntKind.u8 (0),
          AV.int IntKind.u8 (0), AV.int IntKind.u8 (0), AV.int IntKind.u8 (0),
          AV.int IntKind.u8 (0), AV.int IntKind.u8 (0), AV.int IntKind.u8 (0),
          AV.int IntKind.u8 (0), AV.int IntKind.u8 (0), AV.int IntKind.u8 (0),
          AV.int IntKind.u8 (0), AV.int IntKind.u8 (0), AV.int IntKind.u8 (0),
          AV.int IntKind.u8 (0), AV.int IntKind.u8 (0), AV.int IntKind.u8 (0),
          AV.int IntKind.u8 (0), AV.int IntKind.u8 (0), AV.int IntKind.u8 (0),
          AV.int IntKind.u8 (0), AV.int IntKind.u8 (0), AV.int IntKind.u8 (0),
          AV.int IntKind.u8 (0), AV.int IntKind.u8 (0), AV.int IntKind.u8 (0),
          AV.int IntKind.u8 (0), AV.int IntKind.u8 (0), AV.int IntKind.u8 (0),
          AV.int IntKind.u8 (0), AV.int IntKind.u8 (0), AV.int IntKind.u8 (0),
          AV.int IntKind.u8 (0), AV.int IntKind.u8 (0), AV.int IntKind.u8 (0),
          AV.int IntKind.u8 (0), AV.int IntKind.u8 (0), AV.int IntKind.u8 (0),
          AV.int IntKind.u8 (0), AV.int IntKind.u8 (0), AV.int IntKind.u8 (0),
          AV.int IntKind.u8 (0), AV.int IntKind.u8 (0), AV.int IntKind.u8 (0),
          AV.int IntKind.u8 (0), AV.int IntKind.u8 (0), AV.int IntKind.u8 (0),
          AV.int IntKind.u8 (0), AV.int IntKind.u8 (0), AV.int IntKind.u8 (0),
          AV.int IntKind.u8 (0), AV.int IntKind.u8 (0), AV.int IntKind.u8 (0),
          AV.int IntKind.u8 (0), AV.int IntKind.u8 (0), AV.int IntKind.u8 (0),
          AV.int IntKind.u8 (0), AV.int IntKind.u8 (0), AV.int IntKind.u8 (0),
          AV.int IntKind.u8 (0), AV.int IntKind.u8 (0), AV.int IntKind.u8 (0),
          AV.int IntKind.u8 (0), AV.int IntKind.u8 (0), AV.int IntKind.u8 (0),
          AV.int IntKind.u8 (0), AV.int IntKind.u8 (0), AV.int IntKind.u8 (0),
          AV.int IntKind.u8 (0), AV.int IntKind.u8 (0), AV.int IntKind.u8 (0),
          AV.int IntKind.u8 (0), AV.int IntKind.u8 (0), AV.int IntKind.u8 (0),
          AV.int IntKind.u8 (0), AV.int IntKind.u8 (0), AV.int IntKind.u8 (0),
          AV.int IntKind.u8 (0), AV.int IntKind.u8 (0), AV.int IntKind.u8 (0),
          AV.int IntKind.u8 (0), AV.int IntKind.u8 (0), AV.int IntKind.u8 (0),
          AV.int IntKind.u8 (0), AV.int IntKind.u8 (0), AV.int IntKind.u8 (0),
          AV.int IntKind.u8 (0), AV.int IntKind.u8 (0), AV.int IntKind.u8 (0),
          AV.int IntKind.u8 (0), AV.int IntKind.u8 (0), AV.int IntKind.u8 (0),
          AV.int IntKind.u8 (0), AV.int IntKind.u8 (0), AV.int IntKind.u8 (0),
          AV.int IntKind.u8 (0), AV.int IntKind.u8 (0), AV.int IntKind.u8 (0),
          AV.int IntKind.u8 (0), AV.int IntKind.u8 (0), AV.int IntKind.u8 (0),
          AV.int IntKind.u8 (0), AV.int IntKind.u8 (0), AV.int IntKind.u8 (0),
          AV.int IntKind.u8 (0), AV.int IntKind.u8 (0), AV.int IntKind.u8 (0),
          AV.int IntKind.u8 (0), AV.int IntKind.u8 (0), AV.int IntKind.u8 (0),
          AV.int IntKind.u8 (0), AV.int IntKind.u8 (0), AV.int IntKind.u8 (0),
          AV.int IntKind.u8 (0), AV.int IntKind.u8 (0), AV.int IntKind.u8 (0),
          AV.int IntKind.u8 (0), AV.int IntKind.u8 (0), AV.int IntKind.u8 (0),
          AV.int IntKind.u8 (0), AV.int IntKind.u8 (0), AV.int IntKind.u8 (0),
          AV.int IntKind.u8 (0), AV.int IntKind.u8 (0), AV.int IntKind.u8 (0),
          AV.int IntKind.u8 (0), AV.int IntKind.u8 (0), AV.int IntKind.u8 (0),
          AV.int IntKind.u8 (0), AV.int IntKind.u8 (0), AV.int IntKind.u8 (0),
          AV.int IntKind.u8 (0), AV.int IntKind.u8 (0), AV.int IntKind.u8 (0),
          AV.int IntKind.u8 (0), AV.int IntKind.u8 (0), AV.int IntKind.u8 (0),
          AV.int IntKind.u8 (0), AV.int IntKind.u8 (0), AV.int IntKind.u8 (0),
          AV.int IntKind.u8 (0), AV.int IntKind.u8 (0), AV.int IntKind.u8 (0),
          AV.int IntKind.u8 (0)] },
    { d := TD.struct [(5, 0), (5, 1)], sz := 2, bytes := 2,
      z := [AV.int IntKind.u8 (0), AV.int IntKind.u8 (0)],
      ty := some ((Ty.int IntKind.u8).pair (Ty.int IntKind.u8)) },
    { d := TD.struct [(5, 0), (5, 1)], sz := 2, bytes := 2,
      z := [AV.int IntKind.u8 (0), AV.int IntKind.u8 (0)],
      ty := some ((Ty.int IntKind.u8).pair (Ty.int IntKind.u8)) },
    { d := TD.array 16 134, sz := 32, bytes := 32,
      z :=
        [AV.int IntKind.u8 (0), AV.int IntKind.u8 (0), AV.int IntKind.u8 (0),
          AV.int IntKind.u8 (0), AV.int IntKind.u8 (0), AV.int IntKind.u8 (0),
          AV.int IntKind.u8 (0), AV.int IntKind.u8 (0), AV.int IntKind.u8 (0),
          AV.int IntKind.u8 (0), AV.int IntKind.u8 (0), AV.int IntKind.u8 (0),
          AV.int IntKind.u8 (0), AV.int IntKind.u8 (0), AV.int IntKind.u8 (0),
          AV.int IntKind.u8 (0), AV.int IntKind.u8 (0), AV.int IntKind.u8 (0),
          AV.int IntKind.u8 (0), AV.int IntKind.u8 (0), AV.int IntKind.u8 (0),
          AV.int IntKind.u8 (0), AV.int IntKind.u8 (0), AV.int IntKind.u8 (0),
          AV.int IntKind.u8 (0), AV.int IntKind.u8 (0), AV.int IntKind.u8 (0),
          AV.int IntKind.u8 (0), AV.int IntKind.u8 (0), AV.int IntKind.u8 (0),
          AV.int IntKind.u8 (0), AV.int IntKind.u8 (0)] },
    { d := TD.int IntKind.u32, sz := 1, bytes := 4, z := [AV.int IntKind.u32 (0)],
      ty := some (Ty.int IntKind.u32) },
    { d := TD.other, sz := 1, bytes := 0, z := [AV.undef] },
    { d := TD.func, sz := 1, bytes := 8, z := [AV.nilfn] },
    { d := TD.func, sz := 1, bytes := 8, z := [AV.nilfn] },
    { d := TD.func, sz := 1, bytes := 8, z := [AV.nilfn] },
    { d := TD.array 20 127, sz := 20, bytes := 160,
      z :=
        [AV.int IntKind.u64 (0), AV.int IntKind.u64 (0), AV.int IntKind.u64 (0),
          AV.int IntKind.u64 (0), AV.int IntKind.u64 (0),
          AV.int IntKind.u64 (0), AV.int IntKind.u64 (0),
          AV.int IntKind.u64 (0), AV.int IntKind.u64 (0),
          AV.int IntKind.u64 (0), AV.int IntKind.u64 (0),
          AV.int IntKind.u64 (0), AV.int IntKind.u64 (0),
          AV.int IntKind.u64 (0), AV.int IntKind.u64 (0),
          AV.int IntKind.u64 (0), AV.int IntKind.u64 (0),
          AV.int IntKind.u64 (0), AV.int IntKind.u64 (0),
          AV.int IntKind.u64 (0)] },
    { d := TD.array 65 5, sz := 65, bytes := 65,
      z :=
        [AV.int IntKind.u8 (0), AV.int IntKind.u8 (0), AV.int IntKind.u8 (0),
          AV.int IntKind.u8 (0), AV.int IntKind.u8 (0), AV.int IntKind.u8 (0),
          AV.int IntKind.u8 (0), AV.int IntKind.u8 (0), AV.int IntKind.u8 (0),
          AV.int IntKind.u8 (0), AV.int IntKind.u8 (0), AV.int IntKind.u8 (0),
          AV.int IntKind.u8 (0), AV.int IntKind.u8 (0), AV.int IntKind.u8 (0),
          AV.int IntKind.u8 (0), AV.int IntKind.u8 (0), AV.int IntKind.u8 (0),
          AV.int IntKind.u8 (0), AV.int IntKind.u8 (0), AV.int IntKind.u8 (0),
          AV.int IntKind.u8 (0), AV.int IntKind.u8 (0), AV.int IntKind.u8 (0),
          AV.int IntKind.u8 (0), AV.int IntKind.u8 (0), AV.int IntKind.u8 (0),
          AV.int IntKind.u8 (0), AV.int IntKind.u8 (0), AV.int IntKind.u8 (0),
          AV.int IntKind.u8 (0), AV.int IntKind.u8 (0), AV.int IntKind.u8 (0),
          AV.int IntKind.u8 (0), AV.int IntKind.u8 (0), AV.int IntKind.u8 (0),
          AV.int IntKind.u8 (0), AV.int IntKind.u8 (0), AV.int IntKind.u8 (0),
          AV.int IntKind.u8 (0), AV.int IntKind.u8 (0), AV.int IntKind.u8 (0),
          AV.int IntKind.u8 (0), AV.int IntKind.u8 (0), AV.int IntKind.u8 (0),
          AV.int IntKind.u8 (0), AV.int IntKind.u8 (0), AV.int IntKind.u8 (0),
          AV.int IntKind.u8 (0), AV.int IntKind.u8 (0), AV.int IntKind.u8 (0),
          AV.int IntKind.u8 (0), AV.int IntKind.u8 (0), AV.int IntKind.u8 (0),
          AV.int IntKind.u8 (0), AV.int IntKind.u8 (0), AV.int IntKind.u8 (0),
          AV.int IntKind.u8 (0), AV.int IntKind.u8 (0), AV.int IntKind.u8 (0),
          AV.int IntKind.u8 (0), AV.int IntKind.u8 (0), AV.int IntKind.u8 (0),
          AV.int IntKind.u8 (0), AV.int IntKind.u8 (0)] },
    { d := TD.func, sz := 1, bytes := 8, z := [AV.nilfn] },
    { d := TD.func, sz := 1, bytes := 8, z := [AV.nilfn] },
    { d := TD.int IntKind.i64, sz := 1, bytes := 8, z := [AV.int IntKind.i64 (0)],
      ty := some (Ty.int IntKind.i64) },
    { d := TD.other, sz := 1, bytes := 0, z := [AV.undef] },
    { d := TD.func, sz := 1, bytes := 8, z := [AV.nilfn] },
    { d := TD.ptr 155, sz := 1, bytes := 8, z := [AV.nilptr] },
    { d := TD.func, sz := 1, bytes := 8, z := [AV.nilfn] },
    { d := TD.func, sz := 1, bytes := 8, z := [AV.nilfn] },
    { d := TD.func, sz := 1, bytes := 8, z := [AV.nilfn] },
    { d := TD.other, sz := 1, bytes := 0, z := [AV.undef] },
    { d := TD.func, sz := 1, bytes := 8, z := [AV.nilfn] },
    { d := TD.other, sz := 3, bytes := 48, z := [AV.str [], AV.str [], AV.niliface] },
    { d := TD.other, sz := 3, bytes := 48, z := [AV.str [], AV.str [], AV.niliface] },
    { d := TD.func, sz := 1, bytes := 8, z := [AV.nilfn] },
    { d := TD.array 32 5, sz := 32, bytes := 32,
      z :=
        [AV.int IntKind.u8 (0), AV.int IntKind.u8 (0), AV.int IntKind.u8 (0),
          AV.int IntKind.u8 (0), AV.int IntKind.u8 (0), AV.int IntKind.u8 (0),
          AV.int IntKind.u8 (0), AV.int IntKind.u8 (0), AV.int IntKind.u8 (0),
          AV.int IntKind.u8 (0), AV.int IntKind.u8 (0), AV.int IntKind.u8 (0),
          AV.int IntKind.u8 (0), AV.int IntKind.u8 (0), AV.int IntKind.u8 (0),
          AV.int IntKind.u8 (0), AV.int IntKind.u8 (0), AV.int IntKind.u8 (0),
          AV.int IntKind.u8 (0), AV.int IntKind.u8 (0), AV.int IntKind.u8 (0),
          AV.int IntKind.u8 (0), AV.int IntKind.u8 (0), AV.int IntKind.u8 (0),
          AV.int IntKind.u8 (0), AV.int IntKind.u8 (0), AV.int IntKind.u8 (0),
          AV.int IntKind.u8 (0), AV.int IntKind.u8 (0), AV.int IntKind.u8 (0),
          AV.int IntKind.u8 (0), AV.int IntKind.u8 (0)] },
    { d := TD.array 64 5, sz := 64, bytes := 64,
      z :=
        [AV.int IntKind.u8 (0), AV.int IntKind.u8 (0), AV.int IntKind.u8 (0),
          AV.int IntKind.u8 (0), AV.int IntKind.u8 (0), AV.int IntKind.u8 (0),
          AV.int IntKind.u8 (0), AV.int IntKind.u8 (0), AV.int IntKind.u8 (0),
          AV.int IntKind.u8 (0), AV.int IntKind.u8 (0), AV.int IntKind.u8 (0),
          AV.int IntKind.u8 (0), AV.int IntKind.u8 (0), AV.int IntKind.u8 (0),
          AV.int IntKind.u8 (0), AV.int IntKind.u8 (0), AV.int IntKind.u8 (0),
          AV.int IntKind.u8 (0), AV.int IntKind.u8 (0), AV.int IntKind.u8 (0),
          AV.int IntKind.u8 (0), AV.int IntKind.u8 (0), AV.int IntKind.u8 (0),
          AV.int IntKind.u8 (0), AV.int IntKind.u8 (0), AV.int IntKind.u8 (0),
          AV.int IntKind.u8 (0), AV.int IntKind.u8 (0), AV.int IntKind.u8 (0),
          AV.int IntKind.u8 (0), AV.int IntKind.u8 (0), AV.int IntKind.u8 (0),
          AV.int IntKind.u8 (0), AV.int IntKind.u8 (0), AV.int IntKind.u8 (0),
          AV.int IntKind.u8 (0), AV.int IntKind.u8 (0), AV.int IntKind.u8 (0),
          AV.int IntKind.u8 (0), AV.int IntKind.u8 (0), AV.int IntKind.u8 (0),
          AV.int IntKind.u8 (0), AV.int IntKind.u8 (0), AV.int IntKind.u8 (0),
          AV.int IntKind.u8 (0), AV.int IntKind.u8 (0), AV.int IntKind.u8 (0),
          AV.int IntKind.u8 (0), AV.int IntKind.u8 (0), AV.int IntKind.u8 (0),
          AV.int IntKind.u8 (0), AV.int IntKind.u8 (0), AV.int IntKind.u8 (0),
          AV.int IntKind.u8 (0), AV.int IntKind.u8 (0), AV.int IntKind.u8 (0),
          AV.int IntKind.u8 (0), AV.int IntKind.u8 (0), AV.int IntKind.u8 (0),
          AV.int IntKind.u8 (0), AV.int IntKind.u8 (0), AV.int IntKind.u8 (0),
          AV.int IntKind.u8 (0)] },
    { d := TD.func, sz := 1, bytes := 8, z := [AV.nilfn] },
    { d := TD.ptr 162, sz := 1, bytes := 8, z := [AV.nilptr] },
    { d := TD.struct [(9, 0)], sz := 1, bytes := 16, z := [AV.str []], ty := some Ty.str },
    { d := TD.struct [(9, 0)], sz := 1, bytes := 16, z := [AV.str []], ty := some Ty.str },
    { d := TD.other, sz := 4, bytes := 40, z := [AV.nilptr, AV.nilptr, AV.nilptr, AV.str []] },
    { d := TD.other, sz := 4, bytes := 40, z := [AV.nilptr, AV.nilptr, AV.nilptr, AV.str []] },
    { d := TD.array 0 16, sz := 0, bytes := 0, z := [] }, { d := TD.other, sz := 0, bytes := 0, z := [] },
    { d := TD.other, sz := 0, bytes := 0, z := [] },
    { d := TD.int IntKind.u8, sz := 1, bytes := 1, z := [AV.int IntKind.u8 (0)],
      ty := some (Ty.int IntKind.u8) },
    { d := TD.int IntKind.u8, sz := 1, bytes := 1, z := [AV.int IntKind.u8 (0)],
      ty := some (Ty.int IntKind.u8) },
    { d := TD.func, sz := 1, bytes := 8, z := [AV.nilfn] },
    { d := TD.int IntKind.i32, sz := 1, bytes := 4, z := [AV.int IntKind.i32 (0)],
      ty := some (Ty.int IntKind.i32) },
    { d := TD.int IntKind.i32, sz := 1, bytes := 4, z := [AV.int IntKind.i32 (0)],
      ty := some (Ty.int IntKind.i32) },
    { d := TD.other, sz := 11, bytes := 48,
      z :=
        [AV.int IntKind.u64 (0), AV.int IntKind.u64 (0), AV.int IntKind.u32 (0),
          AV.int IntKind.u8 (0), AV.int IntKind.u8 (0), AV.int IntKind.u8 (0),
          AV.int IntKind.u8 (0), AV.nilfn, AV.nilptr, AV.int IntKind.i32 (0),
          AV.int IntKind.i32 (0)] },
    { d := TD.other, sz := 11, bytes := 48,
      z :=
        [AV.int IntKind.u64 (0), AV.int IntKind.u64 (0), AV.int IntKind.u32 (0),
          AV.int IntKind.u8 (0), AV.int IntKind.u8 (0), AV.int IntKind.u8 (0),
          AV.int IntKind.u8 (0), AV.nilfn, AV.nilptr, AV.int IntKind.i32 (0),
          AV.int IntKind.i32 (0)] }]

theorem tabOk : TabOk Go.Proofs.Tryz.prog typs := tabOk_of 175 (by kernel_rfl)
theorem nms : namesOk Go.Proofs.Tryz.prog = true := by kernel_rfl
theorem mix : Go.Proofs.Tryz.prog.follows .mixedOrders = true := by kernel_rfl
end Go.Eng
