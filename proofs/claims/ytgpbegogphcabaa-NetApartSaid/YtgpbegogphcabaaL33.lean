/- Lifted: 18 functions, part 1. -/
import Derived.Test.YtgpbegogphcabaaTrG
import Derived.Test.YtgpbegogphcabaaTrF
import Derived.Test.YtgpbegogphcabaaEngT
import Derived.Test.YtgpbegogphcabaaShf
import Derived.Test.YtgpbegogphcabaaTrMk
import Derived.Test.YtgpbegogphcabaaTrMp
import Derived.Test.YtgpbegogphcabaaTrO
import Derived.Test.YtgpbegogphcabaaTrS
namespace Go.Eng
open Go Go.Proofs
set_option maxRecDepth 100000
abbrev R33_Act : Type := (Int × (Str × (Str × Int)))
abbrev tR33_Act : Ty := (.pair (.int .i64) (.pair .str (.pair .str (.int .i64))))

def r33_Few_L2_step (l : List R33_Act) (i : Int) : Tree (Int ⊕ (Bool ⊕ Unit)) :=
  .ite ((decide (i < (l.length : Int))) && (decide (i < 60))) (
    ask (inb i l.length) <|
    ask ((!(!(decide ((100 : Int) < ((l.getD i.toNat (dfl tR33_Act : R33_Act)).2.1.length : Int))))) || inb i l.length) <|
    .ite ((decide ((100 : Int) < ((l.getD i.toNat (dfl tR33_Act : R33_Act)).2.1.length : Int))) || (decide ((100 : Int) < ((l.getD i.toNat (dfl tR33_Act : R33_Act)).2.2.1.length : Int)))) (
      .ret (.inr (.inl false))) (
      .ret (.inl (w64 (i + 1))))) (
    .ret (.inr (.inr ())))

def r33_Few_L2 : Lp := ⟨2, [], [], (.cons (.val false (.list tR33_Act)) (ca2 (.cons (.val false (.int .i64)) (ca (ca4 (ca8 (ca16 .nil))))))), .nil, 0, .more 0 [] (ca2 (.cons (.val false .bool) (ca2 (ca4 (ca8 (ca16 .nil)))))) .nil (.one 1 [] (.cons (.val false (.list tR33_Act)) (ca32 .nil)) .nil), fun z => .bnd (.loop (fun v => r33_Few_L2_step z.1.1 v) z.1.2.2.2.1) fun r => .sum r (fun a0 => .ret (.inl ((cu2 (a0, (cu2 (cu4 (cu8 (cu16 ())))))), ()))) (fun b0 => .ret (.inr ((z.1.1, (cu32 ())), ())))⟩

theorem r33_Few_L2_ok : r33_Few_L2.ok Try.prog (nthC (loopsOf (bodyOf Try.f24)) 0) := by
  refine Lp.lift (π := List R33_Act) (V := Int) (ρ := (Bool ⊕ Unit)) mix tabOk r33_Few_L2 (o := orT [] [] noFz) (orT_sound trivial) (allLp_of [] (by kernel_rfl) trivial rfl) (fun x v => ((x, (cu2 (v, (cu (cu4 (cu8 (cu16 ()))))))), ())) (fun x r => match r with | .inl a0 => .inl ((cu2 (a0, (cu2 (cu4 (cu8 (cu16 ())))))), ()) | .inr b0 => (.inr ((x, (cu32 ())), ()))) (fun x v => r33_Few_L2_step x v) (fun x r => .sum r (fun a0 => .ret (.inl ((cu2 (a0, (cu2 (cu4 (cu8 (cu16 ())))))), ()))) (fun b0 => .ret (.inr ((x, (cu32 ())), ())))) (fun z => z.1.1) (fun z => z.1.2.2.2.1) (fun _ => rfl) (fun _ => rfl) (fun x r Q h => match r, h with | .inl _, h => h | .inr b0, h => (h)) ?_
  intro x v; kernel_rfl

def r33_Few_T (x0 : List R33_Act) : Tree Bool :=
  .bnd (.loop (fun v => r33_Few_L2_step x0 v) 0) fun r1 =>
  .sum r1 (fun r2 =>
    .ret r2) (fun r3 =>
    .ret (decide ((x0.length : Int) ≤ 60)))

def r33_Few_g : Sig := ⟨24, (.cons (.val false (.list tR33_Act)) .nil), .vals (.val false .bool), fun z => r33_Few_T z.1, false⟩

theorem r33_Few_ok : r33_Few_g.ok Try.prog := by
  refine Sig.lift mix tabOk nms _ Try.func24 (c := (bodyOf Try.f24)) (by kernel_rfl) (o := orT [] [r33_Few_L2] noFz) (orT_sound trivial) (allLp_of [nthC (loopsOf (bodyOf Try.f24)) 0] (by kernel_rfl) ⟨r33_Few_L2_ok, trivial⟩ (by kernel_rfl)) ?_
  intro z; kernel_rfl

def net_New_T  : Tree (Unit × ((List (Str × List Str)) × ((Unit × Unit) × Unit))) :=
  .ret ((), (([] : List (Str × List Str)), (((), ()), ())))

def net_New_g : MSig := ⟨26, .nil, .nil, [], (.ref 1 0), (.map .str (.list .str) (.cells 69 (.cons (.mp 0) .nil) .nil)), none, fun z => net_New_T⟩

theorem net_New_ok : net_New_g.ok Try.prog := by
  refine MSig.lift mix tabOk nms _ Try.func26 (c := (bodyOf Try.f26)) (by kernel_rfl) (o := orT [] [] noFz) (orT_sound trivial) (allLp_of [] (by kernel_rfl) trivial rfl) (fun _ => rfl) ?_
  intro z; kernel_rfl

def net_Net_given_T (x0 : List (Str × List Str)) : Tree Bool :=
  .ret (true && true)

def net_Net_given_g : Sig := ⟨55, (.cons (.cp (.cons (.mv .str (.list .str)) .nil)) .nil), .vals (.val false .bool), fun z => net_Net_given_T z.1.1, false⟩

theorem net_Net_given_ok : net_Net_given_g.ok Try.prog := by
  refine Sig.lift mix tabOk nms _ Try.func55 (c := (bodyOf Try.f55)) (by kernel_rfl) (o := orT [] [] noFz) (orT_sound trivial) (allLp_of [] (by kernel_rfl) trivial rfl) ?_
  intro z; kernel_rfl

def slices_Clip_string_T (x0 : List Str) : Tree (List Str) :=
  ask ((decide ((x0.length : Int) = (x0.length : Int))) && (inbe (x0.length : Int) x0.length)) <|
  .ret (x0.take (x0.length : Int).toNat)

def slices_Clip_string_g : Sig := ⟨65, (.cons (.val false (.list .str)) .nil), .one (.full .str), fun z => slices_Clip_string_T z.1, ([] : List Str)⟩

theorem slices_Clip_string_ok : slices_Clip_string_g.ok Try.prog := by
  refine Sig.lift mix tabOk nms _ Try.func65 (c := (bodyOf Try.f65)) (by kernel_rfl) (o := orT [] [] noFz) (orT_sound trivial) (allLp_of [] (by kernel_rfl) trivial rfl) ?_
  intro z; kernel_rfl

def net_Net_Send_T (x0 : Str) (x1 : Str) (x2 : List (Str × List Str)) : Tree (Unit × ((Unit × Unit) × ((List (Str × List Str)) × Unit))) :=
  .bnd (net_Net_given_T x2) fun y1 =>
  .ite y1 (
    .both (
      .both (
        .both (
          .both (
            .bnd (slices_Clip_string_T ((getM .str (.list .str) x2 x0).getD ([] : List Str))) fun y20 =>
            ask (decide ((y20 ++ [x1]).length * 16 ≤ roomNat)) <|
            ask (decide ((putM .str (.list .str) x2 x0 (y20 ++ [x1])).length ≤ 9223372036854775807)) <|
            .ret ((), (((), ()), ((putM .str (.list .str) x2 x0 (y20 ++ [x1])), ())))) (
            .bnd (slices_Clip_string_T ((getM .str (.list .str) x2 x0).getD ([] : List Str))) fun y19 =>
            ask (decide ((y19 ++ [x1]).length * 16 ≤ roomNat)) <|
            ask (decide ((putM .str (.list .str) x2 x0 (y19 ++ [x1])).length ≤ 9223372036854775807)) <|
            .ret ((), (((), ()), ((putM .str (.list .str) x2 x0 (y19 ++ [x1])), ()))))) (
          .bnd (slices_Clip_string_T ((getM .str (.list .str) x2 x0).getD ([] : List Str))) fun y18 =>
          ask (decide ((y18 ++ [x1]).length * 16 ≤ roomNat)) <|
          ask (decide ((putM .str (.list .str) x2 x0 (y18 ++ [x1])).length ≤ 9223372036854775807)) <|
          .ret ((), (((), ()), ((putM .str (.list .str) x2 x0 (y18 ++ [x1])), ()))))) (
        .bnd (slices_Clip_string_T ((getM .str (.list .str) x2 x0).getD ([] : List Str))) fun y17 =>
        ask (decide ((y17 ++ [x1]).length * 16 ≤ roomNat)) <|
        ask (decide ((putM .str (.list .str) x2 x0 (y17 ++ [x1])).length ≤ 9223372036854775807)) <|
        .ret ((), (((), ()), ((putM .str (.list .str) x2 x0 (y17 ++ [x1])), ()))))) (
      .both (
        .both (
          .both (
            .both (
              .bnd (slices_Clip_string_T ((getM .str (.list .str) x2 x0).getD ([] : List Str))) fun y16 =>
              ask (decide ((y16 ++ [x1]).length * 16 ≤ roomNat)) <|
              ask (decide ((putM .str (.list .str) x2 x0 (y16 ++ [x1])).length ≤ 9223372036854775807)) <|
              .ret ((), (((), ()), ((putM .str (.list .str) x2 x0 (y16 ++ [x1])), ())))) (
              .bnd (slices_Clip_string_T ((getM .str (.list .str) x2 x0).getD ([] : List Str))) fun y15 =>
              ask (decide ((y15 ++ [x1]).length * 16 ≤ roomNat)) <|
              ask (decide ((putM .str (.list .str) x2 x0 (y15 ++ [x1])).length ≤ 9223372036854775807)) <|
              .ret ((), (((), ()), ((putM .str (.list .str) x2 x0 (y15 ++ [x1])), ()))))) (
            .bnd (slices_Clip_string_T ((getM .str (.list .str) x2 x0).getD ([] : List Str))) fun y14 =>
            ask (decide ((y14 ++ [x1]).length * 16 ≤ roomNat)) <|
            ask (decide ((putM .str (.list .str) x2 x0 (y14 ++ [x1])).length ≤ 9223372036854775807)) <|
            .ret ((), (((), ()), ((putM .str (.list .str) x2 x0 (y14 ++ [x1])), ()))))) (
          .both (
            .both (
              .both (
                .bnd (slices_Clip_string_T ((getM .str (.list .str) x2 x0).getD ([] : List Str))) fun y13 =>
                ask (decide ((y13 ++ [x1]).length * 16 ≤ roomNat)) <|
                ask (decide ((putM .str (.list .str) x2 x0 (y13 ++ [x1])).length ≤ 9223372036854775807)) <|
                .ret ((), (((), ()), ((putM .str (.list .str) x2 x0 (y13 ++ [x1])), ())))) (
                .bnd (slices_Clip_string_T ((getM .str (.list .str) x2 x0).getD ([] : List Str))) fun y12 =>
                ask (decide ((y12 ++ [x1]).length * 16 ≤ roomNat)) <|
                ask (decide ((putM .str (.list .str) x2 x0 (y12 ++ [x1])).length ≤ 9223372036854775807)) <|
                .ret ((), (((), ()), ((putM .str (.list .str) x2 x0 (y12 ++ [x1])), ()))))) (
              .both (
                .bnd (slices_Clip_string_T ((getM .str (.list .str) x2 x0).getD ([] : List Str))) fun y11 =>
                .both (
                  ask (decide ((y11 ++ [x1]).length * 16 ≤ roomNat)) <|
                  ask (decide ((putM .str (.list .str) x2 x0 (y11 ++ [x1])).length ≤ 9223372036854775807)) <|
                  .ret ((), (((), ()), ((putM .str (.list .str) x2 x0 (y11 ++ [x1])), ())))) (
                  .both (
                    ask (decide ((y11 ++ [x1]).length * 16 ≤ roomNat)) <|
                    ask (decide ((putM .str (.list .str) x2 x0 (y11 ++ [x1])).length ≤ 9223372036854775807)) <|
                    .ret ((), (((), ()), ((putM .str (.list .str) x2 x0 (y11 ++ [x1])), ())))) (
                    ask (decide ((y11 ++ [x1]).length * 16 ≤ roomNat)) <|
                    ask (decide ((putM .str (.list .str) x2 x0 (y11 ++ [x1])).length ≤ 9223372036854775807)) <|
                    .ret ((), (((), ()), ((putM .str (.list .str) x2 x0 (y11 ++ [x1])), ())))))) (
                .both (
                  .bnd (slices_Clip_string_T ((getM .str (.list .str) x2 x0).getD ([] : List Str))) fun y10 =>
                  ask (decide ((y10 ++ [x1]).length * 16 ≤ roomNat)) <|
                  ask (decide ((putM .str (.list .str) x2 x0 (y10 ++ [x1])).length ≤ 9223372036854775807)) <|
                  .ret ((), (((), ()), ((putM .str (.list .str) x2 x0 (y10 ++ [x1])), ())))) (
                  .bnd (slices_Clip_string_T ((getM .str (.list .str) x2 x0).getD ([] : List Str))) fun y9 =>
                  .both (
                    ask (decide ((y9 ++ [x1]).length * 16 ≤ roomNat)) <|
                    ask (decide ((putM .str (.list .str) x2 x0 (y9 ++ [x1])).length ≤ 9223372036854775807)) <|
                    .ret ((), (((), ()), ((putM .str (.list .str) x2 x0 (y9 ++ [x1])), ())))) (
                    ask (decide ((y9 ++ [x1]).length * 16 ≤ roomNat)) <|
                    ask (decide ((putM .str (.list .str) x2 x0 (y9 ++ [x1])).length ≤ 9223372036854775807)) <|
                    .ret ((), (((), ()), ((putM .str (.list .str) x2 x0 (y9 ++ [x1])), ())))))))) (
            .both (
              .bnd (slices_Clip_string_T ((getM .str (.list .str) x2 x0).getD ([] : List Str))) fun y8 =>
              ask (decide ((y8 ++ [x1]).length * 16 ≤ roomNat)) <|
              ask (decide ((putM .str (.list .str) x2 x0 (y8 ++ [x1])).length ≤ 9223372036854775807)) <|
              .ret ((), (((), ()), ((putM .str (.list .str) x2 x0 (y8 ++ [x1])), ())))) (
              .both (
                .bnd (slices_Clip_string_T ((getM .str (.list .str) x2 x0).getD ([] : List Str))) fun y7 =>
                ask (decide ((y7 ++ [x1]).length * 16 ≤ roomNat)) <|
                ask (decide ((putM .str (.list .str) x2 x0 (y7 ++ [x1])).length ≤ 9223372036854775807)) <|
                .ret ((), (((), ()), ((putM .str (.list .str) x2 x0 (y7 ++ [x1])), ())))) (
                .bnd (slices_Clip_string_T ((getM .str (.list .str) x2 x0).getD ([] : List Str))) fun y6 =>
                .both (
                  ask (decide ((y6 ++ [x1]).length * 16 ≤ roomNat)) <|
                  ask (decide ((putM .str (.list .str) x2 x0 (y6 ++ [x1])).length ≤ 9223372036854775807)) <|
                  .ret ((), (((), ()), ((putM .str (.list .str) x2 x0 (y6 ++ [x1])), ())))) (
                  ask (decide ((y6 ++ [x1]).length * 16 ≤ roomNat)) <|
                  ask (decide ((putM .str (.list .str) x2 x0 (y6 ++ [x1])).length ≤ 9223372036854775807)) <|
                  .ret ((), (((), ()), ((putM .str (.list .str) x2 x0 (y6 ++ [x1])), ()))))))))) (
        .both (
          .bnd (slices_Clip_string_T ((getM .str (.list .str) x2 x0).getD ([] : List Str))) fun y5 =>
          ask (decide ((y5 ++ [x1]).length * 16 ≤ roomNat)) <|
          ask (decide ((putM .str (.list .str) x2 x0 (y5 ++ [x1])).length ≤ 9223372036854775807)) <|
          .ret ((), (((), ()), ((putM .str (.list .str) x2 x0 (y5 ++ [x1])), ())))) (
          .both (
            .bnd (slices_Clip_string_T ((getM .str (.list .str) x2 x0).getD ([] : List Str))) fun y4 =>
            ask (decide ((y4 ++ [x1]).length * 16 ≤ roomNat)) <|
            ask (decide ((putM .str (.list .str) x2 x0 (y4 ++ [x1])).length ≤ 9223372036854775807)) <|
            .ret ((), (((), ()), ((putM .str (.list .str) x2 x0 (y4 ++ [x1])), ())))) (
            .both (
              .bnd (slices_Clip_string_T ((getM .str (.list .str) x2 x0).getD ([] : List Str))) fun y3 =>
              ask (decide ((y3 ++ [x1]).length * 16 ≤ roomNat)) <|
              ask (decide ((putM .str (.list .str) x2 x0 (y3 ++ [x1])).length ≤ 9223372036854775807)) <|
              .ret ((), (((), ()), ((putM .str (.list .str) x2 x0 (y3 ++ [x1])), ())))) (
              .bnd (slices_Clip_string_T ((getM .str (.list .str) x2 x0).getD ([] : List Str))) fun y2 =>
              .both (
                ask (decide ((y2 ++ [x1]).length * 16 ≤ roomNat)) <|
                ask (decide ((putM .str (.list .str) x2 x0 (y2 ++ [x1])).length ≤ 9223372036854775807)) <|
                .ret ((), (((), ()), ((putM .str (.list .str) x2 x0 (y2 ++ [x1])), ())))) (
                ask (decide ((y2 ++ [x1]).length * 16 ≤ roomNat)) <|
                ask (decide ((putM .str (.list .str) x2 x0 (y2 ++ [x1])).length ≤ 9223372036854775807)) <|
                .ret ((), (((), ()), ((putM .str (.list .str) x2 x0 (y2 ++ [x1])), ())))))))))) (
    .ret ((), (((), ()), (x2, ()))))

def net_Net_Send_g : MSig := ⟨51, (.cons (.ref 0 0) (.cons (.val false .str) (.cons (.val false .str) .nil))), (.cells 69 (.cons (.mp 1) .nil) (.map .str (.list .str) .nil)), [], .nil, (.cells 69 (.cons (.mp 1) .nil) (.map .str (.list .str) .nil)), none, fun z => net_Net_Send_T z.1.2.1 z.1.2.2.1 z.2.2.1⟩

theorem net_Net_Send_ok : net_Net_Send_g.ok Try.prog := by
  refine MSig.lift mix tabOk nms _ Try.func51 (c := (bodyOf Try.f51)) (by kernel_rfl) (o := orT [net_Net_given_g, slices_Clip_string_g] [] noFz) (orT_sound ⟨net_Net_given_ok, ⟨slices_Clip_string_ok, trivial⟩⟩) (allLp_of [] (by kernel_rfl) trivial rfl) (fun _ => rfl) ?_
  intro z; kernel_rfl

def net_Net_Len_T (x0 : List (Str × List Str)) (x1 : Str) : Tree Int :=
  .bnd (net_Net_given_T x0) fun y1 =>
  .ite (!y1) (
    .ret 0) (
    .ret (((getM .str (.list .str) x0 x1).getD ([] : List Str)).length : Int))

def net_Net_Len_g : Sig := ⟨33, (.cons (.cp (.cons (.mv .str (.list .str)) .nil)) (.cons (.val false .str) .nil)), .vals (.val false (.int .i64)), fun z => net_Net_Len_T z.1.1 z.2.1, (0 : Int)⟩

theorem net_Net_Len_ok : net_Net_Len_g.ok Try.prog := by
  refine Sig.lift mix tabOk nms _ Try.func33 (c := (bodyOf Try.f33)) (by kernel_rfl) (o := orT [net_Net_given_g] [] noFz) (orT_sound ⟨net_Net_given_ok, trivial⟩) (allLp_of [] (by kernel_rfl) trivial rfl) ?_
  intro z; kernel_rfl

def net_Net_at_T (x0 : List (Str × List Str)) (x1 : Str) (x2 : Int) : Tree (Int × Bool × Unit) :=
  .bnd (net_Net_Len_T x0 x1) fun y1 =>
  .ite (decide (y1 = 0)) (
    .ret (0, false, ())) (
    ask (!decide (y1 = 0)) <|
    ask (!decide (y1 = 0)) <|
    .ret (((w64 ((x2.tmod y1) + y1)).tmod y1), true, ()))

def net_Net_at_g : Sig := ⟨66, (.cons (.cp (.cons (.mv .str (.list .str)) .nil)) (.cons (.val false .str) (.cons (.val false (.int .i64)) .nil))), .vals (.cons (.val false (.int .i64)) (.cons (.val false .bool) .nil)), fun z => net_Net_at_T z.1.1 z.2.1 z.2.2.1, ((0 : Int), false, ())⟩

theorem net_Net_at_ok : net_Net_at_g.ok Try.prog := by
  refine Sig.lift mix tabOk nms _ Try.func66 (c := (bodyOf Try.f66)) (by kernel_rfl) (o := orT [net_Net_Len_g] [] noFz) (orT_sound ⟨net_Net_Len_ok, trivial⟩) (allLp_of [] (by kernel_rfl) trivial rfl) ?_
  intro z; kernel_rfl

def net_Net_Twice_T (x0 : Str) (x1 : Int) (x2 : List (Str × List Str)) : Tree (Bool × ((Unit × Unit) × ((List (Str × List Str)) × Unit))) :=
  .bnd (net_Net_at_T x2 x0 x1) fun y1 =>
  .ite y1.2.1 (
    ask (inb y1.1 ((getM .str (.list .str) x2 x0).getD ([] : List Str)).length) <|
    .bnd (net_Net_Send_T x0 (((getM .str (.list .str) x2 x0).getD ([] : List Str)).getD y1.1.toNat ([] : Str)) x2) fun y2 =>
    .ret (y1.2.1, (((), ()), (y2.2.2.1, ())))) (
    .ret (y1.2.1, (((), ()), (x2, ()))))

def net_Net_Twice_g : MSig := ⟨52, (.cons (.ref 0 0) (.cons (.val false .str) (.cons (.val false (.int .i64)) .nil))), (.cells 69 (.cons (.mp 1) .nil) (.map .str (.list .str) .nil)), [], (.val false .bool), (.cells 69 (.cons (.mp 1) .nil) (.map .str (.list .str) .nil)), none, fun z => net_Net_Twice_T z.1.2.1 z.1.2.2.1 z.2.2.1⟩

theorem net_Net_Twice_ok : net_Net_Twice_g.ok Try.prog := by
  refine MSig.lift mix tabOk nms _ Try.func52 (c := (bodyOf Try.f52)) (by kernel_rfl) (o := orM [net_Net_at_g] [net_Net_Send_g] [] noFz) (orM_sound ⟨net_Net_at_ok, trivial⟩ ⟨net_Net_Send_ok, trivial⟩) (allLp_ofM [] (by kernel_rfl) trivial rfl) (fun _ => rfl) ?_
  intro z; kernel_rfl

def slices_Clone_string_T (x0 : List Str) : Tree (List Str) :=
  .ite (Nat.beq x0.length 0) (
    .both (
      .ret []) (
      ask (decide (x0.length * 16 ≤ roomNat)) <|
      .ret x0)) (
    ask (decide (x0.length * 16 ≤ roomNat)) <|
    .ret x0)

def slices_Clone_string_g : Sig := ⟨56, (.cons (.val false (.list .str)) .nil), .fresh 9 .str, fun z => slices_Clone_string_T z.1, ([] : List Str)⟩

theorem slices_Clone_string_ok : slices_Clone_string_g.ok Try.prog := by
  refine Sig.lift mix tabOk nms _ Try.func56 (c := (bodyOf Try.f56)) (by kernel_rfl) (o := orT [] [] noFz) (orT_sound trivial) (allLp_of [] (by kernel_rfl) trivial rfl) ?_
  intro z; kernel_rfl

def slices_Clone_string_gv : Sig := ⟨56, (.cons (.val false (.list .str)) .nil), .newv 9 .str, fun z => slices_Clone_string_T z.1, ([] : List Str)⟩

theorem slices_Clone_string_okv : slices_Clone_string_gv.ok Try.prog := fun x y h => acalls_new (slices_Clone_string_ok x y h)

def slices_Delete_string_T (x0 x1 : Int) (x2 : List Str) : Tree (Unit × (List Str × Unit)) :=
  ask (decide (0 ≤ x0 ∧ x0 < x1 ∧ x1 ≤ x2.length)) <|
  .ret ((), (cutL x2 x0 x1, ()))

def slices_Delete_string_g : MSig := ⟨67, (.cons (.own 0) (.cons (.val false (.int .i64)) (.cons (.val false (.int .i64)) .nil))), (.rows 9 .str .nil), [], .own 0, (.rows 9 .str .nil), some 0, fun z => slices_Delete_string_T z.1.2.1 z.1.2.2.1 z.2.1⟩

theorem slices_Delete_string_ok : slices_Delete_string_g.ok Try.prog :=
  delete_scalls (P := Try.prog) (f := 67) (t := .str) (e := 9) rfl encStr ([] : Str) (by intro w S v x h; cases h; rfl) (fun x => rfl) (fun b cap i j zs w h1 h2 h3 h4 h5 => Try.slices_Delete_string b 0 cap i j zs w h1 h2 h3 h4 h5) (fun args w => enters_of Try.func67 (by kernel_rfl) rfl args w)

def net_Net_Take_T (x0 : Str) (x1 : Int) (x2 : List (Str × List Str)) : Tree ((Str × (Bool × Unit)) × ((Unit × Unit) × ((List (Str × List Str)) × Unit))) :=
  .bnd (net_Net_at_T x2 x0 x1) fun y1 =>
  .ite (!y1.2.1) (
    .ret ((([] : Str), (false, ())), (((), ()), (x2, ())))) (
    ask (inb y1.1 ((getM .str (.list .str) x2 x0).getD ([] : List Str)).length) <|
    .both (
      .bnd (slices_Clone_string_T ((getM .str (.list .str) x2 x0).getD ([] : List Str))) fun y9 =>
      .bnd (slices_Delete_string_T y1.1 (w64 (y1.1 + 1)) y9) fun y10 =>
      ask (decide ((putM .str (.list .str) x2 x0 y10.2.1).length ≤ 9223372036854775807)) <|
      .ite (decide ((((getM .str (.list .str) (putM .str (.list .str) x2 x0 y10.2.1) x0).getD ([] : List Str)).length : Int) = 0)) (
        .ret (((((getM .str (.list .str) x2 x0).getD ([] : List Str)).getD y1.1.toNat ([] : Str)), (true, ())), (((), ()), ((delM .str (.list .str) (putM .str (.list .str) x2 x0 y10.2.1) x0), ())))) (
        .ret (((((getM .str (.list .str) x2 x0).getD ([] : List Str)).getD y1.1.toNat ([] : Str)), (true, ())), (((), ()), ((putM .str (.list .str) x2 x0 y10.2.1), ()))))) (
      .both (
        .bnd (slices_Clone_string_T ((getM .str (.list .str) x2 x0).getD ([] : List Str))) fun y7 =>
        .bnd (slices_Delete_string_T y1.1 (w64 (y1.1 + 1)) y7) fun y8 =>
        ask (decide ((putM .str (.list .str) x2 x0 y8.2.1).length ≤ 9223372036854775807)) <|
        .ite (decide ((((getM .str (.list .str) (putM .str (.list .str) x2 x0 y8.2.1) x0).getD ([] : List Str)).length : Int) = 0)) (
          .ret (((((getM .str (.list .str) x2 x0).getD ([] : List Str)).getD y1.1.toNat ([] : Str)), (true, ())), (((), ()), ((delM .str (.list .str) (putM .str (.list .str) x2 x0 y8.2.1) x0), ())))) (
          .ret (((((getM .str (.list .str) x2 x0).getD ([] : List Str)).getD y1.1.toNat ([] : Str)), (true, ())), (((), ()), ((putM .str (.list .str) x2 x0 y8.2.1), ()))))) (
        .both (
          .bnd (slices_Clone_string_T ((getM .str (.list .str) x2 x0).getD ([] : List Str))) fun y5 =>
          .bnd (slices_Delete_string_T y1.1 (w64 (y1.1 + 1)) y5) fun y6 =>
          ask (decide ((putM .str (.list .str) x2 x0 y6.2.1).length ≤ 9223372036854775807)) <|
          .ite (decide ((((getM .str (.list .str) (putM .str (.list .str) x2 x0 y6.2.1) x0).getD ([] : List Str)).length : Int) = 0)) (
            .ret (((((getM .str (.list .str) x2 x0).getD ([] : List Str)).getD y1.1.toNat ([] : Str)), (true, ())), (((), ()), ((delM .str (.list .str) (putM .str (.list .str) x2 x0 y6.2.1) x0), ())))) (
            .ret (((((getM .str (.list .str) x2 x0).getD ([] : List Str)).getD y1.1.toNat ([] : Str)), (true, ())), (((), ()), ((putM .str (.list .str) x2 x0 y6.2.1), ()))))) (
          .bnd (slices_Clone_string_T ((getM .str (.list .str) x2 x0).getD ([] : List Str))) fun y2 =>
          .both (
            .bnd (slices_Delete_string_T y1.1 (w64 (y1.1 + 1)) y2) fun y4 =>
            ask (decide ((putM .str (.list .str) x2 x0 y4.2.1).length ≤ 9223372036854775807)) <|
            .ite (decide ((((getM .str (.list .str) (putM .str (.list .str) x2 x0 y4.2.1) x0).getD ([] : List Str)).length : Int) = 0)) (
              .ret (((((getM .str (.list .str) x2 x0).getD ([] : List Str)).getD y1.1.toNat ([] : Str)), (true, ())), (((), ()), ((delM .str (.list .str) (putM .str (.list .str) x2 x0 y4.2.1) x0), ())))) (
              .ret (((((getM .str (.list .str) x2 x0).getD ([] : List Str)).getD y1.1.toNat ([] : Str)), (true, ())), (((), ()), ((putM .str (.list .str) x2 x0 y4.2.1), ()))))) (
            .bnd (slices_Delete_string_T y1.1 (w64 (y1.1 + 1)) y2) fun y3 =>
            ask (decide ((putM .str (.list .str) x2 x0 y3.2.1).length ≤ 9223372036854775807)) <|
            .ite (decide ((((getM .str (.list .str) (putM .str (.list .str) x2 x0 y3.2.1) x0).getD ([] : List Str)).length : Int) = 0)) (
              .ret (((((getM .str (.list .str) x2 x0).getD ([] : List Str)).getD y1.1.toNat ([] : Str)), (true, ())), (((), ()), ((delM .str (.list .str) (putM .str (.list .str) x2 x0 y3.2.1) x0), ())))) (
              .ret (((((getM .str (.list .str) x2 x0).getD ([] : List Str)).getD y1.1.toNat ([] : Str)), (true, ())), (((), ()), ((putM .str (.list .str) x2 x0 y3.2.1), ())))))))))

def net_Net_Take_g : MSig := ⟨53, (.cons (.ref 0 0) (.cons (.val false .str) (.cons (.val false (.int .i64)) .nil))), (.cells 69 (.cons (.mp 1) .nil) (.map .str (.list .str) .nil)), [], (.cons (.val false .str) (.cons (.val false .bool) .nil)), (.cells 69 (.cons (.mp 1) .nil) (.map .str (.list .str) .nil)), none, fun z => net_Net_Take_T z.1.2.1 z.1.2.2.1 z.2.2.1⟩

theorem net_Net_Take_ok : net_Net_Take_g.ok Try.prog := by
  refine MSig.lift mix tabOk nms _ Try.func53 (c := (bodyOf Try.f53)) (by kernel_rfl) (o := orM [net_Net_at_g, slices_Clone_string_g] [slices_Delete_string_g] [] noFz) (orM_sound ⟨net_Net_at_ok, ⟨slices_Clone_string_ok, trivial⟩⟩ ⟨slices_Delete_string_ok, trivial⟩) (allLp_ofM [] (by kernel_rfl) trivial rfl) (fun _ => rfl) ?_
  intro z; kernel_rfl

def net_Net_All_T (x0 : List (Str × List Str)) (x1 : Str) : Tree (List Str) :=
  .bnd (net_Net_given_T x0) fun y1 =>
  .ite (!y1) (
    .ret []) (
    .bnd (slices_Clone_string_T ((getM .str (.list .str) x0 x1).getD ([] : List Str))) fun y2 =>
    .ret y2)

def net_Net_All_g : Sig := ⟨32, (.cons (.cp (.cons (.mv .str (.list .str)) .nil)) (.cons (.val false .str) .nil)), .fresh 9 .str, fun z => net_Net_All_T z.1.1 z.2.1, ([] : List Str)⟩

theorem net_Net_All_ok : net_Net_All_g.ok Try.prog := by
  refine Sig.lift mix tabOk nms _ Try.func32 (c := (bodyOf Try.f32)) (by kernel_rfl) (o := orT [net_Net_given_g, slices_Clone_string_g] [] noFz) (orT_sound ⟨net_Net_given_ok, ⟨slices_Clone_string_ok, trivial⟩⟩) (allLp_of [] (by kernel_rfl) trivial rfl) ?_
  intro z; kernel_rfl

def net_Net_All_gv : Sig := ⟨32, (.cons (.cp (.cons (.mv .str (.list .str)) .nil)) (.cons (.val false .str) .nil)), .newv 9 .str, fun z => net_Net_All_T z.1.1 z.2.1, ([] : List Str)⟩

theorem net_Net_All_okv : net_Net_All_gv.ok Try.prog := fun x y h => acalls_new (net_Net_All_ok x y h)

def r01_SameTexts_L4_step (a : List Str) (b : List Str) (i : Int) : Tree (Int ⊕ (Bool ⊕ Unit)) :=
  .ite ((decide (i < (a.length : Int))) && (decide (i < (b.length : Int)))) (
    ask (inb i a.length) <|
    ask (inb i b.length) <|
    .ite (!((a.getD i.toNat ([] : Str)) == (b.getD i.toNat ([] : Str)))) (
      .ret (.inr (.inl false))) (
      .ret (.inl (w64 (i + 1))))) (
    .ret (.inr (.inr ())))

def r01_SameTexts_L4 : Lp := ⟨4, [], [], (.cons (.val false (.list .str)) (.cons (.val false (.list .str)) (ca (ca2 (.cons (.val false (.int .i64)) (ca2 (ca8 (ca16 .nil)))))))), .nil, 0, .more 0 [] (ca4 (.cons (.val false .bool) (ca (ca2 (ca8 (ca16 .nil)))))) .nil (.one 1 [] (ca32 .nil) .nil), fun z => .bnd (.loop (fun v => r01_SameTexts_L4_step z.1.1 z.1.2.1 v) z.1.2.2.2.2.2.1) fun r => .sum r (fun a0 => .ret (.inl ((cu4 (a0, (cu (cu2 (cu8 (cu16 ())))))), ()))) (fun b0 => .ret (.inr ((cu32 ()), ())))⟩

theorem r01_SameTexts_L4_ok : r01_SameTexts_L4.ok Try.prog (nthC (loopsOf (bodyOf Try.f21)) 0) := by
  refine Lp.lift (π := ((List Str) × (List Str))) (V := Int) (ρ := (Bool ⊕ Unit)) mix tabOk r01_SameTexts_L4 (o := orT [] [] noFz) (orT_sound trivial) (allLp_of [] (by kernel_rfl) trivial rfl) (fun x v => ((x.1, (x.2, (cu (cu2 (v, (cu2 (cu8 (cu16 ())))))))), ())) (fun x r => match r with | .inl a0 => .inl ((cu4 (a0, (cu (cu2 (cu8 (cu16 ())))))), ()) | .inr b0 => (.inr ((cu32 ()), ()))) (fun x v => r01_SameTexts_L4_step x.1 x.2 v) (fun x r => .sum r (fun a0 => .ret (.inl ((cu4 (a0, (cu (cu2 (cu8 (cu16 ())))))), ()))) (fun b0 => .ret (.inr ((cu32 ()), ())))) (fun z => (z.1.1, z.1.2.1)) (fun z => z.1.2.2.2.2.2.1) (fun _ => rfl) (fun _ => rfl) (fun x r Q h => match r, h with | .inl _, h => h | .inr b0, h => (h)) ?_
  intro x v; kernel_rfl

def r01_SameTexts_T (x0 : List Str) (x1 : List Str) : Tree Bool :=
  .ite (!decide ((x0.length : Int) = (x1.length : Int))) (
    .ret false) (
    .bnd (.loop (fun v => r01_SameTexts_L4_step x0 x1 v) 0) fun r1 =>
    .sum r1 (fun r2 =>
      .ret r2) (fun r3 =>
      .ret true))

def r01_SameTexts_g : Sig := ⟨21, (.cons (.val false (.list .str)) (.cons (.val false (.list .str)) .nil)), .vals (.val false .bool), fun z => r01_SameTexts_T z.1 z.2.1, false⟩

theorem r01_SameTexts_ok : r01_SameTexts_g.ok Try.prog := by
  refine Sig.lift mix tabOk nms _ Try.func21 (c := (bodyOf Try.f21)) (by kernel_rfl) (o := orT [] [r01_SameTexts_L4] noFz) (orT_sound trivial) (allLp_of [nthC (loopsOf (bodyOf Try.f21)) 0] (by kernel_rfl) ⟨r01_SameTexts_L4_ok, trivial⟩ (by kernel_rfl)) ?_
  intro z; kernel_rfl

def slices_Sort_string_T (x0 : List Str) : Tree (Unit × (List Str × Unit)) :=
  ask (decide (x0.length < 4611686018427387904)) <|
  .ret ((), (sortS x0, ()))

def slices_Sort_string_g : MSig := ⟨50, (.cons (.own 0) .nil), (.rows 9 .str .nil), [], .nil, (.rows 9 .str .nil), none, fun z => slices_Sort_string_T z.2.1⟩

theorem slices_Sort_string_ok : slices_Sort_string_g.ok Try.prog := by
  refine sort_scalls (P := Try.prog) (f := 50) (t := .str) (e := 9) rfl encStr sortS (fun l => (isortB_perm _ l).length_eq) (fun l x h => (isortB_perm _ l).mem_iff.1 h) (by intro w S v x h; cases h; rfl) (fun x => rfl) (fun b cap zs w h1 h2 h3 => ?_) (fun p cap w => Try.slices_Sort_string_none p cap w) (fun args w => enters_of Try.func50 (by kernel_rfl) rfl args w)
  rw [← mergeS]; exact Try.slices_Sort_string b 0 cap zs w h1 h2 h3

def net_Net_Lanes_T (x0 : List (Str × List Str)) : Tree (List Str) :=
  ask (decide (x0.length * 16 ≤ roomNat)) <|
  ask (decide (x0.length < 4611686018427387904)) <|
  .ret (sortS (x0.map (·.1)))

def net_Net_Lanes_g : Sig := ⟨34, (.cons (.cp (.cons (.mv .str (.list .str)) .nil)) .nil), .fresh 9 .str, fun z => net_Net_Lanes_T z.1.1, ([] : List Str)⟩

theorem sortS_perm {l k : List Str} (h : l.Perm k) : sortS l = sortS k :=
  List.Perm.eq_of_pairwise (le := fun a b => leS a b = true) (fun a b _ _ h1 h2 => leS_anti a b h1 h2) (isortB_sorted leS_trans leS_total l) (isortB_sorted leS_trans leS_total k) ((isortB_perm _ l).trans (h.trans (isortB_perm _ k).symm))

abbrev lnP (x : List (Str × List Str)) : AV := .cptr 1 (nth [.mv .str (.list .str) x])
def lnF (x : List (Str × List Str)) (ks : List Str) : AS := ⟨[lnP x, .undef, .nilsl, .ownT 0, .undef, .undef, .undef, .undef, .undef, .undef, .undef, .undef, .undef, .undef, .undef, .undef, .undef, .undef, .undef, .undef, .undef, .undef, .undef, .undef], [.trows 9 .str ks], 0⟩
noncomputable def lnB : Code := bodyOf Try.f34
noncomputable def ln0 : Code := seqL lnB
noncomputable def ln1 : Code := seqL (seqR lnB)
noncomputable def ln3 : Code := seqL (seqR (seqR lnB))
noncomputable def ln4 : Code := seqL (seqR (seqR (seqR lnB)))
noncomputable def ln5 : Code := seqR (seqR (seqR (seqR lnB)))
def opAt (l : List Oper) (i : Nat) : Oper := (nthO l i).getD ⟨none, .move (.tmp 0), 0, "", #[], none⟩
def lnBody (c : Code) : Code := match c with | .block _ (.loop b) => b | c => c
def lnIn (c : Code) : Code := match c with | .block _ b => b | c => c
noncomputable def lnO4 : List Oper := (opsOf (seqL ln4)).toList
noncomputable def lnL : Code := lnBody (seqR ln4)
noncomputable def lnO5 : List Oper := (opsOf (seqL lnL)).toList
noncomputable def lnI : Code := lnIn (seqR (seqR lnL))
noncomputable def lnO6 : List Oper := (opsOf (seqL lnI)).toList
noncomputable def lnO7 : Array Oper := opsOf (seqR lnI)

theorem ln_keys (x : List (Str × List Str)) (hx : x.length * 16 ≤ roomNat) :
    AWp Try.prog ln4 (fun e B => e = .normal ∧ ∃ ks, ks.Perm (x.map (·.1)) ∧ B = lnF x ks) ⟨[lnP x, .undef, .nilsl, .nilsl, .undef, .undef, .undef, .undef, .undef, .undef, .undef, .undef, .undef, .undef, .undef, .undef, .undef, .undef, .undef, .undef, .undef, .undef, .undef, .undef], [], 0⟩ := by
  rw [show ln4 = .seq (.region 4 (lnO4.take 4 ++ [opAt lnO4 4]).toArray false) (.block 0 (.loop (.seq (.region 5 #[opAt lnO5 0, opAt lnO5 1] false) (.seq (.cond (.tmp 14) .skip (.exit 0)) (.block 1 (.seq (.region 6 #[opAt lnO6 0, opAt lnO6 1, opAt lnO6 2] false) (.region 7 lnO7 false))))))) by kernel_rfl]
  refine AWp.keys (T := typs) tabOk (call := tblO noPu) noCalls (t := .str) (u := .list .str) rfl (mt := 67) (kt := 9) (et := 24) (by kernel_rfl)
    (it := 12) (nx := 13) (ok := 14) (kx := 15) (ke := 16) (lane := 4) (sm := 11) (by kernel_rfl) (by kernel_rfl) (by kernel_rfl) (by kernel_rfl) (by kernel_rfl) (by kernel_rfl) (by kernel_rfl) (by kernel_rfl) (by kernel_rfl) (by kernel_rfl) (by kernel_rfl) (by kernel_rfl) (by kernel_rfl) (by kernel_rfl) (by kernel_rfl) (by kernel_rfl) (by kernel_rfl) (by kernel_rfl)
    (by decide) ?_ (lnF x) 24 (fun ks => ⟨rfl, rfl, rfl, rfl, rfl, rfl⟩) (by decide)
    (s := ⟨[lnP x, .undef, .nilsl, .nilsl, .undef, .undef, .undef, .undef, lnP x, lnP x, .cptr 1 (fun j => nth [.mv .str (.list .str) x] (0 + j)), .mv .str (.list .str) x, .undef, .undef, .undef, .undef, .undef, .undef, .undef, .undef, .undef, .undef, .undef, .undef], [], [], []⟩) (by kernel_rfl) trivial rfl rfl ?_ ?_
  · intro i o h
    have hall : (lnO7.toList.all fun o => match o.dst with | some d => !Nat.beq d 12 | none => true) = true := by kernel_rfl
    have := List.all_eq_true.1 hall o (by rw [← Array.getElem?_toList] at h; exact List.mem_of_getElem? h)
    intro e
    rw [e] at this
    exact absurd this (by decide)
  · refine ALe.trans (B := ⟨[lnP x, .undef, .nilsl, .nilsl, .undef, .undef, .undef, .undef, .undef, .undef, .undef, .undef, .undef, .undef, .undef, .undef, .undef, .undef, .undef, .undef, .undef, .undef, .undef, .undef], [], 0⟩) (ALe.drop (by repeat (first | exact .nil | apply Drop.keep | apply Drop.drop))) ?_
    exact ALe.own (A := ⟨[lnP x, .undef, .nilsl, .nilsl, .undef, .undef, .undef, .undef, .undef, .undef, .undef, .undef, .undef, .undef, .undef, .undef, .undef, .undef, .undef, .undef, .undef, .undef, .undef, .undef], [], 0⟩) 3 9 .str (.inl rfl)
  · intro ks k hlt
    refine ⟨⟨[lnP x, .undef, .nilsl, .ownT 0, .str k, .undef, .undef, .undef, .undef, .undef, .undef, .undef, .undef, .undef, .undef, .undef, .undef, .undef, .str k, .tsl .str [k] true, .ownT 0, .undef, .undef, .undef], [.trows 9 .str (ks ++ [k])], [], [std.ble (std.nmul (ks ++ [k]).length 16) roomNat]⟩, by kernel_rfl, ?_, ?_⟩
    · show decide ((ks ++ [k]).length * 16 ≤ roomNat) = true
      rw [List.length_append, List.length_singleton, decide_eq_true_eq]
      omega
    · exact ALe.drop (by repeat (first | exact .nil | apply Drop.keep | apply Drop.drop))

theorem net_Net_Lanes_ok : net_Net_Lanes_g.ok Try.prog := by
  rintro ⟨⟨x, ⟨⟩⟩, ⟨⟩⟩ y hy
  have hy : (bif decide (x.length * 16 ≤ roomNat) then (bif decide (x.length < 4611686018427387904) then some (sortS (x.map (·.1))) else none) else none) = some y := hy
  cases h1 : decide (x.length * 16 ≤ roomNat) with
  | false => rw [h1] at hy; cases hy
  | true =>
  cases h2 : decide (x.length < 4611686018427387904) with
  | false => rw [h1, h2] at hy; cases hy
  | true =>
  rw [h1, h2] at hy
  injection hy with hy
  subst hy
  have h1 := of_decide_eq_true h1
  have h2 := of_decide_eq_true h2
  refine ACalls.of tabOk Try.func34 (c := lnB) (by kernel_rfl) (name_ok nms Try.func34) fun _ => ?_
  rw [show (⟨catA (encP net_Net_Lanes_g.ps ((x, ()), ())) (und (Try.f34.ntmps - lenA (encP net_Net_Lanes_g.ps ((x, ()), ())))), [], 0⟩ : AS) = ⟨[lnP x, .undef, .undef, .undef, .undef, .undef, .undef, .undef, .undef, .undef, .undef, .undef, .undef, .undef, .undef, .undef, .undef, .undef, .undef, .undef, .undef, .undef, .undef, .undef], [], 0⟩ by kernel_rfl]
  rw [show lnB = .seq ln0 (.seq ln1 (.seq ln3 (.seq ln4 ln5))) by kernel_rfl]
  -- the first parts
  refine AWp.seq (evT_sound mix tabOk (o := orT [] [] noFz) (orT_sound trivial) ln0 (allLp_of [] (by kernel_rfl) trivial rfl) _ _ ?_)
  rw [show evT std typs (orT [] [] noFz) ln0 ⟨[lnP x, .undef, .undef, .undef, .undef, .undef, .undef, .undef, .undef, .undef, .undef, .undef, .undef, .undef, .undef, .undef, .undef, .undef, .undef, .undef, .undef, .undef, .undef, .undef], [], 0⟩
    = .ret (.normal, ⟨[lnP x, .undef, .nilsl, .undef, .undef, .undef, .undef, .undef, .undef, .undef, .undef, .undef, .undef, .undef, .undef, .undef, .undef, .undef, .undef, .undef, .undef, .undef, .undef, .undef], [], 0⟩) by kernel_rfl]
  show AWp _ _ _ _
  refine AWp.seq (evT_sound mix tabOk (o := orT [net_Net_given_g] [] noFz) (orT_sound ⟨net_Net_given_ok, trivial⟩) ln1 (allLp_of [] (by kernel_rfl) trivial rfl) _ _ ?_)
  rw [show evT std typs (orT [net_Net_given_g] [] noFz) ln1 ⟨[lnP x, .undef, .nilsl, .undef, .undef, .undef, .undef, .undef, .undef, .undef, .undef, .undef, .undef, .undef, .undef, .undef, .undef, .undef, .undef, .undef, .undef, .undef, .undef, .undef], [], 0⟩
    = .bnd (net_Net_given_T x) fun y => .ite (!y) (.ret (.ret, ⟨[lnP x, .undef, .nilsl, .undef, .undef, lnP x, .bool y, .bool (!y), .undef, .undef, .undef, .undef, .undef, .undef, .undef, .undef, .undef, .undef, .undef, .undef, .undef, .undef, .undef, .undef], [], 0⟩))
      (.ret (.normal, ⟨[lnP x, .undef, .nilsl, .undef, .undef, lnP x, .bool y, .bool (!y), .undef, .undef, .undef, .undef, .undef, .undef, .undef, .undef, .undef, .undef, .undef, .undef, .undef, .undef, .undef, .undef], [], 0⟩)) by kernel_rfl]
  refine ⟨true, rfl, ?_⟩
  show AWp _ _ _ _
  refine AWp.seq (AWp.post_le (evT_sound mix tabOk (o := orT [] [] noFz) (orT_sound trivial) ln3 (allLp_of [] (by kernel_rfl) trivial rfl) _ _ ?_))
  rw [show evT std typs (orT [] [] noFz) ln3 ⟨[lnP x, .undef, .nilsl, .undef, .undef, lnP x, .bool true, .bool (!true), .undef, .undef, .undef, .undef, .undef, .undef, .undef, .undef, .undef, .undef, .undef, .undef, .undef, .undef, .undef, .undef], [], 0⟩
    = .ret (.normal, ⟨[lnP x, .undef, .nilsl, .nilsl, .undef, lnP x, .bool true, .bool (!true), .undef, .undef, .undef, .undef, .undef, .undef, .undef, .undef, .undef, .undef, .undef, .undef, .undef, .undef, .undef, .undef], [], 0⟩) by kernel_rfl]
  refine ⟨⟨[lnP x, .undef, .nilsl, .nilsl, .undef, .undef, .undef, .undef, .undef, .undef, .undef, .undef, .undef, .undef, .undef, .undef, .undef, .undef, .undef, .undef, .undef, .undef, .undef, .undef], [], 0⟩, ALe.drop (by repeat (first | exact .nil | apply Drop.keep | apply Drop.drop)), ?_⟩
  show AWp _ _ _ _
  -- the loop, and behind it
  refine AWp.seq ((ln_keys x h1).mono ?_)
  rintro e B ⟨rfl, ks, hp, rfl⟩
  show AWp _ _ _ _
  have hl : ks.length = x.length := by rw [hp.length_eq, List.length_map]
  have hfin : ((evT std typs (orM [] [slices_Sort_string_g] [] noFz) ln5 (lnF x ks)).bind (finT typs Try.f34.results.toList (.fresh 9 .str))).run = some (sortS (x.map (·.1))) := by
    rw [show (evT std typs (orM [] [slices_Sort_string_g] [] noFz) ln5 (lnF x ks)).bind (finT typs Try.f34.results.toList (.fresh 9 .str)) = .bnd (slices_Sort_string_T ks) fun y => .ret y.2.1 by kernel_rfl]
    show (bif decide (ks.length < 4611686018427387904) then some ((), (sortS ks, ())) else none).bind _ = _
    rw [decide_eq_true (show ks.length < 4611686018427387904 by omega), sortS_perm hp.symm]
    rfl
  exact evT_fin (o := orM [] [slices_Sort_string_g] [] noFz) (rs := .fresh 9 .str) mix tabOk (orM_sound trivial ⟨slices_Sort_string_ok, trivial⟩) (allLp_ofM [] (by kernel_rfl) trivial rfl) hfin

def net_Net_Lanes_gv : Sig := ⟨34, (.cons (.cp (.cons (.mv .str (.list .str)) .nil)) .nil), .newv 9 .str, fun z => net_Net_Lanes_T z.1.1, ([] : List Str)⟩

theorem net_Net_Lanes_okv : net_Net_Lanes_gv.ok Try.prog := fun x y h => acalls_new (net_Net_Lanes_ok x y h)


def l33_awake_T  : Tree Bool :=
  .bnd net_New_T fun y1 =>
  .ite false (
    .ret false) (
    .bnd (net_Net_Send_T ([116] : Str) ([97] : Str) y1.2.1) fun y2 =>
    .bnd (net_Net_Send_T ([117] : Str) ([98] : Str) y2.2.2.1) fun y3 =>
    .bnd (net_Net_Send_T ([116] : Str) ([99] : Str) y3.2.2.1) fun y4 =>
    .bnd (net_Net_Twice_T ([116] : Str) (-1) y4.2.2.1) fun y5 =>
    .bnd (net_Net_Take_T ([116] : Str) 3 y5.2.2.1) fun y6 =>
    .grd ((y5.1 && (y6.1.1 == ([97] : Str))) && y6.1.2.1) (net_Net_Len_T y6.2.2.1 ([116] : Str)) (0 : Int) fun y7 =>
    .grd (((y5.1 && (y6.1.1 == ([97] : Str))) && y6.1.2.1) && (decide (y7 = 2))) (net_Net_All_T y6.2.2.1 ([116] : Str)) ([] : List Str) fun y8 =>
    .grd (((y5.1 && (y6.1.1 == ([97] : Str))) && y6.1.2.1) && (decide (y7 = 2))) (r01_SameTexts_T y8 [([99] : Str), ([99] : Str)]) false fun y9 =>
    .grd ((((y5.1 && (y6.1.1 == ([97] : Str))) && y6.1.2.1) && (decide (y7 = 2))) && y9) (net_Net_Lanes_T y6.2.2.1) ([] : List Str) fun y10 =>
    .grd ((((y5.1 && (y6.1.1 == ([97] : Str))) && y6.1.2.1) && (decide (y7 = 2))) && y9) (r01_SameTexts_T y10 [([116] : Str), ([117] : Str)]) false fun y11 =>
    .ret (((((y5.1 && (y6.1.1 == ([97] : Str))) && y6.1.2.1) && (decide (y7 = 2))) && y9) && y11))

def l33_awake_g : Sig := ⟨25, .nil, .vals (.val false .bool), fun z => l33_awake_T, false⟩

theorem l33_awake_ok : l33_awake_g.ok Try.prog := by
  refine Sig.lift mix tabOk nms _ Try.func25 (c := (bodyOf Try.f25)) (by kernel_rfl) (o := orM [net_Net_Len_g, net_Net_All_gv, r01_SameTexts_g, net_Net_Lanes_gv] [net_New_g, net_Net_Send_g, net_Net_Twice_g, net_Net_Take_g] [] noFz) (orM_sound ⟨net_Net_Len_ok, ⟨net_Net_All_okv, ⟨r01_SameTexts_ok, ⟨net_Net_Lanes_okv, trivial⟩⟩⟩⟩ ⟨net_New_ok, ⟨net_Net_Send_ok, ⟨net_Net_Twice_ok, ⟨net_Net_Take_ok, trivial⟩⟩⟩⟩) (allLp_ofM [] (by kernel_rfl) trivial rfl) ?_
  intro z; kernel_rfl

def l33_do_T (x0 : R33_Act) (x1 : List (Str × List Str)) : Tree ((Str × (Bool × Unit)) × ((Unit × Unit) × ((List (Str × List Str)) × Unit))) :=
  .ite (decide (x0.1 = 1)) (
    .bnd (net_Net_Send_T x0.2.1 x0.2.2.1 x1) fun y1 =>
    .ret ((([] : Str), (false, ())), (((), ()), (y1.2.2.1, ())))) (
    .ite (decide (x0.1 = 2)) (
      .bnd (net_Net_Take_T x0.2.1 x0.2.2.2 x1) fun y2 =>
      .ret ((y2.1.1, (y2.1.2.1, ())), (((), ()), (y2.2.2.1, ())))) (
      .ite (decide (x0.1 = 3)) (
        .bnd (net_Net_Twice_T x0.2.1 x0.2.2.2 x1) fun y3 =>
        .ret ((([] : Str), (y3.1, ())), (((), ()), (y3.2.2.1, ())))) (
        .ret ((([] : Str), (false, ())), (((), ()), (x1, ()))))))

def l33_do_g : MSig := ⟨27, (.cons (.ref 0 0) (.cons (.val true tR33_Act) .nil)), (.cells 69 (.cons (.mp 1) .nil) (.map .str (.list .str) .nil)), [], (.cons (.val false .str) (.cons (.val false .bool) .nil)), (.cells 69 (.cons (.mp 1) .nil) (.map .str (.list .str) .nil)), none, fun z => l33_do_T z.1.2.1 z.2.2.1⟩

theorem l33_do_ok : l33_do_g.ok Try.prog := by
  refine MSig.lift mix tabOk nms _ Try.func27 (c := (bodyOf Try.f27)) (by kernel_rfl) (o := orM [] [net_Net_Send_g, net_Net_Take_g, net_Net_Twice_g] [] noFz) (orM_sound trivial ⟨net_Net_Send_ok, ⟨net_Net_Take_ok, ⟨net_Net_Twice_ok, trivial⟩⟩⟩) (allLp_ofM [] (by kernel_rfl) trivial rfl) (fun _ => rfl) ?_
  intro z; kernel_rfl

def l33_NetApart_L5_step (l : List R33_Act) (lane : Str) (i : Int) (rows : List (Str × List Str)) (rows2 : List (Str × List Str)) : Tree ((Int × (List (Str × List Str)) × (List (Str × List Str))) ⊕ (Bool ⊕ ((List (Str × List Str)) × (List (Str × List Str))))) :=
  .ite (decide (i < (l.length : Int))) (
    ask (inb i l.length) <|
    .bnd (l33_do_T (l.getD i.toNat (dfl tR33_Act : R33_Act)) rows) fun y1 =>
    ask (inb i l.length) <|
    .ite (!((l.getD i.toNat (dfl tR33_Act : R33_Act)).2.1 == lane)) (
      .ret (.inl ((w64 (i + 1)), y1.2.2.1, rows2))) (
      ask (inb i l.length) <|
      .bnd (l33_do_T (l.getD i.toNat (dfl tR33_Act : R33_Act)) rows2) fun y2 =>
      .ite ((!(y1.1.1 == y2.1.1)) || (!(y1.1.2.1 == y2.1.2.1))) (
        .ret (.inr (.inl false))) (
        .ret (.inl ((w64 (i + 1)), y1.2.2.1, y2.2.2.1))))) (
    .ret (.inr (.inr (rows, rows2))))

def l33_NetApart_L5 : Lp := ⟨5, [], [], (.cons (.val false (.list tR33_Act)) (.cons (.val false .str) (ca (ca2 (.cons (.ref 1 0) (.cons (.ref 3 0) (.cons (.val false (.int .i64)) (ca32 (ca32 .nil))))))))), (.map .str (.list .str) (.cells 69 (.cons (.mp 0) .nil) (.map .str (.list .str) (.cells 69 (.cons (.mp 2) .nil) .nil)))), 0, .more 0 [] (ca4 (.cons (.val false .bool) (ca (ca2 (ca32 (ca32 .nil)))))) .nil (.one 1 [] (ca (.cons (.val false .str) (ca (ca2 (.cons (.ref 1 0) (.cons (.ref 3 0) (ca (ca32 (ca32 .nil))))))))) (.map .str (.list .str) (.cells 69 (.cons (.mp 0) .nil) (.map .str (.list .str) (.cells 69 (.cons (.mp 2) .nil) .nil))))), fun z => .bnd (.loop (fun v => l33_NetApart_L5_step z.1.1 z.1.2.1 v.1 v.2.1 v.2.2) (z.1.2.2.2.2.2.2.2.1, z.2.1, z.2.2.2.1)) fun r => .sum r (fun a0 => .ret (.inl ((cu4 (a0, (cu (cu2 (cu32 (cu32 ())))))), ()))) (fun b0 => .ret (.inr ((cu (z.1.2.1, (cu (cu2 ((), ((), (cu (cu32 (cu32 ()))))))))), (b0.1, (((), ()), (b0.2, (((), ()), ())))))))⟩

theorem l33_NetApart_L5_ok : l33_NetApart_L5.ok Try.prog (nthC (loopsOf (bodyOf Try.f6)) 0) := by
  refine Lp.lift (π := ((List R33_Act) × Str)) (V := (Int × (List (Str × List Str)) × (List (Str × List Str)))) (ρ := (Bool ⊕ ((List (Str × List Str)) × (List (Str × List Str))))) mix tabOk l33_NetApart_L5 (o := orM [r33_Few_g, l33_awake_g, net_Net_All_g, r01_SameTexts_g] [net_New_g, l33_do_g] [] noFz) (orM_sound ⟨r33_Few_ok, ⟨l33_awake_ok, ⟨net_Net_All_ok, ⟨r01_SameTexts_ok, trivial⟩⟩⟩⟩ ⟨net_New_ok, ⟨l33_do_ok, trivial⟩⟩) (allLp_ofM [] (by kernel_rfl) trivial rfl) (fun x v => ((x.1, (x.2, (cu (cu2 ((), ((), (v.1, (cu32 (cu32 ()))))))))), (v.2.1, (((), ()), (v.2.2, (((), ()), ())))))) (fun x r => match r with | .inl a0 => .inl ((cu4 (a0, (cu (cu2 (cu32 (cu32 ())))))), ()) | .inr b0 => (.inr ((cu (x.2, (cu (cu2 ((), ((), (cu (cu32 (cu32 ()))))))))), (b0.1, (((), ()), (b0.2, (((), ()), ()))))))) (fun x v => l33_NetApart_L5_step x.1 x.2 v.1 v.2.1 v.2.2) (fun x r => .sum r (fun a0 => .ret (.inl ((cu4 (a0, (cu (cu2 (cu32 (cu32 ())))))), ()))) (fun b0 => .ret (.inr ((cu (x.2, (cu (cu2 ((), ((), (cu (cu32 (cu32 ()))))))))), (b0.1, (((), ()), (b0.2, (((), ()), ())))))))) (fun z => (z.1.1, z.1.2.1)) (fun z => (z.1.2.2.2.2.2.2.2.1, z.2.1, z.2.2.2.1)) (fun _ => rfl) (fun _ => rfl) (fun x r Q h => match r, h with | .inl _, h => h | .inr b0, h => (h)) ?_
  intro x v; kernel_rfl

def l33_NetApart_T (x0 : List R33_Act) (x1 : Str) : Tree Bool :=
  .bnd (r33_Few_T x0) fun y1 =>
  .ite ((!y1) || (decide ((100 : Int) < (x1.length : Int)))) (
    .bnd l33_awake_T fun y2 =>
    .ret y2) (
    .bnd net_New_T fun y3 =>
    .bnd net_New_T fun y4 =>
    .bnd (.loop (fun v => l33_NetApart_L5_step x0 x1 v.1 v.2.1 v.2.2) (0, y3.2.1, y4.2.1)) fun r5 =>
    .sum r5 (fun r6 =>
      .ret r6) (fun r7 =>
      .bnd (net_Net_All_T r7.1 x1) fun y8 =>
      .bnd (net_Net_All_T r7.2 x1) fun y9 =>
      .bnd (r01_SameTexts_T y8 y9) fun y10 =>
      .grd y10 l33_awake_T false fun y11 =>
      .ret (y10 && y11)))

def l33_NetApart_g : Sig := ⟨6, (.cons (.val false (.list tR33_Act)) (.cons (.val false .str) .nil)), .vals (.val false .bool), fun z => l33_NetApart_T z.1 z.2.1, false⟩

theorem l33_NetApart_ok : l33_NetApart_g.ok Try.prog := by
  refine Sig.lift mix tabOk nms _ Try.func6 (c := (bodyOf Try.f6)) (by kernel_rfl) (o := orM [r33_Few_g, l33_awake_g, net_Net_All_g, r01_SameTexts_g] [net_New_g, l33_do_g] [l33_NetApart_L5] noFz) (orM_sound ⟨r33_Few_ok, ⟨l33_awake_ok, ⟨net_Net_All_ok, ⟨r01_SameTexts_ok, trivial⟩⟩⟩⟩ ⟨net_New_ok, ⟨l33_do_ok, trivial⟩⟩) (allLp_ofM [nthC (loopsOf (bodyOf Try.f6)) 0] (by kernel_rfl) ⟨l33_NetApart_L5_ok, trivial⟩ (by kernel_rfl)) ?_
  intro z; kernel_rfl

end Go.Eng
