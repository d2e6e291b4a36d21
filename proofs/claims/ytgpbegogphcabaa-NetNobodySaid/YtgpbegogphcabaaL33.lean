/- Lifted: 44 functions, part 1. -/
import Derived.Test.YtgpbegogphcabaaTrG
import Derived.Test.YtgpbegogphcabaaTrF
import Derived.Test.YtgpbegogphcabaaEngT
import Derived.Test.YtgpbegogphcabaaShf
import Derived.Test.YtgpbegogphcabaaTrMk
import Derived.Test.YtgpbegogphcabaaTrMp
import Derived.Test.YtgpbegogphcabaaTrO
import Derived.Test.YtgpbegogphcabaaTrS
namespace Go.Eng
open Go Go.Proofs
set_option maxRecDepth 100000
abbrev R33_Act : Type := (Int × (Str × (Str × Int)))
abbrev tR33_Act : Ty := (.pair (.int .i64) (.pair .str (.pair .str (.int .i64))))

abbrev R33_Mail : Type := (Str × Str)
abbrev tR33_Mail : Ty := (.pair .str .str)

def r33_Few_L2_step (l : List R33_Act) (i : Int) : Tree (Int ⊕ (Bool ⊕ Unit)) :=
  .ite ((decide (i < (l.length : Int))) && (decide (i < 60))) (
    ask (inb i l.length) <|
    ask ((!(!(decide ((100 : Int) < ((l.getD i.toNat (dfl tR33_Act : R33_Act)).2.1.length : Int))))) || inb i l.length) <|
    .ite ((decide ((100 : Int) < ((l.getD i.toNat (dfl tR33_Act : R33_Act)).2.1.length : Int))) || (decide ((100 : Int) < ((l.getD i.toNat (dfl tR33_Act : R33_Act)).2.2.1.length : Int)))) (
      .ret (.inr (.inl false))) (
      .ret (.inl (w64 (i + 1))))) (
    .ret (.inr (.inr ())))

def r33_Few_L2 : Lp := ⟨2, [], [], (.cons (.val false (.list tR33_Act)) (ca2 (.cons (.val false (.int .i64)) (ca (ca4 (ca8 (ca16 .nil))))))), .nil, 0, .more 0 [] (ca2 (.cons (.val false .bool) (ca2 (ca4 (ca8 (ca16 .nil)))))) .nil (.one 1 [] (.cons (.val false (.list tR33_Act)) (ca32 .nil)) .nil), fun z => .bnd (.loop (fun v => r33_Few_L2_step z.1.1 v) z.1.2.2.2.1) fun r => .sum r (fun a0 => .ret (.inl ((cu2 (a0, (cu2 (cu4 (cu8 (cu16 ())))))), ()))) (fun b0 => .ret (.inr ((z.1.1, (cu32 ())), ())))⟩

theorem r33_Few_L2_ok : r33_Few_L2.ok Try.prog (nthC (loopsOf (bodyOf Try.f24)) 0) := by
  refine Lp.lift (π := List R33_Act) (V := Int) (ρ := (Bool ⊕ Unit)) mix tabOk r33_Few_L2 (o := orT [] [] noFz) (orT_sound trivial) (allLp_of [] (by kernel_rfl) trivial rfl) (fun x v => ((x, (cu2 (v, (cu (cu4 (cu8 (cu16 ()))))))), ())) (fun x r => match r with | .inl a0 => .inl ((cu2 (a0, (cu2 (cu4 (cu8 (cu16 ())))))), ()) | .inr b0 => (.inr ((x, (cu32 ())), ()))) (fun x v => r33_Few_L2_step x v) (fun x r => .sum r (fun a0 => .ret (.inl ((cu2 (a0, (cu2 (cu4 (cu8 (cu16 ())))))), ()))) (fun b0 => .ret (.inr ((x, (cu32 ())), ())))) (fun z => z.1.1) (fun z => z.1.2.2.2.1) (fun _ => rfl) (fun _ => rfl) (fun x r Q h => match r, h with | .inl _, h => h | .inr b0, h => (h)) ?_
  intro x v; kernel_rfl

def r33_Few_T (x0 : List R33_Act) : Tree Bool :=
  .bnd (.loop (fun v => r33_Few_L2_step x0 v) 0) fun r1 =>
  .sum r1 (fun r2 =>
    .ret r2) (fun r3 =>
    .ret (decide ((x0.length : Int) ≤ 60)))

def r33_Few_g : Sig := ⟨24, (.cons (.val false (.list tR33_Act)) .nil), .vals (.val false .bool), fun z => r33_Few_T z.1, false⟩

theorem r33_Few_ok : r33_Few_g.ok Try.prog := by
  refine Sig.lift mix tabOk nms _ Try.func24 (c := (bodyOf Try.f24)) (by kernel_rfl) (o := orT [] [r33_Few_L2] noFz) (orT_sound trivial) (allLp_of [nthC (loopsOf (bodyOf Try.f24)) 0] (by kernel_rfl) ⟨r33_Few_L2_ok, trivial⟩ (by kernel_rfl)) ?_
  intro z; kernel_rfl

def net_New_T  : Tree (Unit × ((List (Str × List Str)) × ((Unit × Unit) × Unit))) :=
  .ret ((), (([] : List (Str × List Str)), (((), ()), ())))

def net_New_g : MSig := ⟨26, .nil, .nil, [], (.ref 1 0), (.map .str (.list .str) (.cells 69 (.cons (.mp 0) .nil) .nil)), none, fun z => net_New_T⟩

theorem net_New_ok : net_New_g.ok Try.prog := by
  refine MSig.lift mix tabOk nms _ Try.func26 (c := (bodyOf Try.f26)) (by kernel_rfl) (o := orT [] [] noFz) (orT_sound trivial) (allLp_of [] (by kernel_rfl) trivial rfl) (fun _ => rfl) ?_
  intro z; kernel_rfl

def net_Net_given_T (x0 : List (Str × List Str)) : Tree Bool :=
  .ret (true && true)

def net_Net_given_g : Sig := ⟨55, (.cons (.cp (.cons (.mv .str (.list .str)) .nil)) .nil), .vals (.val false .bool), fun z => net_Net_given_T z.1.1, false⟩

theorem net_Net_given_ok : net_Net_given_g.ok Try.prog := by
  refine Sig.lift mix tabOk nms _ Try.func55 (c := (bodyOf Try.f55)) (by kernel_rfl) (o := orT [] [] noFz) (orT_sound trivial) (allLp_of [] (by kernel_rfl) trivial rfl) ?_
  intro z; kernel_rfl

def slices_Clip_string_T (x0 : List Str) : Tree (List Str) :=
  ask ((decide ((x0.length : Int) = (x0.length : Int))) && (inbe (x0.length : Int) x0.length)) <|
  .ret (x0.take (x0.length : Int).toNat)

def slices_Clip_string_g : Sig := ⟨65, (.cons (.val false (.list .str)) .nil), .one (.full .str), fun z => slices_Clip_string_T z.1, ([] : List Str)⟩

theorem slices_Clip_string_ok : slices_Clip_string_g.ok Try.prog := by
  refine Sig.lift mix tabOk nms _ Try.func65 (c := (bodyOf Try.f65)) (by kernel_rfl) (o := orT [] [] noFz) (orT_sound trivial) (allLp_of [] (by kernel_rfl) trivial rfl) ?_
  intro z; kernel_rfl

def net_Net_Send_T (x0 : Str) (x1 : Str) (x2 : List (Str × List Str)) : Tree (Unit × ((Unit × Unit) × ((List (Str × List Str)) × Unit))) :=
  .bnd (net_Net_given_T x2) fun y1 =>
  .ite y1 (
    .both (
      .both (
        .both (
          .both (
            .bnd (slices_Clip_string_T ((getM .str (.list .str) x2 x0).getD ([] : List Str))) fun y20 =>
            ask (decide ((y20 ++ [x1]).length * 16 ≤ roomNat)) <|
            ask (decide ((putM .str (.list .str) x2 x0 (y20 ++ [x1])).length ≤ 9223372036854775807)) <|
            .ret ((), (((), ()), ((putM .str (.list .str) x2 x0 (y20 ++ [x1])), ())))) (
            .bnd (slices_Clip_string_T ((getM .str (.list .str) x2 x0).getD ([] : List Str))) fun y19 =>
            ask (decide ((y19 ++ [x1]).length * 16 ≤ roomNat)) <|
            ask (decide ((putM .str (.list .str) x2 x0 (y19 ++ [x1])).length ≤ 9223372036854775807)) <|
            .ret ((), (((), ()), ((putM .str (.list .str) x2 x0 (y19 ++ [x1])), ()))))) (
          .bnd (slices_Clip_string_T ((getM .str (.list .str) x2 x0).getD ([] : List Str))) fun y18 =>
          ask (decide ((y18 ++ [x1]).length * 16 ≤ roomNat)) <|
          ask (decide ((putM .str (.list .str) x2 x0 (y18 ++ [x1])).length ≤ 9223372036854775807)) <|
          .ret ((), (((), ()), ((putM .str (.list .str) x2 x0 (y18 ++ [x1])), ()))))) (
        .bnd (slices_Clip_string_T ((getM .str (.list .str) x2 x0).getD ([] : List Str))) fun y17 =>
        ask (decide ((y17 ++ [x1]).length * 16 ≤ roomNat)) <|
        ask (decide ((putM .str (.list .str) x2 x0 (y17 ++ [x1])).length ≤ 9223372036854775807)) <|
        .ret ((), (((), ()), ((putM .str (.list .str) x2 x0 (y17 ++ [x1])), ()))))) (
      .both (
        .both (
          .both (
            .both (
              .bnd (slices_Clip_string_T ((getM .str (.list .str) x2 x0).getD ([] : List Str))) fun y16 =>
              ask (decide ((y16 ++ [x1]).length * 16 ≤ roomNat)) <|
              ask (decide ((putM .str (.list .str) x2 x0 (y16 ++ [x1])).length ≤ 9223372036854775807)) <|
              .ret ((), (((), ()), ((putM .str (.list .str) x2 x0 (y16 ++ [x1])), ())))) (
              .bnd (slices_Clip_string_T ((getM .str (.list .str) x2 x0).getD ([] : List Str))) fun y15 =>
              ask (decide ((y15 ++ [x1]).length * 16 ≤ roomNat)) <|
              ask (decide ((putM .str (.list .str) x2 x0 (y15 ++ [x1])).length ≤ 9223372036854775807)) <|
              .ret ((), (((), ()), ((putM .str (.list .str) x2 x0 (y15 ++ [x1])), ()))))) (
            .bnd (slices_Clip_string_T ((getM .str (.list .str) x2 x0).getD ([] : List Str))) fun y14 =>
            ask (decide ((y14 ++ [x1]).length * 16 ≤ roomNat)) <|
            ask (decide ((putM .str (.list .str) x2 x0 (y14 ++ [x1])).length ≤ 9223372036854775807)) <|
            .ret ((), (((), ()), ((putM .str (.list .str) x2 x0 (y14 ++ [x1])), ()))))) (
          .both (
            .both (
              .both (
                .bnd (slices_Clip_string_T ((getM .str (.list .str) x2 x0).getD ([] : List Str))) fun y13 =>
                ask (decide ((y13 ++ [x1]).length * 16 ≤ roomNat)) <|
                ask (decide ((putM .str (.list .str) x2 x0 (y13 ++ [x1])).length ≤ 9223372036854775807)) <|
                .ret ((), (((), ()), ((putM .str (.list .str) x2 x0 (y13 ++ [x1])), ())))) (
                .bnd (slices_Clip_string_T ((getM .str (.list .str) x2 x0).getD ([] : List Str))) fun y12 =>
                ask (decide ((y12 ++ [x1]).length * 16 ≤ roomNat)) <|
                ask (decide ((putM .str (.list .str) x2 x0 (y12 ++ [x1])).length ≤ 9223372036854775807)) <|
                .ret ((), (((), ()), ((putM .str (.list .str) x2 x0 (y12 ++ [x1])), ()))))) (
              .both (
                .bnd (slices_Clip_string_T ((getM .str (.list .str) x2 x0).getD ([] : List Str))) fun y11 =>
                .both (
                  ask (decide ((y11 ++ [x1]).length * 16 ≤ roomNat)) <|
                  ask (decide ((putM .str (.list .str) x2 x0 (y11 ++ [x1])).length ≤ 9223372036854775807)) <|
                  .ret ((), (((), ()), ((putM .str (.list .str) x2 x0 (y11 ++ [x1])), ())))) (
                  .both (
                    ask (decide ((y11 ++ [x1]).length * 16 ≤ roomNat)) <|
                    ask (decide ((putM .str (.list .str) x2 x0 (y11 ++ [x1])).length ≤ 9223372036854775807)) <|
                    .ret ((), (((), ()), ((putM .str (.list .str) x2 x0 (y11 ++ [x1])), ())))) (
                    ask (decide ((y11 ++ [x1]).length * 16 ≤ roomNat)) <|
                    ask (decide ((putM .str (.list .str) x2 x0 (y11 ++ [x1])).length ≤ 9223372036854775807)) <|
                    .ret ((), (((), ()), ((putM .str (.list .str) x2 x0 (y11 ++ [x1])), ())))))) (
                .both (
                  .bnd (slices_Clip_string_T ((getM .str (.list .str) x2 x0).getD ([] : List Str))) fun y10 =>
                  ask (decide ((y10 ++ [x1]).length * 16 ≤ roomNat)) <|
                  ask (decide ((putM .str (.list .str) x2 x0 (y10 ++ [x1])).length ≤ 9223372036854775807)) <|
                  .ret ((), (((), ()), ((putM .str (.list .str) x2 x0 (y10 ++ [x1])), ())))) (
                  .bnd (slices_Clip_string_T ((getM .str (.list .str) x2 x0).getD ([] : List Str))) fun y9 =>
                  .both (
                    ask (decide ((y9 ++ [x1]).length * 16 ≤ roomNat)) <|
                    ask (decide ((putM .str (.list .str) x2 x0 (y9 ++ [x1])).length ≤ 9223372036854775807)) <|
                    .ret ((), (((), ()), ((putM .str (.list .str) x2 x0 (y9 ++ [x1])), ())))) (
                    ask (decide ((y9 ++ [x1]).length * 16 ≤ roomNat)) <|
                    ask (decide ((putM .str (.list .str) x2 x0 (y9 ++ [x1])).length ≤ 9223372036854775807)) <|
                    .ret ((), (((), ()), ((putM .str (.list .str) x2 x0 (y9 ++ [x1])), ())))))))) (
            .both (
              .bnd (slices_Clip_string_T ((getM .str (.list .str) x2 x0).getD ([] : List Str))) fun y8 =>
              ask (decide ((y8 ++ [x1]).length * 16 ≤ roomNat)) <|
              ask (decide ((putM .str (.list .str) x2 x0 (y8 ++ [x1])).length ≤ 9223372036854775807)) <|
              .ret ((), (((), ()), ((putM .str (.list .str) x2 x0 (y8 ++ [x1])), ())))) (
              .both (
                .bnd (slices_Clip_string_T ((getM .str (.list .str) x2 x0).getD ([] : List Str))) fun y7 =>
                ask (decide ((y7 ++ [x1]).length * 16 ≤ roomNat)) <|
                ask (decide ((putM .str (.list .str) x2 x0 (y7 ++ [x1])).length ≤ 9223372036854775807)) <|
                .ret ((), (((), ()), ((putM .str (.list .str) x2 x0 (y7 ++ [x1])), ())))) (
                .bnd (slices_Clip_string_T ((getM .str (.list .str) x2 x0).getD ([] : List Str))) fun y6 =>
                .both (
                  ask (decide ((y6 ++ [x1]).length * 16 ≤ roomNat)) <|
                  ask (decide ((putM .str (.list .str) x2 x0 (y6 ++ [x1])).length ≤ 9223372036854775807)) <|
                  .ret ((), (((), ()), ((putM .str (.list .str) x2 x0 (y6 ++ [x1])), ())))) (
                  ask (decide ((y6 ++ [x1]).length * 16 ≤ roomNat)) <|
                  ask (decide ((putM .str (.list .str) x2 x0 (y6 ++ [x1])).length ≤ 9223372036854775807)) <|
                  .ret ((), (((), ()), ((putM .str (.list .str) x2 x0 (y6 ++ [x1])), ()))))))))) (
        .both (
          .bnd (slices_Clip_string_T ((getM .str (.list .str) x2 x0).getD ([] : List Str))) fun y5 =>
          ask (decide ((y5 ++ [x1]).length * 16 ≤ roomNat)) <|
          ask (decide ((putM .str (.list .str) x2 x0 (y5 ++ [x1])).length ≤ 9223372036854775807)) <|
          .ret ((), (((), ()), ((putM .str (.list .str) x2 x0 (y5 ++ [x1])), ())))) (
          .both (
            .bnd (slices_Clip_string_T ((getM .str (.list .str) x2 x0).getD ([] : List Str))) fun y4 =>
            ask (decide ((y4 ++ [x1]).length * 16 ≤ roomNat)) <|
            ask (decide ((putM .str (.list .str) x2 x0 (y4 ++ [x1])).length ≤ 9223372036854775807)) <|
            .ret ((), (((), ()), ((putM .str (.list .str) x2 x0 (y4 ++ [x1])), ())))) (
            .both (
              .bnd (slices_Clip_string_T ((getM .str (.list .str) x2 x0).getD ([] : List Str))) fun y3 =>
              ask (decide ((y3 ++ [x1]).length * 16 ≤ roomNat)) <|
              ask (decide ((putM .str (.list .str) x2 x0 (y3 ++ [x1])).length ≤ 9223372036854775807)) <|
              .ret ((), (((), ()), ((putM .str (.list .str) x2 x0 (y3 ++ [x1])), ())))) (
              .bnd (slices_Clip_string_T ((getM .str (.list .str) x2 x0).getD ([] : List Str))) fun y2 =>
              .both (
                ask (decide ((y2 ++ [x1]).length * 16 ≤ roomNat)) <|
                ask (decide ((putM .str (.list .str) x2 x0 (y2 ++ [x1])).length ≤ 9223372036854775807)) <|
                .ret ((), (((), ()), ((putM .str (.list .str) x2 x0 (y2 ++ [x1])), ())))) (
                ask (decide ((y2 ++ [x1]).length * 16 ≤ roomNat)) <|
                ask (decide ((putM .str (.list .str) x2 x0 (y2 ++ [x1])).length ≤ 9223372036854775807)) <|
                .ret ((), (((), ()), ((putM .str (.list .str) x2 x0 (y2 ++ [x1])), ())))))))))) (
    .ret ((), (((), ()), (x2, ()))))

def net_Net_Send_g : MSig := ⟨51, (.cons (.ref 0 0) (.cons (.val false .str) (.cons (.val false .str) .nil))), (.cells 69 (.cons (.mp 1) .nil) (.map .str (.list .str) .nil)), [], .nil, (.cells 69 (.cons (.mp 1) .nil) (.map .str (.list .str) .nil)), none, fun z => net_Net_Send_T z.1.2.1 z.1.2.2.1 z.2.2.1⟩

theorem net_Net_Send_ok : net_Net_Send_g.ok Try.prog := by
  refine MSig.lift mix tabOk nms _ Try.func51 (c := (bodyOf Try.f51)) (by kernel_rfl) (o := orT [net_Net_given_g, slices_Clip_string_g] [] noFz) (orT_sound ⟨net_Net_given_ok, ⟨slices_Clip_string_ok, trivial⟩⟩) (allLp_of [] (by kernel_rfl) trivial rfl) (fun _ => rfl) ?_
  intro z; kernel_rfl

def net_Net_Len_T (x0 : List (Str × List Str)) (x1 : Str) : Tree Int :=
  .bnd (net_Net_given_T x0) fun y1 =>
  .ite (!y1) (
    .ret 0) (
    .ret (((getM .str (.list .str) x0 x1).getD ([] : List Str)).length : Int))

def net_Net_Len_g : Sig := ⟨33, (.cons (.cp (.cons (.mv .str (.list .str)) .nil)) (.cons (.val false .str) .nil)), .vals (.val false (.int .i64)), fun z => net_Net_Len_T z.1.1 z.2.1, (0 : Int)⟩

theorem net_Net_Len_ok : net_Net_Len_g.ok Try.prog := by
  refine Sig.lift mix tabOk nms _ Try.func33 (c := (bodyOf Try.f33)) (by kernel_rfl) (o := orT [net_Net_given_g] [] noFz) (orT_sound ⟨net_Net_given_ok, trivial⟩) (allLp_of [] (by kernel_rfl) trivial rfl) ?_
  intro z; kernel_rfl

def net_Net_at_T (x0 : List (Str × List Str)) (x1 : Str) (x2 : Int) : Tree (Int × Bool × Unit) :=
  .bnd (net_Net_Len_T x0 x1) fun y1 =>
  .ite (decide (y1 = 0)) (
    .ret (0, false, ())) (
    ask (!decide (y1 = 0)) <|
    ask (!decide (y1 = 0)) <|
    .ret (((w64 ((x2.tmod y1) + y1)).tmod y1), true, ()))

def net_Net_at_g : Sig := ⟨66, (.cons (.cp (.cons (.mv .str (.list .str)) .nil)) (.cons (.val false .str) (.cons (.val false (.int .i64)) .nil))), .vals (.cons (.val false (.int .i64)) (.cons (.val false .bool) .nil)), fun z => net_Net_at_T z.1.1 z.2.1 z.2.2.1, ((0 : Int), false, ())⟩

theorem net_Net_at_ok : net_Net_at_g.ok Try.prog := by
  refine Sig.lift mix tabOk nms _ Try.func66 (c := (bodyOf Try.f66)) (by kernel_rfl) (o := orT [net_Net_Len_g] [] noFz) (orT_sound ⟨net_Net_Len_ok, trivial⟩) (allLp_of [] (by kernel_rfl) trivial rfl) ?_
  intro z; kernel_rfl

def net_Net_Twice_T (x0 : Str) (x1 : Int) (x2 : List (Str × List Str)) : Tree (Bool × ((Unit × Unit) × ((List (Str × List Str)) × Unit))) :=
  .bnd (net_Net_at_T x2 x0 x1) fun y1 =>
  .ite y1.2.1 (
    ask (inb y1.1 ((getM .str (.list .str) x2 x0).getD ([] : List Str)).length) <|
    .bnd (net_Net_Send_T x0 (((getM .str (.list .str) x2 x0).getD ([] : List Str)).getD y1.1.toNat ([] : Str)) x2) fun y2 =>
    .ret (y1.2.1, (((), ()), (y2.2.2.1, ())))) (
    .ret (y1.2.1, (((), ()), (x2, ()))))

def net_Net_Twice_g : MSig := ⟨52, (.cons (.ref 0 0) (.cons (.val false .str) (.cons (.val false (.int .i64)) .nil))), (.cells 69 (.cons (.mp 1) .nil) (.map .str (.list .str) .nil)), [], (.val false .bool), (.cells 69 (.cons (.mp 1) .nil) (.map .str (.list .str) .nil)), none, fun z => net_Net_Twice_T z.1.2.1 z.1.2.2.1 z.2.2.1⟩

theorem net_Net_Twice_ok : net_Net_Twice_g.ok Try.prog := by
  refine MSig.lift mix tabOk nms _ Try.func52 (c := (bodyOf Try.f52)) (by kernel_rfl) (o := orM [net_Net_at_g] [net_Net_Send_g] [] noFz) (orM_sound ⟨net_Net_at_ok, trivial⟩ ⟨net_Net_Send_ok, trivial⟩) (allLp_ofM [] (by kernel_rfl) trivial rfl) (fun _ => rfl) ?_
  intro z; kernel_rfl

def slices_Clone_string_T (x0 : List Str) : Tree (List Str) :=
  .ite (Nat.beq x0.length 0) (
    .both (
      .ret []) (
      ask (decide (x0.length * 16 ≤ roomNat)) <|
      .ret x0)) (
    ask (decide (x0.length * 16 ≤ roomNat)) <|
    .ret x0)

def slices_Clone_string_g : Sig := ⟨56, (.cons (.val false (.list .str)) .nil), .fresh 9 .str, fun z => slices_Clone_string_T z.1, ([] : List Str)⟩

theorem slices_Clone_string_ok : slices_Clone_string_g.ok Try.prog := by
  refine Sig.lift mix tabOk nms _ Try.func56 (c := (bodyOf Try.f56)) (by kernel_rfl) (o := orT [] [] noFz) (orT_sound trivial) (allLp_of [] (by kernel_rfl) trivial rfl) ?_
  intro z; kernel_rfl

def slices_Clone_string_gv : Sig := ⟨56, (.cons (.val false (.list .str)) .nil), .newv 9 .str, fun z => slices_Clone_string_T z.1, ([] : List Str)⟩

theorem slices_Clone_string_okv : slices_Clone_string_gv.ok Try.prog := fun x y h => acalls_new (slices_Clone_string_ok x y h)

def slices_Delete_string_T (x0 x1 : Int) (x2 : List Str) : Tree (Unit × (List Str × Unit)) :=
  ask (decide (0 ≤ x0 ∧ x0 < x1 ∧ x1 ≤ x2.length)) <|
  .ret ((), (cutL x2 x0 x1, ()))

def slices_Delete_string_g : MSig := ⟨67, (.cons (.own 0) (.cons (.val false (.int .i64)) (.cons (.val false (.int .i64)) .nil))), (.rows 9 .str .nil), [], .own 0, (.rows 9 .str .nil), some 0, fun z => slices_Delete_string_T z.1.2.1 z.1.2.2.1 z.2.1⟩

theorem slices_Delete_string_ok : slices_Delete_string_g.ok Try.prog :=
  delete_scalls (P := Try.prog) (f := 67) (t := .str) (e := 9) rfl encStr ([] : Str) (by intro w S v x h; cases h; rfl) (fun x => rfl) (fun b cap i j zs w h1 h2 h3 h4 h5 => Try.slices_Delete_string b 0 cap i j zs w h1 h2 h3 h4 h5) (fun args w => enters_of Try.func67 (by kernel_rfl) rfl args w)

def net_Net_Take_T (x0 : Str) (x1 : Int) (x2 : List (Str × List Str)) : Tree ((Str × (Bool × Unit)) × ((Unit × Unit) × ((List (Str × List Str)) × Unit))) :=
  .bnd (net_Net_at_T x2 x0 x1) fun y1 =>
  .ite (!y1.2.1) (
    .ret ((([] : Str), (false, ())), (((), ()), (x2, ())))) (
    ask (inb y1.1 ((getM .str (.list .str) x2 x0).getD ([] : List Str)).length) <|
    .both (
      .bnd (slices_Clone_string_T ((getM .str (.list .str) x2 x0).getD ([] : List Str))) fun y9 =>
      .bnd (slices_Delete_string_T y1.1 (w64 (y1.1 + 1)) y9) fun y10 =>
      ask (decide ((putM .str (.list .str) x2 x0 y10.2.1).length ≤ 9223372036854775807)) <|
      .ite (decide ((((getM .str (.list .str) (putM .str (.list .str) x2 x0 y10.2.1) x0).getD ([] : List Str)).length : Int) = 0)) (
        .ret (((((getM .str (.list .str) x2 x0).getD ([] : List Str)).getD y1.1.toNat ([] : Str)), (true, ())), (((), ()), ((delM .str (.list .str) (putM .str (.list .str) x2 x0 y10.2.1) x0), ())))) (
        .ret (((((getM .str (.list .str) x2 x0).getD ([] : List Str)).getD y1.1.toNat ([] : Str)), (true, ())), (((), ()), ((putM .str (.list .str) x2 x0 y10.2.1), ()))))) (
      .both (
        .bnd (slices_Clone_string_T ((getM .str (.list .str) x2 x0).getD ([] : List Str))) fun y7 =>
        .bnd (slices_Delete_string_T y1.1 (w64 (y1.1 + 1)) y7) fun y8 =>
        ask (decide ((putM .str (.list .str) x2 x0 y8.2.1).length ≤ 9223372036854775807)) <|
        .ite (decide ((((getM .str (.list .str) (putM .str (.list .str) x2 x0 y8.2.1) x0).getD ([] : List Str)).length : Int) = 0)) (
          .ret (((((getM .str (.list .str) x2 x0).getD ([] : List Str)).getD y1.1.toNat ([] : Str)), (true, ())), (((), ()), ((delM .str (.list .str) (putM .str (.list .str) x2 x0 y8.2.1) x0), ())))) (
          .ret (((((getM .str (.list .str) x2 x0).getD ([] : List Str)).getD y1.1.toNat ([] : Str)), (true, ())), (((), ()), ((putM .str (.list .str) x2 x0 y8.2.1), ()))))) (
        .both (
          .bnd (slices_Clone_string_T ((getM .str (.list .str) x2 x0).getD ([] : List Str))) fun y5 =>
          .bnd (slices_Delete_string_T y1.1 (w64 (y1.1 + 1)) y5) fun y6 =>
          ask (decide ((putM .str (.list .str) x2 x0 y6.2.1).length ≤ 9223372036854775807)) <|
          .ite (decide ((((getM .str (.list .str) (putM .str (.list .str) x2 x0 y6.2.1) x0).getD ([] : List Str)).length : Int) = 0)) (
            .ret (((((getM .str (.list .str) x2 x0).getD ([] : List Str)).getD y1.1.toNat ([] : Str)), (true, ())), (((), ()), ((delM .str (.list .str) (putM .str (.list .str) x2 x0 y6.2.1) x0), ())))) (
            .ret (((((getM .str (.list .str) x2 x0).getD ([] : List Str)).getD y1.1.toNat ([] : Str)), (true, ())), (((), ()), ((putM .str (.list .str) x2 x0 y6.2.1), ()))))) (
          .bnd (slices_Clone_string_T ((getM .str (.list .str) x2 x0).getD ([] : List Str))) fun y2 =>
          .both (
            .bnd (slices_Delete_string_T y1.1 (w64 (y1.1 + 1)) y2) fun y4 =>
            ask (decide ((putM .str (.list .str) x2 x0 y4.2.1).length ≤ 9223372036854775807)) <|
            .ite (decide ((((getM .str (.list .str) (putM .str (.list .str) x2 x0 y4.2.1) x0).getD ([] : List Str)).length : Int) = 0)) (
              .ret (((((getM .str (.list .str) x2 x0).getD ([] : List Str)).getD y1.1.toNat ([] : Str)), (true, ())), (((), ()), ((delM .str (.list .str) (putM .str (.list .str) x2 x0 y4.2.1) x0), ())))) (
              .ret (((((getM .str (.list .str) x2 x0).getD ([] : List Str)).getD y1.1.toNat ([] : Str)), (true, ())), (((), ()), ((putM .str (.list .str) x2 x0 y4.2.1), ()))))) (
            .bnd (slices_Delete_string_T y1.1 (w64 (y1.1 + 1)) y2) fun y3 =>
            ask (decide ((putM .str (.list .str) x2 x0 y3.2.1).length ≤ 9223372036854775807)) <|
            .ite (decide ((((getM .str (.list .str) (putM .str (.list .str) x2 x0 y3.2.1) x0).getD ([] : List Str)).length : Int) = 0)) (
              .ret (((((getM .str (.list .str) x2 x0).getD ([] : List Str)).getD y1.1.toNat ([] : Str)), (true, ())), (((), ()), ((delM .str (.list .str) (putM .str (.list .str) x2 x0 y3.2.1) x0), ())))) (
              .ret (((((getM .str (.list .str) x2 x0).getD ([] : List Str)).getD y1.1.toNat ([] : Str)), (true, ())), (((), ()), ((putM .str (.list .str) x2 x0 y3.2.1), ())))))))))

def net_Net_Take_g : MSig := ⟨53, (.cons (.ref 0 0) (.cons (.val false .str) (.cons (.val false (.int .i64)) .nil))), (.cells 69 (.cons (.mp 1) .nil) (.map .str (.list .str) .nil)), [], (.cons (.val false .str) (.cons (.val false .bool) .nil)), (.cells 69 (.cons (.mp 1) .nil) (.map .str (.list .str) .nil)), none, fun z => net_Net_Take_T z.1.2.1 z.1.2.2.1 z.2.2.1⟩

theorem net_Net_Take_ok : net_Net_Take_g.ok Try.prog := by
  refine MSig.lift mix tabOk nms _ Try.func53 (c := (bodyOf Try.f53)) (by kernel_rfl) (o := orM [net_Net_at_g, slices_Clone_string_g] [slices_Delete_string_g] [] noFz) (orM_sound ⟨net_Net_at_ok, ⟨slices_Clone_string_ok, trivial⟩⟩ ⟨slices_Delete_string_ok, trivial⟩) (allLp_ofM [] (by kernel_rfl) trivial rfl) (fun _ => rfl) ?_
  intro z; kernel_rfl

def net_Net_All_T (x0 : List (Str × List Str)) (x1 : Str) : Tree (List Str) :=
  .bnd (net_Net_given_T x0) fun y1 =>
  .ite (!y1) (
    .ret []) (
    .bnd (slices_Clone_string_T ((getM .str (.list .str) x0 x1).getD ([] : List Str))) fun y2 =>
    .ret y2)

def net_Net_All_g : Sig := ⟨32, (.cons (.cp (.cons (.mv .str (.list .str)) .nil)) (.cons (.val false .str) .nil)), .fresh 9 .str, fun z => net_Net_All_T z.1.1 z.2.1, ([] : List Str)⟩

theorem net_Net_All_ok : net_Net_All_g.ok Try.prog := by
  refine Sig.lift mix tabOk nms _ Try.func32 (c := (bodyOf Try.f32)) (by kernel_rfl) (o := orT [net_Net_given_g, slices_Clone_string_g] [] noFz) (orT_sound ⟨net_Net_given_ok, ⟨slices_Clone_string_ok, trivial⟩⟩) (allLp_of [] (by kernel_rfl) trivial rfl) ?_
  intro z; kernel_rfl

def net_Net_All_gv : Sig := ⟨32, (.cons (.cp (.cons (.mv .str (.list .str)) .nil)) (.cons (.val false .str) .nil)), .newv 9 .str, fun z => net_Net_All_T z.1.1 z.2.1, ([] : List Str)⟩

theorem net_Net_All_okv : net_Net_All_gv.ok Try.prog := fun x y h => acalls_new (net_Net_All_ok x y h)

def r01_SameTexts_L4_step (a : List Str) (b : List Str) (i : Int) : Tree (Int ⊕ (Bool ⊕ Unit)) :=
  .ite ((decide (i < (a.length : Int))) && (decide (i < (b.length : Int)))) (
    ask (inb i a.length) <|
    ask (inb i b.length) <|
    .ite (!((a.getD i.toNat ([] : Str)) == (b.getD i.toNat ([] : Str)))) (
      .ret (.inr (.inl false))) (
      .ret (.inl (w64 (i + 1))))) (
    .ret (.inr (.inr ())))

def r01_SameTexts_L4 : Lp := ⟨4, [], [], (.cons (.val false (.list .str)) (.cons (.val false (.list .str)) (ca (ca2 (.cons (.val false (.int .i64)) (ca2 (ca8 (ca16 .nil)))))))), .nil, 0, .more 0 [] (ca4 (.cons (.val false .bool) (ca (ca2 (ca8 (ca16 .nil)))))) .nil (.one 1 [] (ca32 .nil) .nil), fun z => .bnd (.loop (fun v => r01_SameTexts_L4_step z.1.1 z.1.2.1 v) z.1.2.2.2.2.2.1) fun r => .sum r (fun a0 => .ret (.inl ((cu4 (a0, (cu (cu2 (cu8 (cu16 ())))))), ()))) (fun b0 => .ret (.inr ((cu32 ()), ())))⟩

theorem r01_SameTexts_L4_ok : r01_SameTexts_L4.ok Try.prog (nthC (loopsOf (bodyOf Try.f21)) 0) := by
  refine Lp.lift (π := ((List Str) × (List Str))) (V := Int) (ρ := (Bool ⊕ Unit)) mix tabOk r01_SameTexts_L4 (o := orT [] [] noFz) (orT_sound trivial) (allLp_of [] (by kernel_rfl) trivial rfl) (fun x v => ((x.1, (x.2, (cu (cu2 (v, (cu2 (cu8 (cu16 ())))))))), ())) (fun x r => match r with | .inl a0 => .inl ((cu4 (a0, (cu (cu2 (cu8 (cu16 ())))))), ()) | .inr b0 => (.inr ((cu32 ()), ()))) (fun x v => r01_SameTexts_L4_step x.1 x.2 v) (fun x r => .sum r (fun a0 => .ret (.inl ((cu4 (a0, (cu (cu2 (cu8 (cu16 ())))))), ()))) (fun b0 => .ret (.inr ((cu32 ()), ())))) (fun z => (z.1.1, z.1.2.1)) (fun z => z.1.2.2.2.2.2.1) (fun _ => rfl) (fun _ => rfl) (fun x r Q h => match r, h with | .inl _, h => h | .inr b0, h => (h)) ?_
  intro x v; kernel_rfl

def r01_SameTexts_T (x0 : List Str) (x1 : List Str) : Tree Bool :=
  .ite (!decide ((x0.length : Int) = (x1.length : Int))) (
    .ret false) (
    .bnd (.loop (fun v => r01_SameTexts_L4_step x0 x1 v) 0) fun r1 =>
    .sum r1 (fun r2 =>
      .ret r2) (fun r3 =>
      .ret true))

def r01_SameTexts_g : Sig := ⟨21, (.cons (.val false (.list .str)) (.cons (.val false (.list .str)) .nil)), .vals (.val false .bool), fun z => r01_SameTexts_T z.1 z.2.1, false⟩

theorem r01_SameTexts_ok : r01_SameTexts_g.ok Try.prog := by
  refine Sig.lift mix tabOk nms _ Try.func21 (c := (bodyOf Try.f21)) (by kernel_rfl) (o := orT [] [r01_SameTexts_L4] noFz) (orT_sound trivial) (allLp_of [nthC (loopsOf (bodyOf Try.f21)) 0] (by kernel_rfl) ⟨r01_SameTexts_L4_ok, trivial⟩ (by kernel_rfl)) ?_
  intro z; kernel_rfl

def slices_Sort_string_T (x0 : List Str) : Tree (Unit × (List Str × Unit)) :=
  ask (decide (x0.length < 4611686018427387904)) <|
  .ret ((), (sortS x0, ()))

def slices_Sort_string_g : MSig := ⟨50, (.cons (.own 0) .nil), (.rows 9 .str .nil), [], .nil, (.rows 9 .str .nil), none, fun z => slices_Sort_string_T z.2.1⟩

theorem slices_Sort_string_ok : slices_Sort_string_g.ok Try.prog := by
  refine sort_scalls (P := Try.prog) (f := 50) (t := .str) (e := 9) rfl encStr sortS (fun l => (isortB_perm _ l).length_eq) (fun l x h => (isortB_perm _ l).mem_iff.1 h) (by intro w S v x h; cases h; rfl) (fun x => rfl) (fun b cap zs w h1 h2 h3 => ?_) (fun p cap w => Try.slices_Sort_string_none p cap w) (fun args w => enters_of Try.func50 (by kernel_rfl) rfl args w)
  rw [← mergeS]; exact Try.slices_Sort_string b 0 cap zs w h1 h2 h3

def net_Net_Lanes_T (x0 : List (Str × List Str)) : Tree (List Str) :=
  ask (decide (x0.length * 16 ≤ roomNat)) <|
  ask (decide (x0.length < 4611686018427387904)) <|
  .ret (sortS (x0.map (·.1)))

def net_Net_Lanes_g : Sig := ⟨34, (.cons (.cp (.cons (.mv .str (.list .str)) .nil)) .nil), .fresh 9 .str, fun z => net_Net_Lanes_T z.1.1, ([] : List Str)⟩

theorem sortS_perm {l k : List Str} (h : l.Perm k) : sortS l = sortS k :=
  List.Perm.eq_of_pairwise (le := fun a b => leS a b = true) (fun a b _ _ h1 h2 => leS_anti a b h1 h2) (isortB_sorted leS_trans leS_total l) (isortB_sorted leS_trans leS_total k) ((isortB_perm _ l).trans (h.trans (isortB_perm _ k).symm))

abbrev lnP (x : List (Str × List Str)) : AV := .cptr 1 (nth [.mv .str (.list .str) x])
def lnF (x : List (Str × List Str)) (ks : List Str) : AS := ⟨[lnP x, .undef, .nilsl, .ownT 0, .undef, .undef, .undef, .undef, .undef, .undef, .undef, .undef, .undef, .undef, .undef, .undef, .undef, .undef, .undef, .undef, .undef, .undef, .undef, .undef], [.trows 9 .str ks], 0⟩
noncomputable def lnB : Code := bodyOf Try.f34
noncomputable def ln0 : Code := seqL lnB
noncomputable def ln1 : Code := seqL (seqR lnB)
noncomputable def ln3 : Code := seqL (seqR (seqR lnB))
noncomputable def ln4 : Code := seqL (seqR (seqR (seqR lnB)))
noncomputable def ln5 : Code := seqR (seqR (seqR (seqR lnB)))
def opAt (l : List Oper) (i : Nat) : Oper := (nthO l i).getD ⟨none, .move (.tmp 0), 0, "", #[], none⟩
def lnBody (c : Code) : Code := match c with | .block _ (.loop b) => b | c => c
def lnIn (c : Code) : Code := match c with | .block _ b => b | c => c
noncomputable def lnO4 : List Oper := (opsOf (seqL ln4)).toList
noncomputable def lnL : Code := lnBody (seqR ln4)
noncomputable def lnO5 : List Oper := (opsOf (seqL lnL)).toList
noncomputable def lnI : Code := lnIn (seqR (seqR lnL))
noncomputable def lnO6 : List Oper := (opsOf (seqL lnI)).toList
noncomputable def lnO7 : Array Oper := opsOf (seqR lnI)

theorem ln_keys (x : List (Str × List Str)) (hx : x.length * 16 ≤ roomNat) :
    AWp Try.prog ln4 (fun e B => e = .normal ∧ ∃ ks, ks.Perm (x.map (·.1)) ∧ B = lnF x ks) ⟨[lnP x, .undef, .nilsl, .nilsl, .undef, .undef, .undef, .undef, .undef, .undef, .undef, .undef, .undef, .undef, .undef, .undef, .undef, .undef, .undef, .undef, .undef, .undef, .undef, .undef], [], 0⟩ := by
  rw [show ln4 = .seq (.region 4 (lnO4.take 4 ++ [opAt lnO4 4]).toArray false) (.block 0 (.loop (.seq (.region 5 #[opAt lnO5 0, opAt lnO5 1] false) (.seq (.cond (.tmp 14) .skip (.exit 0)) (.block 1 (.seq (.region 6 #[opAt lnO6 0, opAt lnO6 1, opAt lnO6 2] false) (.region 7 lnO7 false))))))) by kernel_rfl]
  refine AWp.keys (T := typs) tabOk (call := tblO noPu) noCalls (t := .str) (u := .list .str) rfl (mt := 67) (kt := 9) (et := 24) (by kernel_rfl)
    (it := 12) (nx := 13) (ok := 14) (kx := 15) (ke := 16) (lane := 4) (sm := 11) (by kernel_rfl) (by kernel_rfl) (by kernel_rfl) (by kernel_rfl) (by kernel_rfl) (by kernel_rfl) (by kernel_rfl) (by kernel_rfl) (by kernel_rfl) (by kernel_rfl) (by kernel_rfl) (by kernel_rfl) (by kernel_rfl) (by kernel_rfl) (by kernel_rfl) (by kernel_rfl) (by kernel_rfl) (by kernel_rfl)
    (by decide) ?_ (lnF x) 24 (fun ks => ⟨rfl, rfl, rfl, rfl, rfl, rfl⟩) (by decide)
    (s := ⟨[lnP x, .undef, .nilsl, .nilsl, .undef, .undef, .undef, .undef, lnP x, lnP x, .cptr 1 (fun j => nth [.mv .str (.list .str) x] (0 + j)), .mv .str (.list .str) x, .undef, .undef, .undef, .undef, .undef, .undef, .undef, .undef, .undef, .undef, .undef, .undef], [], [], []⟩) (by kernel_rfl) trivial rfl rfl ?_ ?_
  · intro i o h
    have hall : (lnO7.toList.all fun o => match o.dst with | some d => !Nat.beq d 12 | none => true) = true := by kernel_rfl
    have := List.all_eq_true.1 hall o (by rw [← Array.getElem?_toList] at h; exact List.mem_of_getElem? h)
    intro e
    rw [e] at this
    exact absurd this (by decide)
  · refine ALe.trans (B := ⟨[lnP x, .undef, .nilsl, .nilsl, .undef, .undef, .undef, .undef, .undef, .undef, .undef, .undef, .undef, .undef, .undef, .undef, .undef, .undef, .undef, .undef, .undef, .undef, .undef, .undef], [], 0⟩) (ALe.drop (by repeat (first | exact .nil | apply Drop.keep | apply Drop.drop))) ?_
    exact ALe.own (A := ⟨[lnP x, .undef, .nilsl, .nilsl, .undef, .undef, .undef, .undef, .undef, .undef, .undef, .undef, .undef, .undef, .undef, .undef, .undef, .undef, .undef, .undef, .undef, .undef, .undef, .undef], [], 0⟩) 3 9 .str (.inl rfl)
  · intro ks k hlt
    refine ⟨⟨[lnP x, .undef, .nilsl, .ownT 0, .str k, .undef, .undef, .undef, .undef, .undef, .undef, .undef, .undef, .undef, .undef, .undef, .undef, .undef, .str k, .tsl .str [k] true, .ownT 0, .undef, .undef, .undef], [.trows 9 .str (ks ++ [k])], [], [std.ble (std.nmul (ks ++ [k]).length 16) roomNat]⟩, by kernel_rfl, ?_, ?_⟩
    · show decide ((ks ++ [k]).length * 16 ≤ roomNat) = true
      rw [List.length_append, List.length_singleton, decide_eq_true_eq]
      omega
    · exact ALe.drop (by repeat (first | exact .nil | apply Drop.keep | apply Drop.drop))

theorem net_Net_Lanes_ok : net_Net_Lanes_g.ok Try.prog := by
  rintro ⟨⟨x, ⟨⟩⟩, ⟨⟩⟩ y hy
  have hy : (bif decide (x.length * 16 ≤ roomNat) then (bif decide (x.length < 4611686018427387904) then some (sortS (x.map (·.1))) else none) else none) = some y := hy
  cases h1 : decide (x.length * 16 ≤ roomNat) with
  | false => rw [h1] at hy; cases hy
  | true =>
  cases h2 : decide (x.length < 4611686018427387904) with
  | false => rw [h1, h2] at hy; cases hy
  | true =>
  rw [h1, h2] at hy
  injection hy with hy
  subst hy
  have h1 := of_decide_eq_true h1
  have h2 := of_decide_eq_true h2
  refine ACalls.of tabOk Try.func34 (c := lnB) (by kernel_rfl) (name_ok nms Try.func34) fun _ => ?_
  rw [show (⟨catA (encP net_Net_Lanes_g.ps ((x, ()), ())) (und (Try.f34.ntmps - lenA (encP net_Net_Lanes_g.ps ((x, ()), ())))), [], 0⟩ : AS) = ⟨[lnP x, .undef, .undef, .undef, .undef, .undef, .undef, .undef, .undef, .undef, .undef, .undef, .undef, .undef, .undef, .undef, .undef, .undef, .undef, .undef, .undef, .undef, .undef, .undef], [], 0⟩ by kernel_rfl]
  rw [show lnB = .seq ln0 (.seq ln1 (.seq ln3 (.seq ln4 ln5))) by kernel_rfl]
  -- the first parts
  refine AWp.seq (evT_sound mix tabOk (o := orT [] [] noFz) (orT_sound trivial) ln0 (allLp_of [] (by kernel_rfl) trivial rfl) _ _ ?_)
  rw [show evT std typs (orT [] [] noFz) ln0 ⟨[lnP x, .undef, .undef, .undef, .undef, .undef, .undef, .undef, .undef, .undef, .undef, .undef, .undef, .undef, .undef, .undef, .undef, .undef, .undef, .undef, .undef, .undef, .undef, .undef], [], 0⟩
    = .ret (.normal, ⟨[lnP x, .undef, .nilsl, .undef, .undef, .undef, .undef, .undef, .undef, .undef, .undef, .undef, .undef, .undef, .undef, .undef, .undef, .undef, .undef, .undef, .undef, .undef, .undef, .undef], [], 0⟩) by kernel_rfl]
  show AWp _ _ _ _
  refine AWp.seq (evT_sound mix tabOk (o := orT [net_Net_given_g] [] noFz) (orT_sound ⟨net_Net_given_ok, trivial⟩) ln1 (allLp_of [] (by kernel_rfl) trivial rfl) _ _ ?_)
  rw [show evT std typs (orT [net_Net_given_g] [] noFz) ln1 ⟨[lnP x, .undef, .nilsl, .undef, .undef, .undef, .undef, .undef, .undef, .undef, .undef, .undef, .undef, .undef, .undef, .undef, .undef, .undef, .undef, .undef, .undef, .undef, .undef, .undef], [], 0⟩
    = .bnd (net_Net_given_T x) fun y => .ite (!y) (.ret (.ret, ⟨[lnP x, .undef, .nilsl, .undef, .undef, lnP x, .bool y, .bool (!y), .undef, .undef, .undef, .undef, .undef, .undef, .undef, .undef, .undef, .undef, .undef, .undef, .undef, .undef, .undef, .undef], [], 0⟩))
      (.ret (.normal, ⟨[lnP x, .undef, .nilsl, .undef, .undef, lnP x, .bool y, .bool (!y), .undef, .undef, .undef, .undef, .undef, .undef, .undef, .undef, .undef, .undef, .undef, .undef, .undef, .undef, .undef, .undef], [], 0⟩)) by kernel_rfl]
  refine ⟨true, rfl, ?_⟩
  show AWp _ _ _ _
  refine AWp.seq (AWp.post_le (evT_sound mix tabOk (o := orT [] [] noFz) (orT_sound trivial) ln3 (allLp_of [] (by kernel_rfl) trivial rfl) _ _ ?_))
  rw [show evT std typs (orT [] [] noFz) ln3 ⟨[lnP x, .undef, .nilsl, .undef, .undef, lnP x, .bool true, .bool (!true), .undef, .undef, .undef, .undef, .undef, .undef, .undef, .undef, .undef, .undef, .undef, .undef, .undef, .undef, .undef, .undef], [], 0⟩
    = .ret (.normal, ⟨[lnP x, .undef, .nilsl, .nilsl, .undef, lnP x, .bool true, .bool (!true), .undef, .undef, .undef, .undef, .undef, .undef, .undef, .undef, .undef, .undef, .undef, .undef, .undef, .undef, .undef, .undef], [], 0⟩) by kernel_rfl]
  refine ⟨⟨[lnP x, .undef, .nilsl, .nilsl, .undef, .undef, .undef, .undef, .undef, .undef, .undef, .undef, .undef, .undef, .undef, .undef, .undef, .undef, .undef, .undef, .undef, .undef, .undef, .undef], [], 0⟩, ALe.drop (by repeat (first | exact .nil | apply Drop.keep | apply Drop.drop)), ?_⟩
  show AWp _ _ _ _
  -- the loop, and behind it
  refine AWp.seq ((ln_keys x h1).mono ?_)
  rintro e B ⟨rfl, ks, hp, rfl⟩
  show AWp _ _ _ _
  have hl : ks.length = x.length := by rw [hp.length_eq, List.length_map]
  have hfin : ((evT std typs (orM [] [slices_Sort_string_g] [] noFz) ln5 (lnF x ks)).bind (finT typs Try.f34.results.toList (.fresh 9 .str))).run = some (sortS (x.map (·.1))) := by
    rw [show (evT std typs (orM [] [slices_Sort_string_g] [] noFz) ln5 (lnF x ks)).bind (finT typs Try.f34.results.toList (.fresh 9 .str)) = .bnd (slices_Sort_string_T ks) fun y => .ret y.2.1 by kernel_rfl]
    show (bif decide (ks.length < 4611686018427387904) then some ((), (sortS ks, ())) else none).bind _ = _
    rw [decide_eq_true (show ks.length < 4611686018427387904 by omega), sortS_perm hp.symm]
    rfl
  exact evT_fin (o := orM [] [slices_Sort_string_g] [] noFz) (rs := .fresh 9 .str) mix tabOk (orM_sound trivial ⟨slices_Sort_string_ok, trivial⟩) (allLp_ofM [] (by kernel_rfl) trivial rfl) hfin

def net_Net_Lanes_gv : Sig := ⟨34, (.cons (.cp (.cons (.mv .str (.list .str)) .nil)) .nil), .newv 9 .str, fun z => net_Net_Lanes_T z.1.1, ([] : List Str)⟩

theorem net_Net_Lanes_okv : net_Net_Lanes_gv.ok Try.prog := fun x y h => acalls_new (net_Net_Lanes_ok x y h)


def l33_awake_T  : Tree Bool :=
  .bnd net_New_T fun y1 =>
  .ite false (
    .ret false) (
    .bnd (net_Net_Send_T ([116] : Str) ([97] : Str) y1.2.1) fun y2 =>
    .bnd (net_Net_Send_T ([117] : Str) ([98] : Str) y2.2.2.1) fun y3 =>
    .bnd (net_Net_Send_T ([116] : Str) ([99] : Str) y3.2.2.1) fun y4 =>
    .bnd (net_Net_Twice_T ([116] : Str) (-1) y4.2.2.1) fun y5 =>
    .bnd (net_Net_Take_T ([116] : Str) 3 y5.2.2.1) fun y6 =>
    .grd ((y5.1 && (y6.1.1 == ([97] : Str))) && y6.1.2.1) (net_Net_Len_T y6.2.2.1 ([116] : Str)) (0 : Int) fun y7 =>
    .grd (((y5.1 && (y6.1.1 == ([97] : Str))) && y6.1.2.1) && (decide (y7 = 2))) (net_Net_All_T y6.2.2.1 ([116] : Str)) ([] : List Str) fun y8 =>
    .grd (((y5.1 && (y6.1.1 == ([97] : Str))) && y6.1.2.1) && (decide (y7 = 2))) (r01_SameTexts_T y8 [([99] : Str), ([99] : Str)]) false fun y9 =>
    .grd ((((y5.1 && (y6.1.1 == ([97] : Str))) && y6.1.2.1) && (decide (y7 = 2))) && y9) (net_Net_Lanes_T y6.2.2.1) ([] : List Str) fun y10 =>
    .grd ((((y5.1 && (y6.1.1 == ([97] : Str))) && y6.1.2.1) && (decide (y7 = 2))) && y9) (r01_SameTexts_T y10 [([116] : Str), ([117] : Str)]) false fun y11 =>
    .ret (((((y5.1 && (y6.1.1 == ([97] : Str))) && y6.1.2.1) && (decide (y7 = 2))) && y9) && y11))

def l33_awake_g : Sig := ⟨25, .nil, .vals (.val false .bool), fun z => l33_awake_T, false⟩

theorem l33_awake_ok : l33_awake_g.ok Try.prog := by
  refine Sig.lift mix tabOk nms _ Try.func25 (c := (bodyOf Try.f25)) (by kernel_rfl) (o := orM [net_Net_Len_g, net_Net_All_gv, r01_SameTexts_g, net_Net_Lanes_gv] [net_New_g, net_Net_Send_g, net_Net_Twice_g, net_Net_Take_g] [] noFz) (orM_sound ⟨net_Net_Len_ok, ⟨net_Net_All_okv, ⟨r01_SameTexts_ok, ⟨net_Net_Lanes_okv, trivial⟩⟩⟩⟩ ⟨net_New_ok, ⟨net_Net_Send_ok, ⟨net_Net_Twice_ok, ⟨net_Net_Take_ok, trivial⟩⟩⟩⟩) (allLp_ofM [] (by kernel_rfl) trivial rfl) ?_
  intro z; kernel_rfl

def l33_do_T (x0 : R33_Act) (x1 : List (Str × List Str)) : Tree ((Str × (Bool × Unit)) × ((Unit × Unit) × ((List (Str × List Str)) × Unit))) :=
  .ite (decide (x0.1 = 1)) (
    .bnd (net_Net_Send_T x0.2.1 x0.2.2.1 x1) fun y1 =>
    .ret ((([] : Str), (false, ())), (((), ()), (y1.2.2.1, ())))) (
    .ite (decide (x0.1 = 2)) (
      .bnd (net_Net_Take_T x0.2.1 x0.2.2.2 x1) fun y2 =>
      .ret ((y2.1.1, (y2.1.2.1, ())), (((), ()), (y2.2.2.1, ())))) (
      .ite (decide (x0.1 = 3)) (
        .bnd (net_Net_Twice_T x0.2.1 x0.2.2.2 x1) fun y3 =>
        .ret ((([] : Str), (y3.1, ())), (((), ()), (y3.2.2.1, ())))) (
        .ret ((([] : Str), (false, ())), (((), ()), (x1, ()))))))

def l33_do_g : MSig := ⟨27, (.cons (.ref 0 0) (.cons (.val true tR33_Act) .nil)), (.cells 69 (.cons (.mp 1) .nil) (.map .str (.list .str) .nil)), [], (.cons (.val false .str) (.cons (.val false .bool) .nil)), (.cells 69 (.cons (.mp 1) .nil) (.map .str (.list .str) .nil)), none, fun z => l33_do_T z.1.2.1 z.2.2.1⟩

theorem l33_do_ok : l33_do_g.ok Try.prog := by
  refine MSig.lift mix tabOk nms _ Try.func27 (c := (bodyOf Try.f27)) (by kernel_rfl) (o := orM [] [net_Net_Send_g, net_Net_Take_g, net_Net_Twice_g] [] noFz) (orM_sound trivial ⟨net_Net_Send_ok, ⟨net_Net_Take_ok, ⟨net_Net_Twice_ok, trivial⟩⟩⟩) (allLp_ofM [] (by kernel_rfl) trivial rfl) (fun _ => rfl) ?_
  intro z; kernel_rfl

def l33_NetApart_L5_step (l : List R33_Act) (lane : Str) (i : Int) (rows : List (Str × List Str)) (rows2 : List (Str × List Str)) : Tree ((Int × (List (Str × List Str)) × (List (Str × List Str))) ⊕ (Bool ⊕ ((List (Str × List Str)) × (List (Str × List Str))))) :=
  .ite (decide (i < (l.length : Int))) (
    ask (inb i l.length) <|
    .bnd (l33_do_T (l.getD i.toNat (dfl tR33_Act : R33_Act)) rows) fun y1 =>
    ask (inb i l.length) <|
    .ite (!((l.getD i.toNat (dfl tR33_Act : R33_Act)).2.1 == lane)) (
      .ret (.inl ((w64 (i + 1)), y1.2.2.1, rows2))) (
      ask (inb i l.length) <|
      .bnd (l33_do_T (l.getD i.toNat (dfl tR33_Act : R33_Act)) rows2) fun y2 =>
      .ite ((!(y1.1.1 == y2.1.1)) || (!(y1.1.2.1 == y2.1.2.1))) (
        .ret (.inr (.inl false))) (
        .ret (.inl ((w64 (i + 1)), y1.2.2.1, y2.2.2.1))))) (
    .ret (.inr (.inr (rows, rows2))))

def l33_NetApart_L5 : Lp := ⟨5, [], [], (.cons (.val false (.list tR33_Act)) (.cons (.val false .str) (ca (ca2 (.cons (.ref 1 0) (.cons (.ref 3 0) (.cons (.val false (.int .i64)) (ca32 (ca32 .nil))))))))), (.map .str (.list .str) (.cells 69 (.cons (.mp 0) .nil) (.map .str (.list .str) (.cells 69 (.cons (.mp 2) .nil) .nil)))), 0, .more 0 [] (ca4 (.cons (.val false .bool) (ca (ca2 (ca32 (ca32 .nil)))))) .nil (.one 1 [] (ca (.cons (.val false .str) (ca (ca2 (.cons (.ref 1 0) (.cons (.ref 3 0) (ca (ca32 (ca32 .nil))))))))) (.map .str (.list .str) (.cells 69 (.cons (.mp 0) .nil) (.map .str (.list .str) (.cells 69 (.cons (.mp 2) .nil) .nil))))), fun z => .bnd (.loop (fun v => l33_NetApart_L5_step z.1.1 z.1.2.1 v.1 v.2.1 v.2.2) (z.1.2.2.2.2.2.2.2.1, z.2.1, z.2.2.2.1)) fun r => .sum r (fun a0 => .ret (.inl ((cu4 (a0, (cu (cu2 (cu32 (cu32 ())))))), ()))) (fun b0 => .ret (.inr ((cu (z.1.2.1, (cu (cu2 ((), ((), (cu (cu32 (cu32 ()))))))))), (b0.1, (((), ()), (b0.2, (((), ()), ())))))))⟩

theorem l33_NetApart_L5_ok : l33_NetApart_L5.ok Try.prog (nthC (loopsOf (bodyOf Try.f6)) 0) := by
  refine Lp.lift (π := ((List R33_Act) × Str)) (V := (Int × (List (Str × List Str)) × (List (Str × List Str)))) (ρ := (Bool ⊕ ((List (Str × List Str)) × (List (Str × List Str))))) mix tabOk l33_NetApart_L5 (o := orM [r33_Few_g, l33_awake_g, net_Net_All_g, r01_SameTexts_g] [net_New_g, l33_do_g] [] noFz) (orM_sound ⟨r33_Few_ok, ⟨l33_awake_ok, ⟨net_Net_All_ok, ⟨r01_SameTexts_ok, trivial⟩⟩⟩⟩ ⟨net_New_ok, ⟨l33_do_ok, trivial⟩⟩) (allLp_ofM [] (by kernel_rfl) trivial rfl) (fun x v => ((x.1, (x.2, (cu (cu2 ((), ((), (v.1, (cu32 (cu32 ()))))))))), (v.2.1, (((), ()), (v.2.2, (((), ()), ())))))) (fun x r => match r with | .inl a0 => .inl ((cu4 (a0, (cu (cu2 (cu32 (cu32 ())))))), ()) | .inr b0 => (.inr ((cu (x.2, (cu (cu2 ((), ((), (cu (cu32 (cu32 ()))))))))), (b0.1, (((), ()), (b0.2, (((), ()), ()))))))) (fun x v => l33_NetApart_L5_step x.1 x.2 v.1 v.2.1 v.2.2) (fun x r => .sum r (fun a0 => .ret (.inl ((cu4 (a0, (cu (cu2 (cu32 (cu32 ())))))), ()))) (fun b0 => .ret (.inr ((cu (x.2, (cu (cu2 ((), ((), (cu (cu32 (cu32 ()))))))))), (b0.1, (((), ()), (b0.2, (((), ()), ())))))))) (fun z => (z.1.1, z.1.2.1)) (fun z => (z.1.2.2.2.2.2.2.2.1, z.2.1, z.2.2.2.1)) (fun _ => rfl) (fun _ => rfl) (fun x r Q h => match r, h with | .inl _, h => h | .inr b0, h => (h)) ?_
  intro x v; kernel_rfl

def l33_NetApart_T (x0 : List R33_Act) (x1 : Str) : Tree Bool :=
  .bnd (r33_Few_T x0) fun y1 =>
  .ite ((!y1) || (decide ((100 : Int) < (x1.length : Int)))) (
    .bnd l33_awake_T fun y2 =>
    .ret y2) (
    .bnd net_New_T fun y3 =>
    .bnd net_New_T fun y4 =>
    .bnd (.loop (fun v => l33_NetApart_L5_step x0 x1 v.1 v.2.1 v.2.2) (0, y3.2.1, y4.2.1)) fun r5 =>
    .sum r5 (fun r6 =>
      .ret r6) (fun r7 =>
      .bnd (net_Net_All_T r7.1 x1) fun y8 =>
      .bnd (net_Net_All_T r7.2 x1) fun y9 =>
      .bnd (r01_SameTexts_T y8 y9) fun y10 =>
      .grd y10 l33_awake_T false fun y11 =>
      .ret (y10 && y11)))

def l33_NetApart_g : Sig := ⟨6, (.cons (.val false (.list tR33_Act)) (.cons (.val false .str) .nil)), .vals (.val false .bool), fun z => l33_NetApart_T z.1 z.2.1, false⟩

theorem l33_NetApart_ok : l33_NetApart_g.ok Try.prog := by
  refine Sig.lift mix tabOk nms _ Try.func6 (c := (bodyOf Try.f6)) (by kernel_rfl) (o := orM [r33_Few_g, l33_awake_g, net_Net_All_g, r01_SameTexts_g] [net_New_g, l33_do_g] [l33_NetApart_L5] noFz) (orM_sound ⟨r33_Few_ok, ⟨l33_awake_ok, ⟨net_Net_All_ok, ⟨r01_SameTexts_ok, trivial⟩⟩⟩⟩ ⟨net_New_ok, ⟨l33_do_ok, trivial⟩⟩) (allLp_ofM [nthC (loopsOf (bodyOf Try.f6)) 0] (by kernel_rfl) ⟨l33_NetApart_L5_ok, trivial⟩ (by kernel_rfl)) ?_
  intro z; kernel_rfl

def r33_Net_Send_T (x0 : Str) (x1 : Str) (x2 : List R33_Mail) : Tree (Unit × ((Unit × Unit) × ((List R33_Mail) × Unit))) :=
  ask (decide ((x2 ++ [(x0, x1)]).length * 32 ≤ roomNat)) <|
  .ret ((), (((), ()), ((x2 ++ [(x0, x1)]), ())))

def r33_Net_Send_g : MSig := ⟨28, (.cons (.ref 0 0) (.cons (.val false .str) (.cons (.val false .str) .nil))), (.cells 56 (.cons (.own 1) .nil) (.rows 95 tR33_Mail .nil)), [], .nil, (.cells 56 (.cons (.own 1) .nil) (.rows 95 tR33_Mail .nil)), some 1, fun z => r33_Net_Send_T z.1.2.1 z.1.2.2.1 z.2.2.1⟩

theorem r33_Net_Send_ok : r33_Net_Send_g.ok Try.prog := by
  refine MSig.lift mix tabOk nms _ Try.func28 (c := (bodyOf Try.f28)) (by kernel_rfl) (o := orT [] [] noFz) (orT_sound trivial) (allLp_of [] (by kernel_rfl) trivial rfl) (fun _ => rfl) ?_
  intro z; kernel_rfl

def r33_Net_All_L3_step (n : List R33_Mail) (lane : Str) (i : Int) (out : List Str) : Tree ((Int × (List Str)) ⊕ (List Str)) :=
  .ite (decide (i < (n.length : Int))) (
    ask (inb i n.length) <|
    .ite ((n.getD i.toNat (dfl tR33_Mail : R33_Mail)).1 == lane) (
      ask (inb i n.length) <|
      ask (decide ((out ++ [(n.getD i.toNat (dfl tR33_Mail : R33_Mail)).2]).length * 16 ≤ roomNat)) <|
      .ret (.inl ((w64 (i + 1)), (out ++ [(n.getD i.toNat (dfl tR33_Mail : R33_Mail)).2])))) (
      .ret (.inl ((w64 (i + 1)), out)))) (
    .ret (.inr out))

def r33_Net_All_L3 : Lp := ⟨3, [.own 5 9 .str], [], (.cons (.ptr (.list tR33_Mail)) (.cons (.val false .str) (ca (ca2 (.cons (.own 0) (.cons (.val false (.int .i64)) (ca (ca2 (ca4 (ca8 (ca16 .nil))))))))))), (.rows 9 .str .nil), 0, .one 1 [] (ca (ca4 (.cons (.own 0) (ca32 .nil)))) (.rows 9 .str .nil), fun z => .bnd (.loop (fun v => r33_Net_All_L3_step z.1.1 z.1.2.1 v.1 v.2) (z.1.2.2.2.2.2.2.1, z.2.1)) fun r => .ret ((cu (cu4 ((), (cu32 ())))), (r, ()))⟩

theorem r33_Net_All_L3_ok : r33_Net_All_L3.ok Try.prog (nthC (loopsOf (bodyOf Try.f31)) 0) := by
  refine Lp.lift (π := ((List R33_Mail) × Str)) (V := (Int × (List Str))) (ρ := List Str) mix tabOk r33_Net_All_L3 (o := orT [] [] noFz) (orT_sound trivial) (allLp_of [] (by kernel_rfl) trivial rfl) (fun x v => ((x.1, (x.2, (cu (cu2 ((), (v.1, (cu (cu2 (cu4 (cu8 (cu16 ()))))))))))), (v.2, ()))) (fun x r => ((cu (cu4 ((), (cu32 ())))), (r, ()))) (fun x v => r33_Net_All_L3_step x.1 x.2 v.1 v.2) (fun x r => .ret ((cu (cu4 ((), (cu32 ())))), (r, ()))) (fun z => (z.1.1, z.1.2.1)) (fun z => (z.1.2.2.2.2.2.2.1, z.2.1)) (fun _ => rfl) (fun _ => rfl) (fun _ _ _ h => h) ?_
  intro x v; kernel_rfl

def r33_Net_All_T (x0 : List R33_Mail) (x1 : Str) : Tree (List Str) :=
  .bnd (.loop (fun v => r33_Net_All_L3_step x0 x1 v.1 v.2) (0, ([] : List Str))) fun r1 =>
  .ret r1

def r33_Net_All_g : Sig := ⟨31, (.cons (.ptr (.list tR33_Mail)) (.cons (.val false .str) .nil)), .fresh 9 .str, fun z => r33_Net_All_T z.1 z.2.1, ([] : List Str)⟩

theorem r33_Net_All_ok : r33_Net_All_g.ok Try.prog := by
  refine Sig.lift mix tabOk nms _ Try.func31 (c := (bodyOf Try.f31)) (by kernel_rfl) (o := orT [] [r33_Net_All_L3] noFz) (orT_sound trivial) (allLp_of [nthC (loopsOf (bodyOf Try.f31)) 0] (by kernel_rfl) ⟨r33_Net_All_L3_ok, trivial⟩ (by kernel_rfl)) ?_
  intro z; kernel_rfl

def r33_Net_All_gv : Sig := ⟨31, (.cons (.ptr (.list tR33_Mail)) (.cons (.val false .str) .nil)), .newv 9 .str, fun z => r33_Net_All_T z.1 z.2.1, ([] : List Str)⟩

theorem r33_Net_All_okv : r33_Net_All_gv.ok Try.prog := fun x y h => acalls_new (r33_Net_All_ok x y h)

def r33_Net_Lanes_L6_step (n : List R33_Mail) (i : Int) (out : List Str) (k : Int) : Tree (Int ⊕ Int) :=
  ask ((!(decide (k < (out.length : Int)))) || inb k out.length) <|
  ask ((!(decide (k < (out.length : Int)))) || inb i n.length) <|
  .ite ((decide (k < (out.length : Int))) && (ltS (out.getD k.toNat ([] : Str)) (n.getD i.toNat (dfl tR33_Mail : R33_Mail)).1)) (
    .ret (.inl (w64 (k + 1)))) (
    .ret (.inr k))

def r33_Net_Lanes_L6 : Lp := ⟨6, [], [], (.cons (.ptr (.list tR33_Mail)) (ca2 (.cons (.own 0) (.cons (.val false (.int .i64)) (.cons (.val false (.int .i64)) (ca (ca8 (ca32 (ca32 .nil))))))))), (.rows 9 .str .nil), 0, .one 3 [] (.cons (.ptr (.list tR33_Mail)) (ca2 (.cons (.own 0) (.cons (.val false (.int .i64)) (.cons (.val false (.int .i64)) (ca (ca8 (ca32 (ca32 .nil))))))))) (.rows 9 .str .nil), fun z => .bnd (.loop (fun v => r33_Net_Lanes_L6_step z.1.1 z.1.2.2.2.2.1 z.2.1 v) z.1.2.2.2.2.2.1) fun r => .ret ((z.1.1, (cu2 ((), (z.1.2.2.2.2.1, (r, (cu (cu8 (cu32 (cu32 ()))))))))), (z.2.1, ()))⟩

theorem r33_Net_Lanes_L6_ok : r33_Net_Lanes_L6.ok Try.prog (nthC (loopsOf (nthC (loopsOf (bodyOf Try.f35)) 0)) 0) := by
  refine Lp.lift (π := ((List R33_Mail) × Int × (List Str))) (V := Int) (ρ := Int) mix tabOk r33_Net_Lanes_L6 (o := orT [] [] noFz) (orT_sound trivial) (allLp_of [] (by kernel_rfl) trivial rfl) (fun x v => ((x.1, (cu2 ((), (x.2.1, (v, (cu (cu8 (cu32 (cu32 ()))))))))), (x.2.2, ()))) (fun x r => ((x.1, (cu2 ((), (x.2.1, (r, (cu (cu8 (cu32 (cu32 ()))))))))), (x.2.2, ()))) (fun x v => r33_Net_Lanes_L6_step x.1 x.2.1 x.2.2 v) (fun x r => .ret ((x.1, (cu2 ((), (x.2.1, (r, (cu (cu8 (cu32 (cu32 ()))))))))), (x.2.2, ()))) (fun z => (z.1.1, z.1.2.2.2.2.1, z.2.1)) (fun z => z.1.2.2.2.2.2.1) (fun _ => rfl) (fun _ => rfl) (fun _ _ _ h => h) ?_
  intro x v; kernel_rfl

def r33_Net_Lanes_L3_step (n : List R33_Mail) (i : Int) (out : List Str) : Tree ((Int × (List Str)) ⊕ (List Str)) :=
  .ite (decide (i < (n.length : Int))) (
    .bnd (.loop (fun v => r33_Net_Lanes_L6_step n i out v) 0) fun r1 =>
    ask ((!(decide (r1 < (out.length : Int)))) || inb r1 out.length) <|
    ask ((!(decide (r1 < (out.length : Int)))) || inb i n.length) <|
    .ite ((decide (r1 < (out.length : Int))) && ((out.getD r1.toNat ([] : Str)) == (n.getD i.toNat (dfl tR33_Mail : R33_Mail)).1)) (
      .ret (.inl ((w64 (i + 1)), out))) (
      ask (inbe r1 out.length) <|
      ask (decide ((out.take r1.toNat).length * 16 ≤ roomNat)) <|
      ask (inb i n.length) <|
      ask (decide (((out.take r1.toNat) ++ [(n.getD i.toNat (dfl tR33_Mail : R33_Mail)).1]).length * 16 ≤ roomNat)) <|
      ask (inbe r1 out.length) <|
      ask (decide ((((out.take r1.toNat) ++ [(n.getD i.toNat (dfl tR33_Mail : R33_Mail)).1]) ++ ((out.drop r1.toNat).take (out.length - r1.toNat))).length * 16 ≤ roomNat)) <|
      .ret (.inl ((w64 (i + 1)), (((out.take r1.toNat) ++ [(n.getD i.toNat (dfl tR33_Mail : R33_Mail)).1]) ++ ((out.drop r1.toNat).take (out.length - r1.toNat))))))) (
    .ret (.inr out))

def r33_Net_Lanes_L3 : Lp := ⟨3, [.own 3 9 .str], [.mvB 1 0], (.cons (.ptr (.list tR33_Mail)) (ca2 (.cons (.own 0) (.cons (.val false (.int .i64)) (ca2 (ca8 (ca32 (ca32 .nil)))))))), (.rows 9 .str .nil), 0, .one 1 [] (ca (ca2 (.cons (.own 0) (ca (ca2 (ca8 (ca32 (ca32 .nil)))))))) (.rows 9 .str .nil), fun z => .bnd (.loop (fun v => r33_Net_Lanes_L3_step z.1.1 v.1 v.2) (z.1.2.2.2.2.1, z.2.1)) fun r => .ret ((cu (cu2 ((), (cu (cu2 (cu8 (cu32 (cu32 ())))))))), (r, ()))⟩

theorem r33_Net_Lanes_L3_ok : r33_Net_Lanes_L3.ok Try.prog (nthC (loopsOf (bodyOf Try.f35)) 0) := by
  refine Lp.lift (π := List R33_Mail) (V := (Int × (List Str))) (ρ := List Str) mix tabOk r33_Net_Lanes_L3 (o := orT [] [r33_Net_Lanes_L6] noFz) (orT_sound trivial) (allLp_of [nthC (loopsOf (nthC (loopsOf (bodyOf Try.f35)) 0)) 0] (by kernel_rfl) ⟨r33_Net_Lanes_L6_ok, trivial⟩ (by kernel_rfl)) (fun x v => ((x, (cu2 ((), (v.1, (cu2 (cu8 (cu32 (cu32 ())))))))), (v.2, ()))) (fun x r => ((cu (cu2 ((), (cu (cu2 (cu8 (cu32 (cu32 ())))))))), (r, ()))) (fun x v => r33_Net_Lanes_L3_step x v.1 v.2) (fun x r => .ret ((cu (cu2 ((), (cu (cu2 (cu8 (cu32 (cu32 ())))))))), (r, ()))) (fun z => z.1.1) (fun z => (z.1.2.2.2.2.1, z.2.1)) (fun _ => rfl) (fun _ => rfl) (fun _ _ _ h => h) ?_
  intro x v; kernel_rfl

def r33_Net_Lanes_T (x0 : List R33_Mail) : Tree (List Str) :=
  .bnd (.loop (fun v => r33_Net_Lanes_L3_step x0 v.1 v.2) (0, ([] : List Str))) fun r1 =>
  .ret r1

def r33_Net_Lanes_g : Sig := ⟨35, (.cons (.ptr (.list tR33_Mail)) .nil), .fresh 9 .str, fun z => r33_Net_Lanes_T z.1, ([] : List Str)⟩

theorem r33_Net_Lanes_ok : r33_Net_Lanes_g.ok Try.prog := by
  refine Sig.lift mix tabOk nms _ Try.func35 (c := (bodyOf Try.f35)) (by kernel_rfl) (o := orT [] [r33_Net_Lanes_L3] noFz) (orT_sound trivial) (allLp_of [nthC (loopsOf (bodyOf Try.f35)) 0] (by kernel_rfl) ⟨r33_Net_Lanes_L3_ok, trivial⟩ (by kernel_rfl)) ?_
  intro z; kernel_rfl

def r33_Net_Lanes_gv : Sig := ⟨35, (.cons (.ptr (.list tR33_Mail)) .nil), .newv 9 .str, fun z => r33_Net_Lanes_T z.1, ([] : List Str)⟩

theorem r33_Net_Lanes_okv : r33_Net_Lanes_gv.ok Try.prog := fun x y h => acalls_new (r33_Net_Lanes_ok x y h)

def r33_At_T (x0 : Int) (x1 : Int) : Tree Int :=
  ask (!decide (x1 = 0)) <|
  .ite (decide ((x0.tmod x1) < 0)) (
    .ret (w64 ((x0.tmod x1) + x1))) (
    .ret (x0.tmod x1))

def r33_At_g : Sig := ⟨54, (.cons (.val false (.int .i64)) (.cons (.val false (.int .i64)) .nil)), .vals (.val false (.int .i64)), fun z => r33_At_T z.1 z.2.1, (0 : Int)⟩

theorem r33_At_ok : r33_At_g.ok Try.prog := by
  refine Sig.lift mix tabOk nms _ Try.func54 (c := (bodyOf Try.f54)) (by kernel_rfl) (o := orT [] [] noFz) (orT_sound trivial) (allLp_of [] (by kernel_rfl) trivial rfl) ?_
  intro z; kernel_rfl

def r33_Net_Take_L8_step (lane : Str) (at_ : Int) (rows : List R33_Mail) (l : List Str) (seen : Int) (i : Int) (out : List R33_Mail) : Tree ((Int × Int × (List R33_Mail)) ⊕ (List R33_Mail)) :=
  .ite (decide (i < (rows.length : Int))) (
    ask (inb i rows.length) <|
    .ite ((rows.getD i.toNat (dfl tR33_Mail : R33_Mail)).1 == lane) (
      .ite (decide ((w64 (seen + 1)) = (w64 (at_ + 1)))) (
        .ret (.inl ((w64 (seen + 1)), (w64 (i + 1)), out))) (
        ask (inb i rows.length) <|
        ask (decide ((out ++ [(rows.getD i.toNat (dfl tR33_Mail : R33_Mail))]).length * 32 ≤ roomNat)) <|
        .ret (.inl ((w64 (seen + 1)), (w64 (i + 1)), (out ++ [(rows.getD i.toNat (dfl tR33_Mail : R33_Mail))]))))) (
      ask (inb i rows.length) <|
      ask (decide ((out ++ [(rows.getD i.toNat (dfl tR33_Mail : R33_Mail))]).length * 32 ≤ roomNat)) <|
      .ret (.inl (seen, (w64 (i + 1)), (out ++ [(rows.getD i.toNat (dfl tR33_Mail : R33_Mail))]))))) (
    .ret (.inr out))

def r33_Net_Take_L8 : Lp := ⟨8, [.own 10 95 tR33_Mail], [], (.cons (.ref 0 0) (.cons (.val false .str) (ca2 (ca4 (.cons (.own 2) (.cons (.val false (.int .i64)) (.cons (.own 3) (.cons (.val false (.int .i64)) (.cons (.val false (.int .i64)) (ca (ca4 (ca16 (ca32 .nil))))))))))))), (.cells 56 (.cons (.own 1) .nil) (.rows 95 tR33_Mail (.rows 9 .str (.rows 95 tR33_Mail .nil)))), 2, .one 1 [] (.cons (.ref 0 0) (ca (ca2 (ca4 (.cons (.own 2) (.cons (.val false (.int .i64)) (.cons (.own 3) (ca (ca2 (ca4 (ca16 (ca32 .nil)))))))))))) (.cells 56 (.cons (.own 1) .nil) (.rows 95 tR33_Mail (.rows 9 .str (.rows 95 tR33_Mail .nil)))), fun z => .bnd (.loop (fun v => r33_Net_Take_L8_step z.1.2.1 z.1.2.2.2.2.2.2.2.2.2.1 z.2.2.1 z.2.2.2.1 v.1 v.2.1 v.2.2) (z.1.2.2.2.2.2.2.2.2.2.2.2.1, z.1.2.2.2.2.2.2.2.2.2.2.2.2.1, z.2.2.2.2.1)) fun r => .ret (((), (cu (cu2 (cu4 ((), (z.1.2.2.2.2.2.2.2.2.2.1, ((), (cu (cu2 (cu4 (cu16 (cu32 ())))))))))))), (((), ()), (z.2.2.1, (z.2.2.2.1, (r, ())))))⟩

theorem r33_Net_Take_L8_ok : r33_Net_Take_L8.ok Try.prog (nthC (loopsOf (bodyOf Try.f29)) 0) := by
  refine Lp.lift (π := (Str × Int × (List R33_Mail) × (List Str))) (V := (Int × Int × (List R33_Mail))) (ρ := List R33_Mail) mix tabOk r33_Net_Take_L8 (o := orT [r33_Net_All_g, r33_At_g] [] noFz) (orT_sound ⟨r33_Net_All_ok, ⟨r33_At_ok, trivial⟩⟩) (allLp_of [] (by kernel_rfl) trivial rfl) (fun x v => (((), (x.1, (cu2 (cu4 ((), (x.2.1, ((), (v.1, (v.2.1, (cu (cu4 (cu16 (cu32 ()))))))))))))), (((), ()), (x.2.2.1, (x.2.2.2, (v.2.2, ())))))) (fun x r => (((), (cu (cu2 (cu4 ((), (x.2.1, ((), (cu (cu2 (cu4 (cu16 (cu32 ())))))))))))), (((), ()), (x.2.2.1, (x.2.2.2, (r, ())))))) (fun x v => r33_Net_Take_L8_step x.1 x.2.1 x.2.2.1 x.2.2.2 v.1 v.2.1 v.2.2) (fun x r => .ret (((), (cu (cu2 (cu4 ((), (x.2.1, ((), (cu (cu2 (cu4 (cu16 (cu32 ())))))))))))), (((), ()), (x.2.2.1, (x.2.2.2, (r, ())))))) (fun z => (z.1.2.1, z.1.2.2.2.2.2.2.2.2.2.1, z.2.2.1, z.2.2.2.1)) (fun z => (z.1.2.2.2.2.2.2.2.2.2.2.2.1, z.1.2.2.2.2.2.2.2.2.2.2.2.2.1, z.2.2.2.2.1)) (fun _ => rfl) (fun _ => rfl) (fun _ _ _ h => h) ?_
  intro x v; kernel_rfl

def r33_Net_Take_T (x0 : Str) (x1 : Int) (x2 : List R33_Mail) : Tree ((Str × (Bool × Unit)) × ((Unit × Unit) × ((List R33_Mail) × Unit))) :=
  .bnd (r33_Net_All_T x2 x0) fun y1 =>
  .ite (decide ((y1.length : Int) = 0)) (
    .ret ((([] : Str), (false, ())), (((), ()), (x2, ())))) (
    .bnd (r33_At_T x1 (y1.length : Int)) fun y2 =>
    .bnd (.loop (fun v => r33_Net_Take_L8_step x0 y2 x2 y1 v.1 v.2.1 v.2.2) (0, 0, ([] : List R33_Mail))) fun r3 =>
    ask (inb y2 y1.length) <|
    .ret (((y1.getD y2.toNat ([] : Str)), (true, ())), (((), ()), (r3, ()))))

def r33_Net_Take_g : MSig := ⟨29, (.cons (.ref 0 0) (.cons (.val false .str) (.cons (.val false (.int .i64)) .nil))), (.cells 56 (.cons (.own 1) .nil) (.rows 95 tR33_Mail .nil)), [.mvB 3 1], (.cons (.val false .str) (.cons (.val false .bool) .nil)), (.cells 56 (.cons (.own 1) .nil) (.rows 95 tR33_Mail .nil)), some 1, fun z => r33_Net_Take_T z.1.2.1 z.1.2.2.1 z.2.2.1⟩

theorem r33_Net_Take_ok : r33_Net_Take_g.ok Try.prog := by
  refine MSig.lift mix tabOk nms _ Try.func29 (c := (bodyOf Try.f29)) (by kernel_rfl) (o := orT [r33_Net_All_g, r33_At_g] [r33_Net_Take_L8] noFz) (orT_sound ⟨r33_Net_All_ok, ⟨r33_At_ok, trivial⟩⟩) (allLp_of [nthC (loopsOf (bodyOf Try.f29)) 0] (by kernel_rfl) ⟨r33_Net_Take_L8_ok, trivial⟩ (by kernel_rfl)) (fun _ => rfl) ?_
  intro z; kernel_rfl

def r33_Net_Twice_T (x0 : Str) (x1 : Int) (x2 : List R33_Mail) : Tree (Bool × ((Unit × Unit) × ((List R33_Mail) × Unit))) :=
  .bnd (r33_Net_All_T x2 x0) fun y1 =>
  .ite (decide ((y1.length : Int) = 0)) (
    .ret (false, (((), ()), (x2, ())))) (
    .bnd (r33_At_T x1 (y1.length : Int)) fun y2 =>
    ask (inb y2 y1.length) <|
    .bnd (r33_Net_Send_T x0 (y1.getD y2.toNat ([] : Str)) x2) fun y3 =>
    .ret (true, (((), ()), (y3.2.2.1, ()))))

def r33_Net_Twice_g : MSig := ⟨30, (.cons (.ref 0 0) (.cons (.val false .str) (.cons (.val false (.int .i64)) .nil))), (.cells 56 (.cons (.own 1) .nil) (.rows 95 tR33_Mail .nil)), [], (.val false .bool), (.cells 56 (.cons (.own 1) .nil) (.rows 95 tR33_Mail .nil)), some 1, fun z => r33_Net_Twice_T z.1.2.1 z.1.2.2.1 z.2.2.1⟩

theorem r33_Net_Twice_ok : r33_Net_Twice_g.ok Try.prog := by
  refine MSig.lift mix tabOk nms _ Try.func30 (c := (bodyOf Try.f30)) (by kernel_rfl) (o := orM [r33_Net_All_g, r33_At_g] [r33_Net_Send_g] [] noFz) (orM_sound ⟨r33_Net_All_ok, ⟨r33_At_ok, trivial⟩⟩ ⟨r33_Net_Send_ok, trivial⟩) (allLp_ofM [] (by kernel_rfl) trivial rfl) (fun _ => rfl) ?_
  intro z; kernel_rfl

def l33_NetPlays_fz : Nat → List Pre
  | 4 => [.ownC 2 0 95 tR33_Mail]
  | 11 => [.two]
  | 13 => [.twoN 11]
  | 15 => [.twoN 11]
  | _ => []

def l33_NetPlays_L5_step (l : List R33_Act) (i : Int) (rows : List (Str × List Str)) (rows2 : List R33_Mail) : Tree ((Int × (List (Str × List Str)) × (List R33_Mail)) ⊕ (Bool ⊕ Unit)) :=
  .ite (decide (i < (l.length : Int))) (
    ask (inb i l.length) <|
    .bnd (l33_do_T (l.getD i.toNat (dfl tR33_Act : R33_Act)) rows) fun y1 =>
    ask (inb i l.length) <|
    .ite (decide ((l.getD i.toNat (dfl tR33_Act : R33_Act)).1 = 1)) (
      ask (inb i l.length) <|
      ask (inb i l.length) <|
      .bnd (r33_Net_Send_T (l.getD i.toNat (dfl tR33_Act : R33_Act)).2.1 (l.getD i.toNat (dfl tR33_Act : R33_Act)).2.2.1 rows2) fun y2 =>
      ask (inb i l.length) <|
      .bnd (r33_Net_All_T y2.2.2.1 (l.getD i.toNat (dfl tR33_Act : R33_Act)).2.1) fun y3 =>
      ask ((!(!((!(y1.1.1 == ([] : Str))) || (!(y1.1.2.1 == false))))) || inb i l.length) <|
      .grd (!((!(y1.1.1 == ([] : Str))) || (!(y1.1.2.1 == false)))) (net_Net_All_T y1.2.2.1 (l.getD i.toNat (dfl tR33_Act : R33_Act)).2.1) ([] : List Str) fun y4 =>
      .grd (!((!(y1.1.1 == ([] : Str))) || (!(y1.1.2.1 == false)))) (r01_SameTexts_T y4 y3) false fun y5 =>
      ask ((!(!(((!(y1.1.1 == ([] : Str))) || (!(y1.1.2.1 == false))) || (!y5)))) || inb i l.length) <|
      .grd (!(((!(y1.1.1 == ([] : Str))) || (!(y1.1.2.1 == false))) || (!y5))) (net_Net_Len_T y1.2.2.1 (l.getD i.toNat (dfl tR33_Act : R33_Act)).2.1) (0 : Int) fun y6 =>
      .grd (!((((!(y1.1.1 == ([] : Str))) || (!(y1.1.2.1 == false))) || (!y5)) || (!decide (y6 = (y3.length : Int))))) (net_Net_Lanes_T y1.2.2.1) ([] : List Str) fun y7 =>
      .grd (!((((!(y1.1.1 == ([] : Str))) || (!(y1.1.2.1 == false))) || (!y5)) || (!decide (y6 = (y3.length : Int))))) (r33_Net_Lanes_T y2.2.2.1) ([] : List Str) fun y8 =>
      .grd (!((((!(y1.1.1 == ([] : Str))) || (!(y1.1.2.1 == false))) || (!y5)) || (!decide (y6 = (y3.length : Int))))) (r01_SameTexts_T y7 y8) false fun y9 =>
      .ite (((((!(y1.1.1 == ([] : Str))) || (!(y1.1.2.1 == false))) || (!y5)) || (!decide (y6 = (y3.length : Int)))) || (!y9)) (
        .ret (.inr (.inl false))) (
        .ret (.inl ((w64 (i + 1)), y1.2.2.1, y2.2.2.1)))) (
      .ite (decide ((l.getD i.toNat (dfl tR33_Act : R33_Act)).1 = 2)) (
        ask (inb i l.length) <|
        ask (inb i l.length) <|
        .bnd (r33_Net_Take_T (l.getD i.toNat (dfl tR33_Act : R33_Act)).2.1 (l.getD i.toNat (dfl tR33_Act : R33_Act)).2.2.2 rows2) fun y10 =>
        .both (
          ask (inb i l.length) <|
          .bnd (r33_Net_All_T y10.2.2.1 (l.getD i.toNat (dfl tR33_Act : R33_Act)).2.1) fun y18 =>
          ask ((!(!((!(y1.1.1 == y10.1.1)) || (!(y1.1.2.1 == y10.1.2.1))))) || inb i l.length) <|
          .grd (!((!(y1.1.1 == y10.1.1)) || (!(y1.1.2.1 == y10.1.2.1)))) (net_Net_All_T y1.2.2.1 (l.getD i.toNat (dfl tR33_Act : R33_Act)).2.1) ([] : List Str) fun y19 =>
          .grd (!((!(y1.1.1 == y10.1.1)) || (!(y1.1.2.1 == y10.1.2.1)))) (r01_SameTexts_T y19 y18) false fun y20 =>
          ask ((!(!(((!(y1.1.1 == y10.1.1)) || (!(y1.1.2.1 == y10.1.2.1))) || (!y20)))) || inb i l.length) <|
          .grd (!(((!(y1.1.1 == y10.1.1)) || (!(y1.1.2.1 == y10.1.2.1))) || (!y20))) (net_Net_Len_T y1.2.2.1 (l.getD i.toNat (dfl tR33_Act : R33_Act)).2.1) (0 : Int) fun y21 =>
          .grd (!((((!(y1.1.1 == y10.1.1)) || (!(y1.1.2.1 == y10.1.2.1))) || (!y20)) || (!decide (y21 = (y18.length : Int))))) (net_Net_Lanes_T y1.2.2.1) ([] : List Str) fun y22 =>
          .grd (!((((!(y1.1.1 == y10.1.1)) || (!(y1.1.2.1 == y10.1.2.1))) || (!y20)) || (!decide (y21 = (y18.length : Int))))) (r33_Net_Lanes_T y10.2.2.1) ([] : List Str) fun y23 =>
          .grd (!((((!(y1.1.1 == y10.1.1)) || (!(y1.1.2.1 == y10.1.2.1))) || (!y20)) || (!decide (y21 = (y18.length : Int))))) (r01_SameTexts_T y22 y23) false fun y24 =>
          .ite (((((!(y1.1.1 == y10.1.1)) || (!(y1.1.2.1 == y10.1.2.1))) || (!y20)) || (!decide (y21 = (y18.length : Int)))) || (!y24)) (
            .ret (.inr (.inl false))) (
            .ret (.inl ((w64 (i + 1)), y1.2.2.1, y10.2.2.1)))) (
          ask (inb i l.length) <|
          .bnd (r33_Net_All_T y10.2.2.1 (l.getD i.toNat (dfl tR33_Act : R33_Act)).2.1) fun y11 =>
          ask ((!(!((!(y1.1.1 == y10.1.1)) || (!(y1.1.2.1 == y10.1.2.1))))) || inb i l.length) <|
          .grd (!((!(y1.1.1 == y10.1.1)) || (!(y1.1.2.1 == y10.1.2.1)))) (net_Net_All_T y1.2.2.1 (l.getD i.toNat (dfl tR33_Act : R33_Act)).2.1) ([] : List Str) fun y12 =>
          .grd (!((!(y1.1.1 == y10.1.1)) || (!(y1.1.2.1 == y10.1.2.1)))) (r01_SameTexts_T y12 y11) false fun y13 =>
          ask ((!(!(((!(y1.1.1 == y10.1.1)) || (!(y1.1.2.1 == y10.1.2.1))) || (!y13)))) || inb i l.length) <|
          .grd (!(((!(y1.1.1 == y10.1.1)) || (!(y1.1.2.1 == y10.1.2.1))) || (!y13))) (net_Net_Len_T y1.2.2.1 (l.getD i.toNat (dfl tR33_Act : R33_Act)).2.1) (0 : Int) fun y14 =>
          .grd (!((((!(y1.1.1 == y10.1.1)) || (!(y1.1.2.1 == y10.1.2.1))) || (!y13)) || (!decide (y14 = (y11.length : Int))))) (net_Net_Lanes_T y1.2.2.1) ([] : List Str) fun y15 =>
          .grd (!((((!(y1.1.1 == y10.1.1)) || (!(y1.1.2.1 == y10.1.2.1))) || (!y13)) || (!decide (y14 = (y11.length : Int))))) (r33_Net_Lanes_T y10.2.2.1) ([] : List Str) fun y16 =>
          .grd (!((((!(y1.1.1 == y10.1.1)) || (!(y1.1.2.1 == y10.1.2.1))) || (!y13)) || (!decide (y14 = (y11.length : Int))))) (r01_SameTexts_T y15 y16) false fun y17 =>
          .ite (((((!(y1.1.1 == y10.1.1)) || (!(y1.1.2.1 == y10.1.2.1))) || (!y13)) || (!decide (y14 = (y11.length : Int)))) || (!y17)) (
            .ret (.inr (.inl false))) (
            .ret (.inl ((w64 (i + 1)), y1.2.2.1, y10.2.2.1))))) (
        .ite (decide ((l.getD i.toNat (dfl tR33_Act : R33_Act)).1 = 3)) (
          ask (inb i l.length) <|
          ask (inb i l.length) <|
          .bnd (r33_Net_Twice_T (l.getD i.toNat (dfl tR33_Act : R33_Act)).2.1 (l.getD i.toNat (dfl tR33_Act : R33_Act)).2.2.2 rows2) fun y25 =>
          ask (inb i l.length) <|
          .bnd (r33_Net_All_T y25.2.2.1 (l.getD i.toNat (dfl tR33_Act : R33_Act)).2.1) fun y26 =>
          ask ((!(!((!(y1.1.1 == ([] : Str))) || (!(y1.1.2.1 == y25.1))))) || inb i l.length) <|
          .grd (!((!(y1.1.1 == ([] : Str))) || (!(y1.1.2.1 == y25.1)))) (net_Net_All_T y1.2.2.1 (l.getD i.toNat (dfl tR33_Act : R33_Act)).2.1) ([] : List Str) fun y27 =>
          .grd (!((!(y1.1.1 == ([] : Str))) || (!(y1.1.2.1 == y25.1)))) (r01_SameTexts_T y27 y26) false fun y28 =>
          ask ((!(!(((!(y1.1.1 == ([] : Str))) || (!(y1.1.2.1 == y25.1))) || (!y28)))) || inb i l.length) <|
          .grd (!(((!(y1.1.1 == ([] : Str))) || (!(y1.1.2.1 == y25.1))) || (!y28))) (net_Net_Len_T y1.2.2.1 (l.getD i.toNat (dfl tR33_Act : R33_Act)).2.1) (0 : Int) fun y29 =>
          .grd (!((((!(y1.1.1 == ([] : Str))) || (!(y1.1.2.1 == y25.1))) || (!y28)) || (!decide (y29 = (y26.length : Int))))) (net_Net_Lanes_T y1.2.2.1) ([] : List Str) fun y30 =>
          .grd (!((((!(y1.1.1 == ([] : Str))) || (!(y1.1.2.1 == y25.1))) || (!y28)) || (!decide (y29 = (y26.length : Int))))) (r33_Net_Lanes_T y25.2.2.1) ([] : List Str) fun y31 =>
          .grd (!((((!(y1.1.1 == ([] : Str))) || (!(y1.1.2.1 == y25.1))) || (!y28)) || (!decide (y29 = (y26.length : Int))))) (r01_SameTexts_T y30 y31) false fun y32 =>
          .ite (((((!(y1.1.1 == ([] : Str))) || (!(y1.1.2.1 == y25.1))) || (!y28)) || (!decide (y29 = (y26.length : Int)))) || (!y32)) (
            .ret (.inr (.inl false))) (
            .ret (.inl ((w64 (i + 1)), y1.2.2.1, y25.2.2.1)))) (
          ask (inb i l.length) <|
          .bnd (r33_Net_All_T rows2 (l.getD i.toNat (dfl tR33_Act : R33_Act)).2.1) fun y33 =>
          ask ((!(!((!(y1.1.1 == ([] : Str))) || (!(y1.1.2.1 == false))))) || inb i l.length) <|
          .grd (!((!(y1.1.1 == ([] : Str))) || (!(y1.1.2.1 == false)))) (net_Net_All_T y1.2.2.1 (l.getD i.toNat (dfl tR33_Act : R33_Act)).2.1) ([] : List Str) fun y34 =>
          .grd (!((!(y1.1.1 == ([] : Str))) || (!(y1.1.2.1 == false)))) (r01_SameTexts_T y34 y33) false fun y35 =>
          ask ((!(!(((!(y1.1.1 == ([] : Str))) || (!(y1.1.2.1 == false))) || (!y35)))) || inb i l.length) <|
          .grd (!(((!(y1.1.1 == ([] : Str))) || (!(y1.1.2.1 == false))) || (!y35))) (net_Net_Len_T y1.2.2.1 (l.getD i.toNat (dfl tR33_Act : R33_Act)).2.1) (0 : Int) fun y36 =>
          .grd (!((((!(y1.1.1 == ([] : Str))) || (!(y1.1.2.1 == false))) || (!y35)) || (!decide (y36 = (y33.length : Int))))) (net_Net_Lanes_T y1.2.2.1) ([] : List Str) fun y37 =>
          .grd (!((((!(y1.1.1 == ([] : Str))) || (!(y1.1.2.1 == false))) || (!y35)) || (!decide (y36 = (y33.length : Int))))) (r33_Net_Lanes_T rows2) ([] : List Str) fun y38 =>
          .grd (!((((!(y1.1.1 == ([] : Str))) || (!(y1.1.2.1 == false))) || (!y35)) || (!decide (y36 = (y33.length : Int))))) (r01_SameTexts_T y37 y38) false fun y39 =>
          .ite (((((!(y1.1.1 == ([] : Str))) || (!(y1.1.2.1 == false))) || (!y35)) || (!decide (y36 = (y33.length : Int)))) || (!y39)) (
            .ret (.inr (.inl false))) (
            .ret (.inl ((w64 (i + 1)), y1.2.2.1, rows2))))))) (
    .ret (.inr (.inr ())))

def l33_NetPlays_L5 : Lp := ⟨5, [], [], (.cons (.val false (.list tR33_Act)) (ca2 (.cons (.ref 1 0) (.cons (.ref 2 0) (.cons (.val false (.int .i64)) (ca (ca4 (ca8 (ca16 (ca32 (ca32 (ca32 .nil)))))))))))), (.map .str (.list .str) (.cells 69 (.cons (.mp 0) .nil) (.cells 56 (.cons (.own 3) .nil) (.rows 95 tR33_Mail .nil)))), 0, .more 0 [] (ca2 (.cons (.val false .bool) (ca32 (ca32 (ca32 (ca32 .nil)))))) .nil (.one 1 [] (ca (ca2 (ca32 (ca32 (ca32 (ca32 .nil)))))) .nil), fun z => .bnd (.loop (fun v => l33_NetPlays_L5_step z.1.1 v.1 v.2.1 v.2.2) (z.1.2.2.2.2.2.1, z.2.1, z.2.2.2.2.1)) fun r => .sum r (fun a0 => .ret (.inl ((cu2 (a0, (cu32 (cu32 (cu32 (cu32 ())))))), ()))) (fun b0 => .ret (.inr ((cu (cu2 (cu32 (cu32 (cu32 (cu32 ())))))), ())))⟩

theorem l33_NetPlays_L5_ok : l33_NetPlays_L5.ok Try.prog (nthC (loopsOf (bodyOf Try.f5)) 0) := by
  refine Lp.lift (π := List R33_Act) (V := (Int × (List (Str × List Str)) × (List R33_Mail))) (ρ := (Bool ⊕ Unit)) mix tabOk l33_NetPlays_L5 (o := orM [r33_Few_g, l33_awake_g, r33_Net_All_g, net_Net_All_gv, r01_SameTexts_g, net_Net_Len_g, net_Net_Lanes_gv, r33_Net_Lanes_gv] [net_New_g, l33_do_g, r33_Net_Send_g, r33_Net_Take_g, r33_Net_Twice_g] [] l33_NetPlays_fz) (orM_sound ⟨r33_Few_ok, ⟨l33_awake_ok, ⟨r33_Net_All_ok, ⟨net_Net_All_okv, ⟨r01_SameTexts_ok, ⟨net_Net_Len_ok, ⟨net_Net_Lanes_okv, ⟨r33_Net_Lanes_okv, trivial⟩⟩⟩⟩⟩⟩⟩⟩ ⟨net_New_ok, ⟨l33_do_ok, ⟨r33_Net_Send_ok, ⟨r33_Net_Take_ok, ⟨r33_Net_Twice_ok, trivial⟩⟩⟩⟩⟩) (allLp_ofM [] (by kernel_rfl) trivial rfl) (fun x v => ((x, (cu2 ((), ((), (v.1, (cu (cu4 (cu8 (cu16 (cu32 (cu32 (cu32 ())))))))))))), (v.2.1, (((), ()), (((), ()), (v.2.2, ())))))) (fun x r => match r with | .inl a0 => .inl ((cu2 (a0, (cu32 (cu32 (cu32 (cu32 ())))))), ()) | .inr b0 => (.inr ((cu (cu2 (cu32 (cu32 (cu32 (cu32 ())))))), ()))) (fun x v => l33_NetPlays_L5_step x v.1 v.2.1 v.2.2) (fun x r => .sum r (fun a0 => .ret (.inl ((cu2 (a0, (cu32 (cu32 (cu32 (cu32 ())))))), ()))) (fun b0 => .ret (.inr ((cu (cu2 (cu32 (cu32 (cu32 (cu32 ())))))), ())))) (fun z => z.1.1) (fun z => (z.1.2.2.2.2.2.1, z.2.1, z.2.2.2.2.1)) (fun _ => rfl) (fun _ => rfl) (fun x r Q h => match r, h with | .inl _, h => h | .inr b0, h => (h)) ?_
  intro x v; kernel_rfl

def l33_NetPlays_T (x0 : List R33_Act) : Tree Bool :=
  .bnd (r33_Few_T x0) fun y1 =>
  .ite (!y1) (
    .bnd l33_awake_T fun y2 =>
    .ret y2) (
    .bnd net_New_T fun y3 =>
    .bnd (.loop (fun v => l33_NetPlays_L5_step x0 v.1 v.2.1 v.2.2) (0, y3.2.1, ([] : List R33_Mail))) fun r4 =>
    .sum r4 (fun r5 =>
      .ret r5) (fun r6 =>
      .bnd l33_awake_T fun y7 =>
      .ret y7))

def l33_NetPlays_g : Sig := ⟨5, (.cons (.val false (.list tR33_Act)) .nil), .vals (.val false .bool), fun z => l33_NetPlays_T z.1, false⟩

theorem l33_NetPlays_ok : l33_NetPlays_g.ok Try.prog := by
  refine Sig.lift mix tabOk nms _ Try.func5 (c := (bodyOf Try.f5)) (by kernel_rfl) (o := orM [r33_Few_g, l33_awake_g, r33_Net_All_g, net_Net_All_gv, r01_SameTexts_g, net_Net_Len_g, net_Net_Lanes_gv, r33_Net_Lanes_gv] [net_New_g, l33_do_g, r33_Net_Send_g, r33_Net_Take_g, r33_Net_Twice_g] [l33_NetPlays_L5] l33_NetPlays_fz) (orM_sound ⟨r33_Few_ok, ⟨l33_awake_ok, ⟨r33_Net_All_ok, ⟨net_Net_All_okv, ⟨r01_SameTexts_ok, ⟨net_Net_Len_ok, ⟨net_Net_Lanes_okv, ⟨r33_Net_Lanes_okv, trivial⟩⟩⟩⟩⟩⟩⟩⟩ ⟨net_New_ok, ⟨l33_do_ok, ⟨r33_Net_Send_ok, ⟨r33_Net_Take_ok, ⟨r33_Net_Twice_ok, trivial⟩⟩⟩⟩⟩) (allLp_ofM [nthC (loopsOf (bodyOf Try.f5)) 0] (by kernel_rfl) ⟨l33_NetPlays_L5_ok, trivial⟩ (by kernel_rfl)) ?_
  intro z; kernel_rfl

def net_Net_given_nil_T : Tree Bool :=
  .ret false

def net_Net_given_nil_g : Sig := ⟨55, (.cons .nilp .nil), .vals (.val false .bool), fun z => net_Net_given_nil_T, false⟩

theorem net_Net_given_nil_calls (w : World) : Calls Try.prog 55 #[.pointer none] w fun e w' => e = .returned (.bool false) ∧ w' = w := by
  go_enter Try.func55, Try.ntmps55
  go_wp2
  go_ret
  exact ⟨rfl, rfl⟩

theorem net_Net_given_nil_ok : net_Net_given_nil_g.ok Try.prog := by
  rintro ⟨_, _⟩ y hy w S vs hg hS hR
  cases hy
  have hs : vs.size = 1 := hR.1
  have hv : Rel w S [] (vs.getD 0 Go.undef) .nilptr := hR.2 0 (by show 0 < 1; omega)
  have hvs : vs = #[vs.getD 0 Go.undef] := by
    apply Array.ext
    · simpa using hs
    · intro i h1 h2
      have : i = 0 := by omega
      subst this
      simp [Array.getD_eq_getD_getElem?, h1]
  have hv' : vs.getD 0 Go.undef = .pointer none := by
    generalize vs.getD 0 Go.undef = u at hv
    cases hv; rfl
  rw [hvs, hv']
  refine .inl ⟨enters_of Try.func55 (by kernel_rfl) rfl _ _, Calls.mono (net_Net_given_nil_calls w) ?_⟩
  rintro e w' ⟨rfl, rfl⟩
  exact ⟨_, rfl, Go.RowKit.Below.refl _ _, .bool _ _⟩

def net_Net_Send_nil_T (x0 : Str) (x1 : Str) : Tree (Unit) :=
  .bnd net_Net_given_nil_T fun y1 =>
  .ite y1 (
    .both (
      ask false <|
      ask false <|
      .both (
        ask false <|
        .both (
          ask false <|
          ask false <|
          .both (
            ask false <|
            .both (
              ask false <|
              .both (
                .fail) (
                .fail)) (
              ask false <|
              .fail)) (
            ask false <|
            ask false <|
            .fail)) (
          ask false <|
          ask false <|
          ask false <|
          ask false <|
          .fail)) (
        .both (
          ask false <|
          ask false <|
          .both (
            ask false <|
            .both (
              ask false <|
              .both (
                ask false <|
                .both (
                  .fail) (
                  .fail)) (
                ask false <|
                .fail)) (
              ask false <|
              ask false <|
              .fail)) (
            .both (
              ask false <|
              .both (
                ask false <|
                .both (
                  ask false <|
                  .both (
                    .fail) (
                    .fail)) (
                  ask false <|
                  .fail)) (
                .both (
                  ask false <|
                  .both (
                    ask false <|
                    .both (
                      .fail) (
                      .fail)) (
                    .both (
                      .fail) (
                      .both (
                        ask false <|
                        .fail) (
                        .fail)))) (
                  .both (
                    ask false <|
                    ask false <|
                    .fail) (
                    ask false <|
                    .both (
                      ask false <|
                      .fail) (
                      .fail))))) (
              .both (
                ask false <|
                ask false <|
                ask false <|
                .fail) (
                ask false <|
                .both (
                  ask false <|
                  ask false <|
                  .fail) (
                  ask false <|
                  .both (
                    ask false <|
                    .fail) (
                    .fail)))))) (
          .both (
            ask false <|
            ask false <|
            ask false <|
            ask false <|
            ask false <|
            .fail) (
            ask false <|
            ask false <|
            .both (
              ask false <|
              ask false <|
              ask false <|
              .fail) (
              ask false <|
              .both (
                ask false <|
                ask false <|
                .fail) (
                ask false <|
                .both (
                  ask false <|
                  .fail) (
                  .fail))))))) (
      .both (
        ask false <|
        ask false <|
        .both (
          ask false <|
          ask false <|
          .both (
            ask false <|
            .both (
              ask false <|
              .both (
                ask false <|
                .both (
                  .fail) (
                  .fail)) (
                ask false <|
                .fail)) (
              ask false <|
              ask false <|
              .fail)) (
            .both (
              ask false <|
              .both (
                ask false <|
                .both (
                  ask false <|
                  .both (
                    .fail) (
                    .fail)) (
                  ask false <|
                  .fail)) (
                .both (
                  ask false <|
                  .both (
                    ask false <|
                    .both (
                      .fail) (
                      .fail)) (
                    .both (
                      .fail) (
                      .both (
                        ask false <|
                        .fail) (
                        .fail)))) (
                  .both (
                    ask false <|
                    ask false <|
                    .fail) (
                    ask false <|
                    .both (
                      ask false <|
                      .fail) (
                      .fail))))) (
              .both (
                ask false <|
                ask false <|
                ask false <|
                .fail) (
                ask false <|
                .both (
                  ask false <|
                  ask false <|
                  .fail) (
                  ask false <|
                  .both (
                    ask false <|
                    .fail) (
                    .fail)))))) (
          .both (
            ask false <|
            .both (
              ask false <|
              ask false <|
              .both (
                ask false <|
                .both (
                  ask false <|
                  .both (
                    .fail) (
                    .fail)) (
                  ask false <|
                  .fail)) (
                .both (
                  ask false <|
                  .both (
                    ask false <|
                    .both (
                      .fail) (
                      .fail)) (
                    .both (
                      .fail) (
                      .both (
                        ask false <|
                        .fail) (
                        .fail)))) (
                  .both (
                    ask false <|
                    ask false <|
                    .fail) (
                    ask false <|
                    .both (
                      ask false <|
                      .fail) (
                      .fail))))) (
              .both (
                ask false <|
                .both (
                  ask false <|
                  ask false <|
                  .both (
                    ask false <|
                    .both (
                      .fail) (
                      .fail)) (
                    .both (
                      .fail) (
                      .both (
                        ask false <|
                        .fail) (
                        .fail)))) (
                  .both (
                    .fail) (
                    .both (
                      ask false <|
                      ask false <|
                      .both (
                        ask false <|
                        .fail) (
                        .fail)) (
                      .fail)))) (
                .both (
                  ask false <|
                  ask false <|
                  .both (
                    ask false <|
                    ask false <|
                    .fail) (
                    ask false <|
                    .both (
                      ask false <|
                      .fail) (
                      .fail))) (
                  ask false <|
                  .both (
                    ask false <|
                    ask false <|
                    .both (
                      ask false <|
                      .fail) (
                      .fail)) (
                    .fail))))) (
            .both (
              ask false <|
              ask false <|
              .both (
                ask false <|
                ask false <|
                ask false <|
                .fail) (
                ask false <|
                .both (
                  ask false <|
                  ask false <|
                  .fail) (
                  ask false <|
                  .both (
                    ask false <|
                    .fail) (
                    .fail)))) (
              ask false <|
              .both (
                ask false <|
                ask false <|
                .both (
                  ask false <|
                  ask false <|
                  .fail) (
                  ask false <|
                  .both (
                    ask false <|
                    .fail) (
                    .fail))) (
                ask false <|
                .both (
                  ask false <|
                  ask false <|
                  .both (
                    ask false <|
                    .fail) (
                    .fail)) (
                  .fail)))))) (
        .both (
          ask false <|
          ask false <|
          .both (
            ask false <|
            ask false <|
            ask false <|
            ask false <|
            ask false <|
            .fail) (
            ask false <|
            ask false <|
            .both (
              ask false <|
              ask false <|
              ask false <|
              .fail) (
              ask false <|
              .both (
                ask false <|
                ask false <|
                .fail) (
                ask false <|
                .both (
                  ask false <|
                  .fail) (
                  .fail))))) (
          ask false <|
          ask false <|
          .both (
            ask false <|
            ask false <|
            .both (
              ask false <|
              ask false <|
              ask false <|
              .fail) (
              ask false <|
              .both (
                ask false <|
                ask false <|
                .fail) (
                ask false <|
                .both (
                  ask false <|
                  .fail) (
                  .fail)))) (
            ask false <|
            .both (
              ask false <|
              ask false <|
              .both (
                ask false <|
                ask false <|
                .fail) (
                ask false <|
                .both (
                  ask false <|
                  .fail) (
                  .fail))) (
              ask false <|
              .both (
                ask false <|
                ask false <|
                .both (
                  ask false <|
                  .fail) (
                  .fail)) (
                .fail))))))) (
    .ret ())

def net_Net_Send_nil_g : Sig := ⟨51, (.cons .nilp (.cons (.val false .str) (.cons (.val false .str) .nil))), .vals .nil, fun z => net_Net_Send_nil_T z.2.1 z.2.2.1, (())⟩

theorem net_Net_Send_nil_ok : net_Net_Send_nil_g.ok Try.prog := by
  refine Sig.lift mix tabOk nms _ Try.func51 (c := (bodyOf Try.f51)) (by kernel_rfl) (o := orT [net_Net_given_nil_g] [] noFz) (orT_sound ⟨net_Net_given_nil_ok, trivial⟩) (allLp_of [] (by kernel_rfl) trivial rfl) ?_
  intro z; kernel_rfl

def net_Net_Len_nil_T (x0 : Str) : Tree Int :=
  .bnd net_Net_given_nil_T fun y1 =>
  .ite (!y1) (
    .ret 0) (
    ask false <|
    ask false <|
    ask false <|
    ask false <|
    ask false <|
    .fail)

def net_Net_Len_nil_g : Sig := ⟨33, (.cons .nilp (.cons (.val false .str) .nil)), .vals (.val false (.int .i64)), fun z => net_Net_Len_nil_T z.2.1, (0 : Int)⟩

theorem net_Net_Len_nil_ok : net_Net_Len_nil_g.ok Try.prog := by
  refine Sig.lift mix tabOk nms _ Try.func33 (c := (bodyOf Try.f33)) (by kernel_rfl) (o := orT [net_Net_given_nil_g] [] noFz) (orT_sound ⟨net_Net_given_nil_ok, trivial⟩) (allLp_of [] (by kernel_rfl) trivial rfl) ?_
  intro z; kernel_rfl

def net_Net_at_nil_T (x0 : Str) (x1 : Int) : Tree (Int × Bool × Unit) :=
  .bnd (net_Net_Len_nil_T x0) fun y1 =>
  .ite (decide (y1 = 0)) (
    .ret (0, false, ())) (
    ask (!decide (y1 = 0)) <|
    ask (!decide (y1 = 0)) <|
    .ret (((w64 ((x1.tmod y1) + y1)).tmod y1), true, ()))

def net_Net_at_nil_g : Sig := ⟨66, (.cons .nilp (.cons (.val false .str) (.cons (.val false (.int .i64)) .nil))), .vals (.cons (.val false (.int .i64)) (.cons (.val false .bool) .nil)), fun z => net_Net_at_nil_T z.2.1 z.2.2.1, ((0 : Int), false, ())⟩

theorem net_Net_at_nil_ok : net_Net_at_nil_g.ok Try.prog := by
  refine Sig.lift mix tabOk nms _ Try.func66 (c := (bodyOf Try.f66)) (by kernel_rfl) (o := orT [net_Net_Len_nil_g] [] noFz) (orT_sound ⟨net_Net_Len_nil_ok, trivial⟩) (allLp_of [] (by kernel_rfl) trivial rfl) ?_
  intro z; kernel_rfl

def net_Net_Take_nil_T (x0 : Str) (x1 : Int) : Tree (Str × Bool × Unit) :=
  .bnd (net_Net_at_nil_T x0 x1) fun y1 =>
  .ite (!y1.2.1) (
    .ret (([] : Str), false, ())) (
    ask false <|
    ask false <|
    ask false <|
    ask false <|
    ask false <|
    ask false <|
    .both (
      ask false <|
      ask false <|
      .both (
        ask false <|
        ask false <|
        ask false <|
        ask false <|
        ask false <|
        .fail) (
        ask false <|
        ask false <|
        .both (
          ask false <|
          ask false <|
          ask false <|
          .fail) (
          ask false <|
          .both (
            ask false <|
            ask false <|
            .fail) (
            ask false <|
            .both (
              ask false <|
              .fail) (
              .fail))))) (
      ask false <|
      ask false <|
      .both (
        ask false <|
        ask false <|
        .both (
          ask false <|
          ask false <|
          ask false <|
          .fail) (
          ask false <|
          .both (
            ask false <|
            ask false <|
            .fail) (
            ask false <|
            .both (
              ask false <|
              .fail) (
              .fail)))) (
        ask false <|
        .both (
          ask false <|
          ask false <|
          .both (
            ask false <|
            ask false <|
            .fail) (
            ask false <|
            .both (
              ask false <|
              .fail) (
              .fail))) (
          ask false <|
          .both (
            ask false <|
            ask false <|
            .both (
              ask false <|
              .fail) (
              .fail)) (
            .fail)))))

def net_Net_Take_nil_g : Sig := ⟨53, (.cons .nilp (.cons (.val false .str) (.cons (.val false (.int .i64)) .nil))), .vals (.cons (.val false .str) (.cons (.val false .bool) .nil)), fun z => net_Net_Take_nil_T z.2.1 z.2.2.1, (([] : Str), false, ())⟩

theorem net_Net_Take_nil_ok : net_Net_Take_nil_g.ok Try.prog := by
  refine Sig.lift mix tabOk nms _ Try.func53 (c := (bodyOf Try.f53)) (by kernel_rfl) (o := orT [net_Net_at_nil_g] [] noFz) (orT_sound ⟨net_Net_at_nil_ok, trivial⟩) (allLp_of [] (by kernel_rfl) trivial rfl) ?_
  intro z; kernel_rfl

def net_Net_Twice_nil_T (x0 : Str) (x1 : Int) : Tree Bool :=
  .bnd (net_Net_at_nil_T x0 x1) fun y1 =>
  .ite y1.2.1 (
    ask false <|
    ask false <|
    ask false <|
    ask false <|
    ask false <|
    ask false <|
    .fail) (
    .ret y1.2.1)

def net_Net_Twice_nil_g : Sig := ⟨52, (.cons .nilp (.cons (.val false .str) (.cons (.val false (.int .i64)) .nil))), .vals (.val false .bool), fun z => net_Net_Twice_nil_T z.2.1 z.2.2.1, false⟩

theorem net_Net_Twice_nil_ok : net_Net_Twice_nil_g.ok Try.prog := by
  refine Sig.lift mix tabOk nms _ Try.func52 (c := (bodyOf Try.f52)) (by kernel_rfl) (o := orT [net_Net_at_nil_g] [] noFz) (orT_sound ⟨net_Net_at_nil_ok, trivial⟩) (allLp_of [] (by kernel_rfl) trivial rfl) ?_
  intro z; kernel_rfl

def l33_do_nil_T (x0 : R33_Act) : Tree (Str × Bool × Unit) :=
  .ite (decide (x0.1 = 1)) (
    .bnd (net_Net_Send_nil_T x0.2.1 x0.2.2.1) fun y1 =>
    .ret (([] : Str), false, ())) (
    .ite (decide (x0.1 = 2)) (
      .bnd (net_Net_Take_nil_T x0.2.1 x0.2.2.2) fun y2 =>
      .ret (y2.1, y2.2.1, ())) (
      .ite (decide (x0.1 = 3)) (
        .bnd (net_Net_Twice_nil_T x0.2.1 x0.2.2.2) fun y3 =>
        .ret (([] : Str), y3, ())) (
        .ret (([] : Str), false, ()))))

def l33_do_nil_g : Sig := ⟨27, (.cons .nilp (.cons (.val true tR33_Act) .nil)), .vals (.cons (.val false .str) (.cons (.val false .bool) .nil)), fun z => l33_do_nil_T z.2.1, (([] : Str), false, ())⟩

theorem l33_do_nil_ok : l33_do_nil_g.ok Try.prog := by
  refine Sig.lift mix tabOk nms _ Try.func27 (c := (bodyOf Try.f27)) (by kernel_rfl) (o := orT [net_Net_Send_nil_g, net_Net_Take_nil_g, net_Net_Twice_nil_g] [] noFz) (orT_sound ⟨net_Net_Send_nil_ok, ⟨net_Net_Take_nil_ok, ⟨net_Net_Twice_nil_ok, trivial⟩⟩⟩) (allLp_of [] (by kernel_rfl) trivial rfl) ?_
  intro z; kernel_rfl

def net_Net_All_nil_T (x0 : Str) : Tree (List Str) :=
  .bnd net_Net_given_nil_T fun y1 =>
  .ite (!y1) (
    .ret []) (
    ask false <|
    ask false <|
    ask false <|
    ask false <|
    .fail)

def net_Net_All_nil_g : Sig := ⟨32, (.cons .nilp (.cons (.val false .str) .nil)), .vals (.val false (.list .str)), fun z => net_Net_All_nil_T z.2.1, ([] : List Str)⟩

theorem net_Net_All_nil_ok : net_Net_All_nil_g.ok Try.prog := by
  refine Sig.lift mix tabOk nms _ Try.func32 (c := (bodyOf Try.f32)) (by kernel_rfl) (o := orT [net_Net_given_nil_g] [] noFz) (orT_sound ⟨net_Net_given_nil_ok, trivial⟩) (allLp_of [] (by kernel_rfl) trivial rfl) ?_
  intro z; kernel_rfl

def net_Net_Lanes_nil_T  : Tree (List Str) :=
  .bnd net_Net_given_nil_T fun y1 =>
  .ite (!y1) (
    .ret []) (
    ask false <|
    ask false <|
    ask false <|
    ask false <|
    .fail)

def net_Net_Lanes_nil_g : Sig := ⟨34, (.cons .nilp .nil), .vals (.val false (.list .str)), fun z => net_Net_Lanes_nil_T, ([] : List Str)⟩

theorem net_Net_Lanes_nil_ok : net_Net_Lanes_nil_g.ok Try.prog := by
  refine Sig.lift mix tabOk nms _ Try.func34 (c := (bodyOf Try.f34)) (by kernel_rfl) (o := orT [net_Net_given_nil_g] [] noFz) (orT_sound ⟨net_Net_given_nil_ok, trivial⟩) (allLp_ofU [] (by kernel_rfl) trivial rfl) ?_
  intro z; kernel_rfl

def net_Net_given__T  : Tree Bool :=
  .ret (true && false)

def net_Net_given__g : Sig := ⟨55, (.cons (.cp (.cons .nilm .nil)) .nil), .vals (.val false .bool), fun z => net_Net_given__T, false⟩

theorem net_Net_given__ok : net_Net_given__g.ok Try.prog := by
  refine Sig.lift mix tabOk nms _ Try.func55 (c := (bodyOf Try.f55)) (by kernel_rfl) (o := orT [] [] noFz) (orT_sound trivial) (allLp_of [] (by kernel_rfl) trivial rfl) ?_
  intro z; kernel_rfl

def net_Net_Send__T (x0 : Str) (x1 : Str) : Tree (Unit) :=
  .bnd net_Net_given__T fun y1 =>
  .ite y1 (
    .both (
      .both (
        .both (
          .both (
            .bnd (slices_Clip_string_T ([] : List Str)) fun y20 =>
            ask (decide ((y20 ++ [x1]).length * 16 ≤ roomNat)) <|
            ask false <|
            .ret ()) (
            .bnd (slices_Clip_string_T ([] : List Str)) fun y19 =>
            ask (decide ((y19 ++ [x1]).length * 16 ≤ roomNat)) <|
            ask false <|
            .ret ())) (
          .bnd (slices_Clip_string_T ([] : List Str)) fun y18 =>
          ask (decide ((y18 ++ [x1]).length * 16 ≤ roomNat)) <|
          ask false <|
          .ret ())) (
        .bnd (slices_Clip_string_T ([] : List Str)) fun y17 =>
        ask (decide ((y17 ++ [x1]).length * 16 ≤ roomNat)) <|
        ask false <|
        .ret ())) (
      .both (
        .both (
          .both (
            .both (
              .bnd (slices_Clip_string_T ([] : List Str)) fun y16 =>
              ask (decide ((y16 ++ [x1]).length * 16 ≤ roomNat)) <|
              ask false <|
              .ret ()) (
              .bnd (slices_Clip_string_T ([] : List Str)) fun y15 =>
              ask (decide ((y15 ++ [x1]).length * 16 ≤ roomNat)) <|
              ask false <|
              .ret ())) (
            .bnd (slices_Clip_string_T ([] : List Str)) fun y14 =>
            ask (decide ((y14 ++ [x1]).length * 16 ≤ roomNat)) <|
            ask false <|
            .ret ())) (
          .both (
            .both (
              .both (
                .bnd (slices_Clip_string_T ([] : List Str)) fun y13 =>
                ask (decide ((y13 ++ [x1]).length * 16 ≤ roomNat)) <|
                ask false <|
                .ret ()) (
                .bnd (slices_Clip_string_T ([] : List Str)) fun y12 =>
                ask (decide ((y12 ++ [x1]).length * 16 ≤ roomNat)) <|
                ask false <|
                .ret ())) (
              .both (
                .bnd (slices_Clip_string_T ([] : List Str)) fun y11 =>
                .both (
                  ask (decide ((y11 ++ [x1]).length * 16 ≤ roomNat)) <|
                  ask false <|
                  .ret ()) (
                  .both (
                    ask (decide ((y11 ++ [x1]).length * 16 ≤ roomNat)) <|
                    ask false <|
                    .ret ()) (
                    ask (decide ((y11 ++ [x1]).length * 16 ≤ roomNat)) <|
                    ask false <|
                    .ret ()))) (
                .both (
                  .bnd (slices_Clip_string_T ([] : List Str)) fun y10 =>
                  ask (decide ((y10 ++ [x1]).length * 16 ≤ roomNat)) <|
                  ask false <|
                  .ret ()) (
                  .bnd (slices_Clip_string_T ([] : List Str)) fun y9 =>
                  .both (
                    ask (decide ((y9 ++ [x1]).length * 16 ≤ roomNat)) <|
                    ask false <|
                    .ret ()) (
                    ask (decide ((y9 ++ [x1]).length * 16 ≤ roomNat)) <|
                    ask false <|
                    .ret ()))))) (
            .both (
              .bnd (slices_Clip_string_T ([] : List Str)) fun y8 =>
              ask (decide ((y8 ++ [x1]).length * 16 ≤ roomNat)) <|
              ask false <|
              .ret ()) (
              .both (
                .bnd (slices_Clip_string_T ([] : List Str)) fun y7 =>
                ask (decide ((y7 ++ [x1]).length * 16 ≤ roomNat)) <|
                ask false <|
                .ret ()) (
                .bnd (slices_Clip_string_T ([] : List Str)) fun y6 =>
                .both (
                  ask (decide ((y6 ++ [x1]).length * 16 ≤ roomNat)) <|
                  ask false <|
                  .ret ()) (
                  ask (decide ((y6 ++ [x1]).length * 16 ≤ roomNat)) <|
                  ask false <|
                  .ret ())))))) (
        .both (
          .bnd (slices_Clip_string_T ([] : List Str)) fun y5 =>
          ask (decide ((y5 ++ [x1]).length * 16 ≤ roomNat)) <|
          ask false <|
          .ret ()) (
          .both (
            .bnd (slices_Clip_string_T ([] : List Str)) fun y4 =>
            ask (decide ((y4 ++ [x1]).length * 16 ≤ roomNat)) <|
            ask false <|
            .ret ()) (
            .both (
              .bnd (slices_Clip_string_T ([] : List Str)) fun y3 =>
              ask (decide ((y3 ++ [x1]).length * 16 ≤ roomNat)) <|
              ask false <|
              .ret ()) (
              .bnd (slices_Clip_string_T ([] : List Str)) fun y2 =>
              .both (
                ask (decide ((y2 ++ [x1]).length * 16 ≤ roomNat)) <|
                ask false <|
                .ret ()) (
                ask (decide ((y2 ++ [x1]).length * 16 ≤ roomNat)) <|
                ask false <|
                .ret ()))))))) (
    .ret ())

def net_Net_Send__g : Sig := ⟨51, (.cons (.cp (.cons .nilm .nil)) (.cons (.val false .str) (.cons (.val false .str) .nil))), .vals .nil, fun z => net_Net_Send__T z.2.1 z.2.2.1, (())⟩

theorem net_Net_Send__ok : net_Net_Send__g.ok Try.prog := by
  refine Sig.lift mix tabOk nms _ Try.func51 (c := (bodyOf Try.f51)) (by kernel_rfl) (o := orT [net_Net_given__g, slices_Clip_string_g] [] noFz) (orT_sound ⟨net_Net_given__ok, ⟨slices_Clip_string_ok, trivial⟩⟩) (allLp_of [] (by kernel_rfl) trivial rfl) ?_
  intro z; kernel_rfl

def net_Net_Len__T (x0 : Str) : Tree Int :=
  .bnd net_Net_given__T fun y1 =>
  .ite (!y1) (
    .ret 0) (
    .ret (([] : List Str).length : Int))

def net_Net_Len__g : Sig := ⟨33, (.cons (.cp (.cons .nilm .nil)) (.cons (.val false .str) .nil)), .vals (.val false (.int .i64)), fun z => net_Net_Len__T z.2.1, (0 : Int)⟩

theorem net_Net_Len__ok : net_Net_Len__g.ok Try.prog := by
  refine Sig.lift mix tabOk nms _ Try.func33 (c := (bodyOf Try.f33)) (by kernel_rfl) (o := orT [net_Net_given__g] [] noFz) (orT_sound ⟨net_Net_given__ok, trivial⟩) (allLp_of [] (by kernel_rfl) trivial rfl) ?_
  intro z; kernel_rfl

def net_Net_at__T (x0 : Str) (x1 : Int) : Tree (Int × Bool × Unit) :=
  .bnd (net_Net_Len__T x0) fun y1 =>
  .ite (decide (y1 = 0)) (
    .ret (0, false, ())) (
    ask (!decide (y1 = 0)) <|
    ask (!decide (y1 = 0)) <|
    .ret (((w64 ((x1.tmod y1) + y1)).tmod y1), true, ()))

def net_Net_at__g : Sig := ⟨66, (.cons (.cp (.cons .nilm .nil)) (.cons (.val false .str) (.cons (.val false (.int .i64)) .nil))), .vals (.cons (.val false (.int .i64)) (.cons (.val false .bool) .nil)), fun z => net_Net_at__T z.2.1 z.2.2.1, ((0 : Int), false, ())⟩

theorem net_Net_at__ok : net_Net_at__g.ok Try.prog := by
  refine Sig.lift mix tabOk nms _ Try.func66 (c := (bodyOf Try.f66)) (by kernel_rfl) (o := orT [net_Net_Len__g] [] noFz) (orT_sound ⟨net_Net_Len__ok, trivial⟩) (allLp_of [] (by kernel_rfl) trivial rfl) ?_
  intro z; kernel_rfl

def net_Net_Take__T (x0 : Str) (x1 : Int) : Tree (Str × Bool × Unit) :=
  .bnd (net_Net_at__T x0 x1) fun y1 =>
  .ite (!y1.2.1) (
    .ret (([] : Str), false, ())) (
    ask (inb y1.1 ([] : List Str).length) <|
    .both (
      .bnd (slices_Clone_string_T ([] : List Str)) fun y9 =>
      .bnd (slices_Delete_string_T y1.1 (w64 (y1.1 + 1)) y9) fun y10 =>
      ask false <|
      .ite (decide ((([] : List Str).length : Int) = 0)) (
        .ret ((([] : List Str).getD y1.1.toNat ([] : Str)), true, ())) (
        .ret ((([] : List Str).getD y1.1.toNat ([] : Str)), true, ()))) (
      .both (
        .bnd (slices_Clone_string_T ([] : List Str)) fun y7 =>
        .bnd (slices_Delete_string_T y1.1 (w64 (y1.1 + 1)) y7) fun y8 =>
        ask false <|
        .ite (decide ((([] : List Str).length : Int) = 0)) (
          .ret ((([] : List Str).getD y1.1.toNat ([] : Str)), true, ())) (
          .ret ((([] : List Str).getD y1.1.toNat ([] : Str)), true, ()))) (
        .both (
          .bnd (slices_Clone_string_T ([] : List Str)) fun y5 =>
          .bnd (slices_Delete_string_T y1.1 (w64 (y1.1 + 1)) y5) fun y6 =>
          ask false <|
          .ite (decide ((([] : List Str).length : Int) = 0)) (
            .ret ((([] : List Str).getD y1.1.toNat ([] : Str)), true, ())) (
            .ret ((([] : List Str).getD y1.1.toNat ([] : Str)), true, ()))) (
          .bnd (slices_Clone_string_T ([] : List Str)) fun y2 =>
          .both (
            .bnd (slices_Delete_string_T y1.1 (w64 (y1.1 + 1)) y2) fun y4 =>
            ask false <|
            .ite (decide ((([] : List Str).length : Int) = 0)) (
              .ret ((([] : List Str).getD y1.1.toNat ([] : Str)), true, ())) (
              .ret ((([] : List Str).getD y1.1.toNat ([] : Str)), true, ()))) (
            .bnd (slices_Delete_string_T y1.1 (w64 (y1.1 + 1)) y2) fun y3 =>
            ask false <|
            .ite (decide ((([] : List Str).length : Int) = 0)) (
              .ret ((([] : List Str).getD y1.1.toNat ([] : Str)), true, ())) (
              .ret ((([] : List Str).getD y1.1.toNat ([] : Str)), true, ())))))))

def net_Net_Take__g : Sig := ⟨53, (.cons (.cp (.cons .nilm .nil)) (.cons (.val false .str) (.cons (.val false (.int .i64)) .nil))), .vals (.cons (.val false .str) (.cons (.val false .bool) .nil)), fun z => net_Net_Take__T z.2.1 z.2.2.1, (([] : Str), false, ())⟩

theorem net_Net_Take__ok : net_Net_Take__g.ok Try.prog := by
  refine Sig.lift mix tabOk nms _ Try.func53 (c := (bodyOf Try.f53)) (by kernel_rfl) (o := orM [net_Net_at__g, slices_Clone_string_g] [slices_Delete_string_g] [] noFz) (orM_sound ⟨net_Net_at__ok, ⟨slices_Clone_string_ok, trivial⟩⟩ ⟨slices_Delete_string_ok, trivial⟩) (allLp_ofM [] (by kernel_rfl) trivial rfl) ?_
  intro z; kernel_rfl

def net_Net_Twice__T (x0 : Str) (x1 : Int) : Tree Bool :=
  .bnd (net_Net_at__T x0 x1) fun y1 =>
  .ite y1.2.1 (
    ask (inb y1.1 ([] : List Str).length) <|
    .bnd (net_Net_Send__T x0 (([] : List Str).getD y1.1.toNat ([] : Str))) fun y2 =>
    .ret y1.2.1) (
    .ret y1.2.1)

def net_Net_Twice__g : Sig := ⟨52, (.cons (.cp (.cons .nilm .nil)) (.cons (.val false .str) (.cons (.val false (.int .i64)) .nil))), .vals (.val false .bool), fun z => net_Net_Twice__T z.2.1 z.2.2.1, false⟩

theorem net_Net_Twice__ok : net_Net_Twice__g.ok Try.prog := by
  refine Sig.lift mix tabOk nms _ Try.func52 (c := (bodyOf Try.f52)) (by kernel_rfl) (o := orT [net_Net_at__g, net_Net_Send__g] [] noFz) (orT_sound ⟨net_Net_at__ok, ⟨net_Net_Send__ok, trivial⟩⟩) (allLp_of [] (by kernel_rfl) trivial rfl) ?_
  intro z; kernel_rfl

def l33_do__T (x0 : R33_Act) : Tree (Str × Bool × Unit) :=
  .ite (decide (x0.1 = 1)) (
    .bnd (net_Net_Send__T x0.2.1 x0.2.2.1) fun y1 =>
    .ret (([] : Str), false, ())) (
    .ite (decide (x0.1 = 2)) (
      .bnd (net_Net_Take__T x0.2.1 x0.2.2.2) fun y2 =>
      .ret (y2.1, y2.2.1, ())) (
      .ite (decide (x0.1 = 3)) (
        .bnd (net_Net_Twice__T x0.2.1 x0.2.2.2) fun y3 =>
        .ret (([] : Str), y3, ())) (
        .ret (([] : Str), false, ()))))

def l33_do__g : Sig := ⟨27, (.cons (.cp (.cons .nilm .nil)) (.cons (.val true tR33_Act) .nil)), .vals (.cons (.val false .str) (.cons (.val false .bool) .nil)), fun z => l33_do__T z.2.1, (([] : Str), false, ())⟩

theorem l33_do__ok : l33_do__g.ok Try.prog := by
  refine Sig.lift mix tabOk nms _ Try.func27 (c := (bodyOf Try.f27)) (by kernel_rfl) (o := orT [net_Net_Send__g, net_Net_Take__g, net_Net_Twice__g] [] noFz) (orT_sound ⟨net_Net_Send__ok, ⟨net_Net_Take__ok, ⟨net_Net_Twice__ok, trivial⟩⟩⟩) (allLp_of [] (by kernel_rfl) trivial rfl) ?_
  intro z; kernel_rfl

def net_Net_All__T (x0 : Str) : Tree (List Str) :=
  .bnd net_Net_given__T fun y1 =>
  .ite (!y1) (
    .ret []) (
    .bnd (slices_Clone_string_T ([] : List Str)) fun y2 =>
    .ret y2)

def net_Net_All__g : Sig := ⟨32, (.cons (.cp (.cons .nilm .nil)) (.cons (.val false .str) .nil)), .fresh 9 .str, fun z => net_Net_All__T z.2.1, ([] : List Str)⟩

theorem net_Net_All__ok : net_Net_All__g.ok Try.prog := by
  refine Sig.lift mix tabOk nms _ Try.func32 (c := (bodyOf Try.f32)) (by kernel_rfl) (o := orT [net_Net_given__g, slices_Clone_string_g] [] noFz) (orT_sound ⟨net_Net_given__ok, ⟨slices_Clone_string_ok, trivial⟩⟩) (allLp_of [] (by kernel_rfl) trivial rfl) ?_
  intro z; kernel_rfl

def net_Net_All__gv : Sig := ⟨32, (.cons (.cp (.cons .nilm .nil)) (.cons (.val false .str) .nil)), .newv 9 .str, fun z => net_Net_All__T z.2.1, ([] : List Str)⟩

theorem net_Net_All__okv : net_Net_All__gv.ok Try.prog := fun x y h => acalls_new (net_Net_All__ok x y h)

def net_Net_Lanes__T  : Tree (List Str) :=
  .bnd net_Net_given__T fun y1 =>
  .ite (!y1) (
    .ret []) (
    ask false <|
    .fail)

def net_Net_Lanes__g : Sig := ⟨34, (.cons (.cp (.cons .nilm .nil)) .nil), .fresh 9 .str, fun z => net_Net_Lanes__T, ([] : List Str)⟩

theorem net_Net_Lanes__ok : net_Net_Lanes__g.ok Try.prog := by
  refine Sig.lift mix tabOk nms _ Try.func34 (c := (bodyOf Try.f34)) (by kernel_rfl) (o := orT [net_Net_given__g] [] noFz) (orT_sound ⟨net_Net_given__ok, trivial⟩) (allLp_ofU [] (by kernel_rfl) trivial rfl) ?_
  intro z; kernel_rfl

def net_Net_Lanes__gv : Sig := ⟨34, (.cons (.cp (.cons .nilm .nil)) .nil), .newv 9 .str, fun z => net_Net_Lanes__T, ([] : List Str)⟩

theorem net_Net_Lanes__okv : net_Net_Lanes__gv.ok Try.prog := fun x y h => acalls_new (net_Net_Lanes__ok x y h)

def l33_NetNobody_fz : Nat → List Pre
  | 5 => [.unr 3]
  | _ => []

def l33_NetNobody_T (x0 : R33_Act) : Tree Bool :=
  .bnd (r33_Few_T [x0]) fun y1 =>
  .ite (!y1) (
    .bnd l33_awake_T fun y2 =>
    .ret y2) (
    .ite (decide ((0 : Int) < 2)) (
      .bnd (l33_do_nil_T x0) fun y3 =>
      .grd (!((!(y3.1 == ([] : Str))) || y3.2.1)) (net_Net_Len_nil_T x0.2.1) (0 : Int) fun y4 =>
      .grd (!(((!(y3.1 == ([] : Str))) || y3.2.1) || (!decide (y4 = 0)))) (net_Net_All_nil_T x0.2.1) ([] : List Str) fun y5 =>
      .grd (!((((!(y3.1 == ([] : Str))) || y3.2.1) || (!decide (y4 = 0))) || (!decide ((y5.length : Int) = 0)))) net_Net_Lanes_nil_T ([] : List Str) fun y6 =>
      .ite (((((!(y3.1 == ([] : Str))) || y3.2.1) || (!decide (y4 = 0))) || (!decide ((y5.length : Int) = 0))) || (!decide ((y6.length : Int) = 0))) (
        .ret false) (
        .ite (decide ((w64 ((0 : Int) + 1)) < 2)) (
          .bnd (l33_do__T x0) fun y7 =>
          .grd (!((!(y7.1 == ([] : Str))) || y7.2.1)) (net_Net_Len__T x0.2.1) (0 : Int) fun y8 =>
          .grd (!(((!(y7.1 == ([] : Str))) || y7.2.1) || (!decide (y8 = 0)))) (net_Net_All__T x0.2.1) ([] : List Str) fun y9 =>
          .grd (!((((!(y7.1 == ([] : Str))) || y7.2.1) || (!decide (y8 = 0))) || (!decide ((y9.length : Int) = 0)))) net_Net_Lanes__T ([] : List Str) fun y10 =>
          .ite (((((!(y7.1 == ([] : Str))) || y7.2.1) || (!decide (y8 = 0))) || (!decide ((y9.length : Int) = 0))) || (!decide ((y10.length : Int) = 0))) (
            .ret false) (
            .ite (decide ((w64 ((w64 ((0 : Int) + 1)) + 1)) < 2)) (
              ask false <|
              ask false <|
              .fail) (
              .bnd l33_awake_T fun y11 =>
              .ret y11))) (
          .bnd l33_awake_T fun y12 =>
          .ret y12))) (
      .bnd l33_awake_T fun y13 =>
      .ret y13))

def l33_NetNobody_g : Sig := ⟨7, (.cons (.val true tR33_Act) .nil), .vals (.val false .bool), fun z => l33_NetNobody_T z.1, false⟩

theorem l33_NetNobody_ok : l33_NetNobody_g.ok Try.prog := by
  refine Sig.lift mix tabOk nms _ Try.func7 (c := (bodyOf Try.f7)) (by kernel_rfl) (o := orT [r33_Few_g, l33_awake_g, l33_do_nil_g, net_Net_Len_nil_g, net_Net_All_nil_g, net_Net_Lanes_nil_g, l33_do__g, net_Net_Len__g, net_Net_All__gv, net_Net_Lanes__gv] [] l33_NetNobody_fz) (orT_sound ⟨r33_Few_ok, ⟨l33_awake_ok, ⟨l33_do_nil_ok, ⟨net_Net_Len_nil_ok, ⟨net_Net_All_nil_ok, ⟨net_Net_Lanes_nil_ok, ⟨l33_do__ok, ⟨net_Net_Len__ok, ⟨net_Net_All__okv, ⟨net_Net_Lanes__okv, trivial⟩⟩⟩⟩⟩⟩⟩⟩⟩⟩) (allLp_ofU [] (by kernel_rfl) trivial rfl) ?_
  intro z; kernel_rfl

end Go.Eng
