/- Lifted: 12 functions, part 1. -/
import Derived.Test.YtcdcjpoamlgekaaN54
import Derived.Test.YtcdcjpoamlgekaaTrG
import Derived.Test.YtcdcjpoamlgekaaTrF
import Derived.Test.YtcdcjpoamlgekaaEngT
namespace Go.Eng
open Go Go.Proofs
set_option maxRecDepth 100000


def r54_even_T (x0 : Int) : Tree Int :=
  ask (!decide ((2 : Int) = 0)) <|
  .ret (w64 (x0 + (x0.tmod 2)))

def r54_even_g : Sig := ⟨14, (.cons (.val false (.int .i64)) .nil), .vals (.val false (.int .i64)), fun z => r54_even_T z.1, (0 : Int)⟩

theorem r54_even_ok : r54_even_g.ok Try.prog := by
  refine Sig.lift mix tabOk nms _ Try.func14 (c := (bodyOf Try.f14)) (by kernel_rfl) (o := orT [] [] noFz) (orT_sound trivial) (allLp_of [] (by kernel_rfl) trivial rfl) ?_
  intro z; kernel_rfl

def r54_Count_T (x0 : Int) : Tree Int :=
  .ite ((decide (x0 < 2)) || (decide ((64 : Int) < x0))) (
    .ret 0) (
    .bnd (r54_even_T x0) fun y1 =>
    .ret (w64 (y1 - 1)))

def r54_Count_g : Sig := ⟨9, (.cons (.val false (.int .i64)) .nil), .vals (.val false (.int .i64)), fun z => r54_Count_T z.1, (0 : Int)⟩

theorem r54_Count_ok : r54_Count_g.ok Try.prog := by
  refine Sig.lift mix tabOk nms _ Try.func9 (c := (bodyOf Try.f9)) (by kernel_rfl) (o := orT [r54_even_g] [] noFz) (orT_sound ⟨r54_even_ok, trivial⟩) (allLp_of [] (by kernel_rfl) trivial rfl) ?_
  intro z; kernel_rfl

def r54_Meets_L6_step (many : Int) (round : Int) (one : Int) (n : Int) (other : Int) (k : Int) : Tree ((Int × Int) ⊕ Int) :=
  ask (!decide ((2 : Int) = 0)) <|
  .ite (decide (k ≤ (w64 (n.tdiv 2)))) (
    ask (!decide (n = 0)) <|
    ask (!decide (n = 0)) <|
    .ite (decide (((w64 (round + k)).tmod n) = one)) (
      .ite (decide (((w64 ((w64 (round - k)) + n)).tmod n) = one)) (
        .ret (.inl (((w64 (round + k)).tmod n), (w64 (k + 1))))) (
        .ret (.inl (((w64 ((w64 (round - k)) + n)).tmod n), (w64 (k + 1)))))) (
      .ite (decide (((w64 ((w64 (round - k)) + n)).tmod n) = one)) (
        .ret (.inl (((w64 (round + k)).tmod n), (w64 (k + 1))))) (
        .ret (.inl (other, (w64 (k + 1))))))) (
    .ret (.inr other))

def r54_Meets_L6 : Lp := ⟨6, [], [], (.cons (.val false (.int .i64)) (.cons (.val false (.int .i64)) (.cons (.val false (.int .i64)) (ca (ca4 (.cons (.val false (.int .i64)) (.cons (.val false (.int .i64)) (.cons (.val false (.int .i64)) (ca4 (ca8 (ca16 (ca32 .nil)))))))))))), .nil, 0, .one 2 [] (.cons (.val false (.int .i64)) (ca8 (.cons (.val false (.int .i64)) (ca (ca4 (ca8 (ca16 (ca32 .nil)))))))) .nil, fun z => .bnd (.loop (fun v => r54_Meets_L6_step z.1.1 z.1.2.1 z.1.2.2.1 z.1.2.2.2.2.2.2.2.2.1 v.1 v.2) (z.1.2.2.2.2.2.2.2.2.2.1, z.1.2.2.2.2.2.2.2.2.2.2.1)) fun r => .ret ((z.1.1, (cu8 (r, (cu (cu4 (cu8 (cu16 (cu32 ())))))))), ())⟩

theorem r54_Meets_L6_ok : r54_Meets_L6.ok Try.prog (nthC (loopsOf (bodyOf Try.f7)) 0) := by
  refine Lp.lift (π := (Int × Int × Int × Int)) (V := (Int × Int)) (ρ := Int) mix tabOk r54_Meets_L6 (o := orT [r54_Count_g] [] noFz) (orT_sound ⟨r54_Count_ok, trivial⟩) (allLp_of [] (by kernel_rfl) trivial rfl) (fun x v => ((x.1, (x.2.1, (x.2.2.1, (cu (cu4 (x.2.2.2, (v.1, (v.2, (cu4 (cu8 (cu16 (cu32 ())))))))))))), ())) (fun x r => ((x.1, (cu8 (r, (cu (cu4 (cu8 (cu16 (cu32 ())))))))), ())) (fun x v => r54_Meets_L6_step x.1 x.2.1 x.2.2.1 x.2.2.2 v.1 v.2) (fun x r => .ret ((x.1, (cu8 (r, (cu (cu4 (cu8 (cu16 (cu32 ())))))))), ())) (fun z => (z.1.1, z.1.2.1, z.1.2.2.1, z.1.2.2.2.2.2.2.2.2.1)) (fun z => (z.1.2.2.2.2.2.2.2.2.2.1, z.1.2.2.2.2.2.2.2.2.2.2.1)) (fun _ => rfl) (fun _ => rfl) (fun _ _ _ h => h) ?_
  intro x v; kernel_rfl

def r54_Meets_T (x0 : Int) (x1 : Int) (x2 : Int) : Tree (Int × Bool × Unit) :=
  .bnd (r54_Count_T x0) fun y1 =>
  .ite ((((decide (x1 < 0)) || (decide (y1 ≤ x1))) || (decide (x2 < 0))) || (decide (x0 ≤ x2))) (
    .ret (0, false, ())) (
    .ite (decide (x2 = y1)) (
      .ite (decide (x0 ≤ x1)) (
        .ret (0, false, ())) (
        .ret (x1, true, ()))) (
      .ite (decide (x2 = x1)) (
        .ite (decide (x0 ≤ y1)) (
          .ret (0, false, ())) (
          .ret (y1, true, ()))) (
        .bnd (.loop (fun v => r54_Meets_L6_step x0 x1 x2 y1 v.1 v.2) (0, 1)) fun r2 =>
        .ite (decide (x0 ≤ r2)) (
          .ret (0, false, ())) (
          .ret (r2, true, ())))))

def r54_Meets_g : Sig := ⟨7, (.cons (.val false (.int .i64)) (.cons (.val false (.int .i64)) (.cons (.val false (.int .i64)) .nil))), .vals (.cons (.val false (.int .i64)) (.cons (.val false .bool) .nil)), fun z => r54_Meets_T z.1 z.2.1 z.2.2.1, ((0 : Int), false, ())⟩

theorem r54_Meets_ok : r54_Meets_g.ok Try.prog := by
  refine Sig.lift mix tabOk nms _ Try.func7 (c := (bodyOf Try.f7)) (by kernel_rfl) (o := orT [r54_Count_g] [r54_Meets_L6] noFz) (orT_sound ⟨r54_Count_ok, trivial⟩) (allLp_of [nthC (loopsOf (bodyOf Try.f7)) 0] (by kernel_rfl) ⟨r54_Meets_L6_ok, trivial⟩ (by kernel_rfl)) ?_
  intro z; kernel_rfl

def r54_Rounds_fz : Nat → List Pre
  | 12 => [.frz 1]
  | _ => []

def r54_Rounds_L7_step (many : Int) (r : Int) (out : List (List (Int × Int))) (i : Int) (pairs : List (Int × Int)) : Tree ((Int × (List (Int × Int))) ⊕ (List (Int × Int))) :=
  .ite (decide (i < many)) (
    .bnd (r54_Meets_T many r i) fun y1 =>
    .ite (y1.2.1 && (decide (i < y1.1))) (
      ask (decide ((pairs ++ [(i, y1.1)]).length * 16 ≤ roomNat)) <|
      .ret (.inl ((w64 (i + 1)), (pairs ++ [(i, y1.1)])))) (
      .ret (.inl ((w64 (i + 1)), pairs)))) (
    .ret (.inr pairs))

def r54_Rounds_L7 : Lp := ⟨7, [.own 5 34 (.pair (.int .i64) (.int .i64))], [], (.cons (.val false (.int .i64)) (ca2 (.cons (.own 0) (.cons (.val false (.int .i64)) (.cons (.own 1) (.cons (.val false (.int .i64)) (ca (ca4 (ca32 .nil))))))))), (.rows 33 (.list (.pair (.int .i64) (.int .i64))) (.rows 34 (.pair (.int .i64) (.int .i64)) .nil)), 0, .one 3 [] (.cons (.val false (.int .i64)) (ca2 (.cons (.own 0) (.cons (.val false (.int .i64)) (.cons (.own 1) (ca2 (ca4 (ca32 .nil)))))))) (.rows 33 (.list (.pair (.int .i64) (.int .i64))) (.rows 34 (.pair (.int .i64) (.int .i64)) .nil)), fun z => .bnd (.loop (fun v => r54_Rounds_L7_step z.1.1 z.1.2.2.2.2.1 z.2.1 v.1 v.2) (z.1.2.2.2.2.2.2.1, z.2.2.1)) fun r => .ret ((z.1.1, (cu2 ((), (z.1.2.2.2.2.1, ((), (cu2 (cu4 (cu32 ())))))))), (z.2.1, (r, ())))⟩

theorem r54_Rounds_L7_ok : r54_Rounds_L7.ok Try.prog (nthC (loopsOf (nthC (loopsOf (bodyOf Try.f13)) 0)) 0) := by
  refine Lp.lift (π := (Int × Int × (List (List (Int × Int))))) (V := (Int × (List (Int × Int)))) (ρ := List (Int × Int)) mix tabOk r54_Rounds_L7 (o := orT [r54_Count_g, r54_Meets_g] [] r54_Rounds_fz) (orT_sound ⟨r54_Count_ok, ⟨r54_Meets_ok, trivial⟩⟩) (allLp_of [] (by kernel_rfl) trivial rfl) (fun x v => ((x.1, (cu2 ((), (x.2.1, ((), (v.1, (cu (cu4 (cu32 ()))))))))), (x.2.2, (v.2, ())))) (fun x r => ((x.1, (cu2 ((), (x.2.1, ((), (cu2 (cu4 (cu32 ())))))))), (x.2.2, (r, ())))) (fun x v => r54_Rounds_L7_step x.1 x.2.1 x.2.2 v.1 v.2) (fun x r => .ret ((x.1, (cu2 ((), (x.2.1, ((), (cu2 (cu4 (cu32 ())))))))), (x.2.2, (r, ())))) (fun z => (z.1.1, z.1.2.2.2.2.1, z.2.1)) (fun z => (z.1.2.2.2.2.2.2.1, z.2.2.1)) (fun _ => rfl) (fun _ => rfl) (fun _ _ _ h => h) ?_
  intro x v; kernel_rfl

def r54_Rounds_L3_step (many : Int) (r : Int) (out : List (List (Int × Int))) : Tree ((Int × (List (List (Int × Int)))) ⊕ (List (List (Int × Int)))) :=
  .bnd (r54_Count_T many) fun y1 =>
  .ite (decide (r < y1)) (
    .bnd (.loop (fun v => r54_Rounds_L7_step many r out v.1 v.2) (0, ([] : List (Int × Int)))) fun r2 =>
    ask (decide ((out ++ [r2]).length * 24 ≤ roomNat)) <|
    .ret (.inl ((w64 (r + 1)), (out ++ [r2])))) (
    .ret (.inr out))

def r54_Rounds_L3 : Lp := ⟨3, [.own 3 33 (.list (.pair (.int .i64) (.int .i64)))], [], (.cons (.val false (.int .i64)) (ca2 (.cons (.own 0) (.cons (.val false (.int .i64)) (ca (ca2 (ca4 (ca32 .nil)))))))), (.rows 33 (.list (.pair (.int .i64) (.int .i64))) .nil), 0, .one 1 [] (ca (ca2 (.cons (.own 0) (ca8 (ca32 .nil))))) (.rows 33 (.list (.pair (.int .i64) (.int .i64))) .nil), fun z => .bnd (.loop (fun v => r54_Rounds_L3_step z.1.1 v.1 v.2) (z.1.2.2.2.2.1, z.2.1)) fun r => .ret ((cu (cu2 ((), (cu8 (cu32 ()))))), (r, ()))⟩

theorem r54_Rounds_L3_ok : r54_Rounds_L3.ok Try.prog (nthC (loopsOf (bodyOf Try.f13)) 0) := by
  refine Lp.lift (π := Int) (V := (Int × (List (List (Int × Int))))) (ρ := List (List (Int × Int))) mix tabOk r54_Rounds_L3 (o := orT [r54_Count_g, r54_Meets_g] [r54_Rounds_L7] r54_Rounds_fz) (orT_sound ⟨r54_Count_ok, ⟨r54_Meets_ok, trivial⟩⟩) (allLp_of [nthC (loopsOf (nthC (loopsOf (bodyOf Try.f13)) 0)) 0] (by kernel_rfl) ⟨r54_Rounds_L7_ok, trivial⟩ (by kernel_rfl)) (fun x v => ((x, (cu2 ((), (v.1, (cu (cu2 (cu4 (cu32 ())))))))), (v.2, ()))) (fun x r => ((cu (cu2 ((), (cu8 (cu32 ()))))), (r, ()))) (fun x v => r54_Rounds_L3_step x v.1 v.2) (fun x r => .ret ((cu (cu2 ((), (cu8 (cu32 ()))))), (r, ()))) (fun z => z.1.1) (fun z => (z.1.2.2.2.2.1, z.2.1)) (fun _ => rfl) (fun _ => rfl) (fun _ _ _ h => h) ?_
  intro x v; kernel_rfl

def r54_Rounds_T (x0 : Int) : Tree (List (List (Int × Int))) :=
  .bnd (.loop (fun v => r54_Rounds_L3_step x0 v.1 v.2) (0, ([] : List (List (Int × Int))))) fun r1 =>
  .ret r1

def r54_Rounds_g : Sig := ⟨13, (.cons (.val false (.int .i64)) .nil), .fresh 33 (.list (.pair (.int .i64) (.int .i64))), fun z => r54_Rounds_T z.1, ([] : List (List (Int × Int)))⟩

theorem r54_Rounds_ok : r54_Rounds_g.ok Try.prog := by
  refine Sig.lift mix tabOk nms _ Try.func13 (c := (bodyOf Try.f13)) (by kernel_rfl) (o := orT [r54_Count_g, r54_Meets_g] [r54_Rounds_L3] r54_Rounds_fz) (orT_sound ⟨r54_Count_ok, ⟨r54_Meets_ok, trivial⟩⟩) (allLp_of [nthC (loopsOf (bodyOf Try.f13)) 0] (by kernel_rfl) ⟨r54_Rounds_L3_ok, trivial⟩ (by kernel_rfl)) ?_
  intro z; kernel_rfl

def r54_Rounds_gv : Sig := ⟨13, (.cons (.val false (.int .i64)) .nil), .vals (.val false (.list (.list (.pair (.int .i64) (.int .i64))))), fun z => r54_Rounds_T z.1, ([] : List (List (Int × Int)))⟩

theorem r54_Rounds_okv : r54_Rounds_gv.ok Try.prog := fun x y h => acalls_val (r54_Rounds_ok x y h)

def r54_Same_L9_step (a : List (List (Int × Int))) (b : List (List (Int × Int))) (i : Int) (k : Int) : Tree (Int ⊕ (Bool ⊕ Unit)) :=
  ask (inb i a.length) <|
  ask ((!(decide (k < ((a.getD i.toNat ([] : List (Int × Int))).length : Int)))) || inb i b.length) <|
  .ite ((decide (k < ((a.getD i.toNat ([] : List (Int × Int))).length : Int))) && (decide (k < ((b.getD i.toNat ([] : List (Int × Int))).length : Int)))) (
    ask (inb i a.length) <|
    ask (inb k (a.getD i.toNat ([] : List (Int × Int))).length) <|
    ask (inb i b.length) <|
    ask (inb k (b.getD i.toNat ([] : List (Int × Int))).length) <|
    .ite (!((decide (((a.getD i.toNat ([] : List (Int × Int))).getD k.toNat (dfl (.pair (.int .i64) (.int .i64)) : (Int × Int))).1 = ((b.getD i.toNat ([] : List (Int × Int))).getD k.toNat (dfl (.pair (.int .i64) (.int .i64)) : (Int × Int))).1)) && ((decide (((a.getD i.toNat ([] : List (Int × Int))).getD k.toNat (dfl (.pair (.int .i64) (.int .i64)) : (Int × Int))).2 = ((b.getD i.toNat ([] : List (Int × Int))).getD k.toNat (dfl (.pair (.int .i64) (.int .i64)) : (Int × Int))).2)) && true))) (
      .ret (.inr (.inl false))) (
      .ret (.inl (w64 (k + 1))))) (
    .ret (.inr (.inr ())))

def r54_Same_L9 : Lp := ⟨9, [], [], (.cons (.val false (.list (.list (.pair (.int .i64) (.int .i64))))) (.cons (.val false (.list (.list (.pair (.int .i64) (.int .i64))))) (ca (ca2 (.cons (.val false (.int .i64)) (.cons (.val false (.int .i64)) (ca (ca4 (ca8 (ca16 (ca32 .nil))))))))))), .nil, 0, .more 0 [] (ca4 (.cons (.val false .bool) (ca (ca2 (ca4 (ca8 (ca16 (ca32 .nil)))))))) .nil (.one 3 [] (.cons (.val false (.list (.list (.pair (.int .i64) (.int .i64))))) (.cons (.val false (.list (.list (.pair (.int .i64) (.int .i64))))) (ca (ca2 (.cons (.val false (.int .i64)) (ca2 (ca4 (ca8 (ca16 (ca32 .nil)))))))))) .nil), fun z => .bnd (.loop (fun v => r54_Same_L9_step z.1.1 z.1.2.1 z.1.2.2.2.2.2.1 v) z.1.2.2.2.2.2.2.1) fun r => .sum r (fun a0 => .ret (.inl ((cu4 (a0, (cu (cu2 (cu4 (cu8 (cu16 (cu32 ())))))))), ()))) (fun b0 => .ret (.inr ((z.1.1, (z.1.2.1, (cu (cu2 (z.1.2.2.2.2.2.1, (cu2 (cu4 (cu8 (cu16 (cu32 ())))))))))), ())))⟩

theorem r54_Same_L9_ok : r54_Same_L9.ok Try.prog (nthC (loopsOf (nthC (loopsOf (bodyOf Try.f11)) 0)) 0) := by
  refine Lp.lift (π := ((List (List (Int × Int))) × (List (List (Int × Int))) × Int)) (V := Int) (ρ := (Bool ⊕ Unit)) mix tabOk r54_Same_L9 (o := orT [] [] noFz) (orT_sound trivial) (allLp_of [] (by kernel_rfl) trivial rfl) (fun x v => ((x.1, (x.2.1, (cu (cu2 (x.2.2, (v, (cu (cu4 (cu8 (cu16 (cu32 ()))))))))))), ())) (fun x r => match r with | .inl a0 => .inl ((cu4 (a0, (cu (cu2 (cu4 (cu8 (cu16 (cu32 ())))))))), ()) | .inr b0 => (.inr ((x.1, (x.2.1, (cu (cu2 (x.2.2, (cu2 (cu4 (cu8 (cu16 (cu32 ())))))))))), ()))) (fun x v => r54_Same_L9_step x.1 x.2.1 x.2.2 v) (fun x r => .sum r (fun a0 => .ret (.inl ((cu4 (a0, (cu (cu2 (cu4 (cu8 (cu16 (cu32 ())))))))), ()))) (fun b0 => .ret (.inr ((x.1, (x.2.1, (cu (cu2 (x.2.2, (cu2 (cu4 (cu8 (cu16 (cu32 ())))))))))), ())))) (fun z => (z.1.1, z.1.2.1, z.1.2.2.2.2.2.1)) (fun z => z.1.2.2.2.2.2.2.1) (fun _ => rfl) (fun _ => rfl) (fun x r Q h => match r, h with | .inl _, h => h | .inr b0, h => (h)) ?_
  intro x v; kernel_rfl

def r54_Same_L4_step (a : List (List (Int × Int))) (b : List (List (Int × Int))) (i : Int) : Tree (Int ⊕ (Bool ⊕ Unit)) :=
  .ite ((decide (i < (a.length : Int))) && (decide (i < (b.length : Int)))) (
    ask (inb i a.length) <|
    ask (inb i b.length) <|
    .ite (!decide (((a.getD i.toNat ([] : List (Int × Int))).length : Int) = ((b.getD i.toNat ([] : List (Int × Int))).length : Int))) (
      .ret (.inr (.inl false))) (
      .bnd (.loop (fun v => r54_Same_L9_step a b i v) 0) fun r1 =>
      .sum r1 (fun r2 =>
        .ret (.inr (.inl r2))) (fun r3 =>
        .ret (.inl (w64 (i + 1)))))) (
    .ret (.inr (.inr ())))

def r54_Same_L4 : Lp := ⟨4, [], [], (.cons (.val false (.list (.list (.pair (.int .i64) (.int .i64))))) (.cons (.val false (.list (.list (.pair (.int .i64) (.int .i64))))) (ca (ca2 (.cons (.val false (.int .i64)) (ca2 (ca4 (ca8 (ca16 (ca32 .nil)))))))))), .nil, 0, .more 0 [] (ca4 (.cons (.val false .bool) (ca (ca2 (ca4 (ca8 (ca16 (ca32 .nil)))))))) .nil (.one 1 [] (ca4 (ca32 (ca32 .nil))) .nil), fun z => .bnd (.loop (fun v => r54_Same_L4_step z.1.1 z.1.2.1 v) z.1.2.2.2.2.2.1) fun r => .sum r (fun a0 => .ret (.inl ((cu4 (a0, (cu (cu2 (cu4 (cu8 (cu16 (cu32 ())))))))), ()))) (fun b0 => .ret (.inr ((cu4 (cu32 (cu32 ()))), ())))⟩

theorem r54_Same_L4_ok : r54_Same_L4.ok Try.prog (nthC (loopsOf (bodyOf Try.f11)) 0) := by
  refine Lp.lift (π := ((List (List (Int × Int))) × (List (List (Int × Int))))) (V := Int) (ρ := (Bool ⊕ Unit)) mix tabOk r54_Same_L4 (o := orT [] [r54_Same_L9] noFz) (orT_sound trivial) (allLp_of [nthC (loopsOf (nthC (loopsOf (bodyOf Try.f11)) 0)) 0] (by kernel_rfl) ⟨r54_Same_L9_ok, trivial⟩ (by kernel_rfl)) (fun x v => ((x.1, (x.2, (cu (cu2 (v, (cu2 (cu4 (cu8 (cu16 (cu32 ())))))))))), ())) (fun x r => match r with | .inl a0 => .inl ((cu4 (a0, (cu (cu2 (cu4 (cu8 (cu16 (cu32 ())))))))), ()) | .inr b0 => (.inr ((cu4 (cu32 (cu32 ()))), ()))) (fun x v => r54_Same_L4_step x.1 x.2 v) (fun x r => .sum r (fun a0 => .ret (.inl ((cu4 (a0, (cu (cu2 (cu4 (cu8 (cu16 (cu32 ())))))))), ()))) (fun b0 => .ret (.inr ((cu4 (cu32 (cu32 ()))), ())))) (fun z => (z.1.1, z.1.2.1)) (fun z => z.1.2.2.2.2.2.1) (fun _ => rfl) (fun _ => rfl) (fun x r Q h => match r, h with | .inl _, h => h | .inr b0, h => (h)) ?_
  intro x v; kernel_rfl

def r54_Same_T (x0 : List (List (Int × Int))) (x1 : List (List (Int × Int))) : Tree Bool :=
  .ite (!decide ((x0.length : Int) = (x1.length : Int))) (
    .ret false) (
    .bnd (.loop (fun v => r54_Same_L4_step x0 x1 v) 0) fun r1 =>
    .sum r1 (fun r2 =>
      .ret r2) (fun r3 =>
      .ret true))

def r54_Same_g : Sig := ⟨11, (.cons (.val false (.list (.list (.pair (.int .i64) (.int .i64))))) (.cons (.val false (.list (.list (.pair (.int .i64) (.int .i64))))) .nil)), .vals (.val false .bool), fun z => r54_Same_T z.1 z.2.1, false⟩

theorem r54_Same_ok : r54_Same_g.ok Try.prog := by
  refine Sig.lift mix tabOk nms _ Try.func11 (c := (bodyOf Try.f11)) (by kernel_rfl) (o := orT [] [r54_Same_L4] noFz) (orT_sound trivial) (allLp_of [nthC (loopsOf (bodyOf Try.f11)) 0] (by kernel_rfl) ⟨r54_Same_L4_ok, trivial⟩ (by kernel_rfl)) ?_
  intro z; kernel_rfl

def l54_awake_T  : Tree Bool :=
  .bnd (pairing_Rounds_T 4) fun y1 =>
  .bnd (pairing_Meets_T 4 0 3) fun y2 =>
  ask ((!(decide ((y1.length : Int) = 3))) || inb 0 y1.length) <|
  .grd ((decide ((y1.length : Int) = 3)) && (decide (((y1.getD ((0 : Int).toNat) ([] : List (Int × Int))).length : Int) = 2))) (pairing_Count_T 4) (0 : Int) fun y3 =>
  .grd (((decide ((y1.length : Int) = 3)) && (decide (((y1.getD ((0 : Int).toNat) ([] : List (Int × Int))).length : Int) = 2))) && (decide (y3 = 3))) (pairing_Count_T 1) (0 : Int) fun y4 =>
  .ret ((((((decide ((y1.length : Int) = 3)) && (decide (((y1.getD ((0 : Int).toNat) ([] : List (Int × Int))).length : Int) = 2))) && (decide (y3 = 3))) && (decide (y4 = 0))) && (decide (y2.1 = 0))) && y2.2.1)

def l54_awake_g : Sig := ⟨10, .nil, .vals (.val false .bool), fun z => l54_awake_T, false⟩

theorem l54_awake_ok : l54_awake_g.ok Try.prog := by
  refine Sig.lift mix tabOk nms _ Try.func10 (c := (bodyOf Try.f10)) (by kernel_rfl) (o := orT [pairing_Rounds_g, pairing_Meets_g, pairing_Count_g] [] noFz) (orT_sound ⟨pairing_Rounds_ok, ⟨pairing_Meets_ok, ⟨pairing_Count_ok, trivial⟩⟩⟩) (allLp_of [] (by kernel_rfl) trivial rfl) ?_
  intro z; kernel_rfl

def l54_PairingRounds_T (x0 : Int) : Tree Bool :=
  ask (!decide ((21 : Int) = 0)) <|
  .bnd (pairing_Rounds_T ((w64 (x0)).tmod 21)) fun y1 =>
  .bnd (r54_Rounds_T ((w64 (x0)).tmod 21)) fun y2 =>
  .bnd (r54_Same_T y1 y2) fun y3 =>
  .grd y3 l54_awake_T false fun y4 =>
  .ret (y3 && y4)

def l54_PairingRounds_g : Sig := ⟨4, (.cons (.val false (.int .u8)) .nil), .vals (.val false .bool), fun z => l54_PairingRounds_T z.1, false⟩

theorem l54_PairingRounds_ok : l54_PairingRounds_g.ok Try.prog := by
  refine Sig.lift mix tabOk nms _ Try.func4 (c := (bodyOf Try.f4)) (by kernel_rfl) (o := orT [pairing_Rounds_g, r54_Rounds_g, r54_Same_g, l54_awake_g] [] noFz) (orT_sound ⟨pairing_Rounds_ok, ⟨r54_Rounds_ok, ⟨r54_Same_ok, ⟨l54_awake_ok, trivial⟩⟩⟩⟩) (allLp_of [] (by kernel_rfl) trivial rfl) ?_
  intro z; kernel_rfl

def l54_PairingIs_T (x0 : Int) (x1 : Int) (x2 : Int) : Tree Bool :=
  .bnd (pairing_Meets_T x0 x1 x2) fun y1 =>
  .bnd (r54_Meets_T x0 x1 x2) fun y2 =>
  .grd ((decide (y1.1 = y2.1)) && (y1.2.1 == y2.2.1)) (pairing_Count_T x0) (0 : Int) fun y3 =>
  .grd ((decide (y1.1 = y2.1)) && (y1.2.1 == y2.2.1)) (r54_Count_T x0) (0 : Int) fun y4 =>
  .grd (((decide (y1.1 = y2.1)) && (y1.2.1 == y2.2.1)) && (decide (y3 = y4))) l54_awake_T false fun y5 =>
  .ret ((((decide (y1.1 = y2.1)) && (y1.2.1 == y2.2.1)) && (decide (y3 = y4))) && y5)

def l54_PairingIs_g : Sig := ⟨3, (.cons (.val false (.int .i64)) (.cons (.val false (.int .i64)) (.cons (.val false (.int .i64)) .nil))), .vals (.val false .bool), fun z => l54_PairingIs_T z.1 z.2.1 z.2.2.1, false⟩

theorem l54_PairingIs_ok : l54_PairingIs_g.ok Try.prog := by
  refine Sig.lift mix tabOk nms _ Try.func3 (c := (bodyOf Try.f3)) (by kernel_rfl) (o := orT [pairing_Meets_g, r54_Meets_g, pairing_Count_g, r54_Count_g, l54_awake_g] [] noFz) (orT_sound ⟨pairing_Meets_ok, ⟨r54_Meets_ok, ⟨pairing_Count_ok, ⟨r54_Count_ok, ⟨l54_awake_ok, trivial⟩⟩⟩⟩⟩) (allLp_of [] (by kernel_rfl) trivial rfl) ?_
  intro z; kernel_rfl

def l54_PairingOnce_L11_step (n : Int) (r : Int) (l : List (List (Int × Int))) (i : Int) (met : List Int) (busy : List Int) : Tree ((Int × (List Int) × (List Int)) ⊕ (Bool ⊕ List Int)) :=
  ask (inb r l.length) <|
  .ite (decide (i < ((l.getD r.toNat ([] : List (Int × Int))).length : Int))) (
    ask (inb r l.length) <|
    ask (inb i (l.getD r.toNat ([] : List (Int × Int))).length) <|
    ask (inb 0 2) <|
    ask (inb r l.length) <|
    ask (inb i (l.getD r.toNat ([] : List (Int × Int))).length) <|
    ask (inb 1 2) <|
    ask ((!(!(((decide (((l.getD r.toNat ([] : List (Int × Int))).getD i.toNat (dfl (.pair (.int .i64) (.int .i64)) : (Int × Int))).1 < 0)) || (decide (((l.getD r.toNat ([] : List (Int × Int))).getD i.toNat (dfl (.pair (.int .i64) (.int .i64)) : (Int × Int))).2 ≤ ((l.getD r.toNat ([] : List (Int × Int))).getD i.toNat (dfl (.pair (.int .i64) (.int .i64)) : (Int × Int))).1))) || (decide (n ≤ ((l.getD r.toNat ([] : List (Int × Int))).getD i.toNat (dfl (.pair (.int .i64) (.int .i64)) : (Int × Int))).2))))) || inb ((l.getD r.toNat ([] : List (Int × Int))).getD i.toNat (dfl (.pair (.int .i64) (.int .i64)) : (Int × Int))).1 64) <|
    ask ((!(!(((decide (((l.getD r.toNat ([] : List (Int × Int))).getD i.toNat (dfl (.pair (.int .i64) (.int .i64)) : (Int × Int))).1 < 0)) || (decide (((l.getD r.toNat ([] : List (Int × Int))).getD i.toNat (dfl (.pair (.int .i64) (.int .i64)) : (Int × Int))).2 ≤ ((l.getD r.toNat ([] : List (Int × Int))).getD i.toNat (dfl (.pair (.int .i64) (.int .i64)) : (Int × Int))).1))) || (decide (n ≤ ((l.getD r.toNat ([] : List (Int × Int))).getD i.toNat (dfl (.pair (.int .i64) (.int .i64)) : (Int × Int))).2))))) || Nat.ble (((l.getD r.toNat ([] : List (Int × Int))).getD i.toNat (dfl (.pair (.int .i64) (.int .i64)) : (Int × Int))).1.toNat + 1) busy.length) <|
    ask ((!(!(((decide (((l.getD r.toNat ([] : List (Int × Int))).getD i.toNat (dfl (.pair (.int .i64) (.int .i64)) : (Int × Int))).1 < 0)) || (decide (((l.getD r.toNat ([] : List (Int × Int))).getD i.toNat (dfl (.pair (.int .i64) (.int .i64)) : (Int × Int))).2 ≤ ((l.getD r.toNat ([] : List (Int × Int))).getD i.toNat (dfl (.pair (.int .i64) (.int .i64)) : (Int × Int))).1))) || (decide (n ≤ ((l.getD r.toNat ([] : List (Int × Int))).getD i.toNat (dfl (.pair (.int .i64) (.int .i64)) : (Int × Int))).2))))) || inb ((l.getD r.toNat ([] : List (Int × Int))).getD i.toNat (dfl (.pair (.int .i64) (.int .i64)) : (Int × Int))).2 64) <|
    ask ((!(!(((decide (((l.getD r.toNat ([] : List (Int × Int))).getD i.toNat (dfl (.pair (.int .i64) (.int .i64)) : (Int × Int))).1 < 0)) || (decide (((l.getD r.toNat ([] : List (Int × Int))).getD i.toNat (dfl (.pair (.int .i64) (.int .i64)) : (Int × Int))).2 ≤ ((l.getD r.toNat ([] : List (Int × Int))).getD i.toNat (dfl (.pair (.int .i64) (.int .i64)) : (Int × Int))).1))) || (decide (n ≤ ((l.getD r.toNat ([] : List (Int × Int))).getD i.toNat (dfl (.pair (.int .i64) (.int .i64)) : (Int × Int))).2))))) || Nat.ble (((l.getD r.toNat ([] : List (Int × Int))).getD i.toNat (dfl (.pair (.int .i64) (.int .i64)) : (Int × Int))).2.toNat + 1) busy.length) <|
    ask ((!(!((((decide (((l.getD r.toNat ([] : List (Int × Int))).getD i.toNat (dfl (.pair (.int .i64) (.int .i64)) : (Int × Int))).1 < 0)) || (decide (((l.getD r.toNat ([] : List (Int × Int))).getD i.toNat (dfl (.pair (.int .i64) (.int .i64)) : (Int × Int))).2 ≤ ((l.getD r.toNat ([] : List (Int × Int))).getD i.toNat (dfl (.pair (.int .i64) (.int .i64)) : (Int × Int))).1))) || (decide (n ≤ ((l.getD r.toNat ([] : List (Int × Int))).getD i.toNat (dfl (.pair (.int .i64) (.int .i64)) : (Int × Int))).2))) || (decide ((0 : Int) < (w64 ((busy.getD (((l.getD r.toNat ([] : List (Int × Int))).getD i.toNat (dfl (.pair (.int .i64) (.int .i64)) : (Int × Int))).1.toNat) (0 : Int)) + (busy.getD (((l.getD r.toNat ([] : List (Int × Int))).getD i.toNat (dfl (.pair (.int .i64) (.int .i64)) : (Int × Int))).2.toNat) (0 : Int))))))))) || inb ((l.getD r.toNat ([] : List (Int × Int))).getD i.toNat (dfl (.pair (.int .i64) (.int .i64)) : (Int × Int))).1 64) <|
    ask ((!(!((((decide (((l.getD r.toNat ([] : List (Int × Int))).getD i.toNat (dfl (.pair (.int .i64) (.int .i64)) : (Int × Int))).1 < 0)) || (decide (((l.getD r.toNat ([] : List (Int × Int))).getD i.toNat (dfl (.pair (.int .i64) (.int .i64)) : (Int × Int))).2 ≤ ((l.getD r.toNat ([] : List (Int × Int))).getD i.toNat (dfl (.pair (.int .i64) (.int .i64)) : (Int × Int))).1))) || (decide (n ≤ ((l.getD r.toNat ([] : List (Int × Int))).getD i.toNat (dfl (.pair (.int .i64) (.int .i64)) : (Int × Int))).2))) || (decide ((0 : Int) < (w64 ((busy.getD (((l.getD r.toNat ([] : List (Int × Int))).getD i.toNat (dfl (.pair (.int .i64) (.int .i64)) : (Int × Int))).1.toNat) (0 : Int)) + (busy.getD (((l.getD r.toNat ([] : List (Int × Int))).getD i.toNat (dfl (.pair (.int .i64) (.int .i64)) : (Int × Int))).2.toNat) (0 : Int))))))))) || inb ((l.getD r.toNat ([] : List (Int × Int))).getD i.toNat (dfl (.pair (.int .i64) (.int .i64)) : (Int × Int))).2 64) <|
    ask ((!(!((((decide (((l.getD r.toNat ([] : List (Int × Int))).getD i.toNat (dfl (.pair (.int .i64) (.int .i64)) : (Int × Int))).1 < 0)) || (decide (((l.getD r.toNat ([] : List (Int × Int))).getD i.toNat (dfl (.pair (.int .i64) (.int .i64)) : (Int × Int))).2 ≤ ((l.getD r.toNat ([] : List (Int × Int))).getD i.toNat (dfl (.pair (.int .i64) (.int .i64)) : (Int × Int))).1))) || (decide (n ≤ ((l.getD r.toNat ([] : List (Int × Int))).getD i.toNat (dfl (.pair (.int .i64) (.int .i64)) : (Int × Int))).2))) || (decide ((0 : Int) < (w64 ((busy.getD (((l.getD r.toNat ([] : List (Int × Int))).getD i.toNat (dfl (.pair (.int .i64) (.int .i64)) : (Int × Int))).1.toNat) (0 : Int)) + (busy.getD (((l.getD r.toNat ([] : List (Int × Int))).getD i.toNat (dfl (.pair (.int .i64) (.int .i64)) : (Int × Int))).2.toNat) (0 : Int))))))))) || Nat.ble ((offA (offA 0 (((l.getD r.toNat ([] : List (Int × Int))).getD i.toNat (dfl (.pair (.int .i64) (.int .i64)) : (Int × Int))).1.toNat) 64) (((l.getD r.toNat ([] : List (Int × Int))).getD i.toNat (dfl (.pair (.int .i64) (.int .i64)) : (Int × Int))).2.toNat) 1) + 1) met.length) <|
    .ite (((((decide (((l.getD r.toNat ([] : List (Int × Int))).getD i.toNat (dfl (.pair (.int .i64) (.int .i64)) : (Int × Int))).1 < 0)) || (decide (((l.getD r.toNat ([] : List (Int × Int))).getD i.toNat (dfl (.pair (.int .i64) (.int .i64)) : (Int × Int))).2 ≤ ((l.getD r.toNat ([] : List (Int × Int))).getD i.toNat (dfl (.pair (.int .i64) (.int .i64)) : (Int × Int))).1))) || (decide (n ≤ ((l.getD r.toNat ([] : List (Int × Int))).getD i.toNat (dfl (.pair (.int .i64) (.int .i64)) : (Int × Int))).2))) || (decide ((0 : Int) < (w64 ((busy.getD (((l.getD r.toNat ([] : List (Int × Int))).getD i.toNat (dfl (.pair (.int .i64) (.int .i64)) : (Int × Int))).1.toNat) (0 : Int)) + (busy.getD (((l.getD r.toNat ([] : List (Int × Int))).getD i.toNat (dfl (.pair (.int .i64) (.int .i64)) : (Int × Int))).2.toNat) (0 : Int))))))) || (decide ((0 : Int) < (met.getD (offA (offA 0 (((l.getD r.toNat ([] : List (Int × Int))).getD i.toNat (dfl (.pair (.int .i64) (.int .i64)) : (Int × Int))).1.toNat) 64) (((l.getD r.toNat ([] : List (Int × Int))).getD i.toNat (dfl (.pair (.int .i64) (.int .i64)) : (Int × Int))).2.toNat) 1) (0 : Int))))) (
      .ret (.inr (.inl false))) (
      ask (inb ((l.getD r.toNat ([] : List (Int × Int))).getD i.toNat (dfl (.pair (.int .i64) (.int .i64)) : (Int × Int))).1 64) <|
      ask (Nat.ble (((l.getD r.toNat ([] : List (Int × Int))).getD i.toNat (dfl (.pair (.int .i64) (.int .i64)) : (Int × Int))).1.toNat + 1) busy.length) <|
      ask (inb ((l.getD r.toNat ([] : List (Int × Int))).getD i.toNat (dfl (.pair (.int .i64) (.int .i64)) : (Int × Int))).2 64) <|
      ask (Nat.ble (((l.getD r.toNat ([] : List (Int × Int))).getD i.toNat (dfl (.pair (.int .i64) (.int .i64)) : (Int × Int))).2.toNat + 1) (busy.set (((l.getD r.toNat ([] : List (Int × Int))).getD i.toNat (dfl (.pair (.int .i64) (.int .i64)) : (Int × Int))).1.toNat) 1).length) <|
      ask (inb ((l.getD r.toNat ([] : List (Int × Int))).getD i.toNat (dfl (.pair (.int .i64) (.int .i64)) : (Int × Int))).1 64) <|
      ask (inb ((l.getD r.toNat ([] : List (Int × Int))).getD i.toNat (dfl (.pair (.int .i64) (.int .i64)) : (Int × Int))).2 64) <|
      ask (Nat.ble ((offA (offA 0 (((l.getD r.toNat ([] : List (Int × Int))).getD i.toNat (dfl (.pair (.int .i64) (.int .i64)) : (Int × Int))).1.toNat) 64) (((l.getD r.toNat ([] : List (Int × Int))).getD i.toNat (dfl (.pair (.int .i64) (.int .i64)) : (Int × Int))).2.toNat) 1) + 1) met.length) <|
      .ret (.inl ((w64 (i + 1)), (met.set (offA (offA 0 (((l.getD r.toNat ([] : List (Int × Int))).getD i.toNat (dfl (.pair (.int .i64) (.int .i64)) : (Int × Int))).1.toNat) 64) (((l.getD r.toNat ([] : List (Int × Int))).getD i.toNat (dfl (.pair (.int .i64) (.int .i64)) : (Int × Int))).2.toNat) 1) 1), ((busy.set (((l.getD r.toNat ([] : List (Int × Int))).getD i.toNat (dfl (.pair (.int .i64) (.int .i64)) : (Int × Int))).1.toNat) 1).set (((l.getD r.toNat ([] : List (Int × Int))).getD i.toNat (dfl (.pair (.int .i64) (.int .i64)) : (Int × Int))).2.toNat) 1))))) (
    .ret (.inr (.inr met)))

def l54_PairingOnce_L11 : Lp := ⟨11, [.arr 2 (.int .i64)], [], (ca (ca2 (.cons (.val false (.int .i64)) (.cons (.own 0) (.cons (.ref 1 0) (.cons (.val false (.int .i64)) (.cons (.ref 2 0) (.cons (.val false (.int .i64)) (ca (ca2 (ca4 (ca8 (ca32 (ca32 (ca32 .nil))))))))))))))), (.rows 33 (.list (.pair (.int .i64) (.int .i64))) (.arr 32 (.int .i64) (.arr 31 (.int .i64) .nil))), 0, .more 0 [] (ca2 (.cons (.val false .bool) (ca (ca4 (ca16 (ca32 (ca32 (ca32 .nil)))))))) .nil (.one 3 [] (ca (ca2 (.cons (.val false (.int .i64)) (.cons (.own 0) (.cons (.ref 1 0) (.cons (.val false (.int .i64)) (ca (ca16 (ca32 (ca32 (ca32 .nil))))))))))) (.rows 33 (.list (.pair (.int .i64) (.int .i64))) (.arr 32 (.int .i64) .nil))), fun z => .bnd (.loop (fun v => l54_PairingOnce_L11_step z.1.2.2.2.1 z.1.2.2.2.2.2.2.1 z.2.1 v.1 v.2.1 v.2.2) (z.1.2.2.2.2.2.2.2.2.1, z.2.2.1, z.2.2.2.1)) fun r => .sum r (fun a0 => .ret (.inl ((cu2 (a0, (cu (cu4 (cu16 (cu32 (cu32 (cu32 ())))))))), ()))) (fun b0 => .ret (.inr ((cu (cu2 (z.1.2.2.2.1, ((), ((), (z.1.2.2.2.2.2.2.1, (cu (cu16 (cu32 (cu32 (cu32 ()))))))))))), (z.2.1, (b0, ())))))⟩

theorem l54_PairingOnce_L11_ok : l54_PairingOnce_L11.ok Try.prog (nthC (loopsOf (nthC (loopsOf (bodyOf Try.f5)) 0)) 0) := by
  refine Lp.lift (π := (Int × Int × (List (List (Int × Int))))) (V := (Int × (List Int) × (List Int))) (ρ := (Bool ⊕ List Int)) mix tabOk l54_PairingOnce_L11 (o := orT [pairing_Rounds_g, l54_awake_g] [] noFz) (orT_sound ⟨pairing_Rounds_ok, ⟨l54_awake_ok, trivial⟩⟩) (allLp_of [] (by kernel_rfl) trivial rfl) (fun x v => ((cu (cu2 (x.1, ((), ((), (x.2.1, ((), (v.1, (cu (cu2 (cu4 (cu8 (cu32 (cu32 (cu32 ()))))))))))))))), (x.2.2, (v.2.1, (v.2.2, ()))))) (fun x r => match r with | .inl a0 => .inl ((cu2 (a0, (cu (cu4 (cu16 (cu32 (cu32 (cu32 ())))))))), ()) | .inr b0 => (.inr ((cu (cu2 (x.1, ((), ((), (x.2.1, (cu (cu16 (cu32 (cu32 (cu32 ()))))))))))), (x.2.2, (b0, ()))))) (fun x v => l54_PairingOnce_L11_step x.1 x.2.1 x.2.2 v.1 v.2.1 v.2.2) (fun x r => .sum r (fun a0 => .ret (.inl ((cu2 (a0, (cu (cu4 (cu16 (cu32 (cu32 (cu32 ())))))))), ()))) (fun b0 => .ret (.inr ((cu (cu2 (x.1, ((), ((), (x.2.1, (cu (cu16 (cu32 (cu32 (cu32 ()))))))))))), (x.2.2, (b0, ())))))) (fun z => (z.1.2.2.2.1, z.1.2.2.2.2.2.2.1, z.2.1)) (fun z => (z.1.2.2.2.2.2.2.2.2.1, z.2.2.1, z.2.2.2.1)) (fun _ => rfl) (fun _ => rfl) (fun x r Q h => match r, h with | .inl _, h => h | .inr b0, h => (h)) ?_
  intro x v; kernel_rfl

def l54_PairingOnce_L7_step (n : Int) (l : List (List (Int × Int))) (r : Int) (met : List Int) : Tree ((Int × (List Int)) ⊕ (Bool ⊕ List Int)) :=
  .ite (decide (r < (l.length : Int))) (
    .bnd (.loop (fun v => l54_PairingOnce_L11_step n r l v.1 v.2.1 v.2.2) (0, met, [0, 0, 0, 0, 0, 0, 0, 0, 0, 0, 0, 0, 0, 0, 0, 0, 0, 0, 0, 0, 0, 0, 0, 0, 0, 0, 0, 0, 0, 0, 0, 0, 0, 0, 0, 0, 0, 0, 0, 0, 0, 0, 0, 0, 0, 0, 0, 0, 0, 0, 0, 0, 0, 0, 0, 0, 0, 0, 0, 0, 0, 0, 0, 0])) fun r1 =>
    .sum r1 (fun r2 =>
      .ret (.inr (.inl r2))) (fun r3 =>
      .ret (.inl ((w64 (r + 1)), r3)))) (
    .ret (.inr (.inr met)))

def l54_PairingOnce_L7 : Lp := ⟨7, [.arr 1 (.int .i64)], [], (ca (ca2 (.cons (.val false (.int .i64)) (.cons (.own 0) (.cons (.ref 1 0) (.cons (.val false (.int .i64)) (ca (ca16 (ca32 (ca32 (ca32 .nil))))))))))), (.rows 33 (.list (.pair (.int .i64) (.int .i64))) (.arr 32 (.int .i64) .nil)), 0, .more 0 [] (ca2 (.cons (.val false .bool) (ca (ca4 (ca16 (ca32 (ca32 (ca32 .nil)))))))) .nil (.one 1 [] (ca (ca2 (.cons (.val false (.int .i64)) (.cons (.own 0) (.cons (.ref 1 0) (ca2 (ca16 (ca32 (ca32 (ca32 .nil)))))))))) (.rows 33 (.list (.pair (.int .i64) (.int .i64))) (.arr 32 (.int .i64) .nil))), fun z => .bnd (.loop (fun v => l54_PairingOnce_L7_step z.1.2.2.2.1 z.2.1 v.1 v.2) (z.1.2.2.2.2.2.2.1, z.2.2.1)) fun r => .sum r (fun a0 => .ret (.inl ((cu2 (a0, (cu (cu4 (cu16 (cu32 (cu32 (cu32 ())))))))), ()))) (fun b0 => .ret (.inr ((cu (cu2 (z.1.2.2.2.1, ((), ((), (cu2 (cu16 (cu32 (cu32 (cu32 ())))))))))), (z.2.1, (b0, ())))))⟩

theorem l54_PairingOnce_L7_ok : l54_PairingOnce_L7.ok Try.prog (nthC (loopsOf (bodyOf Try.f5)) 0) := by
  refine Lp.lift (π := (Int × (List (List (Int × Int))))) (V := (Int × (List Int))) (ρ := (Bool ⊕ List Int)) mix tabOk l54_PairingOnce_L7 (o := orT [pairing_Rounds_g, l54_awake_g] [l54_PairingOnce_L11] noFz) (orT_sound ⟨pairing_Rounds_ok, ⟨l54_awake_ok, trivial⟩⟩) (allLp_of [nthC (loopsOf (nthC (loopsOf (bodyOf Try.f5)) 0)) 0] (by kernel_rfl) ⟨l54_PairingOnce_L11_ok, trivial⟩ (by kernel_rfl)) (fun x v => ((cu (cu2 (x.1, ((), ((), (v.1, (cu (cu16 (cu32 (cu32 (cu32 ()))))))))))), (x.2, (v.2, ())))) (fun x r => match r with | .inl a0 => .inl ((cu2 (a0, (cu (cu4 (cu16 (cu32 (cu32 (cu32 ())))))))), ()) | .inr b0 => (.inr ((cu (cu2 (x.1, ((), ((), (cu2 (cu16 (cu32 (cu32 (cu32 ())))))))))), (x.2, (b0, ()))))) (fun x v => l54_PairingOnce_L7_step x.1 x.2 v.1 v.2) (fun x r => .sum r (fun a0 => .ret (.inl ((cu2 (a0, (cu (cu4 (cu16 (cu32 (cu32 (cu32 ())))))))), ()))) (fun b0 => .ret (.inr ((cu (cu2 (x.1, ((), ((), (cu2 (cu16 (cu32 (cu32 (cu32 ())))))))))), (x.2, (b0, ())))))) (fun z => (z.1.2.2.2.1, z.2.1)) (fun z => (z.1.2.2.2.2.2.2.1, z.2.2.1)) (fun _ => rfl) (fun _ => rfl) (fun x r Q h => match r, h with | .inl _, h => h | .inr b0, h => (h)) ?_
  intro x v; kernel_rfl

def l54_PairingOnce_L23_step (n : Int) (a : Int) (l : List (List (Int × Int))) (met : List Int) (b : Int) : Tree (Int ⊕ (Bool ⊕ Unit)) :=
  .ite (decide (b < n)) (
    ask (inb a 64) <|
    ask (inb b 64) <|
    ask (Nat.ble ((offA (offA 0 a.toNat 64) b.toNat 1) + 1) met.length) <|
    .ite (!decide ((met.getD (offA (offA 0 a.toNat 64) b.toNat 1) (0 : Int)) = 1)) (
      .ret (.inr (.inl false))) (
      .ret (.inl (w64 (b + 1))))) (
    .ret (.inr (.inr ())))

def l54_PairingOnce_L23 : Lp := ⟨23, [], [], (ca (ca2 (.cons (.val false (.int .i64)) (.cons (.own 0) (.cons (.ref 1 0) (ca (ca4 (.cons (.val false (.int .i64)) (.cons (.val false (.int .i64)) (ca (ca2 (ca8 (ca32 (ca32 (ca32 .nil))))))))))))))), (.rows 33 (.list (.pair (.int .i64) (.int .i64))) (.arr 32 (.int .i64) .nil)), 0, .more 0 [] (ca2 (.cons (.val false .bool) (ca (ca4 (ca16 (ca32 (ca32 (ca32 .nil)))))))) .nil (.one 7 [] (ca (ca2 (.cons (.val false (.int .i64)) (.cons (.own 0) (.cons (.ref 1 0) (ca (ca4 (.cons (.val false (.int .i64)) (ca4 (ca8 (ca32 (ca32 (ca32 .nil))))))))))))) (.rows 33 (.list (.pair (.int .i64) (.int .i64))) (.arr 32 (.int .i64) .nil))), fun z => .bnd (.loop (fun v => l54_PairingOnce_L23_step z.1.2.2.2.1 z.1.2.2.2.2.2.2.2.2.2.2.2.1 z.2.1 z.2.2.1 v) z.1.2.2.2.2.2.2.2.2.2.2.2.2.1) fun r => .sum r (fun a0 => .ret (.inl ((cu2 (a0, (cu (cu4 (cu16 (cu32 (cu32 (cu32 ())))))))), ()))) (fun b0 => .ret (.inr ((cu (cu2 (z.1.2.2.2.1, ((), ((), (cu (cu4 (z.1.2.2.2.2.2.2.2.2.2.2.2.1, (cu4 (cu8 (cu32 (cu32 (cu32 ()))))))))))))), (z.2.1, (z.2.2.1, ())))))⟩

theorem l54_PairingOnce_L23_ok : l54_PairingOnce_L23.ok Try.prog (nthC (loopsOf (nthC (loopsOf (bodyOf Try.f5)) 1)) 0) := by
  refine Lp.lift (π := (Int × Int × (List (List (Int × Int))) × (List Int))) (V := Int) (ρ := (Bool ⊕ Unit)) mix tabOk l54_PairingOnce_L23 (o := orT [pairing_Rounds_g, l54_awake_g] [] noFz) (orT_sound ⟨pairing_Rounds_ok, ⟨l54_awake_ok, trivial⟩⟩) (allLp_of [] (by kernel_rfl) trivial rfl) (fun x v => ((cu (cu2 (x.1, ((), ((), (cu (cu4 (x.2.1, (v, (cu (cu2 (cu8 (cu32 (cu32 (cu32 ()))))))))))))))), (x.2.2.1, (x.2.2.2, ())))) (fun x r => match r with | .inl a0 => .inl ((cu2 (a0, (cu (cu4 (cu16 (cu32 (cu32 (cu32 ())))))))), ()) | .inr b0 => (.inr ((cu (cu2 (x.1, ((), ((), (cu (cu4 (x.2.1, (cu4 (cu8 (cu32 (cu32 (cu32 ()))))))))))))), (x.2.2.1, (x.2.2.2, ()))))) (fun x v => l54_PairingOnce_L23_step x.1 x.2.1 x.2.2.1 x.2.2.2 v) (fun x r => .sum r (fun a0 => .ret (.inl ((cu2 (a0, (cu (cu4 (cu16 (cu32 (cu32 (cu32 ())))))))), ()))) (fun b0 => .ret (.inr ((cu (cu2 (x.1, ((), ((), (cu (cu4 (x.2.1, (cu4 (cu8 (cu32 (cu32 (cu32 ()))))))))))))), (x.2.2.1, (x.2.2.2, ())))))) (fun z => (z.1.2.2.2.1, z.1.2.2.2.2.2.2.2.2.2.2.2.1, z.2.1, z.2.2.1)) (fun z => z.1.2.2.2.2.2.2.2.2.2.2.2.2.1) (fun _ => rfl) (fun _ => rfl) (fun x r Q h => match r, h with | .inl _, h => h | .inr b0, h => (h)) ?_
  intro x v; kernel_rfl

def l54_PairingOnce_L20_step (n : Int) (l : List (List (Int × Int))) (met : List Int) (a : Int) : Tree (Int ⊕ (Bool ⊕ Unit)) :=
  .ite (decide (a < n)) (
    .bnd (.loop (fun v => l54_PairingOnce_L23_step n a l met v) (w64 (a + 1))) fun r1 =>
    .sum r1 (fun r2 =>
      .ret (.inr (.inl r2))) (fun r3 =>
      .ret (.inl (w64 (a + 1))))) (
    .ret (.inr (.inr ())))

def l54_PairingOnce_L20 : Lp := ⟨20, [], [], (ca (ca2 (.cons (.val false (.int .i64)) (.cons (.own 0) (.cons (.ref 1 0) (ca (ca4 (.cons (.val false (.int .i64)) (ca4 (ca8 (ca32 (ca32 (ca32 .nil))))))))))))), (.rows 33 (.list (.pair (.int .i64) (.int .i64))) (.arr 32 (.int .i64) .nil)), 0, .more 0 [] (ca2 (.cons (.val false .bool) (ca (ca4 (ca16 (ca32 (ca32 (ca32 .nil)))))))) .nil (.one 5 [] (ca (ca2 (.cons (.val false (.int .i64)) (.cons (.own 0) (ca (ca2 (ca16 (ca32 (ca32 (ca32 .nil)))))))))) (.rows 33 (.list (.pair (.int .i64) (.int .i64))) .nil)), fun z => .bnd (.loop (fun v => l54_PairingOnce_L20_step z.1.2.2.2.1 z.2.1 z.2.2.1 v) z.1.2.2.2.2.2.2.2.2.2.2.2.1) fun r => .sum r (fun a0 => .ret (.inl ((cu2 (a0, (cu (cu4 (cu16 (cu32 (cu32 (cu32 ())))))))), ()))) (fun b0 => .ret (.inr ((cu (cu2 (z.1.2.2.2.1, ((), (cu (cu2 (cu16 (cu32 (cu32 (cu32 ())))))))))), (z.2.1, ()))))⟩

theorem l54_PairingOnce_L20_ok : l54_PairingOnce_L20.ok Try.prog (nthC (loopsOf (bodyOf Try.f5)) 1) := by
  refine Lp.lift (π := (Int × (List (List (Int × Int))) × (List Int))) (V := Int) (ρ := (Bool ⊕ Unit)) mix tabOk l54_PairingOnce_L20 (o := orT [pairing_Rounds_g, l54_awake_g] [l54_PairingOnce_L23] noFz) (orT_sound ⟨pairing_Rounds_ok, ⟨l54_awake_ok, trivial⟩⟩) (allLp_of [nthC (loopsOf (nthC (loopsOf (bodyOf Try.f5)) 1)) 0] (by kernel_rfl) ⟨l54_PairingOnce_L23_ok, trivial⟩ (by kernel_rfl)) (fun x v => ((cu (cu2 (x.1, ((), ((), (cu (cu4 (v, (cu4 (cu8 (cu32 (cu32 (cu32 ()))))))))))))), (x.2.1, (x.2.2, ())))) (fun x r => match r with | .inl a0 => .inl ((cu2 (a0, (cu (cu4 (cu16 (cu32 (cu32 (cu32 ())))))))), ()) | .inr b0 => (.inr ((cu (cu2 (x.1, ((), (cu (cu2 (cu16 (cu32 (cu32 (cu32 ())))))))))), (x.2.1, ())))) (fun x v => l54_PairingOnce_L20_step x.1 x.2.1 x.2.2 v) (fun x r => .sum r (fun a0 => .ret (.inl ((cu2 (a0, (cu (cu4 (cu16 (cu32 (cu32 (cu32 ())))))))), ()))) (fun b0 => .ret (.inr ((cu (cu2 (x.1, ((), (cu (cu2 (cu16 (cu32 (cu32 (cu32 ())))))))))), (x.2.1, ()))))) (fun z => (z.1.2.2.2.1, z.2.1, z.2.2.1)) (fun z => z.1.2.2.2.2.2.2.2.2.2.2.2.1) (fun _ => rfl) (fun _ => rfl) (fun x r Q h => match r, h with | .inl _, h => h | .inr b0, h => (h)) ?_
  intro x v; kernel_rfl

def l54_PairingOnce_T (x0 : Int) : Tree Bool :=
  ask (!decide ((65 : Int) = 0)) <|
  .bnd (pairing_Rounds_T ((w64 (x0)).tmod 65)) fun y1 =>
  .ite (decide (((w64 (x0)).tmod 65) < 2)) (
    .grd (decide ((y1.length : Int) = 0)) l54_awake_T false fun y2 =>
    .ret ((decide ((y1.length : Int) = 0)) && y2)) (
    .bnd (.loop (fun v => l54_PairingOnce_L7_step ((w64 (x0)).tmod 65) y1 v.1 v.2) (0, (List.replicate 4096 (0 : Int)))) fun r3 =>
    .sum r3 (fun r4 =>
      .ret r4) (fun r5 =>
      .bnd (.loop (fun v => l54_PairingOnce_L20_step ((w64 (x0)).tmod 65) y1 r5 v) 0) fun r6 =>
      .sum r6 (fun r7 =>
        .ret r7) (fun r8 =>
        .grd (decide ((y1.length : Int) ≤ ((w64 (x0)).tmod 65))) l54_awake_T false fun y9 =>
        .ret ((decide ((y1.length : Int) ≤ ((w64 (x0)).tmod 65))) && y9))))

def l54_PairingOnce_g : Sig := ⟨5, (.cons (.val false (.int .u8)) .nil), .vals (.val false .bool), fun z => l54_PairingOnce_T z.1, false⟩

theorem l54_PairingOnce_ok : l54_PairingOnce_g.ok Try.prog := by
  refine Sig.lift mix tabOk nms _ Try.func5 (c := (bodyOf Try.f5)) (by kernel_rfl) (o := orT [pairing_Rounds_g, l54_awake_g] [l54_PairingOnce_L7, l54_PairingOnce_L20] noFz) (orT_sound ⟨pairing_Rounds_ok, ⟨l54_awake_ok, trivial⟩⟩) (allLp_of [nthC (loopsOf (bodyOf Try.f5)) 0, nthC (loopsOf (bodyOf Try.f5)) 1] (by kernel_rfl) ⟨l54_PairingOnce_L7_ok, ⟨l54_PairingOnce_L20_ok, trivial⟩⟩ (by kernel_rfl)) ?_
  intro z; kernel_rfl

end Go.Eng
