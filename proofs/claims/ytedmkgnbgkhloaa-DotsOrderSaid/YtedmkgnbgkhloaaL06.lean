/- Lifted: 57 functions, part 1. -/
import Derived.Test.YtedmkgnbgkhloaaTrG
import Derived.Test.YtedmkgnbgkhloaaTrF
import Derived.Test.YtedmkgnbgkhloaaEngT
import Derived.Test.YtedmkgnbgkhloaaShf
import Derived.Test.YtedmkgnbgkhloaaTrS
namespace Go.Eng
open Go Go.Proofs
set_option maxRecDepth 100000
abbrev Dot : Type := (Str × Int)
abbrev tDot : Ty := (.pair .str (.int .i64))

abbrev Seen : Type := (Str × (Int × List Int))
abbrev tSeen : Ty := (.pair .str (.pair (.int .i64) (.list (.int .i64))))

def r06_Few_L2_step (c : List Seen) (i : Int) : Tree (Int ⊕ (Bool ⊕ Unit)) :=
  .ite ((decide (i < (c.length : Int))) && (decide (i < 12))) (
    ask (inb i c.length) <|
    ask ((!(!(decide ((100 : Int) < ((c.getD i.toNat (dfl tSeen : Seen)).1.length : Int))))) || inb i c.length) <|
    .ite ((decide ((100 : Int) < ((c.getD i.toNat (dfl tSeen : Seen)).1.length : Int))) || (decide ((40 : Int) < ((c.getD i.toNat (dfl tSeen : Seen)).2.2.length : Int)))) (
      .ret (.inr (.inl false))) (
      .ret (.inl (w64 (i + 1))))) (
    .ret (.inr (.inr ())))

def r06_Few_L2 : Lp := ⟨2, [], [], (.cons (.val false (.list tSeen)) (ca2 (.cons (.val false (.int .i64)) (ca (ca4 (ca8 (ca16 .nil))))))), .nil, 0, .more 0 [] (ca2 (.cons (.val false .bool) (ca2 (ca4 (ca8 (ca16 .nil)))))) .nil (.one 1 [] (.cons (.val false (.list tSeen)) (ca32 .nil)) .nil), fun z => .bnd (.loop (fun v => r06_Few_L2_step z.1.1 v) z.1.2.2.2.1) fun r => .sum r (fun a0 => .ret (.inl ((cu2 (a0, (cu2 (cu4 (cu8 (cu16 ())))))), ()))) (fun b0 => .ret (.inr ((z.1.1, (cu32 ())), ())))⟩

theorem r06_Few_L2_ok : r06_Few_L2.ok Try.prog (nthC (loopsOf (bodyOf Try.f6)) 0) := by
  refine Lp.lift (π := List Seen) (V := Int) (ρ := (Bool ⊕ Unit)) mix tabOk r06_Few_L2 (o := orT [] [] noFz) (orT_sound trivial) (allLp_of [] (by kernel_rfl) trivial rfl) (fun x v => ((x, (cu2 (v, (cu (cu4 (cu8 (cu16 ()))))))), ())) (fun x r => match r with | .inl a0 => .inl ((cu2 (a0, (cu2 (cu4 (cu8 (cu16 ())))))), ()) | .inr b0 => (.inr ((x, (cu32 ())), ()))) (fun x v => r06_Few_L2_step x v) (fun x r => .sum r (fun a0 => .ret (.inl ((cu2 (a0, (cu2 (cu4 (cu8 (cu16 ())))))), ()))) (fun b0 => .ret (.inr ((x, (cu32 ())), ())))) (fun z => z.1.1) (fun z => z.1.2.2.2.1) (fun _ => rfl) (fun _ => rfl) (fun x r Q h => match r, h with | .inl _, h => h | .inr b0, h => (h)) ?_
  intro x v; kernel_rfl

def r06_Few_T (x0 : List Seen) : Tree Bool :=
  .bnd (.loop (fun v => r06_Few_L2_step x0 v) 0) fun r1 =>
  .sum r1 (fun r2 =>
    .ret r2) (fun r3 =>
    .ret (decide ((x0.length : Int) ≤ 12)))

def r06_Few_g : Sig := ⟨6, (.cons (.val false (.list tSeen)) .nil), .vals (.val false .bool), fun z => r06_Few_T z.1, false⟩

theorem r06_Few_ok : r06_Few_g.ok Try.prog := by
  refine Sig.lift mix tabOk nms _ Try.func6 (c := (bodyOf Try.f6)) (by kernel_rfl) (o := orT [] [r06_Few_L2] noFz) (orT_sound trivial) (allLp_of [nthC (loopsOf (bodyOf Try.f6)) 0] (by kernel_rfl) ⟨r06_Few_L2_ok, trivial⟩ (by kernel_rfl)) ?_
  intro z; kernel_rfl

def name_isLetter_T (x0 : Int) : Tree Bool :=
  .ret ((((decide ((97 : Int) ≤ x0)) && (decide (x0 ≤ 122))) || ((decide ((48 : Int) ≤ x0)) && (decide (x0 ≤ 57)))) || (decide (x0 = 45)))

def name_isLetter_g : Sig := ⟨52, (.cons (.val false (.int .i32)) .nil), .vals (.val false .bool), fun z => name_isLetter_T z.1, false⟩

theorem name_isLetter_ok : name_isLetter_g.ok Try.prog := by
  refine Sig.lift mix tabOk nms _ Try.func52 (c := (bodyOf Try.f52)) (by kernel_rfl) (o := orT [] [] noFz) (orT_sound trivial) (allLp_of [] (by kernel_rfl) trivial rfl) ?_
  intro z; kernel_rfl

def name_Is_L4_step (str : Str) (pos : Nat) : Tree (Nat ⊕ (Bool ⊕ Unit)) :=
  .ite (decide ((pos : Int) < (str.length : Int))) (
    ask (decide ((pos : Int) < (str.length : Int))) <|
    .bnd (name_isLetter_T (std.rune str pos)) fun y1 =>
    .ite (!y1) (
      .ret (.inr (.inl false))) (
      .ret (.inl (std.npos str pos)))) (
    .ret (.inr (.inr ())))

def name_Is_L4 : Lp := ⟨4, [], [], (ca (ca4 (ca8 (.cons (.ref 0 0) (ca2 (ca4 .nil)))))), (.siter .nil), 0, .more 0 [] (ca2 (.cons (.val false .bool) (ca (ca16 .nil)))) .nil (.one 1 [] (ca4 (ca16 .nil)) .nil), fun z => .bnd (.loop (fun v => name_Is_L4_step z.2.1.1 v) z.2.1.2) fun r => .sum r (fun a0 => .ret (.inl ((cu2 (a0, (cu (cu16 ())))), ()))) (fun b0 => .ret (.inr ((cu4 (cu16 ())), ())))⟩

theorem name_Is_L4_ok : name_Is_L4.ok Try.prog (nthC (loopsOf (bodyOf Try.f29)) 0) := by
  refine Lp.lift (π := Str) (V := Nat) (ρ := (Bool ⊕ Unit)) mix tabOk name_Is_L4 (o := orT [name_isLetter_g] [] noFz) (orT_sound ⟨name_isLetter_ok, trivial⟩) (allLp_of [] (by kernel_rfl) trivial rfl) (fun x v => ((cu (cu4 (cu8 ((), (cu2 (cu4 ())))))), ((x, v), ()))) (fun x r => match r with | .inl a0 => .inl ((cu2 (a0, (cu (cu16 ())))), ()) | .inr b0 => (.inr ((cu4 (cu16 ())), ()))) (fun x v => name_Is_L4_step x v) (fun x r => .sum r (fun a0 => .ret (.inl ((cu2 (a0, (cu (cu16 ())))), ()))) (fun b0 => .ret (.inr ((cu4 (cu16 ())), ())))) (fun z => z.2.1.1) (fun z => z.2.1.2) (fun _ => rfl) (fun _ => rfl) (fun x r Q h => match r, h with | .inl _, h => h | .inr b0, h => (h)) ?_
  intro x v; kernel_rfl

def name_Is_T (x0 : Str) : Tree Bool :=
  .ite ((x0 == ([] : Str)) || (decide ((16 : Int) < (x0.length : Int)))) (
    .ret false) (
    .bnd (.loop (fun v => name_Is_L4_step x0 v) 0) fun r1 =>
    .sum r1 (fun r2 =>
      .ret r2) (fun r3 =>
      .ret true))

def name_Is_g : Sig := ⟨29, (.cons (.val false .str) .nil), .vals (.val false .bool), fun z => name_Is_T z.1, false⟩

theorem name_Is_ok : name_Is_g.ok Try.prog := by
  refine Sig.lift mix tabOk nms _ Try.func29 (c := (bodyOf Try.f29)) (by kernel_rfl) (o := orT [name_isLetter_g] [name_Is_L4] noFz) (orT_sound ⟨name_isLetter_ok, trivial⟩) (allLp_of [nthC (loopsOf (bodyOf Try.f29)) 0] (by kernel_rfl) ⟨name_Is_L4_ok, trivial⟩ (by kernel_rfl)) ?_
  intro z; kernel_rfl

def dots_isSeen_L5_step (t : List Int) (t2 : Int) (last : Int) (t3 : Int) : Tree ((Int × Int) ⊕ (Bool ⊕ Unit)) :=
  .ite (decide (t3 < t2)) (
    ask (inb t3 t.length) <|
    .ite ((decide ((t.getD t3.toNat (0 : Int)) ≤ last)) || (decide ((9007199254740992 : Int) < (t.getD t3.toNat (0 : Int))))) (
      .ret (.inr (.inl false))) (
      .ret (.inl ((t.getD t3.toNat (0 : Int)), (w64 (t3 + 1)))))) (
    .ret (.inr (.inr ())))

def dots_isSeen_L5 : Lp := ⟨5, [], [], (ca (ca2 (.cons (.val false (.int .i64)) (ca (ca2 (ca4 (ca8 (ca16 (.cons (.val false (.list (.int .i64))) (.cons (.val false (.int .i64)) (.cons (.val false (.int .i64)) (ca4 (ca8 .nil))))))))))))), .nil, 0, .more 0 [] (ca2 (.cons (.val false .bool) (ca (ca2 (ca4 (ca8 (ca32 .nil))))))) .nil (.one 1 [] (ca2 (ca16 (ca32 .nil))) .nil), fun z => .bnd (.loop (fun v => dots_isSeen_L5_step z.1.2.2.2.2.2.2.2.2.2.2.2.2.2.2.2.2.2.2.2.2.2.2.2.2.2.2.2.2.2.2.2.2.2.2.2.1 z.1.2.2.2.2.2.2.2.2.2.2.2.2.2.2.2.2.2.2.2.2.2.2.2.2.2.2.2.2.2.2.2.2.2.2.2.2.1 v.1 v.2) (z.1.2.2.2.1, z.1.2.2.2.2.2.2.2.2.2.2.2.2.2.2.2.2.2.2.2.2.2.2.2.2.2.2.2.2.2.2.2.2.2.2.2.2.2.1)) fun r => .sum r (fun a0 => .ret (.inl ((cu2 (a0, (cu (cu2 (cu4 (cu8 (cu32 ()))))))), ()))) (fun b0 => .ret (.inr ((cu2 (cu16 (cu32 ()))), ())))⟩

theorem dots_isSeen_L5_ok : dots_isSeen_L5.ok Try.prog (nthC (loopsOf (bodyOf Try.f39)) 0) := by
  refine Lp.lift (π := ((List Int) × Int)) (V := (Int × Int)) (ρ := (Bool ⊕ Unit)) mix tabOk dots_isSeen_L5 (o := orT [name_Is_g] [] noFz) (orT_sound ⟨name_Is_ok, trivial⟩) (allLp_of [] (by kernel_rfl) trivial rfl) (fun x v => ((cu (cu2 (v.1, (cu (cu2 (cu4 (cu8 (cu16 (x.1, (x.2, (v.2, (cu4 (cu8 ()))))))))))))), ())) (fun x r => match r with | .inl a0 => .inl ((cu2 (a0, (cu (cu2 (cu4 (cu8 (cu32 ()))))))), ()) | .inr b0 => (.inr ((cu2 (cu16 (cu32 ()))), ()))) (fun x v => dots_isSeen_L5_step x.1 x.2 v.1 v.2) (fun x r => .sum r (fun a0 => .ret (.inl ((cu2 (a0, (cu (cu2 (cu4 (cu8 (cu32 ()))))))), ()))) (fun b0 => .ret (.inr ((cu2 (cu16 (cu32 ()))), ())))) (fun z => (z.1.2.2.2.2.2.2.2.2.2.2.2.2.2.2.2.2.2.2.2.2.2.2.2.2.2.2.2.2.2.2.2.2.2.2.2.1, z.1.2.2.2.2.2.2.2.2.2.2.2.2.2.2.2.2.2.2.2.2.2.2.2.2.2.2.2.2.2.2.2.2.2.2.2.2.1)) (fun z => (z.1.2.2.2.1, z.1.2.2.2.2.2.2.2.2.2.2.2.2.2.2.2.2.2.2.2.2.2.2.2.2.2.2.2.2.2.2.2.2.2.2.2.2.2.1)) (fun _ => rfl) (fun _ => rfl) (fun x r Q h => match r, h with | .inl _, h => h | .inr b0, h => (h)) ?_
  intro x v; kernel_rfl

def dots_isSeen_T (x0 : Seen) : Tree Bool :=
  .bnd (name_Is_T x0.1) fun y1 =>
  .ite ((((!y1) || (decide (x0.2.1 < 0))) || (decide ((9007199254740992 : Int) < x0.2.1))) || ((decide (x0.2.1 = 0)) && (decide ((x0.2.2.length : Int) = 0)))) (
    .ret false) (
    .bnd (.loop (fun v => dots_isSeen_L5_step x0.2.2 (x0.2.2.length : Int) v.1 v.2) ((w64 (x0.2.1 + 1)), 0)) fun r2 =>
    .sum r2 (fun r3 =>
      .ret r3) (fun r4 =>
      .ret true))

def dots_isSeen_g : Sig := ⟨39, (.cons (.val true tSeen) .nil), .vals (.val false .bool), fun z => dots_isSeen_T z.1, false⟩

theorem dots_isSeen_ok : dots_isSeen_g.ok Try.prog := by
  refine Sig.lift mix tabOk nms _ Try.func39 (c := (bodyOf Try.f39)) (by kernel_rfl) (o := orT [name_Is_g] [dots_isSeen_L5] noFz) (orT_sound ⟨name_Is_ok, trivial⟩) (allLp_of [nthC (loopsOf (bodyOf Try.f39)) 0] (by kernel_rfl) ⟨dots_isSeen_L5_ok, trivial⟩ (by kernel_rfl)) ?_
  intro z; kernel_rfl

def dots_Check_L3_step (c : List Seen) (t : List Seen) (t2 : Int) (room : Int) (t3 : Int) : Tree ((Int × Int) ⊕ (Int ⊕ Unit)) :=
  .ite (decide (t3 < t2)) (
    ask (inb t3 t.length) <|
    .bnd (dots_isSeen_T (t.getD t3.toNat (dfl tSeen : Seen))) fun y1 =>
    ask ((!((!(!y1)) && (decide ((0 : Int) < t3)))) || inb (w64 (t3 - 1)) c.length) <|
    .ite (((!y1) || ((decide ((0 : Int) < t3)) && (!ltS (c.getD ((w64 (t3 - 1)).toNat) (dfl tSeen : Seen)).1 (t.getD t3.toNat (dfl tSeen : Seen)).1))) || (decide (room < ((t.getD t3.toNat (dfl tSeen : Seen)).2.2.length : Int)))) (
      .ret (.inr (.inl 1))) (
      .ret (.inl ((w64 (room - ((t.getD t3.toNat (dfl tSeen : Seen)).2.2.length : Int))), (w64 (t3 + 1)))))) (
    .ret (.inr (.inr ())))

def dots_Check_L3 : Lp := ⟨3, [], [], (.cons (.val false (.list tSeen)) (ca2 (.cons (.val false (.int .i64)) (ca2 (.cons (.val false (.list tSeen)) (.cons (.val false (.int .i64)) (.cons (.val false (.int .i64)) (ca (ca2 (ca32 .nil)))))))))), .nil, 0, .more 0 [] (ca2 (.cons (.val false (.int .i64)) (ca (ca8 (ca32 .nil))))) .nil (.one 1 [] (ca4 (ca8 (ca32 .nil))) .nil), fun z => .bnd (.loop (fun v => dots_Check_L3_step z.1.1 z.1.2.2.2.2.2.2.1 z.1.2.2.2.2.2.2.2.1 v.1 v.2) (z.1.2.2.2.1, z.1.2.2.2.2.2.2.2.2.1)) fun r => .sum r (fun a0 => .ret (.inl ((cu2 (a0, (cu (cu8 (cu32 ()))))), ()))) (fun b0 => .ret (.inr ((cu4 (cu8 (cu32 ()))), ())))⟩

theorem dots_Check_L3_ok : dots_Check_L3.ok Try.prog (nthC (loopsOf (bodyOf Try.f18)) 0) := by
  refine Lp.lift (π := ((List Seen) × (List Seen) × Int)) (V := (Int × Int)) (ρ := (Int ⊕ Unit)) mix tabOk dots_Check_L3 (o := orT [dots_isSeen_g] [] noFz) (orT_sound ⟨dots_isSeen_ok, trivial⟩) (allLp_of [] (by kernel_rfl) trivial rfl) (fun x v => ((x.1, (cu2 (v.1, (cu2 (x.2.1, (x.2.2, (v.2, (cu (cu2 (cu32 ())))))))))), ())) (fun x r => match r with | .inl a0 => .inl ((cu2 (a0, (cu (cu8 (cu32 ()))))), ()) | .inr b0 => (.inr ((cu4 (cu8 (cu32 ()))), ()))) (fun x v => dots_Check_L3_step x.1 x.2.1 x.2.2 v.1 v.2) (fun x r => .sum r (fun a0 => .ret (.inl ((cu2 (a0, (cu (cu8 (cu32 ()))))), ()))) (fun b0 => .ret (.inr ((cu4 (cu8 (cu32 ()))), ())))) (fun z => (z.1.1, z.1.2.2.2.2.2.2.1, z.1.2.2.2.2.2.2.2.1)) (fun z => (z.1.2.2.2.1, z.1.2.2.2.2.2.2.2.2.1)) (fun _ => rfl) (fun _ => rfl) (fun x r Q h => match r, h with | .inl _, h => h | .inr b0, h => (h)) ?_
  intro x v; kernel_rfl

def dots_Check_T (x0 : List Seen) : Tree Int :=
  .bnd (.loop (fun v => dots_Check_L3_step x0 x0 (x0.length : Int) v.1 v.2) (4096, 0)) fun r1 =>
  .sum r1 (fun r2 =>
    .ret r2) (fun r3 =>
    .ret 0)

def dots_Check_g : Sig := ⟨18, (.cons (.val false (.list tSeen)) .nil), .vals (.val false (.int .i64)), fun z => dots_Check_T z.1, (0 : Int)⟩

theorem dots_Check_ok : dots_Check_g.ok Try.prog := by
  refine Sig.lift mix tabOk nms _ Try.func18 (c := (bodyOf Try.f18)) (by kernel_rfl) (o := orT [dots_isSeen_g] [dots_Check_L3] noFz) (orT_sound ⟨dots_isSeen_ok, trivial⟩) (allLp_of [nthC (loopsOf (bodyOf Try.f18)) 0] (by kernel_rfl) ⟨dots_Check_L3_ok, trivial⟩ (by kernel_rfl)) ?_
  intro z; kernel_rfl

def slices_Grow_Seen_nil_T (x0 : Int) : Tree (List Seen) :=
  .ite (decide (x0 < 0)) (
    .fail) (
    .ite (decide ((0 : Int) < (w64 (x0 - (w64 ((0 : Int) - 0)))))) (
      ask (inbe 0 0) <|
      ask (decide ((0 : Int) < (w64 (x0 - (w64 ((0 : Int) - 0)))))) <|
      ask (decide ((w64 (x0 - (w64 ((0 : Int) - 0)))).toNat * 48 ≤ roomNat)) <|
      ask (inbe 0 (List.replicate (w64 (x0 - (w64 ((0 : Int) - 0)))).toNat (([], (0, [])) : Seen)).length) <|
      .ret ((List.replicate (w64 (x0 - (w64 ((0 : Int) - 0)))).toNat (([], (0, [])) : Seen)).take ((0 : Int).toNat))) (
      .ret []))

def slices_Grow_Seen_nil_g : Sig := ⟨44, (.cons .nils (.cons (.val false (.int .i64)) .nil)), .fresh 40 tSeen, fun z => slices_Grow_Seen_nil_T z.2.1, ([] : List Seen)⟩

theorem slices_Grow_Seen_nil_ok : slices_Grow_Seen_nil_g.ok Try.prog := by
  refine Sig.lift mix tabOk nms _ Try.func44 (c := (bodyOf Try.f44)) (by kernel_rfl) (o := orT [] [] noFz) (orT_sound trivial) (allLp_of [] (by kernel_rfl) trivial rfl) ?_
  intro z; kernel_rfl

def slices_Grow_Seen_nil_gv : Sig := ⟨44, (.cons .nils (.cons (.val false (.int .i64)) .nil)), .vals (.val false (.list tSeen)), fun z => slices_Grow_Seen_nil_T z.2.1, ([] : List Seen)⟩

theorem slices_Grow_Seen_nil_okv : slices_Grow_Seen_nil_gv.ok Try.prog := fun x y h => acalls_val (slices_Grow_Seen_nil_ok x y h)

def slices_Concat_Seen_L3_step (slices : List (List Seen)) (t : List (List Seen)) (t2 : Int) (size : Int) (t3 : Int) : Tree ((Int × Int) ⊕ Int) :=
  .ite (decide (t3 < t2)) (
    ask (inb t3 t.length) <|
    .ite (decide ((w64 (size + ((t.getD t3.toNat ([] : List Seen)).length : Int))) < 0)) (
      .fail) (
      .ret (.inl ((w64 (size + ((t.getD t3.toNat ([] : List Seen)).length : Int))), (w64 (t3 + 1)))))) (
    .ret (.inr size))

def slices_Concat_Seen_L3 : Lp := ⟨3, [], [], (.cons (.val false (.list (.list tSeen))) (ca2 (.cons (.val false (.int .i64)) (ca (ca4 (.cons (.val false (.list (.list tSeen))) (.cons (.val false (.int .i64)) (.cons (.val false (.int .i64)) (ca8 (ca16 .nil)))))))))), .nil, 0, .one 1 [] (.cons (.val false (.list (.list tSeen))) (ca2 (.cons (.val false (.int .i64)) (ca32 .nil)))) .nil, fun z => .bnd (.loop (fun v => slices_Concat_Seen_L3_step z.1.1 z.1.2.2.2.2.2.2.2.2.2.1 z.1.2.2.2.2.2.2.2.2.2.2.1 v.1 v.2) (z.1.2.2.2.1, z.1.2.2.2.2.2.2.2.2.2.2.2.1)) fun r => .ret ((z.1.1, (cu2 (r, (cu32 ())))), ())⟩

theorem slices_Concat_Seen_L3_ok : slices_Concat_Seen_L3.ok Try.prog (nthC (loopsOf (bodyOf Try.f21)) 0) := by
  refine Lp.lift (π := ((List (List Seen)) × (List (List Seen)) × Int)) (V := (Int × Int)) (ρ := Int) mix tabOk slices_Concat_Seen_L3 (o := orT [slices_Grow_Seen_nil_g] [] noFz) (orT_sound ⟨slices_Grow_Seen_nil_ok, trivial⟩) (allLp_of [] (by kernel_rfl) trivial rfl) (fun x v => ((x.1, (cu2 (v.1, (cu (cu4 (x.2.1, (x.2.2, (v.2, (cu8 (cu16 ())))))))))), ())) (fun x r => ((x.1, (cu2 (r, (cu32 ())))), ())) (fun x v => slices_Concat_Seen_L3_step x.1 x.2.1 x.2.2 v.1 v.2) (fun x r => .ret ((x.1, (cu2 (r, (cu32 ())))), ())) (fun z => (z.1.1, z.1.2.2.2.2.2.2.2.2.2.1, z.1.2.2.2.2.2.2.2.2.2.2.1)) (fun z => (z.1.2.2.2.1, z.1.2.2.2.2.2.2.2.2.2.2.2.1)) (fun _ => rfl) (fun _ => rfl) (fun _ _ _ h => h) ?_
  intro x v; kernel_rfl

def slices_Concat_Seen_L11_step (t : List (List Seen)) (t2 : Int) (t3 : Int) (newslice : List Seen) : Tree ((Int × (List Seen)) ⊕ (List Seen)) :=
  .ite (decide (t3 < t2)) (
    ask (inb t3 t.length) <|
    ask (decide ((newslice ++ (t.getD t3.toNat ([] : List Seen))).length * 48 ≤ roomNat)) <|
    .ret (.inl ((w64 (t3 + 1)), (newslice ++ (t.getD t3.toNat ([] : List Seen)))))) (
    .ret (.inr newslice))

def slices_Concat_Seen_L11 : Lp := ⟨11, [], [], (ca2 (ca4 (.cons (.own 0) (ca2 (ca16 (.cons (.val false (.list (.list tSeen))) (.cons (.val false (.int .i64)) (.cons (.val false (.int .i64)) (ca8 .nil))))))))), (.rows 40 tSeen .nil), 0, .one 3 [] (ca2 (ca4 (.cons (.own 0) (ca (ca4 (ca8 (ca16 .nil))))))) (.rows 40 tSeen .nil), fun z => .bnd (.loop (fun v => slices_Concat_Seen_L11_step z.1.2.2.2.2.2.2.2.2.2.2.2.2.2.2.2.2.2.2.2.2.2.2.2.2.2.1 z.1.2.2.2.2.2.2.2.2.2.2.2.2.2.2.2.2.2.2.2.2.2.2.2.2.2.2.1 v.1 v.2) (z.1.2.2.2.2.2.2.2.2.2.2.2.2.2.2.2.2.2.2.2.2.2.2.2.2.2.2.2.1, z.2.1)) fun r => .ret ((cu2 (cu4 ((), (cu (cu4 (cu8 (cu16 ()))))))), (r, ()))⟩

theorem slices_Concat_Seen_L11_ok : slices_Concat_Seen_L11.ok Try.prog (nthC (loopsOf (bodyOf Try.f21)) 1) := by
  refine Lp.lift (π := ((List (List Seen)) × Int)) (V := (Int × (List Seen))) (ρ := List Seen) mix tabOk slices_Concat_Seen_L11 (o := orT [slices_Grow_Seen_nil_g] [] noFz) (orT_sound ⟨slices_Grow_Seen_nil_ok, trivial⟩) (allLp_of [] (by kernel_rfl) trivial rfl) (fun x v => ((cu2 (cu4 ((), (cu2 (cu16 (x.1, (x.2, (v.1, (cu8 ()))))))))), (v.2, ()))) (fun x r => ((cu2 (cu4 ((), (cu (cu4 (cu8 (cu16 ()))))))), (r, ()))) (fun x v => slices_Concat_Seen_L11_step x.1 x.2 v.1 v.2) (fun x r => .ret ((cu2 (cu4 ((), (cu (cu4 (cu8 (cu16 ()))))))), (r, ()))) (fun z => (z.1.2.2.2.2.2.2.2.2.2.2.2.2.2.2.2.2.2.2.2.2.2.2.2.2.2.1, z.1.2.2.2.2.2.2.2.2.2.2.2.2.2.2.2.2.2.2.2.2.2.2.2.2.2.2.1)) (fun z => (z.1.2.2.2.2.2.2.2.2.2.2.2.2.2.2.2.2.2.2.2.2.2.2.2.2.2.2.2.1, z.2.1)) (fun _ => rfl) (fun _ => rfl) (fun _ _ _ h => h) ?_
  intro x v; kernel_rfl

def slices_Concat_Seen_T (x0 : List (List Seen)) : Tree (List Seen) :=
  .bnd (.loop (fun v => slices_Concat_Seen_L3_step x0 x0 (x0.length : Int) v.1 v.2) (0, 0)) fun r1 =>
  .bnd (slices_Grow_Seen_nil_T r1) fun y2 =>
  .bnd (.loop (fun v => slices_Concat_Seen_L11_step x0 (x0.length : Int) v.1 v.2) (0, y2)) fun r3 =>
  .ret r3

def slices_Concat_Seen_g : Sig := ⟨21, (.cons (.val false (.list (.list tSeen))) .nil), .fresh 40 tSeen, fun z => slices_Concat_Seen_T z.1, ([] : List Seen)⟩

theorem slices_Concat_Seen_ok : slices_Concat_Seen_g.ok Try.prog := by
  refine Sig.lift mix tabOk nms _ Try.func21 (c := (bodyOf Try.f21)) (by kernel_rfl) (o := orT [slices_Grow_Seen_nil_g] [slices_Concat_Seen_L3, slices_Concat_Seen_L11] noFz) (orT_sound ⟨slices_Grow_Seen_nil_ok, trivial⟩) (allLp_of [nthC (loopsOf (bodyOf Try.f21)) 0, nthC (loopsOf (bodyOf Try.f21)) 1] (by kernel_rfl) ⟨slices_Concat_Seen_L3_ok, ⟨slices_Concat_Seen_L11_ok, trivial⟩⟩ (by kernel_rfl)) ?_
  intro z; kernel_rfl

def slices_Concat_Seen_gv : Sig := ⟨21, (.cons (.val false (.list (.list tSeen))) .nil), .vals (.val false (.list tSeen)), fun z => slices_Concat_Seen_T z.1, ([] : List Seen)⟩

theorem slices_Concat_Seen_okv : slices_Concat_Seen_gv.ok Try.prog := fun x y h => acalls_val (slices_Concat_Seen_ok x y h)

def slices_Sort_string_T (x0 : List Str) : Tree (Unit × (List Str × Unit)) :=
  ask (decide (x0.length < 4611686018427387904)) <|
  .ret ((), (sortS x0, ()))

def slices_Sort_string_g : MSig := ⟨22, (.cons (.own 0) .nil), (.rows 9 .str .nil), [], .nil, (.rows 9 .str .nil), none, fun z => slices_Sort_string_T z.2.1⟩

theorem slices_Sort_string_ok : slices_Sort_string_g.ok Try.prog := by
  refine sort_scalls (P := Try.prog) (f := 22) (t := .str) (e := 9) rfl encStr sortS (fun l => (isortB_perm _ l).length_eq) (fun l x h => (isortB_perm _ l).mem_iff.1 h) (by intro w S v x h; cases h; rfl) (fun x => rfl) (fun b cap zs w h1 h2 h3 => ?_) (fun p cap w => Try.slices_Sort_string_none p cap w) (fun args w => enters_of Try.func22 (by kernel_rfl) rfl args w)
  rw [← mergeS]; exact Try.slices_Sort_string b 0 cap zs w h1 h2 h3

def slices_Compact_string_T (x0 : List Str) : Tree (Unit × (List Str × Unit)) :=
  .ret ((), (compL eqS x0, ()))

def slices_Compact_string_g : MSig := ⟨23, (.cons (.own 0) .nil), (.rows 9 .str .nil), [], .own 0, (.rows 9 .str .nil), some 0, fun z => slices_Compact_string_T z.2.1⟩

theorem slices_Compact_string_ok : slices_Compact_string_g.ok Try.prog := by
  refine compact_scalls (P := Try.prog) (f := 23) (t := .str) (e := 9) rfl encStr (compL eqS) ([] : Str) (fun l => (compL_sub _ l).1) (fun l x h => (compL_sub _ l).2 x h) (by intro w S v x h; cases h; rfl) (fun x => rfl) (fun b cap zs w h1 h2 h3 => ?_) (fun p cap w => Try.slices_Compact_string_empty p cap w) (fun args w => enters_of Try.func23 (by kernel_rfl) rfl args w)
  rw [← compact_eq eqS (fun a b => by unfold eqS; simp)]; exact Try.slices_Compact_string b 0 cap zs w h1 h2 h3

def cmpstring_T (x0 : Str) (x1 : Str) : Tree Int :=
  .ret (Lib.compareBytes x0 x1)

def cmpstring_g : Sig := ⟨93, (.cons (.val false .str) (.cons (.val false .str) .nil)), .vals (.val false (.int .i64)), fun z => cmpstring_T z.1 z.2.1, (0 : Int)⟩

theorem cmpstring_ok : cmpstring_g.ok Try.prog := by
  intro x y h
  cases h
  exact ACalls.cmpstring Try.func93 (by decide) rfl rfl rfl _ _

def bytealg_CompareString_T (x0 : Str) (x1 : Str) : Tree Int :=
  .bnd (cmpstring_T x0 x1) fun y1 =>
  .ret y1

def bytealg_CompareString_g : Sig := ⟨87, (.cons (.val false .str) (.cons (.val false .str) .nil)), .vals (.val false (.int .i64)), fun z => bytealg_CompareString_T z.1 z.2.1, (0 : Int)⟩

theorem bytealg_CompareString_ok : bytealg_CompareString_g.ok Try.prog := by
  refine Sig.lift mix tabOk nms _ Try.func87 (c := (bodyOf Try.f87)) (by kernel_rfl) (o := orT [cmpstring_g] [] noFz) (orT_sound ⟨cmpstring_ok, trivial⟩) (allLp_of [] (by kernel_rfl) trivial rfl) ?_
  intro z; kernel_rfl

def strings_Compare_T (x0 : Str) (x1 : Str) : Tree Int :=
  .bnd (bytealg_CompareString_T x0 x1) fun y1 =>
  .ret y1

def strings_Compare_g : Sig := ⟨71, (.cons (.val false .str) (.cons (.val false .str) .nil)), .vals (.val false (.int .i64)), fun z => strings_Compare_T z.1 z.2.1, (0 : Int)⟩

theorem strings_Compare_ok : strings_Compare_g.ok Try.prog := by
  refine Sig.lift mix tabOk nms _ Try.func71 (c := (bodyOf Try.f71)) (by kernel_rfl) (o := orT [bytealg_CompareString_g] [] noFz) (orT_sound ⟨bytealg_CompareString_ok, trivial⟩) (allLp_of [] (by kernel_rfl) trivial rfl) ?_
  intro z; kernel_rfl

def dots_place_1_T (x0 : Seen) (x1 : Str) : Tree Int :=
  .bnd (strings_Compare_T x0.1 x1) fun y1 =>
  .ret y1

def dots_place_1_g : Sig := ⟨70, (.cons (.val true tSeen) (.cons (.val false .str) .nil)), .vals (.val false (.int .i64)), fun z => dots_place_1_T z.1 z.2.1, (0 : Int)⟩

theorem dots_place_1_ok : dots_place_1_g.ok Try.prog := by
  refine Sig.lift mix tabOk nms _ Try.func70 (c := (bodyOf Try.f70)) (by kernel_rfl) (o := orT [strings_Compare_g] [] noFz) (orT_sound ⟨strings_Compare_ok, trivial⟩) (allLp_of [] (by kernel_rfl) trivial rfl) ?_
  intro z; kernel_rfl

def slices_BinarySearchFunc_string_dots_place_1_L3_step (x_ : List Seen) (target : Str) (n : Int) (i : Int) (j : Int) : Tree ((Int × Int) ⊕ Int) :=
  .ite (decide (i < j)) (
    ask (decide ((0 : Int) ≤ 1)) <|
    ask (inb (w64 ((stdShift .shr .u64 (IntKind.wrap .u64 ((w64 (i + j)))) 1))) x_.length) <|
    .bnd (dots_place_1_T (x_.getD ((w64 ((stdShift .shr .u64 (IntKind.wrap .u64 ((w64 (i + j)))) 1))).toNat) (dfl tSeen : Seen)) target) fun y1 =>
    .ite (decide (y1 < 0)) (
      .ret (.inl ((w64 ((w64 ((stdShift .shr .u64 (IntKind.wrap .u64 ((w64 (i + j)))) 1))) + 1)), j))) (
      .ret (.inl (i, (w64 ((stdShift .shr .u64 (IntKind.wrap .u64 ((w64 (i + j)))) 1))))))) (
    .ret (.inr i))

def slices_BinarySearchFunc_string_dots_place_1_L3 : Lp := ⟨3, [], [], (.cons (.val false (.list tSeen)) (.cons (.val false .str) (.cons (.fn 70 .nil .nil) (ca (ca4 (.cons (.val false (.int .i64)) (.cons (.val false (.int .i64)) (.cons (.val false (.int .i64)) (ca2 (ca4 (ca32 .nil))))))))))), .nil, 0, .one 1 [] (.cons (.val false (.list tSeen)) (.cons (.val false .str) (.cons (.fn 70 .nil .nil) (ca (ca4 (.cons (.val false (.int .i64)) (.cons (.val false (.int .i64)) (ca (ca2 (ca4 (ca32 .nil))))))))))) .nil, fun z => .bnd (.loop (fun v => slices_BinarySearchFunc_string_dots_place_1_L3_step z.1.1 z.1.2.1 z.1.2.2.2.2.2.2.2.2.1 v.1 v.2) (z.1.2.2.2.2.2.2.2.2.2.1, z.1.2.2.2.2.2.2.2.2.2.2.1)) fun r => .ret ((z.1.1, (z.1.2.1, (((), ()), (cu (cu4 (z.1.2.2.2.2.2.2.2.2.1, (r, (cu (cu2 (cu4 (cu32 ()))))))))))), ())⟩

theorem slices_BinarySearchFunc_string_dots_place_1_L3_ok : slices_BinarySearchFunc_string_dots_place_1_L3.ok Try.prog (nthC (loopsOf (bodyOf Try.f69)) 0) := by
  refine Lp.lift (π := ((List Seen) × Str × Int)) (V := (Int × Int)) (ρ := Int) mix tabOk slices_BinarySearchFunc_string_dots_place_1_L3 (o := orT [dots_place_1_g] [] noFz) (orT_sound ⟨dots_place_1_ok, trivial⟩) (allLp_of [] (by kernel_rfl) trivial rfl) (fun x v => ((x.1, (x.2.1, (((), ()), (cu (cu4 (x.2.2, (v.1, (v.2, (cu2 (cu4 (cu32 ()))))))))))), ())) (fun x r => ((x.1, (x.2.1, (((), ()), (cu (cu4 (x.2.2, (r, (cu (cu2 (cu4 (cu32 ()))))))))))), ())) (fun x v => slices_BinarySearchFunc_string_dots_place_1_L3_step x.1 x.2.1 x.2.2 v.1 v.2) (fun x r => .ret ((x.1, (x.2.1, (((), ()), (cu (cu4 (x.2.2, (r, (cu (cu2 (cu4 (cu32 ()))))))))))), ())) (fun z => (z.1.1, z.1.2.1, z.1.2.2.2.2.2.2.2.2.1)) (fun z => (z.1.2.2.2.2.2.2.2.2.2.1, z.1.2.2.2.2.2.2.2.2.2.2.1)) (fun _ => rfl) (fun _ => rfl) (fun _ _ _ h => h) ?_
  intro x v; kernel_rfl

def slices_BinarySearchFunc_string_dots_place_1_T (x0 : List Seen) (x1 : Str) : Tree (Int × Bool × Unit) :=
  .bnd (.loop (fun v => slices_BinarySearchFunc_string_dots_place_1_L3_step x0 x1 (x0.length : Int) v.1 v.2) (0, (x0.length : Int))) fun r1 =>
  ask ((!(decide (r1 < (x0.length : Int)))) || inb r1 x0.length) <|
  .grd (decide (r1 < (x0.length : Int))) (dots_place_1_T (x0.getD r1.toNat (dfl tSeen : Seen)) x1) (0 : Int) fun y2 =>
  .ret (r1, ((decide (r1 < (x0.length : Int))) && (decide (y2 = 0))), ())

def slices_BinarySearchFunc_string_dots_place_1_g : Sig := ⟨69, (.cons (.val false (.list tSeen)) (.cons (.val false .str) (.cons (.fn 70 .nil .nil) .nil))), .vals (.cons (.val false (.int .i64)) (.cons (.val false .bool) .nil)), fun z => slices_BinarySearchFunc_string_dots_place_1_T z.1 z.2.1, ((0 : Int), false, ())⟩

theorem slices_BinarySearchFunc_string_dots_place_1_ok : slices_BinarySearchFunc_string_dots_place_1_g.ok Try.prog := by
  refine Sig.lift mix tabOk nms _ Try.func69 (c := (bodyOf Try.f69)) (by kernel_rfl) (o := orT [dots_place_1_g] [slices_BinarySearchFunc_string_dots_place_1_L3] noFz) (orT_sound ⟨dots_place_1_ok, trivial⟩) (allLp_of [nthC (loopsOf (bodyOf Try.f69)) 0] (by kernel_rfl) ⟨slices_BinarySearchFunc_string_dots_place_1_L3_ok, trivial⟩ (by kernel_rfl)) ?_
  intro z; kernel_rfl

def dots_place_T (x0 : List Seen) (x1 : Str) : Tree (Int × Bool × Unit) :=
  .bnd (slices_BinarySearchFunc_string_dots_place_1_T x0 x1) fun y1 =>
  .ret (y1.1, y1.2.1, ())

def dots_place_g : Sig := ⟨50, (.cons (.val false (.list tSeen)) (.cons (.val false .str) .nil)), .vals (.cons (.val false (.int .i64)) (.cons (.val false .bool) .nil)), fun z => dots_place_T z.1 z.2.1, ((0 : Int), false, ())⟩

theorem dots_place_ok : dots_place_g.ok Try.prog := by
  refine Sig.lift mix tabOk nms _ Try.func50 (c := (bodyOf Try.f50)) (by kernel_rfl) (o := orT [slices_BinarySearchFunc_string_dots_place_1_g] [] noFz) (orT_sound ⟨slices_BinarySearchFunc_string_dots_place_1_ok, trivial⟩) (allLp_of [] (by kernel_rfl) trivial rfl) ?_
  intro z; kernel_rfl

def dots_of_T (x0 : List Seen) (x1 : Str) : Tree Seen :=
  .bnd (dots_place_T x0 x1) fun y1 =>
  .ite (!y1.2.1) (
    .ret (x1, (0, []))) (
    ask (inb y1.1 x0.length) <|
    .ret (x0.getD y1.1.toNat (dfl tSeen : Seen)))

def dots_of_g : Sig := ⟨25, (.cons (.val false (.list tSeen)) (.cons (.val false .str) .nil)), .vals (.val true tSeen), fun z => dots_of_T z.1 z.2.1, (dfl tSeen : Seen)⟩

theorem dots_of_ok : dots_of_g.ok Try.prog := by
  refine Sig.lift mix tabOk nms _ Try.func25 (c := (bodyOf Try.f25)) (by kernel_rfl) (o := orT [dots_place_g] [] noFz) (orT_sound ⟨dots_place_ok, trivial⟩) (allLp_of [] (by kernel_rfl) trivial rfl) ?_
  intro z; kernel_rfl

def slices_Grow_int_nil_T (x0 : Int) : Tree (List Int) :=
  .ite (decide (x0 < 0)) (
    .fail) (
    .ite (decide ((0 : Int) < (w64 (x0 - (w64 ((0 : Int) - 0)))))) (
      ask (inbe 0 0) <|
      ask (decide ((0 : Int) < (w64 (x0 - (w64 ((0 : Int) - 0)))))) <|
      ask (decide ((w64 (x0 - (w64 ((0 : Int) - 0)))).toNat * 8 ≤ roomNat)) <|
      ask (inbe 0 (List.replicate (w64 (x0 - (w64 ((0 : Int) - 0)))).toNat (0 : Int)).length) <|
      .ret ((List.replicate (w64 (x0 - (w64 ((0 : Int) - 0)))).toNat (0 : Int)).take ((0 : Int).toNat))) (
      .ret []))

def slices_Grow_int_nil_g : Sig := ⟨67, (.cons .nils (.cons (.val false (.int .i64)) .nil)), .fresh 3 (.int .i64), fun z => slices_Grow_int_nil_T z.2.1, ([] : List Int)⟩

theorem slices_Grow_int_nil_ok : slices_Grow_int_nil_g.ok Try.prog := by
  refine Sig.lift mix tabOk nms _ Try.func67 (c := (bodyOf Try.f67)) (by kernel_rfl) (o := orT [] [] noFz) (orT_sound trivial) (allLp_of [] (by kernel_rfl) trivial rfl) ?_
  intro z; kernel_rfl

def slices_Grow_int_nil_gv : Sig := ⟨67, (.cons .nils (.cons (.val false (.int .i64)) .nil)), .vals (.val false (.list (.int .i64))), fun z => slices_Grow_int_nil_T z.2.1, ([] : List Int)⟩

theorem slices_Grow_int_nil_okv : slices_Grow_int_nil_gv.ok Try.prog := fun x y h => acalls_val (slices_Grow_int_nil_ok x y h)

def slices_Concat_int_L3_step (slices : List (List Int)) (t : List (List Int)) (t2 : Int) (size : Int) (t3 : Int) : Tree ((Int × Int) ⊕ Int) :=
  .ite (decide (t3 < t2)) (
    ask (inb t3 t.length) <|
    .ite (decide ((w64 (size + ((t.getD t3.toNat ([] : List Int)).length : Int))) < 0)) (
      .fail) (
      .ret (.inl ((w64 (size + ((t.getD t3.toNat ([] : List Int)).length : Int))), (w64 (t3 + 1)))))) (
    .ret (.inr size))

def slices_Concat_int_L3 : Lp := ⟨3, [], [], (.cons (.val false (.list (.list (.int .i64)))) (ca2 (.cons (.val false (.int .i64)) (ca (ca4 (.cons (.val false (.list (.list (.int .i64)))) (.cons (.val false (.int .i64)) (.cons (.val false (.int .i64)) (ca8 (ca16 .nil)))))))))), .nil, 0, .one 1 [] (.cons (.val false (.list (.list (.int .i64)))) (ca2 (.cons (.val false (.int .i64)) (ca32 .nil)))) .nil, fun z => .bnd (.loop (fun v => slices_Concat_int_L3_step z.1.1 z.1.2.2.2.2.2.2.2.2.2.1 z.1.2.2.2.2.2.2.2.2.2.2.1 v.1 v.2) (z.1.2.2.2.1, z.1.2.2.2.2.2.2.2.2.2.2.2.1)) fun r => .ret ((z.1.1, (cu2 (r, (cu32 ())))), ())⟩

theorem slices_Concat_int_L3_ok : slices_Concat_int_L3.ok Try.prog (nthC (loopsOf (bodyOf Try.f47)) 0) := by
  refine Lp.lift (π := ((List (List Int)) × (List (List Int)) × Int)) (V := (Int × Int)) (ρ := Int) mix tabOk slices_Concat_int_L3 (o := orT [slices_Grow_int_nil_g] [] noFz) (orT_sound ⟨slices_Grow_int_nil_ok, trivial⟩) (allLp_of [] (by kernel_rfl) trivial rfl) (fun x v => ((x.1, (cu2 (v.1, (cu (cu4 (x.2.1, (x.2.2, (v.2, (cu8 (cu16 ())))))))))), ())) (fun x r => ((x.1, (cu2 (r, (cu32 ())))), ())) (fun x v => slices_Concat_int_L3_step x.1 x.2.1 x.2.2 v.1 v.2) (fun x r => .ret ((x.1, (cu2 (r, (cu32 ())))), ())) (fun z => (z.1.1, z.1.2.2.2.2.2.2.2.2.2.1, z.1.2.2.2.2.2.2.2.2.2.2.1)) (fun z => (z.1.2.2.2.1, z.1.2.2.2.2.2.2.2.2.2.2.2.1)) (fun _ => rfl) (fun _ => rfl) (fun _ _ _ h => h) ?_
  intro x v; kernel_rfl

def slices_Concat_int_L11_step (t : List (List Int)) (t2 : Int) (t3 : Int) (newslice : List Int) : Tree ((Int × (List Int)) ⊕ (List Int)) :=
  .ite (decide (t3 < t2)) (
    ask (inb t3 t.length) <|
    ask (decide ((newslice ++ (t.getD t3.toNat ([] : List Int))).length * 8 ≤ roomNat)) <|
    .ret (.inl ((w64 (t3 + 1)), (newslice ++ (t.getD t3.toNat ([] : List Int)))))) (
    .ret (.inr newslice))

def slices_Concat_int_L11 : Lp := ⟨11, [], [], (ca2 (ca4 (.cons (.own 0) (ca2 (ca16 (.cons (.val false (.list (.list (.int .i64)))) (.cons (.val false (.int .i64)) (.cons (.val false (.int .i64)) (ca8 .nil))))))))), (.rows 3 (.int .i64) .nil), 0, .one 3 [] (ca2 (ca4 (.cons (.own 0) (ca (ca4 (ca8 (ca16 .nil))))))) (.rows 3 (.int .i64) .nil), fun z => .bnd (.loop (fun v => slices_Concat_int_L11_step z.1.2.2.2.2.2.2.2.2.2.2.2.2.2.2.2.2.2.2.2.2.2.2.2.2.2.1 z.1.2.2.2.2.2.2.2.2.2.2.2.2.2.2.2.2.2.2.2.2.2.2.2.2.2.2.1 v.1 v.2) (z.1.2.2.2.2.2.2.2.2.2.2.2.2.2.2.2.2.2.2.2.2.2.2.2.2.2.2.2.1, z.2.1)) fun r => .ret ((cu2 (cu4 ((), (cu (cu4 (cu8 (cu16 ()))))))), (r, ()))⟩

theorem slices_Concat_int_L11_ok : slices_Concat_int_L11.ok Try.prog (nthC (loopsOf (bodyOf Try.f47)) 1) := by
  refine Lp.lift (π := ((List (List Int)) × Int)) (V := (Int × (List Int))) (ρ := List Int) mix tabOk slices_Concat_int_L11 (o := orT [slices_Grow_int_nil_g] [] noFz) (orT_sound ⟨slices_Grow_int_nil_ok, trivial⟩) (allLp_of [] (by kernel_rfl) trivial rfl) (fun x v => ((cu2 (cu4 ((), (cu2 (cu16 (x.1, (x.2, (v.1, (cu8 ()))))))))), (v.2, ()))) (fun x r => ((cu2 (cu4 ((), (cu (cu4 (cu8 (cu16 ()))))))), (r, ()))) (fun x v => slices_Concat_int_L11_step x.1 x.2 v.1 v.2) (fun x r => .ret ((cu2 (cu4 ((), (cu (cu4 (cu8 (cu16 ()))))))), (r, ()))) (fun z => (z.1.2.2.2.2.2.2.2.2.2.2.2.2.2.2.2.2.2.2.2.2.2.2.2.2.2.1, z.1.2.2.2.2.2.2.2.2.2.2.2.2.2.2.2.2.2.2.2.2.2.2.2.2.2.2.1)) (fun z => (z.1.2.2.2.2.2.2.2.2.2.2.2.2.2.2.2.2.2.2.2.2.2.2.2.2.2.2.2.1, z.2.1)) (fun _ => rfl) (fun _ => rfl) (fun _ _ _ h => h) ?_
  intro x v; kernel_rfl

def slices_Concat_int_T (x0 : List (List Int)) : Tree (List Int) :=
  .bnd (.loop (fun v => slices_Concat_int_L3_step x0 x0 (x0.length : Int) v.1 v.2) (0, 0)) fun r1 =>
  .bnd (slices_Grow_int_nil_T r1) fun y2 =>
  .bnd (.loop (fun v => slices_Concat_int_L11_step x0 (x0.length : Int) v.1 v.2) (0, y2)) fun r3 =>
  .ret r3

def slices_Concat_int_g : Sig := ⟨47, (.cons (.val false (.list (.list (.int .i64)))) .nil), .fresh 3 (.int .i64), fun z => slices_Concat_int_T z.1, ([] : List Int)⟩

theorem slices_Concat_int_ok : slices_Concat_int_g.ok Try.prog := by
  refine Sig.lift mix tabOk nms _ Try.func47 (c := (bodyOf Try.f47)) (by kernel_rfl) (o := orT [slices_Grow_int_nil_g] [slices_Concat_int_L3, slices_Concat_int_L11] noFz) (orT_sound ⟨slices_Grow_int_nil_ok, trivial⟩) (allLp_of [nthC (loopsOf (bodyOf Try.f47)) 0, nthC (loopsOf (bodyOf Try.f47)) 1] (by kernel_rfl) ⟨slices_Concat_int_L3_ok, ⟨slices_Concat_int_L11_ok, trivial⟩⟩ (by kernel_rfl)) ?_
  intro z; kernel_rfl

def slices_Concat_int_gv : Sig := ⟨47, (.cons (.val false (.list (.list (.int .i64)))) .nil), .vals (.val false (.list (.int .i64))), fun z => slices_Concat_int_T z.1, ([] : List Int)⟩

theorem slices_Concat_int_okv : slices_Concat_int_gv.ok Try.prog := fun x y h => acalls_val (slices_Concat_int_ok x y h)

def slices_Sort_int_T (x0 : List Int) : Tree (Unit × (List Int × Unit)) :=
  ask (decide (x0.length < 4611686018427387904)) <|
  .ret ((), (sortI x0, ()))

def slices_Sort_int_g : MSig := ⟨48, (.cons (.own 0) .nil), (.rows 3 (.int .i64) .nil), [], .nil, (.rows 3 (.int .i64) .nil), none, fun z => slices_Sort_int_T z.2.1⟩

theorem slices_Sort_int_ok : slices_Sort_int_g.ok Try.prog := by
  refine sort_scalls (P := Try.prog) (f := 48) (t := (.int .i64)) (e := 3) rfl (Value.int .i64) sortI (fun l => (isortB_perm _ l).length_eq) (fun l x h => (isortB_perm _ l).mem_iff.1 h) (by intro w S v x h; cases h; rfl) (fun x => rfl) (fun b cap zs w h1 h2 h3 => ?_) (fun p cap w => Try.slices_Sort_int_none p cap w) (fun args w => enters_of Try.func48 (by kernel_rfl) rfl args w)
  rw [← mergeI]; exact Try.slices_Sort_int b 0 cap zs w h1 h2 h3

def slices_Compact_int_T (x0 : List Int) : Tree (Unit × (List Int × Unit)) :=
  .ret ((), (compL eqI x0, ()))

def slices_Compact_int_g : MSig := ⟨49, (.cons (.own 0) .nil), (.rows 3 (.int .i64) .nil), [], .own 0, (.rows 3 (.int .i64) .nil), some 0, fun z => slices_Compact_int_T z.2.1⟩

theorem slices_Compact_int_ok : slices_Compact_int_g.ok Try.prog := by
  refine compact_scalls (P := Try.prog) (f := 49) (t := (.int .i64)) (e := 3) rfl (Value.int .i64) (compL eqI) (0 : Int) (fun l => (compL_sub _ l).1) (fun l x h => (compL_sub _ l).2 x h) (by intro w S v x h; cases h; rfl) (fun x => rfl) (fun b cap zs w h1 h2 h3 => ?_) (fun p cap w => Try.slices_Compact_int_empty p cap w) (fun args w => enters_of Try.func49 (by kernel_rfl) rfl args w)
  rw [← compact_eq eqI (fun a b => by unfold eqI; simp)]; exact Try.slices_Compact_int b 0 cap zs w h1 h2 h3

def dots_both_L5_step (t : Int) (c : Seen) (rows : List Int) (out : Str) (t2 : Int) (out2 : Int) (rows2 : List Int) : Tree ((Int × Int × (List Int)) ⊕ (Int × (List Int))) :=
  .ite (decide (t2 < t)) (
    ask (inb t2 rows.length) <|
    .ite (decide ((rows.getD t2.toNat (0 : Int)) = (w64 (out2 + 1)))) (
      .ret (.inl ((w64 (t2 + 1)), (rows.getD t2.toNat (0 : Int)), rows2))) (
      .ite (decide (out2 < (rows.getD t2.toNat (0 : Int)))) (
        ask (decide ((rows2 ++ [(rows.getD t2.toNat (0 : Int))]).length * 8 ≤ roomNat)) <|
        .ret (.inl ((w64 (t2 + 1)), out2, (rows2 ++ [(rows.getD t2.toNat (0 : Int))])))) (
        .ret (.inl ((w64 (t2 + 1)), out2, rows2))))) (
    .ret (.inr (out2, rows2)))

def dots_both_L5 : Lp := ⟨5, [.ownC 4 2 3 (.int .i64)], [], (ca4 (.cons (.ref 2 0) (ca (.cons (.ref 4 0) (ca (ca2 (ca16 (.cons (.own 3) (.cons (.val false (.int .i64)) (.cons (.val false (.int .i64)) (ca2 (ca4 (ca16 .nil))))))))))))), (.cells 40 (ca (ca2 .nil)) (.cells 40 (ca (ca2 .nil)) (.cells 40 (.cons (.flat tSeen) .nil) (.rows 3 (.int .i64) (.cells 40 (.cons (.val false .str) (.cons (.val false (.int .i64)) (.cons (.own 5) .nil))) (.rows 3 (.int .i64) .nil)))))), 0, .one 1 [] (ca4 (.cons (.ref 2 0) (ca (.cons (.ref 4 0) (ca4 (ca8 (ca32 .nil))))))) (.cells 40 (ca (ca2 .nil)) (.cells 40 (ca (ca2 .nil)) (.cells 40 (.cons (.flat tSeen) .nil) (.dead (.cells 40 (.cons (.val false .str) (.cons (.val false (.int .i64)) (.cons (.own 5) .nil))) (.rows 3 (.int .i64) .nil)))))), fun z => .bnd (.loop (fun v => dots_both_L5_step z.1.2.2.2.2.2.2.2.2.2.2.2.2.2.2.2.2.2.2.2.2.2.2.2.2.2.2.2.1 z.2.2.2.1.1 z.2.2.2.2.1 z.2.2.2.2.2.1.1 v.1 v.2.1 v.2.2) (z.1.2.2.2.2.2.2.2.2.2.2.2.2.2.2.2.2.2.2.2.2.2.2.2.2.2.2.2.2.1, z.2.2.2.2.2.1.2.1, z.2.2.2.2.2.2.1)) fun r => .ret ((cu4 ((), (cu ((), (cu4 (cu8 (cu32 ()))))))), ((cu (cu2 ())), ((cu (cu2 ())), ((z.2.2.2.1.1, ()), ((z.2.2.2.2.2.1.1, (r.1, ((), ()))), (r.2, ()))))))⟩

theorem dots_both_L5_ok : dots_both_L5.ok Try.prog (nthC (loopsOf (bodyOf Try.f24)) 0) := by
  refine Lp.lift (π := (Int × Seen × (List Int) × Str)) (V := (Int × Int × (List Int))) (ρ := (Int × (List Int))) mix tabOk dots_both_L5 (o := orM [slices_Concat_int_g] [slices_Sort_int_g, slices_Compact_int_g] [] noFz) (orM_sound ⟨slices_Concat_int_ok, trivial⟩ ⟨slices_Sort_int_ok, ⟨slices_Compact_int_ok, trivial⟩⟩) (allLp_ofM [] (by kernel_rfl) trivial rfl) (fun x v => ((cu4 ((), (cu ((), (cu (cu2 (cu16 ((), (x.1, (v.1, (cu2 (cu4 (cu16 ()))))))))))))), ((cu (cu2 ())), ((cu (cu2 ())), ((x.2.1, ()), (x.2.2.1, ((x.2.2.2, (v.2.1, ((), ()))), (v.2.2, ())))))))) (fun x r => ((cu4 ((), (cu ((), (cu4 (cu8 (cu32 ()))))))), ((cu (cu2 ())), ((cu (cu2 ())), ((x.2.1, ()), ((x.2.2.2, (r.1, ((), ()))), (r.2, ()))))))) (fun x v => dots_both_L5_step x.1 x.2.1 x.2.2.1 x.2.2.2 v.1 v.2.1 v.2.2) (fun x r => .ret ((cu4 ((), (cu ((), (cu4 (cu8 (cu32 ()))))))), ((cu (cu2 ())), ((cu (cu2 ())), ((x.2.1, ()), ((x.2.2.2, (r.1, ((), ()))), (r.2, ()))))))) (fun z => (z.1.2.2.2.2.2.2.2.2.2.2.2.2.2.2.2.2.2.2.2.2.2.2.2.2.2.2.2.1, z.2.2.2.1.1, z.2.2.2.2.1, z.2.2.2.2.2.1.1)) (fun z => (z.1.2.2.2.2.2.2.2.2.2.2.2.2.2.2.2.2.2.2.2.2.2.2.2.2.2.2.2.2.1, z.2.2.2.2.2.1.2.1, z.2.2.2.2.2.2.1)) (fun _ => rfl) (fun _ => rfl) (fun _ _ _ h => h) ?_
  intro x v; kernel_rfl

def dots_both_T (x0 : Seen) (x1 : Seen) : Tree Seen :=
  .bnd (slices_Concat_int_T [x0.2.2, x1.2.2]) fun y1 =>
  .bnd (slices_Sort_int_T y1) fun y2 =>
  .bnd (slices_Compact_int_T y2.2.1) fun y3 =>
  .bnd (.loop (fun v => dots_both_L5_step (y3.2.1.length : Int) ([], (0, [])) y3.2.1 x0.1 v.1 v.2.1 v.2.2) (0, (std.imax x0.2.1 x1.2.1), ([] : List Int))) fun r4 =>
  .ret (x0.1, r4)

def dots_both_g : Sig := ⟨24, (.cons (.val true tSeen) (.cons (.val true tSeen) .nil)), .vals (.val true tSeen), fun z => dots_both_T z.1 z.2.1, (dfl tSeen : Seen)⟩

theorem dots_both_ok : dots_both_g.ok Try.prog := by
  refine Sig.lift mix tabOk nms _ Try.func24 (c := (bodyOf Try.f24)) (by kernel_rfl) (o := orM [slices_Concat_int_g] [slices_Sort_int_g, slices_Compact_int_g] [dots_both_L5] noFz) (orM_sound ⟨slices_Concat_int_ok, trivial⟩ ⟨slices_Sort_int_ok, ⟨slices_Compact_int_ok, trivial⟩⟩) (allLp_ofM [nthC (loopsOf (bodyOf Try.f24)) 0] (by kernel_rfl) ⟨dots_both_L5_ok, trivial⟩ (by kernel_rfl)) ?_
  intro z; kernel_rfl

def dots_Join_L5_step (a : List Seen) (b : List Seen) (t : Int) (rows : List Seen) (t2 : Int) (nodes : List Str) : Tree ((Int × (List Str)) ⊕ (List Str)) :=
  .ite (decide (t2 < t)) (
    ask (inb t2 rows.length) <|
    ask (decide ((nodes ++ [(rows.getD t2.toNat (dfl tSeen : Seen)).1]).length * 16 ≤ roomNat)) <|
    .ret (.inl ((w64 (t2 + 1)), (nodes ++ [(rows.getD t2.toNat (dfl tSeen : Seen)).1])))) (
    .ret (.inr nodes))

def dots_Join_L5 : Lp := ⟨5, [.own 6 9 .str], [], (.cons (.val false (.list tSeen)) (.cons (.val false (.list tSeen)) (ca4 (.cons (.own 1) (ca16 (.cons (.own 0) (.cons (.val false (.int .i64)) (.cons (.val false (.int .i64)) (ca (ca32 .nil)))))))))), (.rows 40 tSeen (.rows 9 .str .nil)), 0, .one 1 [] (.cons (.val false (.list tSeen)) (.cons (.val false (.list tSeen)) (ca4 (.cons (.own 1) (ca4 (ca16 (ca32 .nil))))))) (.dead (.rows 9 .str .nil)), fun z => .bnd (.loop (fun v => dots_Join_L5_step z.1.1 z.1.2.1 z.1.2.2.2.2.2.2.2.2.2.2.2.2.2.2.2.2.2.2.2.2.2.2.2.2.1 z.2.1 v.1 v.2) (z.1.2.2.2.2.2.2.2.2.2.2.2.2.2.2.2.2.2.2.2.2.2.2.2.2.2.1, z.2.2.1)) fun r => .ret ((z.1.1, (z.1.2.1, (cu4 ((), (cu4 (cu16 (cu32 ()))))))), (r, ()))⟩

theorem dots_Join_L5_ok : dots_Join_L5.ok Try.prog (nthC (loopsOf (bodyOf Try.f8)) 0) := by
  refine Lp.lift (π := ((List Seen) × (List Seen) × Int × (List Seen))) (V := (Int × (List Str))) (ρ := List Str) mix tabOk dots_Join_L5 (o := orM [dots_Check_g, slices_Concat_Seen_g, dots_of_g, dots_both_g] [slices_Sort_string_g, slices_Compact_string_g] [] noFz) (orM_sound ⟨dots_Check_ok, ⟨slices_Concat_Seen_ok, ⟨dots_of_ok, ⟨dots_both_ok, trivial⟩⟩⟩⟩ ⟨slices_Sort_string_ok, ⟨slices_Compact_string_ok, trivial⟩⟩) (allLp_ofM [] (by kernel_rfl) trivial rfl) (fun x v => ((x.1, (x.2.1, (cu4 ((), (cu16 ((), (x.2.2.1, (v.1, (cu (cu32 ())))))))))), (x.2.2.2, (v.2, ())))) (fun x r => ((x.1, (x.2.1, (cu4 ((), (cu4 (cu16 (cu32 ()))))))), (r, ()))) (fun x v => dots_Join_L5_step x.1 x.2.1 x.2.2.1 x.2.2.2 v.1 v.2) (fun x r => .ret ((x.1, (x.2.1, (cu4 ((), (cu4 (cu16 (cu32 ()))))))), (r, ()))) (fun z => (z.1.1, z.1.2.1, z.1.2.2.2.2.2.2.2.2.2.2.2.2.2.2.2.2.2.2.2.2.2.2.2.2.1, z.2.1)) (fun z => (z.1.2.2.2.2.2.2.2.2.2.2.2.2.2.2.2.2.2.2.2.2.2.2.2.2.2.1, z.2.2.1)) (fun _ => rfl) (fun _ => rfl) (fun _ _ _ h => h) ?_
  intro x v; kernel_rfl

def dots_Join_L12_step (a : List Seen) (b : List Seen) (t : Int) (rows : List Str) (t2 : Int) (out : List Seen) : Tree ((Int × (List Seen)) ⊕ (List Seen)) :=
  .ite (decide (t2 < t)) (
    ask (inb t2 rows.length) <|
    .bnd (dots_of_T a (rows.getD t2.toNat ([] : Str))) fun y1 =>
    .bnd (dots_of_T b (rows.getD t2.toNat ([] : Str))) fun y2 =>
    .bnd (dots_both_T y1 y2) fun y3 =>
    ask (decide ((out ++ [y3]).length * 48 ≤ roomNat)) <|
    .ret (.inl ((w64 (t2 + 1)), (out ++ [y3])))) (
    .ret (.inr out))

def dots_Join_L12 : Lp := ⟨12, [.own 9 40 tSeen], [], (.cons (.val false (.list tSeen)) (.cons (.val false (.list tSeen)) (ca (ca2 (ca4 (.cons (.own 2) (ca4 (ca8 (ca16 (.cons (.own 1) (.cons (.val false (.int .i64)) (.cons (.val false (.int .i64)) (ca2 (ca16 .nil)))))))))))))), (.dead (.rows 9 .str (.rows 40 tSeen .nil))), 0, .one 3 [] (ca (ca8 (.cons (.own 2) (ca (ca16 (ca32 .nil)))))) (.dead (.dead (.rows 40 tSeen .nil))), fun z => .bnd (.loop (fun v => dots_Join_L12_step z.1.1 z.1.2.1 z.1.2.2.2.2.2.2.2.2.2.2.2.2.2.2.2.2.2.2.2.2.2.2.2.2.2.2.2.2.2.2.2.2.2.2.2.2.2.2.2.1 z.2.1 v.1 v.2) (z.1.2.2.2.2.2.2.2.2.2.2.2.2.2.2.2.2.2.2.2.2.2.2.2.2.2.2.2.2.2.2.2.2.2.2.2.2.2.2.2.2.1, z.2.2.1)) fun r => .ret ((cu (cu8 ((), (cu (cu16 (cu32 ())))))), (r, ()))⟩

theorem dots_Join_L12_ok : dots_Join_L12.ok Try.prog (nthC (loopsOf (bodyOf Try.f8)) 1) := by
  refine Lp.lift (π := ((List Seen) × (List Seen) × Int × (List Str))) (V := (Int × (List Seen))) (ρ := List Seen) mix tabOk dots_Join_L12 (o := orM [dots_Check_g, slices_Concat_Seen_g, dots_of_g, dots_both_g] [slices_Sort_string_g, slices_Compact_string_g] [] noFz) (orM_sound ⟨dots_Check_ok, ⟨slices_Concat_Seen_ok, ⟨dots_of_ok, ⟨dots_both_ok, trivial⟩⟩⟩⟩ ⟨slices_Sort_string_ok, ⟨slices_Compact_string_ok, trivial⟩⟩) (allLp_ofM [] (by kernel_rfl) trivial rfl) (fun x v => ((x.1, (x.2.1, (cu (cu2 (cu4 ((), (cu4 (cu8 (cu16 ((), (x.2.2.1, (v.1, (cu2 (cu16 ())))))))))))))), (x.2.2.2, (v.2, ())))) (fun x r => ((cu (cu8 ((), (cu (cu16 (cu32 ())))))), (r, ()))) (fun x v => dots_Join_L12_step x.1 x.2.1 x.2.2.1 x.2.2.2 v.1 v.2) (fun x r => .ret ((cu (cu8 ((), (cu (cu16 (cu32 ())))))), (r, ()))) (fun z => (z.1.1, z.1.2.1, z.1.2.2.2.2.2.2.2.2.2.2.2.2.2.2.2.2.2.2.2.2.2.2.2.2.2.2.2.2.2.2.2.2.2.2.2.2.2.2.2.1, z.2.1)) (fun z => (z.1.2.2.2.2.2.2.2.2.2.2.2.2.2.2.2.2.2.2.2.2.2.2.2.2.2.2.2.2.2.2.2.2.2.2.2.2.2.2.2.2.1, z.2.2.1)) (fun _ => rfl) (fun _ => rfl) (fun _ _ _ h => h) ?_
  intro x v; kernel_rfl

def dots_Join_T (x0 : List Seen) (x1 : List Seen) : Tree ((List Seen) × Int × Unit) :=
  .bnd (dots_Check_T x0) fun y1 =>
  .grd (!(!decide (y1 = 0))) (dots_Check_T x1) (0 : Int) fun y2 =>
  .ite ((!decide (y1 = 0)) || (!decide (y2 = 0))) (
    .ret ([], 1, ())) (
    .bnd (slices_Concat_Seen_T [x0, x1]) fun y3 =>
    .bnd (.loop (fun v => dots_Join_L5_step x0 x1 (y3.length : Int) y3 v.1 v.2) (0, ([] : List Str))) fun r4 =>
    .bnd (slices_Sort_string_T r4) fun y5 =>
    .bnd (slices_Compact_string_T y5.2.1) fun y6 =>
    .bnd (.loop (fun v => dots_Join_L12_step x0 x1 (y6.2.1.length : Int) y6.2.1 v.1 v.2) (0, ([] : List Seen))) fun r7 =>
    .bnd (dots_Check_T r7) fun y8 =>
    .ite (!decide (y8 = 0)) (
      .ret ([], 4, ())) (
      .ret (r7, 0, ())))

def dots_Join_g : Sig := ⟨8, (.cons (.val false (.list tSeen)) (.cons (.val false (.list tSeen)) .nil)), .vals (.cons (.val false (.list tSeen)) (.cons (.val false (.int .i64)) .nil)), fun z => dots_Join_T z.1 z.2.1, (([] : List Seen), (0 : Int), ())⟩

theorem dots_Join_ok : dots_Join_g.ok Try.prog := by
  refine Sig.lift mix tabOk nms _ Try.func8 (c := (bodyOf Try.f8)) (by kernel_rfl) (o := orM [dots_Check_g, slices_Concat_Seen_g, dots_of_g, dots_both_g] [slices_Sort_string_g, slices_Compact_string_g] [dots_Join_L5, dots_Join_L12] noFz) (orM_sound ⟨dots_Check_ok, ⟨slices_Concat_Seen_ok, ⟨dots_of_ok, ⟨dots_both_ok, trivial⟩⟩⟩⟩ ⟨slices_Sort_string_ok, ⟨slices_Compact_string_ok, trivial⟩⟩) (allLp_ofM [nthC (loopsOf (bodyOf Try.f8)) 0, nthC (loopsOf (bodyOf Try.f8)) 1] (by kernel_rfl) ⟨dots_Join_L5_ok, ⟨dots_Join_L12_ok, trivial⟩⟩ (by kernel_rfl)) ?_
  intro z; kernel_rfl

def dots_Add_T (x0 : List Seen) (x1 : Dot) : Tree ((List Seen) × Int × Unit) :=
  .bnd (name_Is_T x1.1) fun y1 =>
  .ite (((!y1) || (decide (x1.2 < 1))) || (decide ((9007199254740992 : Int) < x1.2))) (
    .ret ([], 1, ())) (
    .ite (decide (x1.2 = 1)) (
      .bnd (dots_Join_T x0 [(x1.1, (1, []))]) fun y2 =>
      .ret (y2.1, y2.2.1, ())) (
      .bnd (dots_Join_T x0 [(x1.1, (0, [x1.2]))]) fun y3 =>
      .ret (y3.1, y3.2.1, ())))

def dots_Add_g : Sig := ⟨10, (.cons (.val false (.list tSeen)) (.cons (.val true tDot) .nil)), .vals (.cons (.val false (.list tSeen)) (.cons (.val false (.int .i64)) .nil)), fun z => dots_Add_T z.1 z.2.1, (([] : List Seen), (0 : Int), ())⟩

theorem dots_Add_ok : dots_Add_g.ok Try.prog := by
  refine Sig.lift mix tabOk nms _ Try.func10 (c := (bodyOf Try.f10)) (by kernel_rfl) (o := orT [name_Is_g, dots_Join_g] [] noFz) (orT_sound ⟨name_Is_ok, ⟨dots_Join_ok, trivial⟩⟩) (allLp_of [] (by kernel_rfl) trivial rfl) ?_
  intro z; kernel_rfl

def r06_SameInts_L4_step (a : List Int) (b : List Int) (i : Int) : Tree (Int ⊕ (Bool ⊕ Unit)) :=
  .ite ((decide (i < (a.length : Int))) && (decide (i < (b.length : Int)))) (
    ask (inb i a.length) <|
    ask (inb i b.length) <|
    .ite (!decide ((a.getD i.toNat (0 : Int)) = (b.getD i.toNat (0 : Int)))) (
      .ret (.inr (.inl false))) (
      .ret (.inl (w64 (i + 1))))) (
    .ret (.inr (.inr ())))

def r06_SameInts_L4 : Lp := ⟨4, [], [], (.cons (.val false (.list (.int .i64))) (.cons (.val false (.list (.int .i64))) (ca (ca2 (.cons (.val false (.int .i64)) (ca2 (ca8 (ca16 .nil)))))))), .nil, 0, .more 0 [] (ca4 (.cons (.val false .bool) (ca (ca2 (ca8 (ca16 .nil)))))) .nil (.one 1 [] (ca32 .nil) .nil), fun z => .bnd (.loop (fun v => r06_SameInts_L4_step z.1.1 z.1.2.1 v) z.1.2.2.2.2.2.1) fun r => .sum r (fun a0 => .ret (.inl ((cu4 (a0, (cu (cu2 (cu8 (cu16 ())))))), ()))) (fun b0 => .ret (.inr ((cu32 ()), ())))⟩

theorem r06_SameInts_L4_ok : r06_SameInts_L4.ok Try.prog (nthC (loopsOf (bodyOf Try.f30)) 0) := by
  refine Lp.lift (π := ((List Int) × (List Int))) (V := Int) (ρ := (Bool ⊕ Unit)) mix tabOk r06_SameInts_L4 (o := orT [] [] noFz) (orT_sound trivial) (allLp_of [] (by kernel_rfl) trivial rfl) (fun x v => ((x.1, (x.2, (cu (cu2 (v, (cu2 (cu8 (cu16 ())))))))), ())) (fun x r => match r with | .inl a0 => .inl ((cu4 (a0, (cu (cu2 (cu8 (cu16 ())))))), ()) | .inr b0 => (.inr ((cu32 ()), ()))) (fun x v => r06_SameInts_L4_step x.1 x.2 v) (fun x r => .sum r (fun a0 => .ret (.inl ((cu4 (a0, (cu (cu2 (cu8 (cu16 ())))))), ()))) (fun b0 => .ret (.inr ((cu32 ()), ())))) (fun z => (z.1.1, z.1.2.1)) (fun z => z.1.2.2.2.2.2.1) (fun _ => rfl) (fun _ => rfl) (fun x r Q h => match r, h with | .inl _, h => h | .inr b0, h => (h)) ?_
  intro x v; kernel_rfl

def r06_SameInts_T (x0 : List Int) (x1 : List Int) : Tree Bool :=
  .ite (!decide ((x0.length : Int) = (x1.length : Int))) (
    .ret false) (
    .bnd (.loop (fun v => r06_SameInts_L4_step x0 x1 v) 0) fun r1 =>
    .sum r1 (fun r2 =>
      .ret r2) (fun r3 =>
      .ret true))

def r06_SameInts_g : Sig := ⟨30, (.cons (.val false (.list (.int .i64))) (.cons (.val false (.list (.int .i64))) .nil)), .vals (.val false .bool), fun z => r06_SameInts_T z.1 z.2.1, false⟩

theorem r06_SameInts_ok : r06_SameInts_g.ok Try.prog := by
  refine Sig.lift mix tabOk nms _ Try.func30 (c := (bodyOf Try.f30)) (by kernel_rfl) (o := orT [] [r06_SameInts_L4] noFz) (orT_sound trivial) (allLp_of [nthC (loopsOf (bodyOf Try.f30)) 0] (by kernel_rfl) ⟨r06_SameInts_L4_ok, trivial⟩ (by kernel_rfl)) ?_
  intro z; kernel_rfl

def r06_Same_L4_step (a : List Seen) (b : List Seen) (i : Int) : Tree (Int ⊕ (Bool ⊕ Unit)) :=
  .ite ((decide (i < (a.length : Int))) && (decide (i < (b.length : Int)))) (
    ask (inb i a.length) <|
    ask (inb i b.length) <|
    ask ((!(!(!((a.getD i.toNat (dfl tSeen : Seen)).1 == (b.getD i.toNat (dfl tSeen : Seen)).1)))) || inb i a.length) <|
    ask ((!(!(!((a.getD i.toNat (dfl tSeen : Seen)).1 == (b.getD i.toNat (dfl tSeen : Seen)).1)))) || inb i b.length) <|
    ask ((!(!((!((a.getD i.toNat (dfl tSeen : Seen)).1 == (b.getD i.toNat (dfl tSeen : Seen)).1)) || (!decide ((a.getD i.toNat (dfl tSeen : Seen)).2.1 = (b.getD i.toNat (dfl tSeen : Seen)).2.1))))) || inb i a.length) <|
    ask ((!(!((!((a.getD i.toNat (dfl tSeen : Seen)).1 == (b.getD i.toNat (dfl tSeen : Seen)).1)) || (!decide ((a.getD i.toNat (dfl tSeen : Seen)).2.1 = (b.getD i.toNat (dfl tSeen : Seen)).2.1))))) || inb i b.length) <|
    .grd (!((!((a.getD i.toNat (dfl tSeen : Seen)).1 == (b.getD i.toNat (dfl tSeen : Seen)).1)) || (!decide ((a.getD i.toNat (dfl tSeen : Seen)).2.1 = (b.getD i.toNat (dfl tSeen : Seen)).2.1)))) (r06_SameInts_T (a.getD i.toNat (dfl tSeen : Seen)).2.2 (b.getD i.toNat (dfl tSeen : Seen)).2.2) false fun y1 =>
    .ite (((!((a.getD i.toNat (dfl tSeen : Seen)).1 == (b.getD i.toNat (dfl tSeen : Seen)).1)) || (!decide ((a.getD i.toNat (dfl tSeen : Seen)).2.1 = (b.getD i.toNat (dfl tSeen : Seen)).2.1))) || (!y1)) (
      .ret (.inr (.inl false))) (
      .ret (.inl (w64 (i + 1))))) (
    .ret (.inr (.inr ())))

def r06_Same_L4 : Lp := ⟨4, [], [], (.cons (.val false (.list tSeen)) (.cons (.val false (.list tSeen)) (ca (ca2 (.cons (.val false (.int .i64)) (ca (ca2 (ca4 (ca16 (ca32 .nil)))))))))), .nil, 0, .more 0 [] (ca4 (.cons (.val false .bool) (ca8 (ca16 (ca32 .nil))))) .nil (.one 1 [] (ca (ca4 (ca8 (ca16 (ca32 .nil))))) .nil), fun z => .bnd (.loop (fun v => r06_Same_L4_step z.1.1 z.1.2.1 v) z.1.2.2.2.2.2.1) fun r => .sum r (fun a0 => .ret (.inl ((cu4 (a0, (cu8 (cu16 (cu32 ()))))), ()))) (fun b0 => .ret (.inr ((cu (cu4 (cu8 (cu16 (cu32 ()))))), ())))⟩

theorem r06_Same_L4_ok : r06_Same_L4.ok Try.prog (nthC (loopsOf (bodyOf Try.f12)) 0) := by
  refine Lp.lift (π := ((List Seen) × (List Seen))) (V := Int) (ρ := (Bool ⊕ Unit)) mix tabOk r06_Same_L4 (o := orT [r06_SameInts_g] [] noFz) (orT_sound ⟨r06_SameInts_ok, trivial⟩) (allLp_of [] (by kernel_rfl) trivial rfl) (fun x v => ((x.1, (x.2, (cu (cu2 (v, (cu (cu2 (cu4 (cu16 (cu32 ())))))))))), ())) (fun x r => match r with | .inl a0 => .inl ((cu4 (a0, (cu8 (cu16 (cu32 ()))))), ()) | .inr b0 => (.inr ((cu (cu4 (cu8 (cu16 (cu32 ()))))), ()))) (fun x v => r06_Same_L4_step x.1 x.2 v) (fun x r => .sum r (fun a0 => .ret (.inl ((cu4 (a0, (cu8 (cu16 (cu32 ()))))), ()))) (fun b0 => .ret (.inr ((cu (cu4 (cu8 (cu16 (cu32 ()))))), ())))) (fun z => (z.1.1, z.1.2.1)) (fun z => z.1.2.2.2.2.2.1) (fun _ => rfl) (fun _ => rfl) (fun x r Q h => match r, h with | .inl _, h => h | .inr b0, h => (h)) ?_
  intro x v; kernel_rfl

def r06_Same_T (x0 : List Seen) (x1 : List Seen) : Tree Bool :=
  .ite (!decide ((x0.length : Int) = (x1.length : Int))) (
    .ret false) (
    .bnd (.loop (fun v => r06_Same_L4_step x0 x1 v) 0) fun r1 =>
    .sum r1 (fun r2 =>
      .ret r2) (fun r3 =>
      .ret true))

def r06_Same_g : Sig := ⟨12, (.cons (.val false (.list tSeen)) (.cons (.val false (.list tSeen)) .nil)), .vals (.val false .bool), fun z => r06_Same_T z.1 z.2.1, false⟩

theorem r06_Same_ok : r06_Same_g.ok Try.prog := by
  refine Sig.lift mix tabOk nms _ Try.func12 (c := (bodyOf Try.f12)) (by kernel_rfl) (o := orT [r06_SameInts_g] [r06_Same_L4] noFz) (orT_sound ⟨r06_SameInts_ok, trivial⟩) (allLp_of [nthC (loopsOf (bodyOf Try.f12)) 0] (by kernel_rfl) ⟨r06_Same_L4_ok, trivial⟩ (by kernel_rfl)) ?_
  intro z; kernel_rfl

def slices_Index_int_L2_step (s_ : List Int) (v : Int) (t : Int) (t2 : Int) : Tree (Int ⊕ (Int ⊕ Unit)) :=
  .ite (decide (t2 < t)) (
    ask (inb t2 s_.length) <|
    .ite (decide (v = (s_.getD t2.toNat (0 : Int)))) (
      .ret (.inr (.inl t2))) (
      .ret (.inl (w64 (t2 + 1))))) (
    .ret (.inr (.inr ())))

def slices_Index_int_L2 : Lp := ⟨2, [], [], (.cons (.val false (.list (.int .i64))) (.cons (.val false (.int .i64)) (ca (ca4 (.cons (.val false (.int .i64)) (.cons (.val false (.int .i64)) (ca2 (ca8 .nil)))))))), .nil, 0, .more 0 [] (ca4 (.cons (.val false (.int .i64)) (ca2 (ca4 (ca8 .nil))))) .nil (.one 1 [] (ca (ca2 (ca16 .nil))) .nil), fun z => .bnd (.loop (fun v => slices_Index_int_L2_step z.1.1 z.1.2.1 z.1.2.2.2.2.2.2.2.1 v) z.1.2.2.2.2.2.2.2.2.1) fun r => .sum r (fun a0 => .ret (.inl ((cu4 (a0, (cu2 (cu4 (cu8 ()))))), ()))) (fun b0 => .ret (.inr ((cu (cu2 (cu16 ()))), ())))⟩

theorem slices_Index_int_L2_ok : slices_Index_int_L2.ok Try.prog (nthC (loopsOf (bodyOf Try.f53)) 0) := by
  refine Lp.lift (π := ((List Int) × Int × Int)) (V := Int) (ρ := (Int ⊕ Unit)) mix tabOk slices_Index_int_L2 (o := orT [] [] noFz) (orT_sound trivial) (allLp_of [] (by kernel_rfl) trivial rfl) (fun x v => ((x.1, (x.2.1, (cu (cu4 (x.2.2, (v, (cu2 (cu8 ())))))))), ())) (fun x r => match r with | .inl a0 => .inl ((cu4 (a0, (cu2 (cu4 (cu8 ()))))), ()) | .inr b0 => (.inr ((cu (cu2 (cu16 ()))), ()))) (fun x v => slices_Index_int_L2_step x.1 x.2.1 x.2.2 v) (fun x r => .sum r (fun a0 => .ret (.inl ((cu4 (a0, (cu2 (cu4 (cu8 ()))))), ()))) (fun b0 => .ret (.inr ((cu (cu2 (cu16 ()))), ())))) (fun z => (z.1.1, z.1.2.1, z.1.2.2.2.2.2.2.2.1)) (fun z => z.1.2.2.2.2.2.2.2.2.1) (fun _ => rfl) (fun _ => rfl) (fun x r Q h => match r, h with | .inl _, h => h | .inr b0, h => (h)) ?_
  intro x v; kernel_rfl

def slices_Index_int_T (x0 : List Int) (x1 : Int) : Tree Int :=
  .bnd (.loop (fun v => slices_Index_int_L2_step x0 x1 (x0.length : Int) v) 0) fun r1 =>
  .sum r1 (fun r2 =>
    .ret r2) (fun r3 =>
    .ret (-1))

def slices_Index_int_g : Sig := ⟨53, (.cons (.val false (.list (.int .i64))) (.cons (.val false (.int .i64)) .nil)), .vals (.val false (.int .i64)), fun z => slices_Index_int_T z.1 z.2.1, (0 : Int)⟩

theorem slices_Index_int_ok : slices_Index_int_g.ok Try.prog := by
  refine Sig.lift mix tabOk nms _ Try.func53 (c := (bodyOf Try.f53)) (by kernel_rfl) (o := orT [] [slices_Index_int_L2] noFz) (orT_sound trivial) (allLp_of [nthC (loopsOf (bodyOf Try.f53)) 0] (by kernel_rfl) ⟨slices_Index_int_L2_ok, trivial⟩ (by kernel_rfl)) ?_
  intro z; kernel_rfl

def slices_Contains_int_T (x0 : List Int) (x1 : Int) : Tree Bool :=
  .bnd (slices_Index_int_T x0 x1) fun y1 =>
  .ret (decide ((0 : Int) ≤ y1))

def slices_Contains_int_g : Sig := ⟨32, (.cons (.val false (.list (.int .i64))) (.cons (.val false (.int .i64)) .nil)), .vals (.val false .bool), fun z => slices_Contains_int_T z.1 z.2.1, false⟩

theorem slices_Contains_int_ok : slices_Contains_int_g.ok Try.prog := by
  refine Sig.lift mix tabOk nms _ Try.func32 (c := (bodyOf Try.f32)) (by kernel_rfl) (o := orT [slices_Index_int_g] [] noFz) (orT_sound ⟨slices_Index_int_ok, trivial⟩) (allLp_of [] (by kernel_rfl) trivial rfl) ?_
  intro z; kernel_rfl

def dots_Covers_1_T (x0 : Int) (x1 : Seen) : Tree Bool :=
  .grd (!(decide (x0 ≤ x1.2.1))) (slices_Contains_int_T x1.2.2 x0) false fun y1 =>
  .ret ((decide (x0 ≤ x1.2.1)) || y1)

def dots_Covers_1_g : Sig := ⟨31, (.cons (.val false (.int .i64)) (.cons (.ptr tSeen) .nil)), .vals (.val false .bool), fun z => dots_Covers_1_T z.1 z.2.1, false⟩

theorem dots_Covers_1_ok : dots_Covers_1_g.ok Try.prog := by
  refine Sig.lift mix tabOk nms _ Try.func31 (c := (bodyOf Try.f31)) (by kernel_rfl) (o := orT [slices_Contains_int_g] [] noFz) (orT_sound ⟨slices_Contains_int_ok, trivial⟩) (allLp_of [] (by kernel_rfl) trivial rfl) ?_
  intro z; kernel_rfl

def dots_Covers_2_T (x0 : Int) (x1 : Seen) : Tree Bool :=
  .bnd (dots_Covers_1_T x0 x1) fun y1 =>
  .ret (!y1)

def dots_Covers_2_g : Sig := ⟨34, (.cons (.val false (.int .i64)) (.cons (.cp (.cons (.fn 31 .nil (.cons (.ptr tSeen) .nil)) .nil)) .nil)), .vals (.val false .bool), fun z => dots_Covers_2_T z.1 z.2.1.1.2.1, false⟩

theorem dots_Covers_2_ok : dots_Covers_2_g.ok Try.prog := by
  refine Sig.lift mix tabOk nms _ Try.func34 (c := (bodyOf Try.f34)) (by kernel_rfl) (o := orT [dots_Covers_1_g] [] noFz) (orT_sound ⟨dots_Covers_1_ok, trivial⟩) (allLp_of [] (by kernel_rfl) trivial rfl) ?_
  intro z; kernel_rfl

def slices_IndexFunc_int_dots_Covers_2_L2_step (s_ : List Int) (f : Seen) (t : Int) (t2 : Int) : Tree (Int ⊕ (Int ⊕ Unit)) :=
  .ite (decide (t2 < t)) (
    ask (inb t2 s_.length) <|
    .bnd (dots_Covers_2_T (s_.getD t2.toNat (0 : Int)) f) fun y1 =>
    .ite y1 (
      .ret (.inr (.inl t2))) (
      .ret (.inl (w64 (t2 + 1))))) (
    .ret (.inr (.inr ())))

def slices_IndexFunc_int_dots_Covers_2_L2 : Lp := ⟨2, [], [], (.cons (.val false (.list (.int .i64))) (.cons (.fn 34 .nil (.cons (.cp (.cons (.fn 31 .nil (.cons (.ptr tSeen) .nil)) .nil)) .nil)) (ca (ca4 (.cons (.val false (.int .i64)) (.cons (.val false (.int .i64)) (ca2 (ca8 .nil)))))))), .nil, 0, .more 0 [] (ca4 (.cons (.val false (.int .i64)) (ca2 (ca4 (ca8 .nil))))) .nil (.one 1 [] (ca (ca2 (ca16 .nil))) .nil), fun z => .bnd (.loop (fun v => slices_IndexFunc_int_dots_Covers_2_L2_step z.1.1 z.1.2.1.2.1.1.2.1 z.1.2.2.2.2.2.2.2.1 v) z.1.2.2.2.2.2.2.2.2.1) fun r => .sum r (fun a0 => .ret (.inl ((cu4 (a0, (cu2 (cu4 (cu8 ()))))), ()))) (fun b0 => .ret (.inr ((cu (cu2 (cu16 ()))), ())))⟩

theorem slices_IndexFunc_int_dots_Covers_2_L2_ok : slices_IndexFunc_int_dots_Covers_2_L2.ok Try.prog (nthC (loopsOf (bodyOf Try.f54)) 0) := by
  refine Lp.lift (π := ((List Int) × Seen × Int)) (V := Int) (ρ := (Int ⊕ Unit)) mix tabOk slices_IndexFunc_int_dots_Covers_2_L2 (o := orT [dots_Covers_2_g] [] noFz) (orT_sound ⟨dots_Covers_2_ok, trivial⟩) (allLp_of [] (by kernel_rfl) trivial rfl) (fun x v => ((x.1, (((), ((((), (x.2.1, ())), ()), ())), (cu (cu4 (x.2.2, (v, (cu2 (cu8 ())))))))), ())) (fun x r => match r with | .inl a0 => .inl ((cu4 (a0, (cu2 (cu4 (cu8 ()))))), ()) | .inr b0 => (.inr ((cu (cu2 (cu16 ()))), ()))) (fun x v => slices_IndexFunc_int_dots_Covers_2_L2_step x.1 x.2.1 x.2.2 v) (fun x r => .sum r (fun a0 => .ret (.inl ((cu4 (a0, (cu2 (cu4 (cu8 ()))))), ()))) (fun b0 => .ret (.inr ((cu (cu2 (cu16 ()))), ())))) (fun z => (z.1.1, z.1.2.1.2.1.1.2.1, z.1.2.2.2.2.2.2.2.1)) (fun z => z.1.2.2.2.2.2.2.2.2.1) (fun _ => rfl) (fun _ => rfl) (fun x r Q h => match r, h with | .inl _, h => h | .inr b0, h => (h)) ?_
  intro x v; kernel_rfl

def slices_IndexFunc_int_dots_Covers_2_T (x0 : List Int) (x1 : Seen) : Tree Int :=
  .bnd (.loop (fun v => slices_IndexFunc_int_dots_Covers_2_L2_step x0 x1 (x0.length : Int) v) 0) fun r1 =>
  .sum r1 (fun r2 =>
    .ret r2) (fun r3 =>
    .ret (-1))

def slices_IndexFunc_int_dots_Covers_2_g : Sig := ⟨54, (.cons (.val false (.list (.int .i64))) (.cons (.fn 34 .nil (.cons (.cp (.cons (.fn 31 .nil (.cons (.ptr tSeen) .nil)) .nil)) .nil)) .nil)), .vals (.val false (.int .i64)), fun z => slices_IndexFunc_int_dots_Covers_2_T z.1 z.2.1.2.1.1.2.1, (0 : Int)⟩

theorem slices_IndexFunc_int_dots_Covers_2_ok : slices_IndexFunc_int_dots_Covers_2_g.ok Try.prog := by
  refine Sig.lift mix tabOk nms _ Try.func54 (c := (bodyOf Try.f54)) (by kernel_rfl) (o := orT [dots_Covers_2_g] [slices_IndexFunc_int_dots_Covers_2_L2] noFz) (orT_sound ⟨dots_Covers_2_ok, trivial⟩) (allLp_of [nthC (loopsOf (bodyOf Try.f54)) 0] (by kernel_rfl) ⟨slices_IndexFunc_int_dots_Covers_2_L2_ok, trivial⟩ (by kernel_rfl)) ?_
  intro z; kernel_rfl

def slices_ContainsFunc_int_dots_Covers_2_T (x0 : List Int) (x1 : Seen) : Tree Bool :=
  .bnd (slices_IndexFunc_int_dots_Covers_2_T x0 x1) fun y1 =>
  .ret (decide ((0 : Int) ≤ y1))

def slices_ContainsFunc_int_dots_Covers_2_g : Sig := ⟨33, (.cons (.val false (.list (.int .i64))) (.cons (.fn 34 .nil (.cons (.cp (.cons (.fn 31 .nil (.cons (.ptr tSeen) .nil)) .nil)) .nil)) .nil)), .vals (.val false .bool), fun z => slices_ContainsFunc_int_dots_Covers_2_T z.1 z.2.1.2.1.1.2.1, false⟩

theorem slices_ContainsFunc_int_dots_Covers_2_ok : slices_ContainsFunc_int_dots_Covers_2_g.ok Try.prog := by
  refine Sig.lift mix tabOk nms _ Try.func33 (c := (bodyOf Try.f33)) (by kernel_rfl) (o := orT [slices_IndexFunc_int_dots_Covers_2_g] [] noFz) (orT_sound ⟨slices_IndexFunc_int_dots_Covers_2_ok, trivial⟩) (allLp_of [] (by kernel_rfl) trivial rfl) ?_
  intro z; kernel_rfl

def dots_Covers_L4_step (a : List Seen) (t : List Seen) (t2 : Int) (t3 : Int) : Tree (Int ⊕ (Bool ⊕ Unit)) :=
  .ite (decide (t3 < t2)) (
    ask (inb t3 t.length) <|
    .bnd (dots_of_T a (t.getD t3.toNat (dfl tSeen : Seen)).1) fun y1 =>
    .grd (!(decide (y1.2.1 < (t.getD t3.toNat (dfl tSeen : Seen)).2.1))) (slices_ContainsFunc_int_dots_Covers_2_T (t.getD t3.toNat (dfl tSeen : Seen)).2.2 y1) false fun y2 =>
    .ite ((decide (y1.2.1 < (t.getD t3.toNat (dfl tSeen : Seen)).2.1)) || y2) (
      .ret (.inr (.inl false))) (
      .ret (.inl (w64 (t3 + 1))))) (
    .ret (.inr (.inr ())))

def dots_Covers_L4 : Lp := ⟨4, [], [], (.cons (.val false (.list tSeen)) (ca16 (.cons (.val false (.list tSeen)) (.cons (.val false (.int .i64)) (.cons (.val false (.int .i64)) (ca4 (ca16 .nil))))))), .nil, 0, .more 0 [] (ca4 (.cons (.val false .bool) (ca (ca2 (ca32 .nil))))) .nil (.one 1 [] (ca8 (ca32 .nil)) .nil), fun z => .bnd (.loop (fun v => dots_Covers_L4_step z.1.1 z.1.2.2.2.2.2.2.2.2.2.2.2.2.2.2.2.2.2.1 z.1.2.2.2.2.2.2.2.2.2.2.2.2.2.2.2.2.2.2.1 v) z.1.2.2.2.2.2.2.2.2.2.2.2.2.2.2.2.2.2.2.2.1) fun r => .sum r (fun a0 => .ret (.inl ((cu4 (a0, (cu (cu2 (cu32 ()))))), ()))) (fun b0 => .ret (.inr ((cu8 (cu32 ())), ())))⟩

theorem dots_Covers_L4_ok : dots_Covers_L4.ok Try.prog (nthC (loopsOf (bodyOf Try.f13)) 0) := by
  refine Lp.lift (π := ((List Seen) × (List Seen) × Int)) (V := Int) (ρ := (Bool ⊕ Unit)) mix tabOk dots_Covers_L4 (o := orT [dots_Check_g, dots_of_g, slices_ContainsFunc_int_dots_Covers_2_g] [] noFz) (orT_sound ⟨dots_Check_ok, ⟨dots_of_ok, ⟨slices_ContainsFunc_int_dots_Covers_2_ok, trivial⟩⟩⟩) (allLp_of [] (by kernel_rfl) trivial rfl) (fun x v => ((x.1, (cu16 (x.2.1, (x.2.2, (v, (cu4 (cu16 ()))))))), ())) (fun x r => match r with | .inl a0 => .inl ((cu4 (a0, (cu (cu2 (cu32 ()))))), ()) | .inr b0 => (.inr ((cu8 (cu32 ())), ()))) (fun x v => dots_Covers_L4_step x.1 x.2.1 x.2.2 v) (fun x r => .sum r (fun a0 => .ret (.inl ((cu4 (a0, (cu (cu2 (cu32 ()))))), ()))) (fun b0 => .ret (.inr ((cu8 (cu32 ())), ())))) (fun z => (z.1.1, z.1.2.2.2.2.2.2.2.2.2.2.2.2.2.2.2.2.2.1, z.1.2.2.2.2.2.2.2.2.2.2.2.2.2.2.2.2.2.2.1)) (fun z => z.1.2.2.2.2.2.2.2.2.2.2.2.2.2.2.2.2.2.2.2.1) (fun _ => rfl) (fun _ => rfl) (fun x r Q h => match r, h with | .inl _, h => h | .inr b0, h => (h)) ?_
  intro x v; kernel_rfl

def dots_Covers_T (x0 : List Seen) (x1 : List Seen) : Tree Bool :=
  .bnd (dots_Check_T x0) fun y1 =>
  .grd (!(!decide (y1 = 0))) (dots_Check_T x1) (0 : Int) fun y2 =>
  .ite ((!decide (y1 = 0)) || (!decide (y2 = 0))) (
    .ret false) (
    .bnd (.loop (fun v => dots_Covers_L4_step x0 x1 (x1.length : Int) v) 0) fun r3 =>
    .sum r3 (fun r4 =>
      .ret r4) (fun r5 =>
      .ret true))

def dots_Covers_g : Sig := ⟨13, (.cons (.val false (.list tSeen)) (.cons (.val false (.list tSeen)) .nil)), .vals (.val false .bool), fun z => dots_Covers_T z.1 z.2.1, false⟩

theorem dots_Covers_ok : dots_Covers_g.ok Try.prog := by
  refine Sig.lift mix tabOk nms _ Try.func13 (c := (bodyOf Try.f13)) (by kernel_rfl) (o := orT [dots_Check_g, dots_of_g, slices_ContainsFunc_int_dots_Covers_2_g] [dots_Covers_L4] noFz) (orT_sound ⟨dots_Check_ok, ⟨dots_of_ok, ⟨slices_ContainsFunc_int_dots_Covers_2_ok, trivial⟩⟩⟩) (allLp_of [nthC (loopsOf (bodyOf Try.f13)) 0] (by kernel_rfl) ⟨dots_Covers_L4_ok, trivial⟩ (by kernel_rfl)) ?_
  intro z; kernel_rfl

def dots_Has_1_T (x0 : Seen) (x1 : Dot) : Tree Bool :=
  .grd ((x0.1 == x1.1) && (!((decide ((0 : Int) < x1.2)) && (decide (x1.2 ≤ x0.2.1))))) (slices_Contains_int_T x0.2.2 x1.2) false fun y1 =>
  .ret ((x0.1 == x1.1) && (((decide ((0 : Int) < x1.2)) && (decide (x1.2 ≤ x0.2.1))) || y1))

def dots_Has_1_g : Sig := ⟨38, (.cons (.val true tSeen) (.cons (.ptr tDot) .nil)), .vals (.val false .bool), fun z => dots_Has_1_T z.1 z.2.1, false⟩

theorem dots_Has_1_ok : dots_Has_1_g.ok Try.prog := by
  refine Sig.lift mix tabOk nms _ Try.func38 (c := (bodyOf Try.f38)) (by kernel_rfl) (o := orT [slices_Contains_int_g] [] noFz) (orT_sound ⟨slices_Contains_int_ok, trivial⟩) (allLp_of [] (by kernel_rfl) trivial rfl) ?_
  intro z; kernel_rfl

def slices_IndexFunc_Seen_dots_Has_1_L2_step (s_ : List Seen) (f : Dot) (t : Int) (t2 : Int) : Tree (Int ⊕ (Int ⊕ Unit)) :=
  .ite (decide (t2 < t)) (
    ask (inb t2 s_.length) <|
    .bnd (dots_Has_1_T (s_.getD t2.toNat (dfl tSeen : Seen)) f) fun y1 =>
    .ite y1 (
      .ret (.inr (.inl t2))) (
      .ret (.inl (w64 (t2 + 1))))) (
    .ret (.inr (.inr ())))

def slices_IndexFunc_Seen_dots_Has_1_L2 : Lp := ⟨2, [], [], (.cons (.val false (.list tSeen)) (.cons (.fn 38 .nil (.cons (.ptr tDot) .nil)) (ca (ca4 (.cons (.val false (.int .i64)) (.cons (.val false (.int .i64)) (ca2 (ca8 .nil)))))))), .nil, 0, .more 0 [] (ca4 (.cons (.val false (.int .i64)) (ca2 (ca4 (ca8 .nil))))) .nil (.one 1 [] (ca (ca2 (ca16 .nil))) .nil), fun z => .bnd (.loop (fun v => slices_IndexFunc_Seen_dots_Has_1_L2_step z.1.1 z.1.2.1.2.1 z.1.2.2.2.2.2.2.2.1 v) z.1.2.2.2.2.2.2.2.2.1) fun r => .sum r (fun a0 => .ret (.inl ((cu4 (a0, (cu2 (cu4 (cu8 ()))))), ()))) (fun b0 => .ret (.inr ((cu (cu2 (cu16 ()))), ())))⟩

theorem slices_IndexFunc_Seen_dots_Has_1_L2_ok : slices_IndexFunc_Seen_dots_Has_1_L2.ok Try.prog (nthC (loopsOf (bodyOf Try.f55)) 0) := by
  refine Lp.lift (π := ((List Seen) × Dot × Int)) (V := Int) (ρ := (Int ⊕ Unit)) mix tabOk slices_IndexFunc_Seen_dots_Has_1_L2 (o := orT [dots_Has_1_g] [] noFz) (orT_sound ⟨dots_Has_1_ok, trivial⟩) (allLp_of [] (by kernel_rfl) trivial rfl) (fun x v => ((x.1, (((), (x.2.1, ())), (cu (cu4 (x.2.2, (v, (cu2 (cu8 ())))))))), ())) (fun x r => match r with | .inl a0 => .inl ((cu4 (a0, (cu2 (cu4 (cu8 ()))))), ()) | .inr b0 => (.inr ((cu (cu2 (cu16 ()))), ()))) (fun x v => slices_IndexFunc_Seen_dots_Has_1_L2_step x.1 x.2.1 x.2.2 v) (fun x r => .sum r (fun a0 => .ret (.inl ((cu4 (a0, (cu2 (cu4 (cu8 ()))))), ()))) (fun b0 => .ret (.inr ((cu (cu2 (cu16 ()))), ())))) (fun z => (z.1.1, z.1.2.1.2.1, z.1.2.2.2.2.2.2.2.1)) (fun z => z.1.2.2.2.2.2.2.2.2.1) (fun _ => rfl) (fun _ => rfl) (fun x r Q h => match r, h with | .inl _, h => h | .inr b0, h => (h)) ?_
  intro x v; kernel_rfl

def slices_IndexFunc_Seen_dots_Has_1_T (x0 : List Seen) (x1 : Dot) : Tree Int :=
  .bnd (.loop (fun v => slices_IndexFunc_Seen_dots_Has_1_L2_step x0 x1 (x0.length : Int) v) 0) fun r1 =>
  .sum r1 (fun r2 =>
    .ret r2) (fun r3 =>
    .ret (-1))

def slices_IndexFunc_Seen_dots_Has_1_g : Sig := ⟨55, (.cons (.val false (.list tSeen)) (.cons (.fn 38 .nil (.cons (.ptr tDot) .nil)) .nil)), .vals (.val false (.int .i64)), fun z => slices_IndexFunc_Seen_dots_Has_1_T z.1 z.2.1.2.1, (0 : Int)⟩

theorem slices_IndexFunc_Seen_dots_Has_1_ok : slices_IndexFunc_Seen_dots_Has_1_g.ok Try.prog := by
  refine Sig.lift mix tabOk nms _ Try.func55 (c := (bodyOf Try.f55)) (by kernel_rfl) (o := orT [dots_Has_1_g] [slices_IndexFunc_Seen_dots_Has_1_L2] noFz) (orT_sound ⟨dots_Has_1_ok, trivial⟩) (allLp_of [nthC (loopsOf (bodyOf Try.f55)) 0] (by kernel_rfl) ⟨slices_IndexFunc_Seen_dots_Has_1_L2_ok, trivial⟩ (by kernel_rfl)) ?_
  intro z; kernel_rfl

def slices_ContainsFunc_Seen_dots_Has_1_T (x0 : List Seen) (x1 : Dot) : Tree Bool :=
  .bnd (slices_IndexFunc_Seen_dots_Has_1_T x0 x1) fun y1 =>
  .ret (decide ((0 : Int) ≤ y1))

def slices_ContainsFunc_Seen_dots_Has_1_g : Sig := ⟨37, (.cons (.val false (.list tSeen)) (.cons (.fn 38 .nil (.cons (.ptr tDot) .nil)) .nil)), .vals (.val false .bool), fun z => slices_ContainsFunc_Seen_dots_Has_1_T z.1 z.2.1.2.1, false⟩

theorem slices_ContainsFunc_Seen_dots_Has_1_ok : slices_ContainsFunc_Seen_dots_Has_1_g.ok Try.prog := by
  refine Sig.lift mix tabOk nms _ Try.func37 (c := (bodyOf Try.f37)) (by kernel_rfl) (o := orT [slices_IndexFunc_Seen_dots_Has_1_g] [] noFz) (orT_sound ⟨slices_IndexFunc_Seen_dots_Has_1_ok, trivial⟩) (allLp_of [] (by kernel_rfl) trivial rfl) ?_
  intro z; kernel_rfl

def dots_Has_T (x0 : List Seen) (x1 : Dot) : Tree Bool :=
  .bnd (slices_ContainsFunc_Seen_dots_Has_1_T x0 x1) fun y1 =>
  .ret y1

def dots_Has_g : Sig := ⟨16, (.cons (.val false (.list tSeen)) (.cons (.val true tDot) .nil)), .vals (.val false .bool), fun z => dots_Has_T z.1 z.2.1, false⟩

theorem dots_Has_ok : dots_Has_g.ok Try.prog := by
  refine Sig.lift mix tabOk nms _ Try.func16 (c := (bodyOf Try.f16)) (by kernel_rfl) (o := orT [slices_ContainsFunc_Seen_dots_Has_1_g] [] noFz) (orT_sound ⟨slices_ContainsFunc_Seen_dots_Has_1_ok, trivial⟩) (allLp_of [] (by kernel_rfl) trivial rfl) ?_
  intro z; kernel_rfl

def slices_Max_int_L5_step (x_ : List Int) (m : Int) (i : Int) : Tree ((Int × Int) ⊕ Int) :=
  .ite (decide (i < (x_.length : Int))) (
    ask (inb i x_.length) <|
    .ret (.inl ((std.imax m (x_.getD i.toNat (0 : Int))), (w64 (i + 1))))) (
    .ret (.inr m))

def slices_Max_int_L5 : Lp := ⟨5, [], [], (.cons (.val false (.list (.int .i64))) (ca2 (.cons (.val false (.int .i64)) (.cons (.val false (.int .i64)) (ca4 (ca16 .nil)))))), .nil, 0, .one 1 [] (ca (ca2 (.cons (.val false (.int .i64)) (ca (ca4 (ca16 .nil)))))) .nil, fun z => .bnd (.loop (fun v => slices_Max_int_L5_step z.1.1 v.1 v.2) (z.1.2.2.2.1, z.1.2.2.2.2.1)) fun r => .ret ((cu (cu2 (r, (cu (cu4 (cu16 ())))))), ())⟩

theorem slices_Max_int_L5_ok : slices_Max_int_L5.ok Try.prog (nthC (loopsOf (bodyOf Try.f40)) 0) := by
  refine Lp.lift (π := List Int) (V := (Int × Int)) (ρ := Int) mix tabOk slices_Max_int_L5 (o := orT [] [] noFz) (orT_sound trivial) (allLp_of [] (by kernel_rfl) trivial rfl) (fun x v => ((x, (cu2 (v.1, (v.2, (cu4 (cu16 ())))))), ())) (fun x r => ((cu (cu2 (r, (cu (cu4 (cu16 ())))))), ())) (fun x v => slices_Max_int_L5_step x v.1 v.2) (fun x r => .ret ((cu (cu2 (r, (cu (cu4 (cu16 ())))))), ())) (fun z => z.1.1) (fun z => (z.1.2.2.2.1, z.1.2.2.2.2.1)) (fun _ => rfl) (fun _ => rfl) (fun _ _ _ h => h) ?_
  intro x v; kernel_rfl

def slices_Max_int_T (x0 : List Int) : Tree Int :=
  .ite (decide ((x0.length : Int) < 1)) (
    .fail) (
    ask (inb 0 x0.length) <|
    .bnd (.loop (fun v => slices_Max_int_L5_step x0 v.1 v.2) ((x0.getD ((0 : Int).toNat) (0 : Int)), 1)) fun r1 =>
    .ret r1)

def slices_Max_int_g : Sig := ⟨40, (.cons (.val false (.list (.int .i64))) .nil), .vals (.val false (.int .i64)), fun z => slices_Max_int_T z.1, (0 : Int)⟩

theorem slices_Max_int_ok : slices_Max_int_g.ok Try.prog := by
  refine Sig.lift mix tabOk nms _ Try.func40 (c := (bodyOf Try.f40)) (by kernel_rfl) (o := orT [] [slices_Max_int_L5] noFz) (orT_sound trivial) (allLp_of [nthC (loopsOf (bodyOf Try.f40)) 0] (by kernel_rfl) ⟨slices_Max_int_L5_ok, trivial⟩ (by kernel_rfl)) ?_
  intro z; kernel_rfl

def dots_Top_fz : Nat → List Pre
  | 6 => [.frz 0]
  | _ => []

def dots_Top_L3_step (node : Str) (t : List Seen) (t2 : Int) (n : Int) (t3 : Int) : Tree ((Int × Int) ⊕ Int) :=
  .ite (decide (t3 < t2)) (
    ask (inb t3 t.length) <|
    .ite ((t.getD t3.toNat (dfl tSeen : Seen)).1 == node) (
      ask (decide (([0] ++ (t.getD t3.toNat (dfl tSeen : Seen)).2.2).length * 8 ≤ roomNat)) <|
      .bnd (slices_Max_int_T ([0] ++ (t.getD t3.toNat (dfl tSeen : Seen)).2.2)) fun y1 =>
      .ret (.inl ((std.imax (std.imax n (t.getD t3.toNat (dfl tSeen : Seen)).2.1) y1), (w64 (t3 + 1))))) (
      .ret (.inl (n, (w64 (t3 + 1)))))) (
    .ret (.inr n))

def dots_Top_L3 : Lp := ⟨3, [], [], (ca (.cons (.val false .str) (ca (ca2 (.cons (.val false (.int .i64)) (ca2 (.cons (.val false (.list tSeen)) (.cons (.val false (.int .i64)) (.cons (.val false (.int .i64)) (ca2 (ca16 .nil))))))))))), .nil, 0, .one 1 [] (ca (ca4 (.cons (.val false (.int .i64)) (ca (ca2 (ca4 (ca16 .nil))))))) .nil, fun z => .bnd (.loop (fun v => dots_Top_L3_step z.1.2.1 z.1.2.2.2.2.2.2.2.2.1 z.1.2.2.2.2.2.2.2.2.2.1 v.1 v.2) (z.1.2.2.2.2.2.1, z.1.2.2.2.2.2.2.2.2.2.2.1)) fun r => .ret ((cu (cu4 (r, (cu (cu2 (cu4 (cu16 ()))))))), ())⟩

theorem dots_Top_L3_ok : dots_Top_L3.ok Try.prog (nthC (loopsOf (bodyOf Try.f19)) 0) := by
  refine Lp.lift (π := (Str × (List Seen) × Int)) (V := (Int × Int)) (ρ := Int) mix tabOk dots_Top_L3 (o := orT [slices_Max_int_g] [] dots_Top_fz) (orT_sound ⟨slices_Max_int_ok, trivial⟩) (allLp_of [] (by kernel_rfl) trivial rfl) (fun x v => ((cu (x.1, (cu (cu2 (v.1, (cu2 (x.2.1, (x.2.2, (v.2, (cu2 (cu16 ()))))))))))), ())) (fun x r => ((cu (cu4 (r, (cu (cu2 (cu4 (cu16 ()))))))), ())) (fun x v => dots_Top_L3_step x.1 x.2.1 x.2.2 v.1 v.2) (fun x r => .ret ((cu (cu4 (r, (cu (cu2 (cu4 (cu16 ()))))))), ())) (fun z => (z.1.2.1, z.1.2.2.2.2.2.2.2.2.1, z.1.2.2.2.2.2.2.2.2.2.1)) (fun z => (z.1.2.2.2.2.2.1, z.1.2.2.2.2.2.2.2.2.2.2.1)) (fun _ => rfl) (fun _ => rfl) (fun _ _ _ h => h) ?_
  intro x v; kernel_rfl

def dots_Top_T (x0 : List Seen) (x1 : Str) : Tree Int :=
  .bnd (.loop (fun v => dots_Top_L3_step x1 x0 (x0.length : Int) v.1 v.2) (0, 0)) fun r1 =>
  .ret r1

def dots_Top_g : Sig := ⟨19, (.cons (.val false (.list tSeen)) (.cons (.val false .str) .nil)), .vals (.val false (.int .i64)), fun z => dots_Top_T z.1 z.2.1, (0 : Int)⟩

theorem dots_Top_ok : dots_Top_g.ok Try.prog := by
  refine Sig.lift mix tabOk nms _ Try.func19 (c := (bodyOf Try.f19)) (by kernel_rfl) (o := orT [slices_Max_int_g] [dots_Top_L3] dots_Top_fz) (orT_sound ⟨slices_Max_int_ok, trivial⟩) (allLp_of [nthC (loopsOf (bodyOf Try.f19)) 0] (by kernel_rfl) ⟨dots_Top_L3_ok, trivial⟩ (by kernel_rfl)) ?_
  intro z; kernel_rfl

def slices_Equal_int_L4_step (s1 : List Int) (s2 : List Int) (t : Int) (t2 : Int) : Tree (Int ⊕ (Bool ⊕ Unit)) :=
  .ite (decide (t2 < t)) (
    ask (inb t2 s1.length) <|
    ask (inb t2 s2.length) <|
    .ite (!decide ((s1.getD t2.toNat (0 : Int)) = (s2.getD t2.toNat (0 : Int)))) (
      .ret (.inr (.inl false))) (
      .ret (.inl (w64 (t2 + 1))))) (
    .ret (.inr (.inr ())))

def slices_Equal_int_L4 : Lp := ⟨4, [], [], (.cons (.val false (.list (.int .i64))) (.cons (.val false (.list (.int .i64))) (ca2 (ca8 (.cons (.val false (.int .i64)) (.cons (.val false (.int .i64)) (ca4 (ca8 .nil)))))))), .nil, 0, .more 0 [] (ca4 (.cons (.val false .bool) (ca (ca4 (ca16 .nil))))) .nil (.one 1 [] (ca2 (ca8 (ca16 .nil))) .nil), fun z => .bnd (.loop (fun v => slices_Equal_int_L4_step z.1.1 z.1.2.1 z.1.2.2.2.2.2.2.2.2.2.2.2.2.1 v) z.1.2.2.2.2.2.2.2.2.2.2.2.2.2.1) fun r => .sum r (fun a0 => .ret (.inl ((cu4 (a0, (cu (cu4 (cu16 ()))))), ()))) (fun b0 => .ret (.inr ((cu2 (cu8 (cu16 ()))), ())))⟩

theorem slices_Equal_int_L4_ok : slices_Equal_int_L4.ok Try.prog (nthC (loopsOf (bodyOf Try.f43)) 0) := by
  refine Lp.lift (π := ((List Int) × (List Int) × Int)) (V := Int) (ρ := (Bool ⊕ Unit)) mix tabOk slices_Equal_int_L4 (o := orT [] [] noFz) (orT_sound trivial) (allLp_of [] (by kernel_rfl) trivial rfl) (fun x v => ((x.1, (x.2.1, (cu2 (cu8 (x.2.2, (v, (cu4 (cu8 ())))))))), ())) (fun x r => match r with | .inl a0 => .inl ((cu4 (a0, (cu (cu4 (cu16 ()))))), ()) | .inr b0 => (.inr ((cu2 (cu8 (cu16 ()))), ()))) (fun x v => slices_Equal_int_L4_step x.1 x.2.1 x.2.2 v) (fun x r => .sum r (fun a0 => .ret (.inl ((cu4 (a0, (cu (cu4 (cu16 ()))))), ()))) (fun b0 => .ret (.inr ((cu2 (cu8 (cu16 ()))), ())))) (fun z => (z.1.1, z.1.2.1, z.1.2.2.2.2.2.2.2.2.2.2.2.2.1)) (fun z => z.1.2.2.2.2.2.2.2.2.2.2.2.2.2.1) (fun _ => rfl) (fun _ => rfl) (fun x r Q h => match r, h with | .inl _, h => h | .inr b0, h => (h)) ?_
  intro x v; kernel_rfl

def slices_Equal_int_T (x0 : List Int) (x1 : List Int) : Tree Bool :=
  .ite (!decide ((x0.length : Int) = (x1.length : Int))) (
    .ret false) (
    .bnd (.loop (fun v => slices_Equal_int_L4_step x0 x1 (x0.length : Int) v) 0) fun r1 =>
    .sum r1 (fun r2 =>
      .ret r2) (fun r3 =>
      .ret true))

def slices_Equal_int_g : Sig := ⟨43, (.cons (.val false (.list (.int .i64))) (.cons (.val false (.list (.int .i64))) .nil)), .vals (.val false .bool), fun z => slices_Equal_int_T z.1 z.2.1, false⟩

theorem slices_Equal_int_ok : slices_Equal_int_g.ok Try.prog := by
  refine Sig.lift mix tabOk nms _ Try.func43 (c := (bodyOf Try.f43)) (by kernel_rfl) (o := orT [] [slices_Equal_int_L4] noFz) (orT_sound trivial) (allLp_of [nthC (loopsOf (bodyOf Try.f43)) 0] (by kernel_rfl) ⟨slices_Equal_int_L4_ok, trivial⟩ (by kernel_rfl)) ?_
  intro z; kernel_rfl

def dots_Same_1_T (x0 : Seen) (x1 : Seen) : Tree Bool :=
  .grd ((x0.1 == x1.1) && (decide (x0.2.1 = x1.2.1))) (slices_Equal_int_T x0.2.2 x1.2.2) false fun y1 =>
  .ret (((x0.1 == x1.1) && (decide (x0.2.1 = x1.2.1))) && y1)

def dots_Same_1_g : Sig := ⟨42, (.cons (.val true tSeen) (.cons (.val true tSeen) .nil)), .vals (.val false .bool), fun z => dots_Same_1_T z.1 z.2.1, false⟩

theorem dots_Same_1_ok : dots_Same_1_g.ok Try.prog := by
  refine Sig.lift mix tabOk nms _ Try.func42 (c := (bodyOf Try.f42)) (by kernel_rfl) (o := orT [slices_Equal_int_g] [] noFz) (orT_sound ⟨slices_Equal_int_ok, trivial⟩) (allLp_of [] (by kernel_rfl) trivial rfl) ?_
  intro z; kernel_rfl

def slices_EqualFunc_Seen_dots_Same_1_L4_step (s2 : List Seen) (t : List Seen) (t2 : Int) (t3 : Int) : Tree (Int ⊕ (Bool ⊕ Unit)) :=
  .ite (decide (t3 < t2)) (
    ask (inb t3 t.length) <|
    ask (inb t3 s2.length) <|
    .bnd (dots_Same_1_T (t.getD t3.toNat (dfl tSeen : Seen)) (s2.getD t3.toNat (dfl tSeen : Seen))) fun y1 =>
    .ite (!y1) (
      .ret (.inr (.inl false))) (
      .ret (.inl (w64 (t3 + 1))))) (
    .ret (.inr (.inr ())))

def slices_EqualFunc_Seen_dots_Same_1_L4 : Lp := ⟨4, [], [], (ca (.cons (.val false (.list tSeen)) (.cons (.fn 42 .nil .nil) (ca4 (ca8 (.cons (.val false (.list tSeen)) (.cons (.val false (.int .i64)) (.cons (.val false (.int .i64)) (ca2 (ca4 (ca8 .nil))))))))))), .nil, 0, .more 0 [] (ca2 (ca4 (.cons (.val false .bool) (ca (ca8 (ca16 .nil)))))) .nil (.one 1 [] (ca32 .nil) .nil), fun z => .bnd (.loop (fun v => slices_EqualFunc_Seen_dots_Same_1_L4_step z.1.2.1 z.1.2.2.2.2.2.2.2.2.2.2.2.2.2.2.2.1 z.1.2.2.2.2.2.2.2.2.2.2.2.2.2.2.2.2.1 v) z.1.2.2.2.2.2.2.2.2.2.2.2.2.2.2.2.2.2.1) fun r => .sum r (fun a0 => .ret (.inl ((cu2 (cu4 (a0, (cu (cu8 (cu16 ())))))), ()))) (fun b0 => .ret (.inr ((cu32 ()), ())))⟩

theorem slices_EqualFunc_Seen_dots_Same_1_L4_ok : slices_EqualFunc_Seen_dots_Same_1_L4.ok Try.prog (nthC (loopsOf (bodyOf Try.f41)) 0) := by
  refine Lp.lift (π := ((List Seen) × (List Seen) × Int)) (V := Int) (ρ := (Bool ⊕ Unit)) mix tabOk slices_EqualFunc_Seen_dots_Same_1_L4 (o := orT [dots_Same_1_g] [] noFz) (orT_sound ⟨dots_Same_1_ok, trivial⟩) (allLp_of [] (by kernel_rfl) trivial rfl) (fun x v => ((cu (x.1, (((), ()), (cu4 (cu8 (x.2.1, (x.2.2, (v, (cu2 (cu4 (cu8 ()))))))))))), ())) (fun x r => match r with | .inl a0 => .inl ((cu2 (cu4 (a0, (cu (cu8 (cu16 ())))))), ()) | .inr b0 => (.inr ((cu32 ()), ()))) (fun x v => slices_EqualFunc_Seen_dots_Same_1_L4_step x.1 x.2.1 x.2.2 v) (fun x r => .sum r (fun a0 => .ret (.inl ((cu2 (cu4 (a0, (cu (cu8 (cu16 ())))))), ()))) (fun b0 => .ret (.inr ((cu32 ()), ())))) (fun z => (z.1.2.1, z.1.2.2.2.2.2.2.2.2.2.2.2.2.2.2.2.1, z.1.2.2.2.2.2.2.2.2.2.2.2.2.2.2.2.2.1)) (fun z => z.1.2.2.2.2.2.2.2.2.2.2.2.2.2.2.2.2.2.1) (fun _ => rfl) (fun _ => rfl) (fun x r Q h => match r, h with | .inl _, h => h | .inr b0, h => (h)) ?_
  intro x v; kernel_rfl

def slices_EqualFunc_Seen_dots_Same_1_T (x0 : List Seen) (x1 : List Seen) : Tree Bool :=
  .ite (!decide ((x0.length : Int) = (x1.length : Int))) (
    .ret false) (
    .bnd (.loop (fun v => slices_EqualFunc_Seen_dots_Same_1_L4_step x1 x0 (x0.length : Int) v) 0) fun r1 =>
    .sum r1 (fun r2 =>
      .ret r2) (fun r3 =>
      .ret true))

def slices_EqualFunc_Seen_dots_Same_1_g : Sig := ⟨41, (.cons (.val false (.list tSeen)) (.cons (.val false (.list tSeen)) (.cons (.fn 42 .nil .nil) .nil))), .vals (.val false .bool), fun z => slices_EqualFunc_Seen_dots_Same_1_T z.1 z.2.1, false⟩

theorem slices_EqualFunc_Seen_dots_Same_1_ok : slices_EqualFunc_Seen_dots_Same_1_g.ok Try.prog := by
  refine Sig.lift mix tabOk nms _ Try.func41 (c := (bodyOf Try.f41)) (by kernel_rfl) (o := orT [dots_Same_1_g] [slices_EqualFunc_Seen_dots_Same_1_L4] noFz) (orT_sound ⟨dots_Same_1_ok, trivial⟩) (allLp_of [nthC (loopsOf (bodyOf Try.f41)) 0] (by kernel_rfl) ⟨slices_EqualFunc_Seen_dots_Same_1_L4_ok, trivial⟩ (by kernel_rfl)) ?_
  intro z; kernel_rfl

def dots_Same_T (x0 : List Seen) (x1 : List Seen) : Tree Bool :=
  .bnd (slices_EqualFunc_Seen_dots_Same_1_T x0 x1) fun y1 =>
  .ret y1

def dots_Same_g : Sig := ⟨20, (.cons (.val false (.list tSeen)) (.cons (.val false (.list tSeen)) .nil)), .vals (.val false .bool), fun z => dots_Same_T z.1 z.2.1, false⟩

theorem dots_Same_ok : dots_Same_g.ok Try.prog := by
  refine Sig.lift mix tabOk nms _ Try.func20 (c := (bodyOf Try.f20)) (by kernel_rfl) (o := orT [slices_EqualFunc_Seen_dots_Same_1_g] [] noFz) (orT_sound ⟨slices_EqualFunc_Seen_dots_Same_1_ok, trivial⟩) (allLp_of [] (by kernel_rfl) trivial rfl) ?_
  intro z; kernel_rfl

def l06_awake_T  : Tree Bool :=
  .bnd (dots_Add_T [(([97] : Str), (1, [3]))] (([97] : Str), 2)) fun y1 =>
  .bnd (dots_Join_T y1.1 [(([98] : Str), (0, [7]))]) fun y2 =>
  .bnd (dots_Check_T [(([97] : Str), (1, [3]))]) fun y3 =>
  .grd ((decide (y3 = 0)) && (decide (y1.2.1 = 0))) (r06_Same_T y1.1 [(([97] : Str), (3, []))]) false fun y4 =>
  .grd (((((decide (y3 = 0)) && (decide (y1.2.1 = 0))) && y4) && (decide (y2.2.1 = 0))) && (decide ((y2.1.length : Int) = 2))) (dots_Covers_T y2.1 [(([97] : Str), (1, [3]))]) false fun y5 =>
  .grd ((((((decide (y3 = 0)) && (decide (y1.2.1 = 0))) && y4) && (decide (y2.2.1 = 0))) && (decide ((y2.1.length : Int) = 2))) && y5) (dots_Covers_T [(([97] : Str), (1, [3]))] y2.1) false fun y6 =>
  .grd (((((((decide (y3 = 0)) && (decide (y1.2.1 = 0))) && y4) && (decide (y2.2.1 = 0))) && (decide ((y2.1.length : Int) = 2))) && y5) && (!y6)) (dots_Has_T y2.1 (([98] : Str), 7)) false fun y7 =>
  .grd ((((((((decide (y3 = 0)) && (decide (y1.2.1 = 0))) && y4) && (decide (y2.2.1 = 0))) && (decide ((y2.1.length : Int) = 2))) && y5) && (!y6)) && y7) (dots_Top_T y2.1 ([98] : Str)) (0 : Int) fun y8 =>
  .grd (((((((((decide (y3 = 0)) && (decide (y1.2.1 = 0))) && y4) && (decide (y2.2.1 = 0))) && (decide ((y2.1.length : Int) = 2))) && y5) && (!y6)) && y7) && (decide (y8 = 7))) (dots_Same_T y2.1 y2.1) false fun y9 =>
  .grd ((((((((((decide (y3 = 0)) && (decide (y1.2.1 = 0))) && y4) && (decide (y2.2.1 = 0))) && (decide ((y2.1.length : Int) = 2))) && y5) && (!y6)) && y7) && (decide (y8 = 7))) && y9) (dots_Same_T [(([97] : Str), (1, [3]))] y1.1) false fun y10 =>
  .ret (((((((((((decide (y3 = 0)) && (decide (y1.2.1 = 0))) && y4) && (decide (y2.2.1 = 0))) && (decide ((y2.1.length : Int) = 2))) && y5) && (!y6)) && y7) && (decide (y8 = 7))) && y9) && (!y10))

def l06_awake_g : Sig := ⟨7, .nil, .vals (.val false .bool), fun z => l06_awake_T, false⟩

theorem l06_awake_ok : l06_awake_g.ok Try.prog := by
  refine Sig.lift mix tabOk nms _ Try.func7 (c := (bodyOf Try.f7)) (by kernel_rfl) (o := orT [dots_Add_g, dots_Join_g, dots_Check_g, r06_Same_g, dots_Covers_g, dots_Has_g, dots_Top_g, dots_Same_g] [] noFz) (orT_sound ⟨dots_Add_ok, ⟨dots_Join_ok, ⟨dots_Check_ok, ⟨r06_Same_ok, ⟨dots_Covers_ok, ⟨dots_Has_ok, ⟨dots_Top_ok, ⟨dots_Same_ok, trivial⟩⟩⟩⟩⟩⟩⟩⟩) (allLp_of [] (by kernel_rfl) trivial rfl) ?_
  intro z; kernel_rfl

def r05_Is_L2_step (s_ : Str) (i : Int) : Tree (Int ⊕ (Bool ⊕ Unit)) :=
  .ite (decide (i < (s_.length : Int))) (
    ask (inb i s_.length) <|
    ask ((!(!(decide ((sgetI s_ i) < 97)))) || inb i s_.length) <|
    ask ((!((decide ((sgetI s_ i) < 97)) || (decide ((122 : Int) < (sgetI s_ i))))) || inb i s_.length) <|
    ask ((!(((decide ((sgetI s_ i) < 97)) || (decide ((122 : Int) < (sgetI s_ i)))) && (!(decide ((sgetI s_ i) < 48))))) || inb i s_.length) <|
    ask ((!(((decide ((sgetI s_ i) < 97)) || (decide ((122 : Int) < (sgetI s_ i)))) && ((decide ((sgetI s_ i) < 48)) || (decide ((57 : Int) < (sgetI s_ i)))))) || inb i s_.length) <|
    .ite ((((decide ((sgetI s_ i) < 97)) || (decide ((122 : Int) < (sgetI s_ i)))) && ((decide ((sgetI s_ i) < 48)) || (decide ((57 : Int) < (sgetI s_ i))))) && (!decide ((sgetI s_ i) = 45))) (
      .ret (.inr (.inl false))) (
      .ret (.inl (w64 (i + 1))))) (
    .ret (.inr (.inr ())))

def r05_Is_L2 : Lp := ⟨2, [], [], (.cons (.val false .str) (ca2 (.cons (.val false (.int .i64)) (ca2 (ca8 (ca32 .nil)))))), .nil, 0, .more 0 [] (ca2 (.cons (.val false .bool) (ca (ca2 (ca8 (ca32 .nil)))))) .nil (.one 1 [] (.cons (.val false .str) (ca (ca4 (ca8 (ca32 .nil))))) .nil), fun z => .bnd (.loop (fun v => r05_Is_L2_step z.1.1 v) z.1.2.2.2.1) fun r => .sum r (fun a0 => .ret (.inl ((cu2 (a0, (cu (cu2 (cu8 (cu32 ())))))), ()))) (fun b0 => .ret (.inr ((z.1.1, (cu (cu4 (cu8 (cu32 ()))))), ())))⟩

theorem r05_Is_L2_ok : r05_Is_L2.ok Try.prog (nthC (loopsOf (bodyOf Try.f36)) 0) := by
  refine Lp.lift (π := Str) (V := Int) (ρ := (Bool ⊕ Unit)) mix tabOk r05_Is_L2 (o := orT [] [] noFz) (orT_sound trivial) (allLp_of [] (by kernel_rfl) trivial rfl) (fun x v => ((x, (cu2 (v, (cu2 (cu8 (cu32 ())))))), ())) (fun x r => match r with | .inl a0 => .inl ((cu2 (a0, (cu (cu2 (cu8 (cu32 ())))))), ()) | .inr b0 => (.inr ((x, (cu (cu4 (cu8 (cu32 ()))))), ()))) (fun x v => r05_Is_L2_step x v) (fun x r => .sum r (fun a0 => .ret (.inl ((cu2 (a0, (cu (cu2 (cu8 (cu32 ())))))), ()))) (fun b0 => .ret (.inr ((x, (cu (cu4 (cu8 (cu32 ()))))), ())))) (fun z => z.1.1) (fun z => z.1.2.2.2.1) (fun _ => rfl) (fun _ => rfl) (fun x r Q h => match r, h with | .inl _, h => h | .inr b0, h => (h)) ?_
  intro x v; kernel_rfl

def r05_Is_T (x0 : Str) : Tree Bool :=
  .bnd (.loop (fun v => r05_Is_L2_step x0 v) 0) fun r1 =>
  .sum r1 (fun r2 =>
    .ret r2) (fun r3 =>
    .ret ((decide ((1 : Int) ≤ (x0.length : Int))) && (decide ((x0.length : Int) ≤ 16))))

def r05_Is_g : Sig := ⟨36, (.cons (.val false .str) .nil), .vals (.val false .bool), fun z => r05_Is_T z.1, false⟩

theorem r05_Is_ok : r05_Is_g.ok Try.prog := by
  refine Sig.lift mix tabOk nms _ Try.func36 (c := (bodyOf Try.f36)) (by kernel_rfl) (o := orT [] [r05_Is_L2] noFz) (orT_sound trivial) (allLp_of [nthC (loopsOf (bodyOf Try.f36)) 0] (by kernel_rfl) ⟨r05_Is_L2_ok, trivial⟩ (by kernel_rfl)) ?_
  intro z; kernel_rfl

def r06_May_L11_step (c : List Seen) (n : Int) (i : Int) (x_ : Seen) (last : Int) (k : Int) : Tree ((Int × Int) ⊕ (Bool ⊕ Unit)) :=
  .ite (decide (k < (x_.2.2.length : Int))) (
    ask (inb k x_.2.2.length) <|
    ask ((!(!(decide ((x_.2.2.getD k.toNat (0 : Int)) ≤ last)))) || inb k x_.2.2.length) <|
    .ite ((decide ((x_.2.2.getD k.toNat (0 : Int)) ≤ last)) || (decide ((9007199254740992 : Int) < (x_.2.2.getD k.toNat (0 : Int))))) (
      .ret (.inr (.inl false))) (
      ask (inb k x_.2.2.length) <|
      .ret (.inl ((x_.2.2.getD k.toNat (0 : Int)), (w64 (k + 1)))))) (
    .ret (.inr (.inr ())))

def r06_May_L11 : Lp := ⟨11, [], [], (.cons (.val false (.list tSeen)) (ca2 (.cons (.val false (.int .i64)) (.cons (.val false (.int .i64)) (.cons (.ref 0 0) (.cons (.val false (.int .i64)) (.cons (.val false (.int .i64)) (ca (ca4 (ca8 (ca16 (ca32 (ca32 .nil))))))))))))), (.cells 40 (.cons (.flat tSeen) .nil) .nil), 0, .more 0 [] (ca2 (.cons (.val false .bool) (ca2 (ca32 (ca32 (ca32 .nil)))))) .nil (.one 3 [] (.cons (.val false (.list tSeen)) (ca2 (.cons (.val false (.int .i64)) (.cons (.val false (.int .i64)) (ca32 (ca32 (ca32 .nil))))))) .nil), fun z => .bnd (.loop (fun v => r06_May_L11_step z.1.1 z.1.2.2.2.1 z.1.2.2.2.2.1 z.2.1.1 v.1 v.2) (z.1.2.2.2.2.2.2.1, z.1.2.2.2.2.2.2.2.1)) fun r => .sum r (fun a0 => .ret (.inl ((cu2 (a0, (cu2 (cu32 (cu32 (cu32 ())))))), ()))) (fun b0 => .ret (.inr ((z.1.1, (cu2 (z.1.2.2.2.1, (z.1.2.2.2.2.1, (cu32 (cu32 (cu32 ()))))))), ())))⟩

theorem r06_May_L11_ok : r06_May_L11.ok Try.prog (nthC (loopsOf (nthC (loopsOf (bodyOf Try.f15)) 0)) 0) := by
  refine Lp.lift (π := ((List Seen) × Int × Int × Seen)) (V := (Int × Int)) (ρ := (Bool ⊕ Unit)) mix tabOk r06_May_L11 (o := orT [r05_Is_g] [] noFz) (orT_sound ⟨r05_Is_ok, trivial⟩) (allLp_of [] (by kernel_rfl) trivial rfl) (fun x v => ((x.1, (cu2 (x.2.1, (x.2.2.1, ((), (v.1, (v.2, (cu (cu4 (cu8 (cu16 (cu32 (cu32 ()))))))))))))), ((x.2.2.2, ()), ()))) (fun x r => match r with | .inl a0 => .inl ((cu2 (a0, (cu2 (cu32 (cu32 (cu32 ())))))), ()) | .inr b0 => (.inr ((x.1, (cu2 (x.2.1, (x.2.2.1, (cu32 (cu32 (cu32 ()))))))), ()))) (fun x v => r06_May_L11_step x.1 x.2.1 x.2.2.1 x.2.2.2 v.1 v.2) (fun x r => .sum r (fun a0 => .ret (.inl ((cu2 (a0, (cu2 (cu32 (cu32 (cu32 ())))))), ()))) (fun b0 => .ret (.inr ((x.1, (cu2 (x.2.1, (x.2.2.1, (cu32 (cu32 (cu32 ()))))))), ())))) (fun z => (z.1.1, z.1.2.2.2.1, z.1.2.2.2.2.1, z.2.1.1)) (fun z => (z.1.2.2.2.2.2.2.1, z.1.2.2.2.2.2.2.2.1)) (fun _ => rfl) (fun _ => rfl) (fun x r Q h => match r, h with | .inl _, h => h | .inr b0, h => (h)) ?_
  intro x v; kernel_rfl

def r06_May_L3_step (c : List Seen) (n : Int) (i : Int) : Tree ((Int × Int) ⊕ (Bool ⊕ Unit)) :=
  .ite (decide (i < (c.length : Int))) (
    ask (inb i c.length) <|
    .bnd (r05_Is_T (c.getD i.toNat (dfl tSeen : Seen)).1) fun y1 =>
    ask ((!((!(!y1)) && (decide ((0 : Int) < i)))) || inb (w64 (i - 1)) c.length) <|
    .ite ((((((!y1) || ((decide ((0 : Int) < i)) && (!ltS (c.getD ((w64 (i - 1)).toNat) (dfl tSeen : Seen)).1 (c.getD i.toNat (dfl tSeen : Seen)).1))) || (decide ((c.getD i.toNat (dfl tSeen : Seen)).2.1 < 0))) || (decide ((9007199254740992 : Int) < (c.getD i.toNat (dfl tSeen : Seen)).2.1))) || ((decide ((c.getD i.toNat (dfl tSeen : Seen)).2.1 = 0)) && (decide (((c.getD i.toNat (dfl tSeen : Seen)).2.2.length : Int) = 0)))) || (decide ((w64 ((4096 : Int) - n)) < ((c.getD i.toNat (dfl tSeen : Seen)).2.2.length : Int)))) (
      .ret (.inr (.inl false))) (
      .bnd (.loop (fun v => r06_May_L11_step c (w64 (n + ((c.getD i.toNat (dfl tSeen : Seen)).2.2.length : Int))) i (c.getD i.toNat (dfl tSeen : Seen)) v.1 v.2) ((w64 ((c.getD i.toNat (dfl tSeen : Seen)).2.1 + 1)), 0)) fun r2 =>
      .sum r2 (fun r3 =>
        .ret (.inr (.inl r3))) (fun r4 =>
        .ret (.inl ((w64 (n + ((c.getD i.toNat (dfl tSeen : Seen)).2.2.length : Int))), (w64 (i + 1))))))) (
    .ret (.inr (.inr ())))

def r06_May_L3 : Lp := ⟨3, [], [], (.cons (.val false (.list tSeen)) (ca2 (.cons (.val false (.int .i64)) (.cons (.val false (.int .i64)) (ca32 (ca32 (ca32 .nil))))))), .nil, 0, .more 0 [] (ca2 (.cons (.val false .bool) (ca2 (ca32 (ca32 (ca32 .nil)))))) .nil (.one 1 [] (ca (ca4 (ca32 (ca32 (ca32 .nil))))) .nil), fun z => .bnd (.loop (fun v => r06_May_L3_step z.1.1 v.1 v.2) (z.1.2.2.2.1, z.1.2.2.2.2.1)) fun r => .sum r (fun a0 => .ret (.inl ((cu2 (a0, (cu2 (cu32 (cu32 (cu32 ())))))), ()))) (fun b0 => .ret (.inr ((cu (cu4 (cu32 (cu32 (cu32 ()))))), ())))⟩

theorem r06_May_L3_ok : r06_May_L3.ok Try.prog (nthC (loopsOf (bodyOf Try.f15)) 0) := by
  refine Lp.lift (π := List Seen) (V := (Int × Int)) (ρ := (Bool ⊕ Unit)) mix tabOk r06_May_L3 (o := orT [r05_Is_g] [r06_May_L11] noFz) (orT_sound ⟨r05_Is_ok, trivial⟩) (allLp_of [nthC (loopsOf (nthC (loopsOf (bodyOf Try.f15)) 0)) 0] (by kernel_rfl) ⟨r06_May_L11_ok, trivial⟩ (by kernel_rfl)) (fun x v => ((x, (cu2 (v.1, (v.2, (cu32 (cu32 (cu32 ()))))))), ())) (fun x r => match r with | .inl a0 => .inl ((cu2 (a0, (cu2 (cu32 (cu32 (cu32 ())))))), ()) | .inr b0 => (.inr ((cu (cu4 (cu32 (cu32 (cu32 ()))))), ()))) (fun x v => r06_May_L3_step x v.1 v.2) (fun x r => .sum r (fun a0 => .ret (.inl ((cu2 (a0, (cu2 (cu32 (cu32 (cu32 ())))))), ()))) (fun b0 => .ret (.inr ((cu (cu4 (cu32 (cu32 (cu32 ()))))), ())))) (fun z => z.1.1) (fun z => (z.1.2.2.2.1, z.1.2.2.2.2.1)) (fun _ => rfl) (fun _ => rfl) (fun x r Q h => match r, h with | .inl _, h => h | .inr b0, h => (h)) ?_
  intro x v; kernel_rfl

def r06_May_T (x0 : List Seen) : Tree Bool :=
  .bnd (.loop (fun v => r06_May_L3_step x0 v.1 v.2) (0, 0)) fun r1 =>
  .sum r1 (fun r2 =>
    .ret r2) (fun r3 =>
    .ret true)

def r06_May_g : Sig := ⟨15, (.cons (.val false (.list tSeen)) .nil), .vals (.val false .bool), fun z => r06_May_T z.1, false⟩

theorem r06_May_ok : r06_May_g.ok Try.prog := by
  refine Sig.lift mix tabOk nms _ Try.func15 (c := (bodyOf Try.f15)) (by kernel_rfl) (o := orT [r05_Is_g] [r06_May_L3] noFz) (orT_sound ⟨r05_Is_ok, trivial⟩) (allLp_of [nthC (loopsOf (bodyOf Try.f15)) 0] (by kernel_rfl) ⟨r06_May_L3_ok, trivial⟩ (by kernel_rfl)) ?_
  intro z; kernel_rfl

def r06_nodes_L3_step (a : List Seen) (b : List Seen) (i : Int) (k : Int) (out : List Str) : Tree ((Int × Int × (List Str)) ⊕ (List Str)) :=
  .ite ((decide (i < (a.length : Int))) || (decide (k < (b.length : Int)))) (
    ask ((!((!(decide (k = (b.length : Int)))) && (decide (i < (a.length : Int))))) || inb i a.length) <|
    ask ((!((!(decide (k = (b.length : Int)))) && (decide (i < (a.length : Int))))) || inb k b.length) <|
    .ite ((decide (k = (b.length : Int))) || ((decide (i < (a.length : Int))) && (ltS (a.getD i.toNat (dfl tSeen : Seen)).1 (b.getD k.toNat (dfl tSeen : Seen)).1))) (
      ask (inb i a.length) <|
      ask (decide ((out ++ [(a.getD i.toNat (dfl tSeen : Seen)).1]).length * 16 ≤ roomNat)) <|
      .ret (.inl ((w64 (i + 1)), k, (out ++ [(a.getD i.toNat (dfl tSeen : Seen)).1])))) (
      ask ((!(!(decide (i = (a.length : Int))))) || inb k b.length) <|
      ask ((!(!(decide (i = (a.length : Int))))) || inb i a.length) <|
      .ite ((decide (i = (a.length : Int))) || (ltS (b.getD k.toNat (dfl tSeen : Seen)).1 (a.getD i.toNat (dfl tSeen : Seen)).1)) (
        ask (inb k b.length) <|
        ask (decide ((out ++ [(b.getD k.toNat (dfl tSeen : Seen)).1]).length * 16 ≤ roomNat)) <|
        .ret (.inl (i, (w64 (k + 1)), (out ++ [(b.getD k.toNat (dfl tSeen : Seen)).1])))) (
        ask (inb i a.length) <|
        ask (decide ((out ++ [(a.getD i.toNat (dfl tSeen : Seen)).1]).length * 16 ≤ roomNat)) <|
        .ret (.inl ((w64 (i + 1)), (w64 (k + 1)), (out ++ [(a.getD i.toNat (dfl tSeen : Seen)).1])))))) (
    .ret (.inr out))

def r06_nodes_L3 : Lp := ⟨3, [.own 5 9 .str], [], (.cons (.val false (.list tSeen)) (.cons (.val false (.list tSeen)) (ca (ca2 (.cons (.own 0) (.cons (.val false (.int .i64)) (.cons (.val false (.int .i64)) (ca (ca4 (ca16 (ca32 (ca32 .nil)))))))))))), (.rows 9 .str .nil), 0, .one 1 [] (ca (ca4 (.cons (.own 0) (ca (ca2 (ca4 (ca16 (ca32 (ca32 .nil))))))))) (.rows 9 .str .nil), fun z => .bnd (.loop (fun v => r06_nodes_L3_step z.1.1 z.1.2.1 v.1 v.2.1 v.2.2) (z.1.2.2.2.2.2.2.1, z.1.2.2.2.2.2.2.2.1, z.2.1)) fun r => .ret ((cu (cu4 ((), (cu (cu2 (cu4 (cu16 (cu32 (cu32 ()))))))))), (r, ()))⟩

theorem r06_nodes_L3_ok : r06_nodes_L3.ok Try.prog (nthC (loopsOf (bodyOf Try.f26)) 0) := by
  refine Lp.lift (π := ((List Seen) × (List Seen))) (V := (Int × Int × (List Str))) (ρ := List Str) mix tabOk r06_nodes_L3 (o := orT [] [] noFz) (orT_sound trivial) (allLp_of [] (by kernel_rfl) trivial rfl) (fun x v => ((x.1, (x.2, (cu (cu2 ((), (v.1, (v.2.1, (cu (cu4 (cu16 (cu32 (cu32 ())))))))))))), (v.2.2, ()))) (fun x r => ((cu (cu4 ((), (cu (cu2 (cu4 (cu16 (cu32 (cu32 ()))))))))), (r, ()))) (fun x v => r06_nodes_L3_step x.1 x.2 v.1 v.2.1 v.2.2) (fun x r => .ret ((cu (cu4 ((), (cu (cu2 (cu4 (cu16 (cu32 (cu32 ()))))))))), (r, ()))) (fun z => (z.1.1, z.1.2.1)) (fun z => (z.1.2.2.2.2.2.2.1, z.1.2.2.2.2.2.2.2.1, z.2.1)) (fun _ => rfl) (fun _ => rfl) (fun _ _ _ h => h) ?_
  intro x v; kernel_rfl

def r06_nodes_T (x0 : List Seen) (x1 : List Seen) : Tree (List Str) :=
  .bnd (.loop (fun v => r06_nodes_L3_step x0 x1 v.1 v.2.1 v.2.2) (0, 0, ([] : List Str))) fun r1 =>
  .ret r1

def r06_nodes_g : Sig := ⟨26, (.cons (.val false (.list tSeen)) (.cons (.val false (.list tSeen)) .nil)), .fresh 9 .str, fun z => r06_nodes_T z.1 z.2.1, ([] : List Str)⟩

theorem r06_nodes_ok : r06_nodes_g.ok Try.prog := by
  refine Sig.lift mix tabOk nms _ Try.func26 (c := (bodyOf Try.f26)) (by kernel_rfl) (o := orT [] [r06_nodes_L3] noFz) (orT_sound trivial) (allLp_of [nthC (loopsOf (bodyOf Try.f26)) 0] (by kernel_rfl) ⟨r06_nodes_L3_ok, trivial⟩ (by kernel_rfl)) ?_
  intro z; kernel_rfl

def r06_nodes_gv : Sig := ⟨26, (.cons (.val false (.list tSeen)) (.cons (.val false (.list tSeen)) .nil)), .vals (.val false (.list .str)), fun z => r06_nodes_T z.1 z.2.1, ([] : List Str)⟩

theorem r06_nodes_okv : r06_nodes_gv.ok Try.prog := fun x y h => acalls_val (r06_nodes_ok x y h)

def r06_of_L2_step (c : List Seen) (node : Str) (c2 : Seen) (i : Int) : Tree (Int ⊕ (Seen ⊕ Unit)) :=
  .ite (decide (i < (c.length : Int))) (
    ask (inb i c.length) <|
    .ite ((c.getD i.toNat (dfl tSeen : Seen)).1 == node) (
      ask (inb i c.length) <|
      .ret (.inr (.inl (c.getD i.toNat (dfl tSeen : Seen))))) (
      .ret (.inl (w64 (i + 1))))) (
    .ret (.inr (.inr ())))

def r06_of_L2 : Lp := ⟨2, [], [], (.cons (.val false (.list tSeen)) (.cons (.val false .str) (ca2 (.cons (.ref 0 0) (.cons (.val false (.int .i64)) (ca (ca2 (ca16 .nil)))))))), (.cells 40 (.cons (.flat tSeen) .nil) .nil), 0, .more 0 [] (ca4 (.cons (.ref 0 0) (ca4 (ca16 .nil)))) (.cells 40 (.cons (.flat tSeen) .nil) .nil) (.one 1 [] (ca (.cons (.val false .str) (ca2 (.cons (.ref 0 0) (ca4 (ca16 .nil)))))) (.cells 40 (.cons (.flat tSeen) .nil) .nil)), fun z => .bnd (.loop (fun v => r06_of_L2_step z.1.1 z.1.2.1 z.2.1.1 v) z.1.2.2.2.2.2.1) fun r => .sum r (fun a0 => .ret (.inl ((cu4 ((), (cu4 (cu16 ())))), ((a0, ()), ())))) (fun b0 => .ret (.inr ((cu (z.1.2.1, (cu2 ((), (cu4 (cu16 ())))))), ((z.2.1.1, ()), ()))))⟩

theorem r06_of_L2_ok : r06_of_L2.ok Try.prog (nthC (loopsOf (bodyOf Try.f28)) 0) := by
  refine Lp.lift (π := ((List Seen) × Str × Seen)) (V := Int) (ρ := (Seen ⊕ Unit)) mix tabOk r06_of_L2 (o := orT [] [] noFz) (orT_sound trivial) (allLp_of [] (by kernel_rfl) trivial rfl) (fun x v => ((x.1, (x.2.1, (cu2 ((), (v, (cu (cu2 (cu16 ())))))))), ((x.2.2, ()), ()))) (fun x r => match r with | .inl a0 => .inl ((cu4 ((), (cu4 (cu16 ())))), ((a0, ()), ())) | .inr b0 => (.inr ((cu (x.2.1, (cu2 ((), (cu4 (cu16 ())))))), ((x.2.2, ()), ())))) (fun x v => r06_of_L2_step x.1 x.2.1 x.2.2 v) (fun x r => .sum r (fun a0 => .ret (.inl ((cu4 ((), (cu4 (cu16 ())))), ((a0, ()), ())))) (fun b0 => .ret (.inr ((cu (x.2.1, (cu2 ((), (cu4 (cu16 ())))))), ((x.2.2, ()), ()))))) (fun z => (z.1.1, z.1.2.1, z.2.1.1)) (fun z => z.1.2.2.2.2.2.1) (fun _ => rfl) (fun _ => rfl) (fun x r Q h => match r, h with | .inl _, h => h | .inr b0, h => (h)) ?_
  intro x v; kernel_rfl

def r06_of_T (x0 : List Seen) (x1 : Str) : Tree Seen :=
  .bnd (.loop (fun v => r06_of_L2_step x0 x1 ([], (0, [])) v) 0) fun r1 =>
  .sum r1 (fun r2 =>
    .ret r2) (fun r3 =>
    .ret (x1, (0, [])))

def r06_of_g : Sig := ⟨28, (.cons (.val false (.list tSeen)) (.cons (.val false .str) .nil)), .vals (.val true tSeen), fun z => r06_of_T z.1 z.2.1, (dfl tSeen : Seen)⟩

theorem r06_of_ok : r06_of_g.ok Try.prog := by
  refine Sig.lift mix tabOk nms _ Try.func28 (c := (bodyOf Try.f28)) (by kernel_rfl) (o := orT [] [r06_of_L2] noFz) (orT_sound trivial) (allLp_of [nthC (loopsOf (bodyOf Try.f28)) 0] (by kernel_rfl) ⟨r06_of_L2_ok, trivial⟩ (by kernel_rfl)) ?_
  intro z; kernel_rfl

def r06_put_L2_step (l : List Int) (n : Int) (k : Int) : Tree (Int ⊕ Int) :=
  ask ((!(decide (k < (l.length : Int)))) || inb k l.length) <|
  .ite ((decide (k < (l.length : Int))) && (decide ((l.getD k.toNat (0 : Int)) < n))) (
    .ret (.inl (w64 (k + 1)))) (
    .ret (.inr k))

def r06_put_L2 : Lp := ⟨2, [], [], (.cons (.val false (.list (.int .i64))) (.cons (.val false (.int .i64)) (ca (ca2 (.cons (.val false (.int .i64)) (ca (ca2 (ca8 (ca32 .nil))))))))), .nil, 0, .one 1 [] (.cons (.val false (.list (.int .i64))) (.cons (.val false (.int .i64)) (ca (ca2 (.cons (.val false (.int .i64)) (ca (ca2 (ca8 (ca32 .nil))))))))) .nil, fun z => .bnd (.loop (fun v => r06_put_L2_step z.1.1 z.1.2.1 v) z.1.2.2.2.2.2.1) fun r => .ret ((z.1.1, (z.1.2.1, (cu (cu2 (r, (cu (cu2 (cu8 (cu32 ()))))))))), ())⟩

theorem r06_put_L2_ok : r06_put_L2.ok Try.prog (nthC (loopsOf (bodyOf Try.f51)) 0) := by
  refine Lp.lift (π := ((List Int) × Int)) (V := Int) (ρ := Int) mix tabOk r06_put_L2 (o := orT [] [] noFz) (orT_sound trivial) (allLp_of [] (by kernel_rfl) trivial rfl) (fun x v => ((x.1, (x.2, (cu (cu2 (v, (cu (cu2 (cu8 (cu32 ()))))))))), ())) (fun x r => ((x.1, (x.2, (cu (cu2 (r, (cu (cu2 (cu8 (cu32 ()))))))))), ())) (fun x v => r06_put_L2_step x.1 x.2 v) (fun x r => .ret ((x.1, (x.2, (cu (cu2 (r, (cu (cu2 (cu8 (cu32 ()))))))))), ())) (fun z => (z.1.1, z.1.2.1)) (fun z => z.1.2.2.2.2.2.1) (fun _ => rfl) (fun _ => rfl) (fun _ _ _ h => h) ?_
  intro x v; kernel_rfl

def r06_put_T (x0 : List Int) (x1 : Int) : Tree (List Int) :=
  .bnd (.loop (fun v => r06_put_L2_step x0 x1 v) 0) fun r1 =>
  ask ((!(decide (r1 < (x0.length : Int)))) || inb r1 x0.length) <|
  .ite ((decide (r1 < (x0.length : Int))) && (decide ((x0.getD r1.toNat (0 : Int)) = x1))) (
    .ret x0) (
    ask (inbe r1 x0.length) <|
    ask (decide ((x0.take r1.toNat).length * 8 ≤ roomNat)) <|
    ask (decide (((x0.take r1.toNat) ++ [x1]).length * 8 ≤ roomNat)) <|
    ask (inbe r1 x0.length) <|
    ask (decide ((((x0.take r1.toNat) ++ [x1]) ++ (x0.drop r1.toNat)).length * 8 ≤ roomNat)) <|
    .ret (((x0.take r1.toNat) ++ [x1]) ++ (x0.drop r1.toNat)))

def r06_put_g : Sig := ⟨51, (.cons (.val false (.list (.int .i64))) (.cons (.val false (.int .i64)) .nil)), .vals (.val false (.list (.int .i64))), fun z => r06_put_T z.1 z.2.1, ([] : List Int)⟩

theorem r06_put_ok : r06_put_g.ok Try.prog := by
  refine Sig.lift mix tabOk nms _ Try.func51 (c := (bodyOf Try.f51)) (by kernel_rfl) (o := orT [] [r06_put_L2] noFz) (orT_sound trivial) (allLp_of [nthC (loopsOf (bodyOf Try.f51)) 0] (by kernel_rfl) ⟨r06_put_L2_ok, trivial⟩ (by kernel_rfl)) ?_
  intro z; kernel_rfl

def r06_both_L4_step (base : Int) (a : Seen) (b : Seen) (c : Seen) (more : List Int) (i : Int) : Tree (((List Int) × Int) ⊕ (List Int)) :=
  .ite (decide (i < (a.2.2.length : Int))) (
    ask (inb i a.2.2.length) <|
    .bnd (r06_put_T more (a.2.2.getD i.toNat (0 : Int))) fun y1 =>
    .ret (.inl (y1, (w64 (i + 1))))) (
    .ret (.inr more))

def r06_both_L4 : Lp := ⟨4, [], [], (ca2 (.cons (.ref 0 0) (.cons (.ref 1 0) (.cons (.ref 2 0) (.cons (.val false (.int .i64)) (.cons (.val false (.list (.int .i64))) (.cons (.val false (.int .i64)) (ca (ca2 (ca4 (ca32 (ca32 .nil)))))))))))), (.cells 40 (.cons (.flat tSeen) .nil) (.cells 40 (.cons (.flat tSeen) .nil) (.cells 40 (.cons (.flat tSeen) .nil) .nil))), 0, .one 1 [] (ca2 (.cons (.ref 0 0) (.cons (.ref 1 0) (.cons (.ref 2 0) (.cons (.val false (.int .i64)) (.cons (.val false (.list (.int .i64))) (ca8 (ca32 (ca32 .nil))))))))) (.cells 40 (.cons (.flat tSeen) .nil) (.cells 40 (.cons (.flat tSeen) .nil) (.cells 40 (.cons (.flat tSeen) .nil) .nil))), fun z => .bnd (.loop (fun v => r06_both_L4_step z.1.2.2.2.2.2.1 z.2.1.1 z.2.2.1.1 z.2.2.2.1.1 v.1 v.2) (z.1.2.2.2.2.2.2.1, z.1.2.2.2.2.2.2.2.1)) fun r => .ret ((cu2 ((), ((), ((), (z.1.2.2.2.2.2.1, (r, (cu8 (cu32 (cu32 ()))))))))), ((z.2.1.1, ()), ((z.2.2.1.1, ()), ((z.2.2.2.1.1, ()), ()))))⟩

theorem r06_both_L4_ok : r06_both_L4.ok Try.prog (nthC (loopsOf (bodyOf Try.f27)) 0) := by
  refine Lp.lift (π := (Int × Seen × Seen × Seen)) (V := ((List Int) × Int)) (ρ := List Int) mix tabOk r06_both_L4 (o := orT [r06_put_g] [] noFz) (orT_sound ⟨r06_put_ok, trivial⟩) (allLp_of [] (by kernel_rfl) trivial rfl) (fun x v => ((cu2 ((), ((), ((), (x.1, (v.1, (v.2, (cu (cu2 (cu4 (cu32 (cu32 ())))))))))))), ((x.2.1, ()), ((x.2.2.1, ()), ((x.2.2.2, ()), ()))))) (fun x r => ((cu2 ((), ((), ((), (x.1, (r, (cu8 (cu32 (cu32 ()))))))))), ((x.2.1, ()), ((x.2.2.1, ()), ((x.2.2.2, ()), ()))))) (fun x v => r06_both_L4_step x.1 x.2.1 x.2.2.1 x.2.2.2 v.1 v.2) (fun x r => .ret ((cu2 ((), ((), ((), (x.1, (r, (cu8 (cu32 (cu32 ()))))))))), ((x.2.1, ()), ((x.2.2.1, ()), ((x.2.2.2, ()), ()))))) (fun z => (z.1.2.2.2.2.2.1, z.2.1.1, z.2.2.1.1, z.2.2.2.1.1)) (fun z => (z.1.2.2.2.2.2.2.1, z.1.2.2.2.2.2.2.2.1)) (fun _ => rfl) (fun _ => rfl) (fun _ _ _ h => h) ?_
  intro x v; kernel_rfl

def r06_both_L8_step (base : Int) (a : Seen) (b : Seen) (c : Seen) (more : List Int) (i : Int) : Tree (((List Int) × Int) ⊕ (List Int)) :=
  .ite (decide (i < (b.2.2.length : Int))) (
    ask (inb i b.2.2.length) <|
    .bnd (r06_put_T more (b.2.2.getD i.toNat (0 : Int))) fun y1 =>
    .ret (.inl (y1, (w64 (i + 1))))) (
    .ret (.inr more))

def r06_both_L8 : Lp := ⟨8, [], [], (ca2 (.cons (.ref 0 0) (.cons (.ref 1 0) (.cons (.ref 2 0) (.cons (.val false (.int .i64)) (.cons (.val false (.list (.int .i64))) (ca (.cons (.val false (.int .i64)) (ca2 (ca4 (ca32 (ca32 .nil)))))))))))), (.cells 40 (.cons (.flat tSeen) .nil) (.cells 40 (.cons (.flat tSeen) .nil) (.cells 40 (.cons (.flat tSeen) .nil) .nil))), 0, .one 3 [] (ca2 (.cons (.ref 0 0) (ca (.cons (.ref 2 0) (.cons (.val false (.int .i64)) (.cons (.val false (.list (.int .i64))) (ca8 (ca32 (ca32 .nil))))))))) (.cells 40 (.cons (.flat tSeen) .nil) (.cells 40 (ca (ca2 .nil)) (.cells 40 (.cons (.flat tSeen) .nil) .nil))), fun z => .bnd (.loop (fun v => r06_both_L8_step z.1.2.2.2.2.2.1 z.2.1.1 z.2.2.1.1 z.2.2.2.1.1 v.1 v.2) (z.1.2.2.2.2.2.2.1, z.1.2.2.2.2.2.2.2.2.1)) fun r => .ret ((cu2 ((), (cu ((), (z.1.2.2.2.2.2.1, (r, (cu8 (cu32 (cu32 ()))))))))), ((z.2.1.1, ()), ((cu (cu2 ())), ((z.2.2.2.1.1, ()), ()))))⟩

theorem r06_both_L8_ok : r06_both_L8.ok Try.prog (nthC (loopsOf (bodyOf Try.f27)) 1) := by
  refine Lp.lift (π := (Int × Seen × Seen × Seen)) (V := ((List Int) × Int)) (ρ := List Int) mix tabOk r06_both_L8 (o := orT [r06_put_g] [] noFz) (orT_sound ⟨r06_put_ok, trivial⟩) (allLp_of [] (by kernel_rfl) trivial rfl) (fun x v => ((cu2 ((), ((), ((), (x.1, (v.1, (cu (v.2, (cu2 (cu4 (cu32 (cu32 ())))))))))))), ((x.2.1, ()), ((x.2.2.1, ()), ((x.2.2.2, ()), ()))))) (fun x r => ((cu2 ((), (cu ((), (x.1, (r, (cu8 (cu32 (cu32 ()))))))))), ((x.2.1, ()), ((cu (cu2 ())), ((x.2.2.2, ()), ()))))) (fun x v => r06_both_L8_step x.1 x.2.1 x.2.2.1 x.2.2.2 v.1 v.2) (fun x r => .ret ((cu2 ((), (cu ((), (x.1, (r, (cu8 (cu32 (cu32 ()))))))))), ((x.2.1, ()), ((cu (cu2 ())), ((x.2.2.2, ()), ()))))) (fun z => (z.1.2.2.2.2.2.1, z.2.1.1, z.2.2.1.1, z.2.2.2.1.1)) (fun z => (z.1.2.2.2.2.2.2.1, z.1.2.2.2.2.2.2.2.2.1)) (fun _ => rfl) (fun _ => rfl) (fun _ _ _ h => h) ?_
  intro x v; kernel_rfl

def r06_both_L13_step (more : List Int) (a : Seen) (c : Seen) (base : Int) (i : Int) (rest : List Int) : Tree ((Int × Int × (List Int)) ⊕ (Int × (List Int))) :=
  .ite (decide (i < (more.length : Int))) (
    ask (inb i more.length) <|
    .ite (decide ((more.getD i.toNat (0 : Int)) = (w64 (base + 1)))) (
      ask (inb i more.length) <|
      .ret (.inl ((more.getD i.toNat (0 : Int)), (w64 (i + 1)), rest))) (
      ask (inb i more.length) <|
      .ite (decide (base < (more.getD i.toNat (0 : Int)))) (
        ask (inb i more.length) <|
        ask (decide ((rest ++ [(more.getD i.toNat (0 : Int))]).length * 8 ≤ roomNat)) <|
        .ret (.inl (base, (w64 (i + 1)), (rest ++ [(more.getD i.toNat (0 : Int))])))) (
        .ret (.inl (base, (w64 (i + 1)), rest))))) (
    .ret (.inr (base, rest)))

def r06_both_L13 : Lp := ⟨13, [.own 9 3 (.int .i64)], [], (ca2 (.cons (.ref 0 0) (ca (.cons (.ref 2 0) (.cons (.val false (.int .i64)) (.cons (.val false (.list (.int .i64))) (ca2 (.cons (.own 3) (.cons (.val false (.int .i64)) (ca4 (ca32 (ca32 .nil)))))))))))), (.cells 40 (.cons (.flat tSeen) .nil) (.cells 40 (ca (ca2 .nil)) (.cells 40 (.cons (.flat tSeen) .nil) (.rows 3 (.int .i64) .nil)))), 0, .one 5 [] (ca2 (.cons (.ref 0 0) (ca (.cons (.ref 2 0) (.cons (.val false (.int .i64)) (ca (ca2 (.cons (.own 3) (ca (ca4 (ca32 (ca32 .nil)))))))))))) (.cells 40 (.cons (.flat tSeen) .nil) (.cells 40 (ca (ca2 .nil)) (.cells 40 (.cons (.flat tSeen) .nil) (.rows 3 (.int .i64) .nil)))), fun z => .bnd (.loop (fun v => r06_both_L13_step z.1.2.2.2.2.2.2.1 z.2.1.1 z.2.2.2.1.1 v.1 v.2.1 v.2.2) (z.1.2.2.2.2.2.1, z.1.2.2.2.2.2.2.2.2.2.2.1, z.2.2.2.2.1)) fun r => .ret ((cu2 ((), (cu ((), (r.1, (cu (cu2 ((), (cu (cu4 (cu32 (cu32 ())))))))))))), ((z.2.1.1, ()), ((cu (cu2 ())), ((z.2.2.2.1.1, ()), (r.2, ())))))⟩

theorem r06_both_L13_ok : r06_both_L13.ok Try.prog (nthC (loopsOf (bodyOf Try.f27)) 2) := by
  refine Lp.lift (π := ((List Int) × Seen × Seen)) (V := (Int × Int × (List Int))) (ρ := (Int × (List Int))) mix tabOk r06_both_L13 (o := orT [r06_put_g] [] noFz) (orT_sound ⟨r06_put_ok, trivial⟩) (allLp_of [] (by kernel_rfl) trivial rfl) (fun x v => ((cu2 ((), (cu ((), (v.1, (x.1, (cu2 ((), (v.2.1, (cu4 (cu32 (cu32 ())))))))))))), ((x.2.1, ()), ((cu (cu2 ())), ((x.2.2, ()), (v.2.2, ())))))) (fun x r => ((cu2 ((), (cu ((), (r.1, (cu (cu2 ((), (cu (cu4 (cu32 (cu32 ())))))))))))), ((x.2.1, ()), ((cu (cu2 ())), ((x.2.2, ()), (r.2, ())))))) (fun x v => r06_both_L13_step x.1 x.2.1 x.2.2 v.1 v.2.1 v.2.2) (fun x r => .ret ((cu2 ((), (cu ((), (r.1, (cu (cu2 ((), (cu (cu4 (cu32 (cu32 ())))))))))))), ((x.2.1, ()), ((cu (cu2 ())), ((x.2.2, ()), (r.2, ())))))) (fun z => (z.1.2.2.2.2.2.2.1, z.2.1.1, z.2.2.2.1.1)) (fun z => (z.1.2.2.2.2.2.1, z.1.2.2.2.2.2.2.2.2.2.2.1, z.2.2.2.2.1)) (fun _ => rfl) (fun _ => rfl) (fun _ _ _ h => h) ?_
  intro x v; kernel_rfl

def r06_both_T (x0 : Seen) (x1 : Seen) : Tree Seen :=
  .bnd (.loop (fun v => r06_both_L4_step (std.imax x0.2.1 x1.2.1) x0 x1 ([], (0, [])) v.1 v.2) ([], 0)) fun r1 =>
  .bnd (.loop (fun v => r06_both_L8_step (std.imax x0.2.1 x1.2.1) x0 x1 ([], (0, [])) v.1 v.2) (r1, 0)) fun r2 =>
  .bnd (.loop (fun v => r06_both_L13_step r2 x0 ([], (0, [])) v.1 v.2.1 v.2.2) ((std.imax x0.2.1 x1.2.1), 0, ([] : List Int))) fun r3 =>
  .ret (x0.1, r3)

def r06_both_g : Sig := ⟨27, (.cons (.val true tSeen) (.cons (.val true tSeen) .nil)), .vals (.val true tSeen), fun z => r06_both_T z.1 z.2.1, (dfl tSeen : Seen)⟩

theorem r06_both_ok : r06_both_g.ok Try.prog := by
  refine Sig.lift mix tabOk nms _ Try.func27 (c := (bodyOf Try.f27)) (by kernel_rfl) (o := orT [r06_put_g] [r06_both_L4, r06_both_L8, r06_both_L13] noFz) (orT_sound ⟨r06_put_ok, trivial⟩) (allLp_of [nthC (loopsOf (bodyOf Try.f27)) 0, nthC (loopsOf (bodyOf Try.f27)) 1, nthC (loopsOf (bodyOf Try.f27)) 2] (by kernel_rfl) ⟨r06_both_L4_ok, ⟨r06_both_L8_ok, ⟨r06_both_L13_ok, trivial⟩⟩⟩ (by kernel_rfl)) ?_
  intro z; kernel_rfl

def r06_Join_L6_step (a : List Seen) (b : List Seen) (l : List Str) (i : Int) (out : List Seen) : Tree ((Int × (List Seen)) ⊕ (List Seen)) :=
  .ite (decide (i < (l.length : Int))) (
    ask (inb i l.length) <|
    ask (inb i l.length) <|
    .both (
      .both (
        .bnd (r06_of_T a (l.getD i.toNat ([] : Str))) fun y7 =>
        .bnd (r06_of_T b (l.getD i.toNat ([] : Str))) fun y8 =>
        .bnd (r06_both_T y7 y8) fun y9 =>
        ask (decide ((out ++ [y9]).length * 48 ≤ roomNat)) <|
        .ret (.inl ((w64 (i + 1)), (out ++ [y9])))) (
        .bnd (r06_of_T a (l.getD i.toNat ([] : Str))) fun y4 =>
        .bnd (r06_of_T b (l.getD i.toNat ([] : Str))) fun y5 =>
        .bnd (r06_both_T y4 y5) fun y6 =>
        ask (decide ((out ++ [y6]).length * 48 ≤ roomNat)) <|
        .ret (.inl ((w64 (i + 1)), (out ++ [y6]))))) (
      .bnd (r06_of_T a (l.getD i.toNat ([] : Str))) fun y1 =>
      .bnd (r06_of_T b (l.getD i.toNat ([] : Str))) fun y2 =>
      .bnd (r06_both_T y1 y2) fun y3 =>
      ask (decide ((out ++ [y3]).length * 48 ≤ roomNat)) <|
      .ret (.inl ((w64 (i + 1)), (out ++ [y3]))))) (
    .ret (.inr out))

def r06_Join_L6 : Lp := ⟨6, [.own 6 40 tSeen], [], (.cons (.val false (.list tSeen)) (.cons (.val false (.list tSeen)) (ca4 (.cons (.own 1) (.cons (.own 0) (.cons (.val false (.int .i64)) (ca (ca4 (ca32 .nil))))))))), (.rows 9 .str (.rows 40 tSeen .nil)), 0, .one 1 [] (ca2 (ca4 (.cons (.own 1) (ca (ca2 (ca4 (ca32 .nil))))))) (.dead (.rows 40 tSeen .nil)), fun z => .bnd (.loop (fun v => r06_Join_L6_step z.1.1 z.1.2.1 z.2.1 v.1 v.2) (z.1.2.2.2.2.2.2.2.2.1, z.2.2.1)) fun r => .ret ((cu2 (cu4 ((), (cu (cu2 (cu4 (cu32 ()))))))), (r, ()))⟩

theorem r06_Join_L6_ok : r06_Join_L6.ok Try.prog (nthC (loopsOf (bodyOf Try.f9)) 0) := by
  refine Lp.lift (π := ((List Seen) × (List Seen) × (List Str))) (V := (Int × (List Seen))) (ρ := List Seen) mix tabOk r06_Join_L6 (o := orT [r06_May_g, r06_nodes_g, r06_of_g, r06_both_g] [] noFz) (orT_sound ⟨r06_May_ok, ⟨r06_nodes_ok, ⟨r06_of_ok, ⟨r06_both_ok, trivial⟩⟩⟩⟩) (allLp_of [] (by kernel_rfl) trivial rfl) (fun x v => ((x.1, (x.2.1, (cu4 ((), ((), (v.1, (cu (cu4 (cu32 ()))))))))), (x.2.2, (v.2, ())))) (fun x r => ((cu2 (cu4 ((), (cu (cu2 (cu4 (cu32 ()))))))), (r, ()))) (fun x v => r06_Join_L6_step x.1 x.2.1 x.2.2 v.1 v.2) (fun x r => .ret ((cu2 (cu4 ((), (cu (cu2 (cu4 (cu32 ()))))))), (r, ()))) (fun z => (z.1.1, z.1.2.1, z.2.1)) (fun z => (z.1.2.2.2.2.2.2.2.2.1, z.2.2.1)) (fun _ => rfl) (fun _ => rfl) (fun _ _ _ h => h) ?_
  intro x v; kernel_rfl

def r06_Join_T (x0 : List Seen) (x1 : List Seen) : Tree ((List Seen) × Int × Unit) :=
  .bnd (r06_May_T x0) fun y1 =>
  .grd (!(!y1)) (r06_May_T x1) false fun y2 =>
  .ite ((!y1) || (!y2)) (
    .ret ([], 1, ())) (
    .bnd (r06_nodes_T x0 x1) fun y3 =>
    .bnd (.loop (fun v => r06_Join_L6_step x0 x1 y3 v.1 v.2) (0, ([] : List Seen))) fun r4 =>
    .bnd (r06_May_T r4) fun y5 =>
    .ite (!y5) (
      .ret ([], 4, ())) (
      .ret (r4, 0, ())))

def r06_Join_g : Sig := ⟨9, (.cons (.val false (.list tSeen)) (.cons (.val false (.list tSeen)) .nil)), .vals (.cons (.val false (.list tSeen)) (.cons (.val false (.int .i64)) .nil)), fun z => r06_Join_T z.1 z.2.1, (([] : List Seen), (0 : Int), ())⟩

theorem r06_Join_ok : r06_Join_g.ok Try.prog := by
  refine Sig.lift mix tabOk nms _ Try.func9 (c := (bodyOf Try.f9)) (by kernel_rfl) (o := orT [r06_May_g, r06_nodes_g, r06_of_g, r06_both_g] [r06_Join_L6] noFz) (orT_sound ⟨r06_May_ok, ⟨r06_nodes_ok, ⟨r06_of_ok, ⟨r06_both_ok, trivial⟩⟩⟩⟩) (allLp_of [nthC (loopsOf (bodyOf Try.f9)) 0] (by kernel_rfl) ⟨r06_Join_L6_ok, trivial⟩ (by kernel_rfl)) ?_
  intro z; kernel_rfl

def r06_IsDot_T (x0 : Dot) : Tree Bool :=
  .bnd (r05_Is_T x0.1) fun y1 =>
  .ret ((y1 && (decide ((1 : Int) ≤ x0.2))) && (decide (x0.2 ≤ 9007199254740992)))

def r06_IsDot_g : Sig := ⟨17, (.cons (.val true tDot) .nil), .vals (.val false .bool), fun z => r06_IsDot_T z.1, false⟩

theorem r06_IsDot_ok : r06_IsDot_g.ok Try.prog := by
  refine Sig.lift mix tabOk nms _ Try.func17 (c := (bodyOf Try.f17)) (by kernel_rfl) (o := orT [r05_Is_g] [] noFz) (orT_sound ⟨r05_Is_ok, trivial⟩) (allLp_of [] (by kernel_rfl) trivial rfl) ?_
  intro z; kernel_rfl

def r06_Add_T (x0 : List Seen) (x1 : Dot) : Tree ((List Seen) × Int × Unit) :=
  .bnd (r06_May_T x0) fun y1 =>
  .grd (!(!y1)) (r06_IsDot_T x1) false fun y2 =>
  .ite ((!y1) || (!y2)) (
    .ret ([], 1, ())) (
    .ite (decide (x1.2 = 1)) (
      .bnd (r06_Join_T x0 [(x1.1, (1, []))]) fun y3 =>
      .ret (y3.1, y3.2.1, ())) (
      .bnd (r06_Join_T x0 [(x1.1, (0, [x1.2]))]) fun y4 =>
      .ret (y4.1, y4.2.1, ())))

def r06_Add_g : Sig := ⟨11, (.cons (.val false (.list tSeen)) (.cons (.val true tDot) .nil)), .vals (.cons (.val false (.list tSeen)) (.cons (.val false (.int .i64)) .nil)), fun z => r06_Add_T z.1 z.2.1, (([] : List Seen), (0 : Int), ())⟩

theorem r06_Add_ok : r06_Add_g.ok Try.prog := by
  refine Sig.lift mix tabOk nms _ Try.func11 (c := (bodyOf Try.f11)) (by kernel_rfl) (o := orT [r06_May_g, r06_IsDot_g, r06_Join_g] [] noFz) (orT_sound ⟨r06_May_ok, ⟨r06_IsDot_ok, ⟨r06_Join_ok, trivial⟩⟩⟩) (allLp_of [] (by kernel_rfl) trivial rfl) ?_
  intro z; kernel_rfl

def r06_in_L2_step (l : List Int) (n : Int) (i : Int) : Tree (Int ⊕ (Bool ⊕ Unit)) :=
  .ite (decide (i < (l.length : Int))) (
    ask (inb i l.length) <|
    .ite (decide ((l.getD i.toNat (0 : Int)) = n)) (
      .ret (.inr (.inl true))) (
      .ret (.inl (w64 (i + 1))))) (
    .ret (.inr (.inr ())))

def r06_in_L2 : Lp := ⟨2, [], [], (.cons (.val false (.list (.int .i64))) (.cons (.val false (.int .i64)) (ca (ca2 (.cons (.val false (.int .i64)) (ca4 (ca8 .nil))))))), .nil, 0, .more 0 [] (ca4 (.cons (.val false .bool) (ca (ca4 (ca8 .nil))))) .nil (.one 1 [] (ca2 (ca16 .nil)) .nil), fun z => .bnd (.loop (fun v => r06_in_L2_step z.1.1 z.1.2.1 v) z.1.2.2.2.2.2.1) fun r => .sum r (fun a0 => .ret (.inl ((cu4 (a0, (cu (cu4 (cu8 ()))))), ()))) (fun b0 => .ret (.inr ((cu2 (cu16 ())), ())))⟩

theorem r06_in_L2_ok : r06_in_L2.ok Try.prog (nthC (loopsOf (bodyOf Try.f35)) 0) := by
  refine Lp.lift (π := ((List Int) × Int)) (V := Int) (ρ := (Bool ⊕ Unit)) mix tabOk r06_in_L2 (o := orT [] [] noFz) (orT_sound trivial) (allLp_of [] (by kernel_rfl) trivial rfl) (fun x v => ((x.1, (x.2, (cu (cu2 (v, (cu4 (cu8 ()))))))), ())) (fun x r => match r with | .inl a0 => .inl ((cu4 (a0, (cu (cu4 (cu8 ()))))), ()) | .inr b0 => (.inr ((cu2 (cu16 ())), ()))) (fun x v => r06_in_L2_step x.1 x.2 v) (fun x r => .sum r (fun a0 => .ret (.inl ((cu4 (a0, (cu (cu4 (cu8 ()))))), ()))) (fun b0 => .ret (.inr ((cu2 (cu16 ())), ())))) (fun z => (z.1.1, z.1.2.1)) (fun z => z.1.2.2.2.2.2.1) (fun _ => rfl) (fun _ => rfl) (fun x r Q h => match r, h with | .inl _, h => h | .inr b0, h => (h)) ?_
  intro x v; kernel_rfl

def r06_in_T (x0 : List Int) (x1 : Int) : Tree Bool :=
  .bnd (.loop (fun v => r06_in_L2_step x0 x1 v) 0) fun r1 =>
  .sum r1 (fun r2 =>
    .ret r2) (fun r3 =>
    .ret false)

def r06_in_g : Sig := ⟨35, (.cons (.val false (.list (.int .i64))) (.cons (.val false (.int .i64)) .nil)), .vals (.val false .bool), fun z => r06_in_T z.1 z.2.1, false⟩

theorem r06_in_ok : r06_in_g.ok Try.prog := by
  refine Sig.lift mix tabOk nms _ Try.func35 (c := (bodyOf Try.f35)) (by kernel_rfl) (o := orT [] [r06_in_L2] noFz) (orT_sound trivial) (allLp_of [nthC (loopsOf (bodyOf Try.f35)) 0] (by kernel_rfl) ⟨r06_in_L2_ok, trivial⟩ (by kernel_rfl)) ?_
  intro z; kernel_rfl

def r06_Covers_L10_step (a : List Seen) (b : List Seen) (i : Int) (x_ : Seen) (k : Int) : Tree (Int ⊕ (Bool ⊕ Unit)) :=
  ask (inb i b.length) <|
  .ite (decide (k < ((b.getD i.toNat (dfl tSeen : Seen)).2.2.length : Int))) (
    ask (inb i b.length) <|
    ask (inb k (b.getD i.toNat (dfl tSeen : Seen)).2.2.length) <|
    ask ((!(decide (x_.2.1 < ((b.getD i.toNat (dfl tSeen : Seen)).2.2.getD k.toNat (0 : Int))))) || inb i b.length) <|
    ask ((!(decide (x_.2.1 < ((b.getD i.toNat (dfl tSeen : Seen)).2.2.getD k.toNat (0 : Int))))) || inb k (b.getD i.toNat (dfl tSeen : Seen)).2.2.length) <|
    .grd (decide (x_.2.1 < ((b.getD i.toNat (dfl tSeen : Seen)).2.2.getD k.toNat (0 : Int)))) (r06_in_T x_.2.2 ((b.getD i.toNat (dfl tSeen : Seen)).2.2.getD k.toNat (0 : Int))) false fun y1 =>
    .ite ((decide (x_.2.1 < ((b.getD i.toNat (dfl tSeen : Seen)).2.2.getD k.toNat (0 : Int)))) && (!y1)) (
      .ret (.inr (.inl false))) (
      .ret (.inl (w64 (k + 1))))) (
    .ret (.inr (.inr ())))

def r06_Covers_L10 : Lp := ⟨10, [], [], (.cons (.val false (.list tSeen)) (.cons (.val false (.list tSeen)) (ca (ca2 (.cons (.val false (.int .i64)) (.cons (.ref 0 0) (.cons (.val false (.int .i64)) (ca32 (ca32 .nil))))))))), (.cells 40 (.cons (.flat tSeen) .nil) .nil), 0, .more 0 [] (ca4 (.cons (.val false .bool) (ca (ca2 (ca32 (ca32 .nil)))))) .nil (.one 3 [] (.cons (.val false (.list tSeen)) (.cons (.val false (.list tSeen)) (ca (ca2 (.cons (.val false (.int .i64)) (ca2 (ca32 (ca32 .nil)))))))) .nil), fun z => .bnd (.loop (fun v => r06_Covers_L10_step z.1.1 z.1.2.1 z.1.2.2.2.2.2.1 z.2.1.1 v) z.1.2.2.2.2.2.2.2.1) fun r => .sum r (fun a0 => .ret (.inl ((cu4 (a0, (cu (cu2 (cu32 (cu32 ())))))), ()))) (fun b0 => .ret (.inr ((z.1.1, (z.1.2.1, (cu (cu2 (z.1.2.2.2.2.2.1, (cu2 (cu32 (cu32 ())))))))), ())))⟩

theorem r06_Covers_L10_ok : r06_Covers_L10.ok Try.prog (nthC (loopsOf (nthC (loopsOf (bodyOf Try.f14)) 0)) 0) := by
  refine Lp.lift (π := ((List Seen) × (List Seen) × Int × Seen)) (V := Int) (ρ := (Bool ⊕ Unit)) mix tabOk r06_Covers_L10 (o := orT [r06_May_g, r06_of_g, r06_in_g] [] noFz) (orT_sound ⟨r06_May_ok, ⟨r06_of_ok, ⟨r06_in_ok, trivial⟩⟩⟩) (allLp_of [] (by kernel_rfl) trivial rfl) (fun x v => ((x.1, (x.2.1, (cu (cu2 (x.2.2.1, ((), (v, (cu32 (cu32 ()))))))))), ((x.2.2.2, ()), ()))) (fun x r => match r with | .inl a0 => .inl ((cu4 (a0, (cu (cu2 (cu32 (cu32 ())))))), ()) | .inr b0 => (.inr ((x.1, (x.2.1, (cu (cu2 (x.2.2.1, (cu2 (cu32 (cu32 ())))))))), ()))) (fun x v => r06_Covers_L10_step x.1 x.2.1 x.2.2.1 x.2.2.2 v) (fun x r => .sum r (fun a0 => .ret (.inl ((cu4 (a0, (cu (cu2 (cu32 (cu32 ())))))), ()))) (fun b0 => .ret (.inr ((x.1, (x.2.1, (cu (cu2 (x.2.2.1, (cu2 (cu32 (cu32 ())))))))), ())))) (fun z => (z.1.1, z.1.2.1, z.1.2.2.2.2.2.1, z.2.1.1)) (fun z => z.1.2.2.2.2.2.2.2.1) (fun _ => rfl) (fun _ => rfl) (fun x r Q h => match r, h with | .inl _, h => h | .inr b0, h => (h)) ?_
  intro x v; kernel_rfl

def r06_Covers_L4_step (a : List Seen) (b : List Seen) (i : Int) : Tree (Int ⊕ (Bool ⊕ Unit)) :=
  .ite (decide (i < (b.length : Int))) (
    ask (inb i b.length) <|
    .bnd (r06_of_T a (b.getD i.toNat (dfl tSeen : Seen)).1) fun y1 =>
    ask (inb i b.length) <|
    .ite (decide (y1.2.1 < (b.getD i.toNat (dfl tSeen : Seen)).2.1)) (
      .ret (.inr (.inl false))) (
      .bnd (.loop (fun v => r06_Covers_L10_step a b i y1 v) 0) fun r2 =>
      .sum r2 (fun r3 =>
        .ret (.inr (.inl r3))) (fun r4 =>
        .ret (.inl (w64 (i + 1)))))) (
    .ret (.inr (.inr ())))

def r06_Covers_L4 : Lp := ⟨4, [], [], (.cons (.val false (.list tSeen)) (.cons (.val false (.list tSeen)) (ca (ca2 (.cons (.val false (.int .i64)) (ca2 (ca32 (ca32 .nil)))))))), .nil, 0, .more 0 [] (ca4 (.cons (.val false .bool) (ca (ca2 (ca32 (ca32 .nil)))))) .nil (.one 1 [] (ca8 (ca32 (ca32 .nil))) .nil), fun z => .bnd (.loop (fun v => r06_Covers_L4_step z.1.1 z.1.2.1 v) z.1.2.2.2.2.2.1) fun r => .sum r (fun a0 => .ret (.inl ((cu4 (a0, (cu (cu2 (cu32 (cu32 ())))))), ()))) (fun b0 => .ret (.inr ((cu8 (cu32 (cu32 ()))), ())))⟩

theorem r06_Covers_L4_ok : r06_Covers_L4.ok Try.prog (nthC (loopsOf (bodyOf Try.f14)) 0) := by
  refine Lp.lift (π := ((List Seen) × (List Seen))) (V := Int) (ρ := (Bool ⊕ Unit)) mix tabOk r06_Covers_L4 (o := orT [r06_May_g, r06_of_g, r06_in_g] [r06_Covers_L10] noFz) (orT_sound ⟨r06_May_ok, ⟨r06_of_ok, ⟨r06_in_ok, trivial⟩⟩⟩) (allLp_of [nthC (loopsOf (nthC (loopsOf (bodyOf Try.f14)) 0)) 0] (by kernel_rfl) ⟨r06_Covers_L10_ok, trivial⟩ (by kernel_rfl)) (fun x v => ((x.1, (x.2, (cu (cu2 (v, (cu2 (cu32 (cu32 ())))))))), ())) (fun x r => match r with | .inl a0 => .inl ((cu4 (a0, (cu (cu2 (cu32 (cu32 ())))))), ()) | .inr b0 => (.inr ((cu8 (cu32 (cu32 ()))), ()))) (fun x v => r06_Covers_L4_step x.1 x.2 v) (fun x r => .sum r (fun a0 => .ret (.inl ((cu4 (a0, (cu (cu2 (cu32 (cu32 ())))))), ()))) (fun b0 => .ret (.inr ((cu8 (cu32 (cu32 ()))), ())))) (fun z => (z.1.1, z.1.2.1)) (fun z => z.1.2.2.2.2.2.1) (fun _ => rfl) (fun _ => rfl) (fun x r Q h => match r, h with | .inl _, h => h | .inr b0, h => (h)) ?_
  intro x v; kernel_rfl

def r06_Covers_T (x0 : List Seen) (x1 : List Seen) : Tree Bool :=
  .bnd (r06_May_T x0) fun y1 =>
  .grd (!(!y1)) (r06_May_T x1) false fun y2 =>
  .ite ((!y1) || (!y2)) (
    .ret false) (
    .bnd (.loop (fun v => r06_Covers_L4_step x0 x1 v) 0) fun r3 =>
    .sum r3 (fun r4 =>
      .ret r4) (fun r5 =>
      .ret true))

def r06_Covers_g : Sig := ⟨14, (.cons (.val false (.list tSeen)) (.cons (.val false (.list tSeen)) .nil)), .vals (.val false .bool), fun z => r06_Covers_T z.1 z.2.1, false⟩

theorem r06_Covers_ok : r06_Covers_g.ok Try.prog := by
  refine Sig.lift mix tabOk nms _ Try.func14 (c := (bodyOf Try.f14)) (by kernel_rfl) (o := orT [r06_May_g, r06_of_g, r06_in_g] [r06_Covers_L4] noFz) (orT_sound ⟨r06_May_ok, ⟨r06_of_ok, ⟨r06_in_ok, trivial⟩⟩⟩) (allLp_of [nthC (loopsOf (bodyOf Try.f14)) 0] (by kernel_rfl) ⟨r06_Covers_L4_ok, trivial⟩ (by kernel_rfl)) ?_
  intro z; kernel_rfl

def l06_DotsJoins_T (x0 : List Seen) (x1 : List Seen) (x2 : Dot) : Tree Bool :=
  .bnd (r06_Few_T x0) fun y1 =>
  .grd (!(!y1)) (r06_Few_T x1) false fun y2 =>
  .ite (((!y1) || (!y2)) || (decide ((100 : Int) < (x2.1.length : Int)))) (
    .bnd l06_awake_T fun y3 =>
    .ret y3) (
    .bnd (dots_Join_T x0 x1) fun y4 =>
    .bnd (r06_Join_T x0 x1) fun y5 =>
    .bnd (dots_Add_T x0 x2) fun y6 =>
    .bnd (r06_Add_T x0 x2) fun y7 =>
    .bnd (r06_Same_T y4.1 y5.1) fun y8 =>
    .grd (y8 && (decide (y4.2.1 = y5.2.1))) (r06_Same_T y6.1 y7.1) false fun y9 =>
    .grd (((y8 && (decide (y4.2.1 = y5.2.1))) && y9) && (decide (y6.2.1 = y7.2.1))) (dots_Covers_T x0 x1) false fun y10 =>
    .grd (((y8 && (decide (y4.2.1 = y5.2.1))) && y9) && (decide (y6.2.1 = y7.2.1))) (r06_Covers_T x0 x1) false fun y11 =>
    .grd ((((y8 && (decide (y4.2.1 = y5.2.1))) && y9) && (decide (y6.2.1 = y7.2.1))) && (y10 == y11)) l06_awake_T false fun y12 =>
    .ret (((((y8 && (decide (y4.2.1 = y5.2.1))) && y9) && (decide (y6.2.1 = y7.2.1))) && (y10 == y11)) && y12))

def l06_DotsJoins_g : Sig := ⟨3, (.cons (.val false (.list tSeen)) (.cons (.val false (.list tSeen)) (.cons (.val true tDot) .nil))), .vals (.val false .bool), fun z => l06_DotsJoins_T z.1 z.2.1 z.2.2.1, false⟩

theorem l06_DotsJoins_ok : l06_DotsJoins_g.ok Try.prog := by
  refine Sig.lift mix tabOk nms _ Try.func3 (c := (bodyOf Try.f3)) (by kernel_rfl) (o := orT [r06_Few_g, l06_awake_g, dots_Join_g, r06_Join_g, dots_Add_g, r06_Add_g, r06_Same_g, dots_Covers_g, r06_Covers_g] [] noFz) (orT_sound ⟨r06_Few_ok, ⟨l06_awake_ok, ⟨dots_Join_ok, ⟨r06_Join_ok, ⟨dots_Add_ok, ⟨r06_Add_ok, ⟨r06_Same_ok, ⟨dots_Covers_ok, ⟨r06_Covers_ok, trivial⟩⟩⟩⟩⟩⟩⟩⟩⟩) (allLp_of [] (by kernel_rfl) trivial rfl) ?_
  intro z; kernel_rfl

def l06_DotsKnow_fz : Nat → List Pre
  | 9 => [.spl 9 2]
  | _ => []

def l06_DotsKnow_L7_step (a : List Seen) (b : List Seen) (x_ : List Seen) (d : (Dot × Dot)) (i : Int) : Tree (Int ⊕ (Bool ⊕ Unit)) :=
  .ite (decide (i < 2)) (
    .ite (decide (i = 0)) (
      ask (inb 0 2) <|
      .bnd (dots_Has_T x_ d.1) fun y4 =>
      ask (inb 0 2) <|
      .bnd (dots_Has_T a d.1) fun y5 =>
      ask ((!(!y5)) || inb 0 2) <|
      .grd (!y5) (dots_Has_T b d.1) false fun y6 =>
      .ite (!(y4 == (y5 || y6))) (
        .ret (.inr (.inl false))) (
        .ret (.inl (w64 ((0 : Int) + 1))))) (
      .ite (decide (i = 1)) (
        ask (inb 1 2) <|
        .bnd (dots_Has_T x_ d.2) fun y1 =>
        ask (inb 1 2) <|
        .bnd (dots_Has_T a d.2) fun y2 =>
        ask ((!(!y2)) || inb 1 2) <|
        .grd (!y2) (dots_Has_T b d.2) false fun y3 =>
        .ite (!(y1 == (y2 || y3))) (
          .ret (.inr (.inl false))) (
          .ret (.inl (w64 ((1 : Int) + 1))))) (
        .fail))) (
    .ret (.inr (.inr ())))

def l06_DotsKnow_L7 : Lp := ⟨7, [], [], (.cons (.val false (.list tSeen)) (.cons (.val false (.list tSeen)) (ca (ca2 (.cons (.ref 0 0) (ca (.cons (.val false (.list tSeen)) (ca (.cons (.val false (.int .i64)) (ca4 (ca8 (ca16 (ca32 (ca32 (ca32 .nil))))))))))))))), (.cells 33 (.cons (.flat (.pair tDot tDot)) .nil) .nil), 0, .more 0 [] (ca2 (ca4 (.cons (.val false .bool) (ca (ca2 (ca4 (ca8 (ca16 (ca32 (ca32 (ca32 .nil))))))))))) .nil (.one 1 [] (.cons (.val false (.list tSeen)) (ca4 (.cons (.ref 0 0) (ca32 (ca32 (ca32 (ca32 .nil))))))) (.cells 33 (.cons (.flat (.pair tDot tDot)) .nil) .nil)), fun z => .bnd (.loop (fun v => l06_DotsKnow_L7_step z.1.1 z.1.2.1 z.1.2.2.2.2.2.2.2.1 z.2.1.1 v) z.1.2.2.2.2.2.2.2.2.2.1) fun r => .sum r (fun a0 => .ret (.inl ((cu2 (cu4 (a0, (cu (cu2 (cu4 (cu8 (cu16 (cu32 (cu32 (cu32 ()))))))))))), ()))) (fun b0 => .ret (.inr ((z.1.1, (cu4 ((), (cu32 (cu32 (cu32 (cu32 ()))))))), ((z.2.1.1, ()), ()))))⟩

theorem l06_DotsKnow_L7_ok : l06_DotsKnow_L7.ok Try.prog (nthC (loopsOf (bodyOf Try.f4)) 0) := by
  refine Lp.lift (π := ((List Seen) × (List Seen) × (List Seen) × (Dot × Dot))) (V := Int) (ρ := (Bool ⊕ Unit)) mix tabOk l06_DotsKnow_L7 (o := orT [r06_Few_g, r06_May_g, l06_awake_g, dots_Join_g, dots_Has_g, dots_Add_g, r06_IsDot_g] [] l06_DotsKnow_fz) (orT_sound ⟨r06_Few_ok, ⟨r06_May_ok, ⟨l06_awake_ok, ⟨dots_Join_ok, ⟨dots_Has_ok, ⟨dots_Add_ok, ⟨r06_IsDot_ok, trivial⟩⟩⟩⟩⟩⟩⟩) (allLp_of [] (by kernel_rfl) trivial rfl) (fun x v => ((x.1, (x.2.1, (cu (cu2 ((), (cu (x.2.2.1, (cu (v, (cu4 (cu8 (cu16 (cu32 (cu32 (cu32 ()))))))))))))))), ((x.2.2.2, ()), ()))) (fun x r => match r with | .inl a0 => .inl ((cu2 (cu4 (a0, (cu (cu2 (cu4 (cu8 (cu16 (cu32 (cu32 (cu32 ()))))))))))), ()) | .inr b0 => (.inr ((x.1, (cu4 ((), (cu32 (cu32 (cu32 (cu32 ()))))))), ((x.2.2.2, ()), ())))) (fun x v => l06_DotsKnow_L7_step x.1 x.2.1 x.2.2.1 x.2.2.2 v) (fun x r => .sum r (fun a0 => .ret (.inl ((cu2 (cu4 (a0, (cu (cu2 (cu4 (cu8 (cu16 (cu32 (cu32 (cu32 ()))))))))))), ()))) (fun b0 => .ret (.inr ((x.1, (cu4 ((), (cu32 (cu32 (cu32 (cu32 ()))))))), ((x.2.2.2, ()), ()))))) (fun z => (z.1.1, z.1.2.1, z.1.2.2.2.2.2.2.2.1, z.2.1.1)) (fun z => z.1.2.2.2.2.2.2.2.2.2.1) (fun _ => rfl) (fun _ => rfl) (fun x r Q h => match r, h with | .inl _, h => h | .inr b0, h => (h)) ?_
  intro x v; kernel_rfl

def l06_DotsKnow_T (x0 : List Seen) (x1 : List Seen) (x2 : (Dot × Dot)) : Tree Bool :=
  .bnd (r06_Few_T x0) fun y1 =>
  .grd (!(!y1)) (r06_Few_T x1) false fun y2 =>
  .grd (!((!y1) || (!y2))) (r06_May_T x0) false fun y3 =>
  .grd (!(((!y1) || (!y2)) || (!y3))) (r06_May_T x1) false fun y4 =>
  ask ((!(!((((!y1) || (!y2)) || (!y3)) || (!y4)))) || inb 0 2) <|
  ask ((!(!(((((!y1) || (!y2)) || (!y3)) || (!y4)) || (decide ((100 : Int) < (x2.1.1.length : Int)))))) || inb 1 2) <|
  .ite ((((((!y1) || (!y2)) || (!y3)) || (!y4)) || (decide ((100 : Int) < (x2.1.1.length : Int)))) || (decide ((100 : Int) < (x2.2.1.length : Int)))) (
    .bnd l06_awake_T fun y5 =>
    .ret y5) (
    .bnd (dots_Join_T x0 x1) fun y6 =>
    .grd (!(!decide (y6.2.1 = 0))) (r06_May_T y6.1) false fun y7 =>
    .ite ((!decide (y6.2.1 = 0)) || (!y7)) (
      .ret false) (
      .bnd (.loop (fun v => l06_DotsKnow_L7_step x0 x1 y6.1 x2 v) 0) fun r8 =>
      .sum r8 (fun r9 =>
        .ret r9) (fun r10 =>
        ask (inb 0 2) <|
        .bnd (dots_Add_T x0 x2.1) fun y11 =>
        ask (inb 0 2) <|
        .bnd (r06_IsDot_T x2.1) fun y12 =>
        .ite (!y12) (
          .grd ((decide (y11.2.1 = 1)) && (decide ((y11.1.length : Int) = 0))) l06_awake_T false fun y13 =>
          .ret (((decide (y11.2.1 = 1)) && (decide ((y11.1.length : Int) = 0))) && y13)) (
          .grd (decide (y11.2.1 = 0)) (r06_May_T y11.1) false fun y14 =>
          ask ((!((decide (y11.2.1 = 0)) && y14)) || inb 0 2) <|
          .grd ((decide (y11.2.1 = 0)) && y14) (dots_Has_T y11.1 x2.1) false fun y15 =>
          ask ((!(((decide (y11.2.1 = 0)) && y14) && y15)) || inb 1 2) <|
          .grd (((decide (y11.2.1 = 0)) && y14) && y15) (dots_Has_T y11.1 x2.2) false fun y16 =>
          ask ((!(((decide (y11.2.1 = 0)) && y14) && y15)) || inb 1 2) <|
          .grd (((decide (y11.2.1 = 0)) && y14) && y15) (dots_Has_T x0 x2.2) false fun y17 =>
          ask ((!((((decide (y11.2.1 = 0)) && y14) && y15) && (!y17))) || inb 1 2) <|
          ask ((!((((decide (y11.2.1 = 0)) && y14) && y15) && (!y17))) || inb 0 2) <|
          .grd ((((decide (y11.2.1 = 0)) && y14) && y15) && (y16 == (y17 || ((x2.2.1 == x2.1.1) && ((decide (x2.2.2 = x2.1.2)) && true))))) l06_awake_T false fun y18 =>
          .ret (((((decide (y11.2.1 = 0)) && y14) && y15) && (y16 == (y17 || ((x2.2.1 == x2.1.1) && ((decide (x2.2.2 = x2.1.2)) && true))))) && y18)))))

def l06_DotsKnow_g : Sig := ⟨4, (.cons (.val false (.list tSeen)) (.cons (.val false (.list tSeen)) (.cons (.val true (.pair tDot tDot)) .nil))), .vals (.val false .bool), fun z => l06_DotsKnow_T z.1 z.2.1 z.2.2.1, false⟩

theorem l06_DotsKnow_ok : l06_DotsKnow_g.ok Try.prog := by
  refine Sig.lift mix tabOk nms _ Try.func4 (c := (bodyOf Try.f4)) (by kernel_rfl) (o := orT [r06_Few_g, r06_May_g, l06_awake_g, dots_Join_g, dots_Has_g, dots_Add_g, r06_IsDot_g] [l06_DotsKnow_L7] l06_DotsKnow_fz) (orT_sound ⟨r06_Few_ok, ⟨r06_May_ok, ⟨l06_awake_ok, ⟨dots_Join_ok, ⟨dots_Has_ok, ⟨dots_Add_ok, ⟨r06_IsDot_ok, trivial⟩⟩⟩⟩⟩⟩⟩) (allLp_of [nthC (loopsOf (bodyOf Try.f4)) 0] (by kernel_rfl) ⟨l06_DotsKnow_L7_ok, trivial⟩ (by kernel_rfl)) ?_
  intro z; kernel_rfl

def l06_DotsOrder_T (x0 : List Seen) (x1 : List Seen) (x2 : List Seen) : Tree Bool :=
  .bnd (r06_Few_T x0) fun y1 =>
  .grd (!(!y1)) (r06_Few_T x1) false fun y2 =>
  .grd (!((!y1) || (!y2))) (r06_Few_T x2) false fun y3 =>
  .grd (!(((!y1) || (!y2)) || (!y3))) (r06_May_T x0) false fun y4 =>
  .grd (!((((!y1) || (!y2)) || (!y3)) || (!y4))) (r06_May_T x1) false fun y5 =>
  .grd (!(((((!y1) || (!y2)) || (!y3)) || (!y4)) || (!y5))) (r06_May_T x2) false fun y6 =>
  .ite ((((((!y1) || (!y2)) || (!y3)) || (!y4)) || (!y5)) || (!y6)) (
    .bnd l06_awake_T fun y7 =>
    .ret y7) (
    .bnd (dots_Join_T x0 x1) fun y8 =>
    .bnd (dots_Join_T x1 x0) fun y9 =>
    .bnd (dots_Join_T x0 x0) fun y10 =>
    .bnd (dots_Join_T x1 x2) fun y11 =>
    .bnd (dots_Join_T y8.1 x2) fun y12 =>
    .bnd (dots_Join_T x0 y11.1) fun y13 =>
    .ite ((((((!decide (y8.2.1 = 0)) || (!decide (y9.2.1 = 0))) || (!decide (y10.2.1 = 0))) || (!decide (y11.2.1 = 0))) || (!decide (y12.2.1 = 0))) || (!decide (y13.2.1 = 0))) (
      .ret false) (
      .bnd (r06_Same_T y8.1 y9.1) fun y14 =>
      .grd (!(!y14)) (r06_Same_T y10.1 x0) false fun y15 =>
      .grd (!((!y14) || (!y15))) (r06_Same_T y12.1 y13.1) false fun y16 =>
      .grd (!(((!y14) || (!y15)) || (!y16))) (dots_Covers_T y8.1 x0) false fun y17 =>
      .grd (!((((!y14) || (!y15)) || (!y16)) || (!y17))) (dots_Covers_T y8.1 x1) false fun y18 =>
      .grd (!(((((!y14) || (!y15)) || (!y16)) || (!y17)) || (!y18))) (dots_Covers_T x0 x0) false fun y19 =>
      .ite ((((((!y14) || (!y15)) || (!y16)) || (!y17)) || (!y18)) || (!y19)) (
        .ret false) (
        .bnd (dots_Covers_T x2 x0) fun y20 =>
        .grd y20 (dots_Covers_T x2 x1) false fun y21 =>
        .grd (y20 && y21) (dots_Covers_T x2 y8.1) false fun y22 =>
        .ite ((y20 && y21) && (!y22)) (
          .ret false) (
          .bnd (dots_Covers_T x0 x1) fun y23 =>
          .grd y23 (dots_Covers_T x1 x0) false fun y24 =>
          .grd y23 (r06_Same_T x0 x1) false fun y25 =>
          .ite (y23 && (!(y24 == y25))) (
            .ret false) (
            .bnd (dots_Covers_T x0 x1) fun y26 =>
            .grd (!(!y26)) (dots_Covers_T x1 x2) false fun y27 =>
            .grd (!((!y26) || (!y27))) (dots_Covers_T x0 x2) false fun y28 =>
            .grd (((!y26) || (!y27)) || y28) l06_awake_T false fun y29 =>
            .ret ((((!y26) || (!y27)) || y28) && y29))))))

def l06_DotsOrder_g : Sig := ⟨5, (.cons (.val false (.list tSeen)) (.cons (.val false (.list tSeen)) (.cons (.val false (.list tSeen)) .nil))), .vals (.val false .bool), fun z => l06_DotsOrder_T z.1 z.2.1 z.2.2.1, false⟩

theorem l06_DotsOrder_ok : l06_DotsOrder_g.ok Try.prog := by
  refine Sig.lift mix tabOk nms _ Try.func5 (c := (bodyOf Try.f5)) (by kernel_rfl) (o := orT [r06_Few_g, r06_May_g, l06_awake_g, dots_Join_g, r06_Same_g, dots_Covers_g] [] noFz) (orT_sound ⟨r06_Few_ok, ⟨r06_May_ok, ⟨l06_awake_ok, ⟨dots_Join_ok, ⟨r06_Same_ok, ⟨dots_Covers_ok, trivial⟩⟩⟩⟩⟩⟩) (allLp_of [] (by kernel_rfl) trivial rfl) ?_
  intro z; kernel_rfl

end Go.Eng
