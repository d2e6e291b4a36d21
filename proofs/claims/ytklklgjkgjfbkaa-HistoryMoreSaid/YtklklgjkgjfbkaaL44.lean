/- Lifted: 93 functions, part 1. -/
import Derived.Test.YtklklgjkgjfbkaaTrG
import Derived.Test.YtklklgjkgjfbkaaTrF
import Derived.Test.YtklklgjkgjfbkaaEngT
namespace Go.Eng
open Go Go.Proofs
set_option maxRecDepth 100000
abbrev Dot : Type := (Str × Int)
abbrev tDot : Ty := (.pair .str (.int .i64))

abbrev Sib : Type := (Dot × (Str × (Bool × Int)))
abbrev tSib : Ty := (.pair tDot (.pair .str (.pair .bool (.int .i64))))

abbrev Seen : Type := (Str × (Int × List Int))
abbrev tSeen : Ty := (.pair .str (.pair (.int .i64) (.list (.int .i64))))

abbrev Answer : Type := (Int × (List Sib × (List Seen × (List Str × Dot))))
abbrev tAnswer : Ty := (.pair (.int .i64) (.pair (.list tSib) (.pair (.list tSeen) (.pair (.list .str) tDot))))

abbrev Call : Type := (Int × (Str × (Str × (Str × (Str × (List Seen × Int))))))
abbrev tCall : Ty := (.pair (.int .i64) (.pair .str (.pair .str (.pair .str (.pair .str (.pair (.list tSeen) (.int .i64)))))))

abbrev Deed : Type := (Str × (Str × (Int × (Int × (Int × (Int × (Call × (Bool × Answer))))))))
abbrev tDeed : Ty := (.pair .str (.pair .str (.pair (.int .i64) (.pair (.int .i64) (.pair (.int .i64) (.pair (.int .i64) (.pair tCall (.pair .bool tAnswer))))))))

def r06_Few_L2_step (c : List Seen) (i : Int) : Tree (Int ⊕ (Bool ⊕ Unit)) :=
  .ite ((decide (i < (c.length : Int))) && (decide (i < 12))) (
    ask (inb i c.length) <|
    ask ((!(!(decide ((100 : Int) < ((c.getD i.toNat (dfl tSeen : Seen)).1.length : Int))))) || inb i c.length) <|
    .ite ((decide ((100 : Int) < ((c.getD i.toNat (dfl tSeen : Seen)).1.length : Int))) || (decide ((40 : Int) < ((c.getD i.toNat (dfl tSeen : Seen)).2.2.length : Int)))) (
      .ret (.inr (.inl false))) (
      .ret (.inl (w64 (i + 1))))) (
    .ret (.inr (.inr ())))

def r06_Few_L2 : Lp := ⟨2, [], [], (.cons (.val false (.list tSeen)) (ca2 (.cons (.val false (.int .i64)) (ca (ca4 (ca8 (ca16 .nil))))))), .nil, 0, .more 0 [] (ca2 (.cons (.val false .bool) (ca2 (ca4 (ca8 (ca16 .nil)))))) .nil (.one 1 [] (.cons (.val false (.list tSeen)) (ca32 .nil)) .nil), fun z => .bnd (.loop (fun v => r06_Few_L2_step z.1.1 v) z.1.2.2.2.1) fun r => .sum r (fun a0 => .ret (.inl ((cu2 (a0, (cu2 (cu4 (cu8 (cu16 ())))))), ()))) (fun b0 => .ret (.inr ((z.1.1, (cu32 ())), ())))⟩

theorem r06_Few_L2_ok : r06_Few_L2.ok Try.prog (nthC (loopsOf (bodyOf Try.f22)) 0) := by
  refine Lp.lift (π := List Seen) (V := Int) (ρ := (Bool ⊕ Unit)) mix tabOk r06_Few_L2 (o := orT [] [] noFz) (orT_sound trivial) (allLp_of [] (by kernel_rfl) trivial rfl) (fun x v => ((x, (cu2 (v, (cu (cu4 (cu8 (cu16 ()))))))), ())) (fun x r => match r with | .inl a0 => .inl ((cu2 (a0, (cu2 (cu4 (cu8 (cu16 ())))))), ()) | .inr b0 => (.inr ((x, (cu32 ())), ()))) (fun x v => r06_Few_L2_step x v) (fun x r => .sum r (fun a0 => .ret (.inl ((cu2 (a0, (cu2 (cu4 (cu8 (cu16 ())))))), ()))) (fun b0 => .ret (.inr ((x, (cu32 ())), ())))) (fun z => z.1.1) (fun z => z.1.2.2.2.1) (fun _ => rfl) (fun _ => rfl) (fun x r Q h => match r, h with | .inl _, h => h | .inr b0, h => (h)) ?_
  intro x v; kernel_rfl

def r06_Few_T (x0 : List Seen) : Tree Bool :=
  .bnd (.loop (fun v => r06_Few_L2_step x0 v) 0) fun r1 =>
  .sum r1 (fun r2 =>
    .ret r2) (fun r3 =>
    .ret (decide ((x0.length : Int) ≤ 12)))

def r06_Few_g : Sig := ⟨22, (.cons (.val false (.list tSeen)) .nil), .vals (.val false .bool), fun z => r06_Few_T z.1, false⟩

theorem r06_Few_ok : r06_Few_g.ok Try.prog := by
  refine Sig.lift mix tabOk nms _ Try.func22 (c := (bodyOf Try.f22)) (by kernel_rfl) (o := orT [] [r06_Few_L2] noFz) (orT_sound trivial) (allLp_of [nthC (loopsOf (bodyOf Try.f22)) 0] (by kernel_rfl) ⟨r06_Few_L2_ok, trivial⟩ (by kernel_rfl)) ?_
  intro z; kernel_rfl

def r44_Few_L2_step (l : List Deed) (most : Int) (i : Int) : Tree (Int ⊕ (Bool ⊕ Unit)) :=
  .ite ((decide (i < (l.length : Int))) && (decide (i < most))) (
    ask (inb i l.length) <|
    .grd (!(((((decide ((100 : Int) < ((l.getD i.toNat (dfl tDeed : Deed)).1.length : Int))) || (decide ((100 : Int) < ((l.getD i.toNat (dfl tDeed : Deed)).2.1.length : Int)))) || (decide ((100 : Int) < ((l.getD i.toNat (dfl tDeed : Deed)).2.2.2.2.2.2.1.2.2.1.length : Int)))) || (decide ((100 : Int) < ((l.getD i.toNat (dfl tDeed : Deed)).2.2.2.2.2.2.1.2.2.2.1.length : Int)))) || (decide ((300 : Int) < ((l.getD i.toNat (dfl tDeed : Deed)).2.2.2.2.2.2.1.2.2.2.2.1.length : Int))))) (r06_Few_T (l.getD i.toNat (dfl tDeed : Deed)).2.2.2.2.2.2.1.2.2.2.2.2.1) false fun y1 =>
    .grd (!((((((decide ((100 : Int) < ((l.getD i.toNat (dfl tDeed : Deed)).1.length : Int))) || (decide ((100 : Int) < ((l.getD i.toNat (dfl tDeed : Deed)).2.1.length : Int)))) || (decide ((100 : Int) < ((l.getD i.toNat (dfl tDeed : Deed)).2.2.2.2.2.2.1.2.2.1.length : Int)))) || (decide ((100 : Int) < ((l.getD i.toNat (dfl tDeed : Deed)).2.2.2.2.2.2.1.2.2.2.1.length : Int)))) || (decide ((300 : Int) < ((l.getD i.toNat (dfl tDeed : Deed)).2.2.2.2.2.2.1.2.2.2.2.1.length : Int)))) || (!y1))) (r06_Few_T (l.getD i.toNat (dfl tDeed : Deed)).2.2.2.2.2.2.2.2.2.2.1) false fun y2 =>
    .ite ((((((((decide ((100 : Int) < ((l.getD i.toNat (dfl tDeed : Deed)).1.length : Int))) || (decide ((100 : Int) < ((l.getD i.toNat (dfl tDeed : Deed)).2.1.length : Int)))) || (decide ((100 : Int) < ((l.getD i.toNat (dfl tDeed : Deed)).2.2.2.2.2.2.1.2.2.1.length : Int)))) || (decide ((100 : Int) < ((l.getD i.toNat (dfl tDeed : Deed)).2.2.2.2.2.2.1.2.2.2.1.length : Int)))) || (decide ((300 : Int) < ((l.getD i.toNat (dfl tDeed : Deed)).2.2.2.2.2.2.1.2.2.2.2.1.length : Int)))) || (!y1)) || (!y2)) || (decide ((12 : Int) < ((l.getD i.toNat (dfl tDeed : Deed)).2.2.2.2.2.2.2.2.2.1.length : Int)))) (
      .ret (.inr (.inl false))) (
      .ret (.inl (w64 (i + 1))))) (
    .ret (.inr (.inr ())))

def r44_Few_L2 : Lp := ⟨2, [], [], (.cons (.val false (.list tDeed)) (.cons (.val false (.int .i64)) (ca (ca2 (.cons (.val false (.int .i64)) (ca8 (ca32 (ca32 .nil)))))))), .nil, 0, .more 0 [] (ca4 (.cons (.val false .bool) (ca (ca8 (ca32 (ca32 .nil)))))) .nil (.one 1 [] (.cons (.val false (.list tDeed)) (.cons (.val false (.int .i64)) (ca4 (ca8 (ca32 (ca32 .nil)))))) .nil), fun z => .bnd (.loop (fun v => r44_Few_L2_step z.1.1 z.1.2.1 v) z.1.2.2.2.2.2.1) fun r => .sum r (fun a0 => .ret (.inl ((cu4 (a0, (cu (cu8 (cu32 (cu32 ())))))), ()))) (fun b0 => .ret (.inr ((z.1.1, (z.1.2.1, (cu4 (cu8 (cu32 (cu32 ())))))), ())))⟩

theorem r44_Few_L2_ok : r44_Few_L2.ok Try.prog (nthC (loopsOf (bodyOf Try.f6)) 0) := by
  refine Lp.lift (π := ((List Deed) × Int)) (V := Int) (ρ := (Bool ⊕ Unit)) mix tabOk r44_Few_L2 (o := orT [r06_Few_g] [] noFz) (orT_sound ⟨r06_Few_ok, trivial⟩) (allLp_of [] (by kernel_rfl) trivial rfl) (fun x v => ((x.1, (x.2, (cu (cu2 (v, (cu8 (cu32 (cu32 ())))))))), ())) (fun x r => match r with | .inl a0 => .inl ((cu4 (a0, (cu (cu8 (cu32 (cu32 ())))))), ()) | .inr b0 => (.inr ((x.1, (x.2, (cu4 (cu8 (cu32 (cu32 ())))))), ()))) (fun x v => r44_Few_L2_step x.1 x.2 v) (fun x r => .sum r (fun a0 => .ret (.inl ((cu4 (a0, (cu (cu8 (cu32 (cu32 ())))))), ()))) (fun b0 => .ret (.inr ((x.1, (x.2, (cu4 (cu8 (cu32 (cu32 ())))))), ())))) (fun z => (z.1.1, z.1.2.1)) (fun z => z.1.2.2.2.2.2.1) (fun _ => rfl) (fun _ => rfl) (fun x r Q h => match r, h with | .inl _, h => h | .inr b0, h => (h)) ?_
  intro x v; kernel_rfl

def r44_Few_T (x0 : List Deed) (x1 : Int) : Tree Bool :=
  .bnd (.loop (fun v => r44_Few_L2_step x0 x1 v) 0) fun r1 =>
  .sum r1 (fun r2 =>
    .ret r2) (fun r3 =>
    .ret (decide ((x0.length : Int) ≤ x1)))

def r44_Few_g : Sig := ⟨6, (.cons (.val false (.list tDeed)) (.cons (.val false (.int .i64)) .nil)), .vals (.val false .bool), fun z => r44_Few_T z.1 z.2.1, false⟩

theorem r44_Few_ok : r44_Few_g.ok Try.prog := by
  refine Sig.lift mix tabOk nms _ Try.func6 (c := (bodyOf Try.f6)) (by kernel_rfl) (o := orT [r06_Few_g] [r44_Few_L2] noFz) (orT_sound ⟨r06_Few_ok, trivial⟩) (allLp_of [nthC (loopsOf (bodyOf Try.f6)) 0] (by kernel_rfl) ⟨r44_Few_L2_ok, trivial⟩ (by kernel_rfl)) ?_
  intro z; kernel_rfl

def history_isWrite_T (x0 : Deed) : Tree Bool :=
  .ret ((decide (x0.2.2.2.2.2.2.1.1 = 2)) || (decide (x0.2.2.2.2.2.2.1.1 = 3)))

def history_isWrite_g : Sig := ⟨25, (.cons (.val true tDeed) .nil), .vals (.val false .bool), fun z => history_isWrite_T z.1, false⟩

theorem history_isWrite_ok : history_isWrite_g.ok Try.prog := by
  refine Sig.lift mix tabOk nms _ Try.func25 (c := (bodyOf Try.f25)) (by kernel_rfl) (o := orT [] [] noFz) (orT_sound trivial) (allLp_of [] (by kernel_rfl) trivial rfl) ?_
  intro z; kernel_rfl

def history_isGood_T (x0 : Deed) : Tree Bool :=
  .ret (x0.2.2.2.2.2.2.2.1 && (decide (x0.2.2.2.2.2.2.2.2.1 = 0)))

def history_isGood_g : Sig := ⟨27, (.cons (.val true tDeed) .nil), .vals (.val false .bool), fun z => history_isGood_T z.1, false⟩

theorem history_isGood_ok : history_isGood_g.ok Try.prog := by
  refine Sig.lift mix tabOk nms _ Try.func27 (c := (bodyOf Try.f27)) (by kernel_rfl) (o := orT [] [] noFz) (orT_sound trivial) (allLp_of [] (by kernel_rfl) trivial rfl) ?_
  intro z; kernel_rfl

def name_Join_T (x0 : Str) (x1 : Str) : Tree Str :=
  ask (decide (x0.length + ([47] : Str).length ≤ 9223372036854775807)) <|
  ask (decide ((x0 ++ ([47] : Str)).length + x1.length ≤ 9223372036854775807)) <|
  .ret ((x0 ++ ([47] : Str)) ++ x1)

def name_Join_g : Sig := ⟨52, (.cons (.val false .str) (.cons (.val false .str) .nil)), .vals (.val false .str), fun z => name_Join_T z.1 z.2.1, ([] : Str)⟩

theorem name_Join_ok : name_Join_g.ok Try.prog := by
  refine Sig.lift mix tabOk nms _ Try.func52 (c := (bodyOf Try.f52)) (by kernel_rfl) (o := orT [] [] noFz) (orT_sound trivial) (allLp_of [] (by kernel_rfl) trivial rfl) ?_
  intro z; kernel_rfl

def history_place_T (x0 : Deed) : Tree Str :=
  .bnd (name_Join_T x0.2.2.2.2.2.2.1.2.2.1 x0.2.2.2.2.2.2.1.2.2.2.1) fun y1 =>
  .ret y1

def history_place_g : Sig := ⟨35, (.cons (.val true tDeed) .nil), .vals (.val false .str), fun z => history_place_T z.1, ([] : Str)⟩

theorem history_place_ok : history_place_g.ok Try.prog := by
  refine Sig.lift mix tabOk nms _ Try.func35 (c := (bodyOf Try.f35)) (by kernel_rfl) (o := orT [name_Join_g] [] noFz) (orT_sound ⟨name_Join_ok, trivial⟩) (allLp_of [] (by kernel_rfl) trivial rfl) ?_
  intro z; kernel_rfl

def history_meet_T (x0 : Deed) (x1 : Deed) : Tree Bool :=
  .grd (x0.2.1 == x1.2.1) (history_place_T x0) ([] : Str) fun y1 =>
  .grd (x0.2.1 == x1.2.1) (history_place_T x1) ([] : Str) fun y2 =>
  .ret ((x0.2.1 == x1.2.1) && (y1 == y2))

def history_meet_g : Sig := ⟨26, (.cons (.val true tDeed) (.cons (.val true tDeed) .nil)), .vals (.val false .bool), fun z => history_meet_T z.1 z.2.1, false⟩

theorem history_meet_ok : history_meet_g.ok Try.prog := by
  refine Sig.lift mix tabOk nms _ Try.func26 (c := (bodyOf Try.f26)) (by kernel_rfl) (o := orT [history_place_g] [] noFz) (orT_sound ⟨history_place_ok, trivial⟩) (allLp_of [] (by kernel_rfl) trivial rfl) ?_
  intro z; kernel_rfl

def slices_Index_int_L2_step (s_ : List Int) (v : Int) (t : Int) (t2 : Int) : Tree (Int ⊕ (Int ⊕ Unit)) :=
  .ite (decide (t2 < t)) (
    ask (inb t2 s_.length) <|
    .ite (decide (v = (s_.getD t2.toNat (0 : Int)))) (
      .ret (.inr (.inl t2))) (
      .ret (.inl (w64 (t2 + 1))))) (
    .ret (.inr (.inr ())))

def slices_Index_int_L2 : Lp := ⟨2, [], [], (.cons (.val false (.list (.int .i64))) (.cons (.val false (.int .i64)) (ca (ca4 (.cons (.val false (.int .i64)) (.cons (.val false (.int .i64)) (ca2 (ca8 .nil)))))))), .nil, 0, .more 0 [] (ca4 (.cons (.val false (.int .i64)) (ca2 (ca4 (ca8 .nil))))) .nil (.one 1 [] (ca (ca2 (ca16 .nil))) .nil), fun z => .bnd (.loop (fun v => slices_Index_int_L2_step z.1.1 z.1.2.1 z.1.2.2.2.2.2.2.2.1 v) z.1.2.2.2.2.2.2.2.2.1) fun r => .sum r (fun a0 => .ret (.inl ((cu4 (a0, (cu2 (cu4 (cu8 ()))))), ()))) (fun b0 => .ret (.inr ((cu (cu2 (cu16 ()))), ())))⟩

theorem slices_Index_int_L2_ok : slices_Index_int_L2.ok Try.prog (nthC (loopsOf (bodyOf Try.f67)) 0) := by
  refine Lp.lift (π := ((List Int) × Int × Int)) (V := Int) (ρ := (Int ⊕ Unit)) mix tabOk slices_Index_int_L2 (o := orT [] [] noFz) (orT_sound trivial) (allLp_of [] (by kernel_rfl) trivial rfl) (fun x v => ((x.1, (x.2.1, (cu (cu4 (x.2.2, (v, (cu2 (cu8 ())))))))), ())) (fun x r => match r with | .inl a0 => .inl ((cu4 (a0, (cu2 (cu4 (cu8 ()))))), ()) | .inr b0 => (.inr ((cu (cu2 (cu16 ()))), ()))) (fun x v => slices_Index_int_L2_step x.1 x.2.1 x.2.2 v) (fun x r => .sum r (fun a0 => .ret (.inl ((cu4 (a0, (cu2 (cu4 (cu8 ()))))), ()))) (fun b0 => .ret (.inr ((cu (cu2 (cu16 ()))), ())))) (fun z => (z.1.1, z.1.2.1, z.1.2.2.2.2.2.2.2.1)) (fun z => z.1.2.2.2.2.2.2.2.2.1) (fun _ => rfl) (fun _ => rfl) (fun x r Q h => match r, h with | .inl _, h => h | .inr b0, h => (h)) ?_
  intro x v; kernel_rfl

def slices_Index_int_T (x0 : List Int) (x1 : Int) : Tree Int :=
  .bnd (.loop (fun v => slices_Index_int_L2_step x0 x1 (x0.length : Int) v) 0) fun r1 =>
  .sum r1 (fun r2 =>
    .ret r2) (fun r3 =>
    .ret (-1))

def slices_Index_int_g : Sig := ⟨67, (.cons (.val false (.list (.int .i64))) (.cons (.val false (.int .i64)) .nil)), .vals (.val false (.int .i64)), fun z => slices_Index_int_T z.1 z.2.1, (0 : Int)⟩

theorem slices_Index_int_ok : slices_Index_int_g.ok Try.prog := by
  refine Sig.lift mix tabOk nms _ Try.func67 (c := (bodyOf Try.f67)) (by kernel_rfl) (o := orT [] [slices_Index_int_L2] noFz) (orT_sound trivial) (allLp_of [nthC (loopsOf (bodyOf Try.f67)) 0] (by kernel_rfl) ⟨slices_Index_int_L2_ok, trivial⟩ (by kernel_rfl)) ?_
  intro z; kernel_rfl

def slices_Contains_int_T (x0 : List Int) (x1 : Int) : Tree Bool :=
  .bnd (slices_Index_int_T x0 x1) fun y1 =>
  .ret (decide ((0 : Int) ≤ y1))

def slices_Contains_int_g : Sig := ⟨55, (.cons (.val false (.list (.int .i64))) (.cons (.val false (.int .i64)) .nil)), .vals (.val false .bool), fun z => slices_Contains_int_T z.1 z.2.1, false⟩

theorem slices_Contains_int_ok : slices_Contains_int_g.ok Try.prog := by
  refine Sig.lift mix tabOk nms _ Try.func55 (c := (bodyOf Try.f55)) (by kernel_rfl) (o := orT [slices_Index_int_g] [] noFz) (orT_sound ⟨slices_Index_int_ok, trivial⟩) (allLp_of [] (by kernel_rfl) trivial rfl) ?_
  intro z; kernel_rfl

def dots_Has_1_T (x0 : Seen) (x1 : Dot) : Tree Bool :=
  .grd ((x0.1 == x1.1) && (!((decide ((0 : Int) < x1.2)) && (decide (x1.2 ≤ x0.2.1))))) (slices_Contains_int_T x0.2.2 x1.2) false fun y1 =>
  .ret ((x0.1 == x1.1) && (((decide ((0 : Int) < x1.2)) && (decide (x1.2 ≤ x0.2.1))) || y1))

def dots_Has_1_g : Sig := ⟨54, (.cons (.val true tSeen) (.cons (.ptr tDot) .nil)), .vals (.val false .bool), fun z => dots_Has_1_T z.1 z.2.1, false⟩

theorem dots_Has_1_ok : dots_Has_1_g.ok Try.prog := by
  refine Sig.lift mix tabOk nms _ Try.func54 (c := (bodyOf Try.f54)) (by kernel_rfl) (o := orT [slices_Contains_int_g] [] noFz) (orT_sound ⟨slices_Contains_int_ok, trivial⟩) (allLp_of [] (by kernel_rfl) trivial rfl) ?_
  intro z; kernel_rfl

def slices_IndexFunc_Seen_dots_Has_1_L2_step (s_ : List Seen) (f : Dot) (t : Int) (t2 : Int) : Tree (Int ⊕ (Int ⊕ Unit)) :=
  .ite (decide (t2 < t)) (
    ask (inb t2 s_.length) <|
    .bnd (dots_Has_1_T (s_.getD t2.toNat (dfl tSeen : Seen)) f) fun y1 =>
    .ite y1 (
      .ret (.inr (.inl t2))) (
      .ret (.inl (w64 (t2 + 1))))) (
    .ret (.inr (.inr ())))

def slices_IndexFunc_Seen_dots_Has_1_L2 : Lp := ⟨2, [], [], (.cons (.val false (.list tSeen)) (.cons (.fn 54 .nil (.cons (.ptr tDot) .nil)) (ca (ca4 (.cons (.val false (.int .i64)) (.cons (.val false (.int .i64)) (ca2 (ca8 .nil)))))))), .nil, 0, .more 0 [] (ca4 (.cons (.val false (.int .i64)) (ca2 (ca4 (ca8 .nil))))) .nil (.one 1 [] (ca (ca2 (ca16 .nil))) .nil), fun z => .bnd (.loop (fun v => slices_IndexFunc_Seen_dots_Has_1_L2_step z.1.1 z.1.2.1.2.1 z.1.2.2.2.2.2.2.2.1 v) z.1.2.2.2.2.2.2.2.2.1) fun r => .sum r (fun a0 => .ret (.inl ((cu4 (a0, (cu2 (cu4 (cu8 ()))))), ()))) (fun b0 => .ret (.inr ((cu (cu2 (cu16 ()))), ())))⟩

theorem slices_IndexFunc_Seen_dots_Has_1_L2_ok : slices_IndexFunc_Seen_dots_Has_1_L2.ok Try.prog (nthC (loopsOf (bodyOf Try.f66)) 0) := by
  refine Lp.lift (π := ((List Seen) × Dot × Int)) (V := Int) (ρ := (Int ⊕ Unit)) mix tabOk slices_IndexFunc_Seen_dots_Has_1_L2 (o := orT [dots_Has_1_g] [] noFz) (orT_sound ⟨dots_Has_1_ok, trivial⟩) (allLp_of [] (by kernel_rfl) trivial rfl) (fun x v => ((x.1, (((), (x.2.1, ())), (cu (cu4 (x.2.2, (v, (cu2 (cu8 ())))))))), ())) (fun x r => match r with | .inl a0 => .inl ((cu4 (a0, (cu2 (cu4 (cu8 ()))))), ()) | .inr b0 => (.inr ((cu (cu2 (cu16 ()))), ()))) (fun x v => slices_IndexFunc_Seen_dots_Has_1_L2_step x.1 x.2.1 x.2.2 v) (fun x r => .sum r (fun a0 => .ret (.inl ((cu4 (a0, (cu2 (cu4 (cu8 ()))))), ()))) (fun b0 => .ret (.inr ((cu (cu2 (cu16 ()))), ())))) (fun z => (z.1.1, z.1.2.1.2.1, z.1.2.2.2.2.2.2.2.1)) (fun z => z.1.2.2.2.2.2.2.2.2.1) (fun _ => rfl) (fun _ => rfl) (fun x r Q h => match r, h with | .inl _, h => h | .inr b0, h => (h)) ?_
  intro x v; kernel_rfl

def slices_IndexFunc_Seen_dots_Has_1_T (x0 : List Seen) (x1 : Dot) : Tree Int :=
  .bnd (.loop (fun v => slices_IndexFunc_Seen_dots_Has_1_L2_step x0 x1 (x0.length : Int) v) 0) fun r1 =>
  .sum r1 (fun r2 =>
    .ret r2) (fun r3 =>
    .ret (-1))

def slices_IndexFunc_Seen_dots_Has_1_g : Sig := ⟨66, (.cons (.val false (.list tSeen)) (.cons (.fn 54 .nil (.cons (.ptr tDot) .nil)) .nil)), .vals (.val false (.int .i64)), fun z => slices_IndexFunc_Seen_dots_Has_1_T z.1 z.2.1.2.1, (0 : Int)⟩

theorem slices_IndexFunc_Seen_dots_Has_1_ok : slices_IndexFunc_Seen_dots_Has_1_g.ok Try.prog := by
  refine Sig.lift mix tabOk nms _ Try.func66 (c := (bodyOf Try.f66)) (by kernel_rfl) (o := orT [dots_Has_1_g] [slices_IndexFunc_Seen_dots_Has_1_L2] noFz) (orT_sound ⟨dots_Has_1_ok, trivial⟩) (allLp_of [nthC (loopsOf (bodyOf Try.f66)) 0] (by kernel_rfl) ⟨slices_IndexFunc_Seen_dots_Has_1_L2_ok, trivial⟩ (by kernel_rfl)) ?_
  intro z; kernel_rfl

def slices_ContainsFunc_Seen_dots_Has_1_T (x0 : List Seen) (x1 : Dot) : Tree Bool :=
  .bnd (slices_IndexFunc_Seen_dots_Has_1_T x0 x1) fun y1 =>
  .ret (decide ((0 : Int) ≤ y1))

def slices_ContainsFunc_Seen_dots_Has_1_g : Sig := ⟨53, (.cons (.val false (.list tSeen)) (.cons (.fn 54 .nil (.cons (.ptr tDot) .nil)) .nil)), .vals (.val false .bool), fun z => slices_ContainsFunc_Seen_dots_Has_1_T z.1 z.2.1.2.1, false⟩

theorem slices_ContainsFunc_Seen_dots_Has_1_ok : slices_ContainsFunc_Seen_dots_Has_1_g.ok Try.prog := by
  refine Sig.lift mix tabOk nms _ Try.func53 (c := (bodyOf Try.f53)) (by kernel_rfl) (o := orT [slices_IndexFunc_Seen_dots_Has_1_g] [] noFz) (orT_sound ⟨slices_IndexFunc_Seen_dots_Has_1_ok, trivial⟩) (allLp_of [] (by kernel_rfl) trivial rfl) ?_
  intro z; kernel_rfl

def dots_Has_T (x0 : List Seen) (x1 : Dot) : Tree Bool :=
  .bnd (slices_ContainsFunc_Seen_dots_Has_1_T x0 x1) fun y1 =>
  .ret y1

def dots_Has_g : Sig := ⟨38, (.cons (.val false (.list tSeen)) (.cons (.val true tDot) .nil)), .vals (.val false .bool), fun z => dots_Has_T z.1 z.2.1, false⟩

theorem dots_Has_ok : dots_Has_g.ok Try.prog := by
  refine Sig.lift mix tabOk nms _ Try.func38 (c := (bodyOf Try.f38)) (by kernel_rfl) (o := orT [slices_ContainsFunc_Seen_dots_Has_1_g] [] noFz) (orT_sound ⟨slices_ContainsFunc_Seen_dots_Has_1_ok, trivial⟩) (allLp_of [] (by kernel_rfl) trivial rfl) ?_
  intro z; kernel_rfl

def name_isLetter_T (x0 : Int) : Tree Bool :=
  .ret ((((decide ((97 : Int) ≤ x0)) && (decide (x0 ≤ 122))) || ((decide ((48 : Int) ≤ x0)) && (decide (x0 ≤ 57)))) || (decide (x0 = 45)))

def name_isLetter_g : Sig := ⟨76, (.cons (.val false (.int .i32)) .nil), .vals (.val false .bool), fun z => name_isLetter_T z.1, false⟩

theorem name_isLetter_ok : name_isLetter_g.ok Try.prog := by
  refine Sig.lift mix tabOk nms _ Try.func76 (c := (bodyOf Try.f76)) (by kernel_rfl) (o := orT [] [] noFz) (orT_sound trivial) (allLp_of [] (by kernel_rfl) trivial rfl) ?_
  intro z; kernel_rfl

def name_Is_L4_step (str : Str) (pos : Nat) : Tree (Nat ⊕ (Bool ⊕ Unit)) :=
  .ite (decide ((pos : Int) < (str.length : Int))) (
    ask (decide ((pos : Int) < (str.length : Int))) <|
    .bnd (name_isLetter_T (std.rune str pos)) fun y1 =>
    .ite (!y1) (
      .ret (.inr (.inl false))) (
      .ret (.inl (std.npos str pos)))) (
    .ret (.inr (.inr ())))

def name_Is_L4 : Lp := ⟨4, [], [], (ca (ca4 (ca8 (.cons (.ref 0 0) (ca2 (ca4 .nil)))))), (.siter .nil), 0, .more 0 [] (ca2 (.cons (.val false .bool) (ca (ca16 .nil)))) .nil (.one 1 [] (ca4 (ca16 .nil)) .nil), fun z => .bnd (.loop (fun v => name_Is_L4_step z.2.1.1 v) z.2.1.2) fun r => .sum r (fun a0 => .ret (.inl ((cu2 (a0, (cu (cu16 ())))), ()))) (fun b0 => .ret (.inr ((cu4 (cu16 ())), ())))⟩

theorem name_Is_L4_ok : name_Is_L4.ok Try.prog (nthC (loopsOf (bodyOf Try.f72)) 0) := by
  refine Lp.lift (π := Str) (V := Nat) (ρ := (Bool ⊕ Unit)) mix tabOk name_Is_L4 (o := orT [name_isLetter_g] [] noFz) (orT_sound ⟨name_isLetter_ok, trivial⟩) (allLp_of [] (by kernel_rfl) trivial rfl) (fun x v => ((cu (cu4 (cu8 ((), (cu2 (cu4 ())))))), ((x, v), ()))) (fun x r => match r with | .inl a0 => .inl ((cu2 (a0, (cu (cu16 ())))), ()) | .inr b0 => (.inr ((cu4 (cu16 ())), ()))) (fun x v => name_Is_L4_step x v) (fun x r => .sum r (fun a0 => .ret (.inl ((cu2 (a0, (cu (cu16 ())))), ()))) (fun b0 => .ret (.inr ((cu4 (cu16 ())), ())))) (fun z => z.2.1.1) (fun z => z.2.1.2) (fun _ => rfl) (fun _ => rfl) (fun x r Q h => match r, h with | .inl _, h => h | .inr b0, h => (h)) ?_
  intro x v; kernel_rfl

def name_Is_T (x0 : Str) : Tree Bool :=
  .ite ((x0 == ([] : Str)) || (decide ((16 : Int) < (x0.length : Int)))) (
    .ret false) (
    .bnd (.loop (fun v => name_Is_L4_step x0 v) 0) fun r1 =>
    .sum r1 (fun r2 =>
      .ret r2) (fun r3 =>
      .ret true))

def name_Is_g : Sig := ⟨72, (.cons (.val false .str) .nil), .vals (.val false .bool), fun z => name_Is_T z.1, false⟩

theorem name_Is_ok : name_Is_g.ok Try.prog := by
  refine Sig.lift mix tabOk nms _ Try.func72 (c := (bodyOf Try.f72)) (by kernel_rfl) (o := orT [name_isLetter_g] [name_Is_L4] noFz) (orT_sound ⟨name_isLetter_ok, trivial⟩) (allLp_of [nthC (loopsOf (bodyOf Try.f72)) 0] (by kernel_rfl) ⟨name_Is_L4_ok, trivial⟩ (by kernel_rfl)) ?_
  intro z; kernel_rfl

def dots_isSeen_L5_step (t : List Int) (t2 : Int) (last : Int) (t3 : Int) : Tree ((Int × Int) ⊕ (Bool ⊕ Unit)) :=
  .ite (decide (t3 < t2)) (
    ask (inb t3 t.length) <|
    .ite ((decide ((t.getD t3.toNat (0 : Int)) ≤ last)) || (decide ((9007199254740992 : Int) < (t.getD t3.toNat (0 : Int))))) (
      .ret (.inr (.inl false))) (
      .ret (.inl ((t.getD t3.toNat (0 : Int)), (w64 (t3 + 1)))))) (
    .ret (.inr (.inr ())))

def dots_isSeen_L5 : Lp := ⟨5, [], [], (ca (ca2 (.cons (.val false (.int .i64)) (ca (ca2 (ca4 (ca8 (ca16 (.cons (.val false (.list (.int .i64))) (.cons (.val false (.int .i64)) (.cons (.val false (.int .i64)) (ca4 (ca8 .nil))))))))))))), .nil, 0, .more 0 [] (ca2 (.cons (.val false .bool) (ca (ca2 (ca4 (ca8 (ca32 .nil))))))) .nil (.one 1 [] (ca2 (ca16 (ca32 .nil))) .nil), fun z => .bnd (.loop (fun v => dots_isSeen_L5_step z.1.2.2.2.2.2.2.2.2.2.2.2.2.2.2.2.2.2.2.2.2.2.2.2.2.2.2.2.2.2.2.2.2.2.2.2.1 z.1.2.2.2.2.2.2.2.2.2.2.2.2.2.2.2.2.2.2.2.2.2.2.2.2.2.2.2.2.2.2.2.2.2.2.2.2.1 v.1 v.2) (z.1.2.2.2.1, z.1.2.2.2.2.2.2.2.2.2.2.2.2.2.2.2.2.2.2.2.2.2.2.2.2.2.2.2.2.2.2.2.2.2.2.2.2.2.1)) fun r => .sum r (fun a0 => .ret (.inl ((cu2 (a0, (cu (cu2 (cu4 (cu8 (cu32 ()))))))), ()))) (fun b0 => .ret (.inr ((cu2 (cu16 (cu32 ()))), ())))⟩

theorem dots_isSeen_L5_ok : dots_isSeen_L5.ok Try.prog (nthC (loopsOf (bodyOf Try.f68)) 0) := by
  refine Lp.lift (π := ((List Int) × Int)) (V := (Int × Int)) (ρ := (Bool ⊕ Unit)) mix tabOk dots_isSeen_L5 (o := orT [name_Is_g] [] noFz) (orT_sound ⟨name_Is_ok, trivial⟩) (allLp_of [] (by kernel_rfl) trivial rfl) (fun x v => ((cu (cu2 (v.1, (cu (cu2 (cu4 (cu8 (cu16 (x.1, (x.2, (v.2, (cu4 (cu8 ()))))))))))))), ())) (fun x r => match r with | .inl a0 => .inl ((cu2 (a0, (cu (cu2 (cu4 (cu8 (cu32 ()))))))), ()) | .inr b0 => (.inr ((cu2 (cu16 (cu32 ()))), ()))) (fun x v => dots_isSeen_L5_step x.1 x.2 v.1 v.2) (fun x r => .sum r (fun a0 => .ret (.inl ((cu2 (a0, (cu (cu2 (cu4 (cu8 (cu32 ()))))))), ()))) (fun b0 => .ret (.inr ((cu2 (cu16 (cu32 ()))), ())))) (fun z => (z.1.2.2.2.2.2.2.2.2.2.2.2.2.2.2.2.2.2.2.2.2.2.2.2.2.2.2.2.2.2.2.2.2.2.2.2.1, z.1.2.2.2.2.2.2.2.2.2.2.2.2.2.2.2.2.2.2.2.2.2.2.2.2.2.2.2.2.2.2.2.2.2.2.2.2.1)) (fun z => (z.1.2.2.2.1, z.1.2.2.2.2.2.2.2.2.2.2.2.2.2.2.2.2.2.2.2.2.2.2.2.2.2.2.2.2.2.2.2.2.2.2.2.2.2.1)) (fun _ => rfl) (fun _ => rfl) (fun x r Q h => match r, h with | .inl _, h => h | .inr b0, h => (h)) ?_
  intro x v; kernel_rfl

def dots_isSeen_T (x0 : Seen) : Tree Bool :=
  .bnd (name_Is_T x0.1) fun y1 =>
  .ite ((((!y1) || (decide (x0.2.1 < 0))) || (decide ((9007199254740992 : Int) < x0.2.1))) || ((decide (x0.2.1 = 0)) && (decide ((x0.2.2.length : Int) = 0)))) (
    .ret false) (
    .bnd (.loop (fun v => dots_isSeen_L5_step x0.2.2 (x0.2.2.length : Int) v.1 v.2) ((w64 (x0.2.1 + 1)), 0)) fun r2 =>
    .sum r2 (fun r3 =>
      .ret r3) (fun r4 =>
      .ret true))

def dots_isSeen_g : Sig := ⟨68, (.cons (.val true tSeen) .nil), .vals (.val false .bool), fun z => dots_isSeen_T z.1, false⟩

theorem dots_isSeen_ok : dots_isSeen_g.ok Try.prog := by
  refine Sig.lift mix tabOk nms _ Try.func68 (c := (bodyOf Try.f68)) (by kernel_rfl) (o := orT [name_Is_g] [dots_isSeen_L5] noFz) (orT_sound ⟨name_Is_ok, trivial⟩) (allLp_of [nthC (loopsOf (bodyOf Try.f68)) 0] (by kernel_rfl) ⟨dots_isSeen_L5_ok, trivial⟩ (by kernel_rfl)) ?_
  intro z; kernel_rfl

def dots_Check_L3_step (c : List Seen) (t : List Seen) (t2 : Int) (room : Int) (t3 : Int) : Tree ((Int × Int) ⊕ (Int ⊕ Unit)) :=
  .ite (decide (t3 < t2)) (
    ask (inb t3 t.length) <|
    .bnd (dots_isSeen_T (t.getD t3.toNat (dfl tSeen : Seen))) fun y1 =>
    ask ((!((!(!y1)) && (decide ((0 : Int) < t3)))) || inb (w64 (t3 - 1)) c.length) <|
    .ite (((!y1) || ((decide ((0 : Int) < t3)) && (!ltS (c.getD ((w64 (t3 - 1)).toNat) (dfl tSeen : Seen)).1 (t.getD t3.toNat (dfl tSeen : Seen)).1))) || (decide (room < ((t.getD t3.toNat (dfl tSeen : Seen)).2.2.length : Int)))) (
      .ret (.inr (.inl 1))) (
      .ret (.inl ((w64 (room - ((t.getD t3.toNat (dfl tSeen : Seen)).2.2.length : Int))), (w64 (t3 + 1)))))) (
    .ret (.inr (.inr ())))

def dots_Check_L3 : Lp := ⟨3, [], [], (.cons (.val false (.list tSeen)) (ca2 (.cons (.val false (.int .i64)) (ca2 (.cons (.val false (.list tSeen)) (.cons (.val false (.int .i64)) (.cons (.val false (.int .i64)) (ca (ca2 (ca32 .nil)))))))))), .nil, 0, .more 0 [] (ca2 (.cons (.val false (.int .i64)) (ca (ca8 (ca32 .nil))))) .nil (.one 1 [] (ca4 (ca8 (ca32 .nil))) .nil), fun z => .bnd (.loop (fun v => dots_Check_L3_step z.1.1 z.1.2.2.2.2.2.2.1 z.1.2.2.2.2.2.2.2.1 v.1 v.2) (z.1.2.2.2.1, z.1.2.2.2.2.2.2.2.2.1)) fun r => .sum r (fun a0 => .ret (.inl ((cu2 (a0, (cu (cu8 (cu32 ()))))), ()))) (fun b0 => .ret (.inr ((cu4 (cu8 (cu32 ()))), ())))⟩

theorem dots_Check_L3_ok : dots_Check_L3.ok Try.prog (nthC (loopsOf (bodyOf Try.f58)) 0) := by
  refine Lp.lift (π := ((List Seen) × (List Seen) × Int)) (V := (Int × Int)) (ρ := (Int ⊕ Unit)) mix tabOk dots_Check_L3 (o := orT [dots_isSeen_g] [] noFz) (orT_sound ⟨dots_isSeen_ok, trivial⟩) (allLp_of [] (by kernel_rfl) trivial rfl) (fun x v => ((x.1, (cu2 (v.1, (cu2 (x.2.1, (x.2.2, (v.2, (cu (cu2 (cu32 ())))))))))), ())) (fun x r => match r with | .inl a0 => .inl ((cu2 (a0, (cu (cu8 (cu32 ()))))), ()) | .inr b0 => (.inr ((cu4 (cu8 (cu32 ()))), ()))) (fun x v => dots_Check_L3_step x.1 x.2.1 x.2.2 v.1 v.2) (fun x r => .sum r (fun a0 => .ret (.inl ((cu2 (a0, (cu (cu8 (cu32 ()))))), ()))) (fun b0 => .ret (.inr ((cu4 (cu8 (cu32 ()))), ())))) (fun z => (z.1.1, z.1.2.2.2.2.2.2.1, z.1.2.2.2.2.2.2.2.1)) (fun z => (z.1.2.2.2.1, z.1.2.2.2.2.2.2.2.2.1)) (fun _ => rfl) (fun _ => rfl) (fun x r Q h => match r, h with | .inl _, h => h | .inr b0, h => (h)) ?_
  intro x v; kernel_rfl

def dots_Check_T (x0 : List Seen) : Tree Int :=
  .bnd (.loop (fun v => dots_Check_L3_step x0 x0 (x0.length : Int) v.1 v.2) (4096, 0)) fun r1 =>
  .sum r1 (fun r2 =>
    .ret r2) (fun r3 =>
    .ret 0)

def dots_Check_g : Sig := ⟨58, (.cons (.val false (.list tSeen)) .nil), .vals (.val false (.int .i64)), fun z => dots_Check_T z.1, (0 : Int)⟩

theorem dots_Check_ok : dots_Check_g.ok Try.prog := by
  refine Sig.lift mix tabOk nms _ Try.func58 (c := (bodyOf Try.f58)) (by kernel_rfl) (o := orT [dots_isSeen_g] [dots_Check_L3] noFz) (orT_sound ⟨dots_isSeen_ok, trivial⟩) (allLp_of [nthC (loopsOf (bodyOf Try.f58)) 0] (by kernel_rfl) ⟨dots_Check_L3_ok, trivial⟩ (by kernel_rfl)) ?_
  intro z; kernel_rfl

def cmpstring_T (x0 : Str) (x1 : Str) : Tree Int :=
  .ret (Lib.compareBytes x0 x1)

def cmpstring_g : Sig := ⟨78, (.cons (.val false .str) (.cons (.val false .str) .nil)), .vals (.val false (.int .i64)), fun z => cmpstring_T z.1 z.2.1, (0 : Int)⟩

theorem cmpstring_ok : cmpstring_g.ok Try.prog := by
  intro x y h
  cases h
  exact ACalls.cmpstring Try.func78 (by decide) rfl rfl rfl _ _

def bytealg_CompareString_T (x0 : Str) (x1 : Str) : Tree Int :=
  .bnd (cmpstring_T x0 x1) fun y1 =>
  .ret y1

def bytealg_CompareString_g : Sig := ⟨77, (.cons (.val false .str) (.cons (.val false .str) .nil)), .vals (.val false (.int .i64)), fun z => bytealg_CompareString_T z.1 z.2.1, (0 : Int)⟩

theorem bytealg_CompareString_ok : bytealg_CompareString_g.ok Try.prog := by
  refine Sig.lift mix tabOk nms _ Try.func77 (c := (bodyOf Try.f77)) (by kernel_rfl) (o := orT [cmpstring_g] [] noFz) (orT_sound ⟨cmpstring_ok, trivial⟩) (allLp_of [] (by kernel_rfl) trivial rfl) ?_
  intro z; kernel_rfl

def strings_Compare_T (x0 : Str) (x1 : Str) : Tree Int :=
  .bnd (bytealg_CompareString_T x0 x1) fun y1 =>
  .ret y1

def strings_Compare_g : Sig := ⟨75, (.cons (.val false .str) (.cons (.val false .str) .nil)), .vals (.val false (.int .i64)), fun z => strings_Compare_T z.1 z.2.1, (0 : Int)⟩

theorem strings_Compare_ok : strings_Compare_g.ok Try.prog := by
  refine Sig.lift mix tabOk nms _ Try.func75 (c := (bodyOf Try.f75)) (by kernel_rfl) (o := orT [bytealg_CompareString_g] [] noFz) (orT_sound ⟨bytealg_CompareString_ok, trivial⟩) (allLp_of [] (by kernel_rfl) trivial rfl) ?_
  intro z; kernel_rfl

def dots_place_1_T (x0 : Seen) (x1 : Str) : Tree Int :=
  .bnd (strings_Compare_T x0.1 x1) fun y1 =>
  .ret y1

def dots_place_1_g : Sig := ⟨74, (.cons (.val true tSeen) (.cons (.val false .str) .nil)), .vals (.val false (.int .i64)), fun z => dots_place_1_T z.1 z.2.1, (0 : Int)⟩

theorem dots_place_1_ok : dots_place_1_g.ok Try.prog := by
  refine Sig.lift mix tabOk nms _ Try.func74 (c := (bodyOf Try.f74)) (by kernel_rfl) (o := orT [strings_Compare_g] [] noFz) (orT_sound ⟨strings_Compare_ok, trivial⟩) (allLp_of [] (by kernel_rfl) trivial rfl) ?_
  intro z; kernel_rfl

def slices_BinarySearchFunc_string_dots_place_1_L3_step (x_ : List Seen) (target : Str) (n : Int) (i : Int) (j : Int) : Tree ((Int × Int) ⊕ Int) :=
  .ite (decide (i < j)) (
    ask (decide ((0 : Int) ≤ 1)) <|
    ask (inb (w64 ((stdShift .shr .u64 (IntKind.wrap .u64 ((w64 (i + j)))) 1))) x_.length) <|
    .bnd (dots_place_1_T (x_.getD ((w64 ((stdShift .shr .u64 (IntKind.wrap .u64 ((w64 (i + j)))) 1))).toNat) (dfl tSeen : Seen)) target) fun y1 =>
    .ite (decide (y1 < 0)) (
      .ret (.inl ((w64 ((w64 ((stdShift .shr .u64 (IntKind.wrap .u64 ((w64 (i + j)))) 1))) + 1)), j))) (
      .ret (.inl (i, (w64 ((stdShift .shr .u64 (IntKind.wrap .u64 ((w64 (i + j)))) 1))))))) (
    .ret (.inr i))

def slices_BinarySearchFunc_string_dots_place_1_L3 : Lp := ⟨3, [], [], (.cons (.val false (.list tSeen)) (.cons (.val false .str) (.cons (.fn 74 .nil .nil) (ca (ca4 (.cons (.val false (.int .i64)) (.cons (.val false (.int .i64)) (.cons (.val false (.int .i64)) (ca2 (ca4 (ca32 .nil))))))))))), .nil, 0, .one 1 [] (.cons (.val false (.list tSeen)) (.cons (.val false .str) (.cons (.fn 74 .nil .nil) (ca (ca4 (.cons (.val false (.int .i64)) (.cons (.val false (.int .i64)) (ca (ca2 (ca4 (ca32 .nil))))))))))) .nil, fun z => .bnd (.loop (fun v => slices_BinarySearchFunc_string_dots_place_1_L3_step z.1.1 z.1.2.1 z.1.2.2.2.2.2.2.2.2.1 v.1 v.2) (z.1.2.2.2.2.2.2.2.2.2.1, z.1.2.2.2.2.2.2.2.2.2.2.1)) fun r => .ret ((z.1.1, (z.1.2.1, (((), ()), (cu (cu4 (z.1.2.2.2.2.2.2.2.2.1, (r, (cu (cu2 (cu4 (cu32 ()))))))))))), ())⟩

theorem slices_BinarySearchFunc_string_dots_place_1_L3_ok : slices_BinarySearchFunc_string_dots_place_1_L3.ok Try.prog (nthC (loopsOf (bodyOf Try.f73)) 0) := by
  refine Lp.lift (π := ((List Seen) × Str × Int)) (V := (Int × Int)) (ρ := Int) mix tabOk slices_BinarySearchFunc_string_dots_place_1_L3 (o := orT [dots_place_1_g] [] noFz) (orT_sound ⟨dots_place_1_ok, trivial⟩) (allLp_of [] (by kernel_rfl) trivial rfl) (fun x v => ((x.1, (x.2.1, (((), ()), (cu (cu4 (x.2.2, (v.1, (v.2, (cu2 (cu4 (cu32 ()))))))))))), ())) (fun x r => ((x.1, (x.2.1, (((), ()), (cu (cu4 (x.2.2, (r, (cu (cu2 (cu4 (cu32 ()))))))))))), ())) (fun x v => slices_BinarySearchFunc_string_dots_place_1_L3_step x.1 x.2.1 x.2.2 v.1 v.2) (fun x r => .ret ((x.1, (x.2.1, (((), ()), (cu (cu4 (x.2.2, (r, (cu (cu2 (cu4 (cu32 ()))))))))))), ())) (fun z => (z.1.1, z.1.2.1, z.1.2.2.2.2.2.2.2.2.1)) (fun z => (z.1.2.2.2.2.2.2.2.2.2.1, z.1.2.2.2.2.2.2.2.2.2.2.1)) (fun _ => rfl) (fun _ => rfl) (fun _ _ _ h => h) ?_
  intro x v; kernel_rfl

def slices_BinarySearchFunc_string_dots_place_1_T (x0 : List Seen) (x1 : Str) : Tree (Int × Bool × Unit) :=
  .bnd (.loop (fun v => slices_BinarySearchFunc_string_dots_place_1_L3_step x0 x1 (x0.length : Int) v.1 v.2) (0, (x0.length : Int))) fun r1 =>
  ask ((!(decide (r1 < (x0.length : Int)))) || inb r1 x0.length) <|
  .grd (decide (r1 < (x0.length : Int))) (dots_place_1_T (x0.getD r1.toNat (dfl tSeen : Seen)) x1) (0 : Int) fun y2 =>
  .ret (r1, ((decide (r1 < (x0.length : Int))) && (decide (y2 = 0))), ())

def slices_BinarySearchFunc_string_dots_place_1_g : Sig := ⟨73, (.cons (.val false (.list tSeen)) (.cons (.val false .str) (.cons (.fn 74 .nil .nil) .nil))), .vals (.cons (.val false (.int .i64)) (.cons (.val false .bool) .nil)), fun z => slices_BinarySearchFunc_string_dots_place_1_T z.1 z.2.1, ((0 : Int), false, ())⟩

theorem slices_BinarySearchFunc_string_dots_place_1_ok : slices_BinarySearchFunc_string_dots_place_1_g.ok Try.prog := by
  refine Sig.lift mix tabOk nms _ Try.func73 (c := (bodyOf Try.f73)) (by kernel_rfl) (o := orT [dots_place_1_g] [slices_BinarySearchFunc_string_dots_place_1_L3] noFz) (orT_sound ⟨dots_place_1_ok, trivial⟩) (allLp_of [nthC (loopsOf (bodyOf Try.f73)) 0] (by kernel_rfl) ⟨slices_BinarySearchFunc_string_dots_place_1_L3_ok, trivial⟩ (by kernel_rfl)) ?_
  intro z; kernel_rfl

def dots_place_T (x0 : List Seen) (x1 : Str) : Tree (Int × Bool × Unit) :=
  .bnd (slices_BinarySearchFunc_string_dots_place_1_T x0 x1) fun y1 =>
  .ret (y1.1, y1.2.1, ())

def dots_place_g : Sig := ⟨69, (.cons (.val false (.list tSeen)) (.cons (.val false .str) .nil)), .vals (.cons (.val false (.int .i64)) (.cons (.val false .bool) .nil)), fun z => dots_place_T z.1 z.2.1, ((0 : Int), false, ())⟩

theorem dots_place_ok : dots_place_g.ok Try.prog := by
  refine Sig.lift mix tabOk nms _ Try.func69 (c := (bodyOf Try.f69)) (by kernel_rfl) (o := orT [slices_BinarySearchFunc_string_dots_place_1_g] [] noFz) (orT_sound ⟨slices_BinarySearchFunc_string_dots_place_1_ok, trivial⟩) (allLp_of [] (by kernel_rfl) trivial rfl) ?_
  intro z; kernel_rfl

def dots_of_T (x0 : List Seen) (x1 : Str) : Tree Seen :=
  .bnd (dots_place_T x0 x1) fun y1 =>
  .ite (!y1.2.1) (
    .ret (x1, (0, []))) (
    ask (inb y1.1 x0.length) <|
    .ret (x0.getD y1.1.toNat (dfl tSeen : Seen)))

def dots_of_g : Sig := ⟨59, (.cons (.val false (.list tSeen)) (.cons (.val false .str) .nil)), .vals (.val true tSeen), fun z => dots_of_T z.1 z.2.1, (dfl tSeen : Seen)⟩

theorem dots_of_ok : dots_of_g.ok Try.prog := by
  refine Sig.lift mix tabOk nms _ Try.func59 (c := (bodyOf Try.f59)) (by kernel_rfl) (o := orT [dots_place_g] [] noFz) (orT_sound ⟨dots_place_ok, trivial⟩) (allLp_of [] (by kernel_rfl) trivial rfl) ?_
  intro z; kernel_rfl

def dots_Covers_1_T (x0 : Int) (x1 : Seen) : Tree Bool :=
  .grd (!(decide (x0 ≤ x1.2.1))) (slices_Contains_int_T x1.2.2 x0) false fun y1 =>
  .ret ((decide (x0 ≤ x1.2.1)) || y1)

def dots_Covers_1_g : Sig := ⟨60, (.cons (.val false (.int .i64)) (.cons (.ptr tSeen) .nil)), .vals (.val false .bool), fun z => dots_Covers_1_T z.1 z.2.1, false⟩

theorem dots_Covers_1_ok : dots_Covers_1_g.ok Try.prog := by
  refine Sig.lift mix tabOk nms _ Try.func60 (c := (bodyOf Try.f60)) (by kernel_rfl) (o := orT [slices_Contains_int_g] [] noFz) (orT_sound ⟨slices_Contains_int_ok, trivial⟩) (allLp_of [] (by kernel_rfl) trivial rfl) ?_
  intro z; kernel_rfl

def dots_Covers_2_T (x0 : Int) (x1 : Seen) : Tree Bool :=
  .bnd (dots_Covers_1_T x0 x1) fun y1 =>
  .ret (!y1)

def dots_Covers_2_g : Sig := ⟨62, (.cons (.val false (.int .i64)) (.cons (.cp (.cons (.fn 60 .nil (.cons (.ptr tSeen) .nil)) .nil)) .nil)), .vals (.val false .bool), fun z => dots_Covers_2_T z.1 z.2.1.1.2.1, false⟩

theorem dots_Covers_2_ok : dots_Covers_2_g.ok Try.prog := by
  refine Sig.lift mix tabOk nms _ Try.func62 (c := (bodyOf Try.f62)) (by kernel_rfl) (o := orT [dots_Covers_1_g] [] noFz) (orT_sound ⟨dots_Covers_1_ok, trivial⟩) (allLp_of [] (by kernel_rfl) trivial rfl) ?_
  intro z; kernel_rfl

def slices_IndexFunc_int_dots_Covers_2_L2_step (s_ : List Int) (f : Seen) (t : Int) (t2 : Int) : Tree (Int ⊕ (Int ⊕ Unit)) :=
  .ite (decide (t2 < t)) (
    ask (inb t2 s_.length) <|
    .bnd (dots_Covers_2_T (s_.getD t2.toNat (0 : Int)) f) fun y1 =>
    .ite y1 (
      .ret (.inr (.inl t2))) (
      .ret (.inl (w64 (t2 + 1))))) (
    .ret (.inr (.inr ())))

def slices_IndexFunc_int_dots_Covers_2_L2 : Lp := ⟨2, [], [], (.cons (.val false (.list (.int .i64))) (.cons (.fn 62 .nil (.cons (.cp (.cons (.fn 60 .nil (.cons (.ptr tSeen) .nil)) .nil)) .nil)) (ca (ca4 (.cons (.val false (.int .i64)) (.cons (.val false (.int .i64)) (ca2 (ca8 .nil)))))))), .nil, 0, .more 0 [] (ca4 (.cons (.val false (.int .i64)) (ca2 (ca4 (ca8 .nil))))) .nil (.one 1 [] (ca (ca2 (ca16 .nil))) .nil), fun z => .bnd (.loop (fun v => slices_IndexFunc_int_dots_Covers_2_L2_step z.1.1 z.1.2.1.2.1.1.2.1 z.1.2.2.2.2.2.2.2.1 v) z.1.2.2.2.2.2.2.2.2.1) fun r => .sum r (fun a0 => .ret (.inl ((cu4 (a0, (cu2 (cu4 (cu8 ()))))), ()))) (fun b0 => .ret (.inr ((cu (cu2 (cu16 ()))), ())))⟩

theorem slices_IndexFunc_int_dots_Covers_2_L2_ok : slices_IndexFunc_int_dots_Covers_2_L2.ok Try.prog (nthC (loopsOf (bodyOf Try.f70)) 0) := by
  refine Lp.lift (π := ((List Int) × Seen × Int)) (V := Int) (ρ := (Int ⊕ Unit)) mix tabOk slices_IndexFunc_int_dots_Covers_2_L2 (o := orT [dots_Covers_2_g] [] noFz) (orT_sound ⟨dots_Covers_2_ok, trivial⟩) (allLp_of [] (by kernel_rfl) trivial rfl) (fun x v => ((x.1, (((), ((((), (x.2.1, ())), ()), ())), (cu (cu4 (x.2.2, (v, (cu2 (cu8 ())))))))), ())) (fun x r => match r with | .inl a0 => .inl ((cu4 (a0, (cu2 (cu4 (cu8 ()))))), ()) | .inr b0 => (.inr ((cu (cu2 (cu16 ()))), ()))) (fun x v => slices_IndexFunc_int_dots_Covers_2_L2_step x.1 x.2.1 x.2.2 v) (fun x r => .sum r (fun a0 => .ret (.inl ((cu4 (a0, (cu2 (cu4 (cu8 ()))))), ()))) (fun b0 => .ret (.inr ((cu (cu2 (cu16 ()))), ())))) (fun z => (z.1.1, z.1.2.1.2.1.1.2.1, z.1.2.2.2.2.2.2.2.1)) (fun z => z.1.2.2.2.2.2.2.2.2.1) (fun _ => rfl) (fun _ => rfl) (fun x r Q h => match r, h with | .inl _, h => h | .inr b0, h => (h)) ?_
  intro x v; kernel_rfl

def slices_IndexFunc_int_dots_Covers_2_T (x0 : List Int) (x1 : Seen) : Tree Int :=
  .bnd (.loop (fun v => slices_IndexFunc_int_dots_Covers_2_L2_step x0 x1 (x0.length : Int) v) 0) fun r1 =>
  .sum r1 (fun r2 =>
    .ret r2) (fun r3 =>
    .ret (-1))

def slices_IndexFunc_int_dots_Covers_2_g : Sig := ⟨70, (.cons (.val false (.list (.int .i64))) (.cons (.fn 62 .nil (.cons (.cp (.cons (.fn 60 .nil (.cons (.ptr tSeen) .nil)) .nil)) .nil)) .nil)), .vals (.val false (.int .i64)), fun z => slices_IndexFunc_int_dots_Covers_2_T z.1 z.2.1.2.1.1.2.1, (0 : Int)⟩

theorem slices_IndexFunc_int_dots_Covers_2_ok : slices_IndexFunc_int_dots_Covers_2_g.ok Try.prog := by
  refine Sig.lift mix tabOk nms _ Try.func70 (c := (bodyOf Try.f70)) (by kernel_rfl) (o := orT [dots_Covers_2_g] [slices_IndexFunc_int_dots_Covers_2_L2] noFz) (orT_sound ⟨dots_Covers_2_ok, trivial⟩) (allLp_of [nthC (loopsOf (bodyOf Try.f70)) 0] (by kernel_rfl) ⟨slices_IndexFunc_int_dots_Covers_2_L2_ok, trivial⟩ (by kernel_rfl)) ?_
  intro z; kernel_rfl

def slices_ContainsFunc_int_dots_Covers_2_T (x0 : List Int) (x1 : Seen) : Tree Bool :=
  .bnd (slices_IndexFunc_int_dots_Covers_2_T x0 x1) fun y1 =>
  .ret (decide ((0 : Int) ≤ y1))

def slices_ContainsFunc_int_dots_Covers_2_g : Sig := ⟨61, (.cons (.val false (.list (.int .i64))) (.cons (.fn 62 .nil (.cons (.cp (.cons (.fn 60 .nil (.cons (.ptr tSeen) .nil)) .nil)) .nil)) .nil)), .vals (.val false .bool), fun z => slices_ContainsFunc_int_dots_Covers_2_T z.1 z.2.1.2.1.1.2.1, false⟩

theorem slices_ContainsFunc_int_dots_Covers_2_ok : slices_ContainsFunc_int_dots_Covers_2_g.ok Try.prog := by
  refine Sig.lift mix tabOk nms _ Try.func61 (c := (bodyOf Try.f61)) (by kernel_rfl) (o := orT [slices_IndexFunc_int_dots_Covers_2_g] [] noFz) (orT_sound ⟨slices_IndexFunc_int_dots_Covers_2_ok, trivial⟩) (allLp_of [] (by kernel_rfl) trivial rfl) ?_
  intro z; kernel_rfl

def dots_Covers_L4_step (a : List Seen) (t : List Seen) (t2 : Int) (t3 : Int) : Tree (Int ⊕ (Bool ⊕ Unit)) :=
  .ite (decide (t3 < t2)) (
    ask (inb t3 t.length) <|
    .bnd (dots_of_T a (t.getD t3.toNat (dfl tSeen : Seen)).1) fun y1 =>
    .grd (!(decide (y1.2.1 < (t.getD t3.toNat (dfl tSeen : Seen)).2.1))) (slices_ContainsFunc_int_dots_Covers_2_T (t.getD t3.toNat (dfl tSeen : Seen)).2.2 y1) false fun y2 =>
    .ite ((decide (y1.2.1 < (t.getD t3.toNat (dfl tSeen : Seen)).2.1)) || y2) (
      .ret (.inr (.inl false))) (
      .ret (.inl (w64 (t3 + 1))))) (
    .ret (.inr (.inr ())))

def dots_Covers_L4 : Lp := ⟨4, [], [], (.cons (.val false (.list tSeen)) (ca16 (.cons (.val false (.list tSeen)) (.cons (.val false (.int .i64)) (.cons (.val false (.int .i64)) (ca4 (ca16 .nil))))))), .nil, 0, .more 0 [] (ca4 (.cons (.val false .bool) (ca (ca2 (ca32 .nil))))) .nil (.one 1 [] (ca8 (ca32 .nil)) .nil), fun z => .bnd (.loop (fun v => dots_Covers_L4_step z.1.1 z.1.2.2.2.2.2.2.2.2.2.2.2.2.2.2.2.2.2.1 z.1.2.2.2.2.2.2.2.2.2.2.2.2.2.2.2.2.2.2.1 v) z.1.2.2.2.2.2.2.2.2.2.2.2.2.2.2.2.2.2.2.2.1) fun r => .sum r (fun a0 => .ret (.inl ((cu4 (a0, (cu (cu2 (cu32 ()))))), ()))) (fun b0 => .ret (.inr ((cu8 (cu32 ())), ())))⟩

theorem dots_Covers_L4_ok : dots_Covers_L4.ok Try.prog (nthC (loopsOf (bodyOf Try.f46)) 0) := by
  refine Lp.lift (π := ((List Seen) × (List Seen) × Int)) (V := Int) (ρ := (Bool ⊕ Unit)) mix tabOk dots_Covers_L4 (o := orT [dots_Check_g, dots_of_g, slices_ContainsFunc_int_dots_Covers_2_g] [] noFz) (orT_sound ⟨dots_Check_ok, ⟨dots_of_ok, ⟨slices_ContainsFunc_int_dots_Covers_2_ok, trivial⟩⟩⟩) (allLp_of [] (by kernel_rfl) trivial rfl) (fun x v => ((x.1, (cu16 (x.2.1, (x.2.2, (v, (cu4 (cu16 ()))))))), ())) (fun x r => match r with | .inl a0 => .inl ((cu4 (a0, (cu (cu2 (cu32 ()))))), ()) | .inr b0 => (.inr ((cu8 (cu32 ())), ()))) (fun x v => dots_Covers_L4_step x.1 x.2.1 x.2.2 v) (fun x r => .sum r (fun a0 => .ret (.inl ((cu4 (a0, (cu (cu2 (cu32 ()))))), ()))) (fun b0 => .ret (.inr ((cu8 (cu32 ())), ())))) (fun z => (z.1.1, z.1.2.2.2.2.2.2.2.2.2.2.2.2.2.2.2.2.2.1, z.1.2.2.2.2.2.2.2.2.2.2.2.2.2.2.2.2.2.2.1)) (fun z => z.1.2.2.2.2.2.2.2.2.2.2.2.2.2.2.2.2.2.2.2.1) (fun _ => rfl) (fun _ => rfl) (fun x r Q h => match r, h with | .inl _, h => h | .inr b0, h => (h)) ?_
  intro x v; kernel_rfl

def dots_Covers_T (x0 : List Seen) (x1 : List Seen) : Tree Bool :=
  .bnd (dots_Check_T x0) fun y1 =>
  .grd (!(!decide (y1 = 0))) (dots_Check_T x1) (0 : Int) fun y2 =>
  .ite ((!decide (y1 = 0)) || (!decide (y2 = 0))) (
    .ret false) (
    .bnd (.loop (fun v => dots_Covers_L4_step x0 x1 (x1.length : Int) v) 0) fun r3 =>
    .sum r3 (fun r4 =>
      .ret r4) (fun r5 =>
      .ret true))

def dots_Covers_g : Sig := ⟨46, (.cons (.val false (.list tSeen)) (.cons (.val false (.list tSeen)) .nil)), .vals (.val false .bool), fun z => dots_Covers_T z.1 z.2.1, false⟩

theorem dots_Covers_ok : dots_Covers_g.ok Try.prog := by
  refine Sig.lift mix tabOk nms _ Try.func46 (c := (bodyOf Try.f46)) (by kernel_rfl) (o := orT [dots_Check_g, dots_of_g, slices_ContainsFunc_int_dots_Covers_2_g] [dots_Covers_L4] noFz) (orT_sound ⟨dots_Check_ok, ⟨dots_of_ok, ⟨slices_ContainsFunc_int_dots_Covers_2_ok, trivial⟩⟩⟩) (allLp_of [nthC (loopsOf (bodyOf Try.f46)) 0] (by kernel_rfl) ⟨dots_Covers_L4_ok, trivial⟩ (by kernel_rfl)) ?_
  intro z; kernel_rfl

def history_Closed_1_1_T (x0 : Deed) (x1 : Deed) : Tree Bool :=
  .bnd (dots_Has_T x1.2.2.2.2.2.2.1.2.2.2.2.2.1 x0.2.2.2.2.2.2.2.2.2.2.2.2) fun y1 =>
  .grd y1 (dots_Covers_T x1.2.2.2.2.2.2.1.2.2.2.2.2.1 x0.2.2.2.2.2.2.1.2.2.2.2.2.1) false fun y2 =>
  .ret (y1 && (!y2))

def history_Closed_1_1_g : Sig := ⟨45, (.cons (.val true tDeed) (.cons (.ptr tDeed) .nil)), .vals (.val false .bool), fun z => history_Closed_1_1_T z.1 z.2.1, false⟩

theorem history_Closed_1_1_ok : history_Closed_1_1_g.ok Try.prog := by
  refine Sig.lift mix tabOk nms _ Try.func45 (c := (bodyOf Try.f45)) (by kernel_rfl) (o := orT [dots_Has_g, dots_Covers_g] [] noFz) (orT_sound ⟨dots_Has_ok, ⟨dots_Covers_ok, trivial⟩⟩) (allLp_of [] (by kernel_rfl) trivial rfl) ?_
  intro z; kernel_rfl

def history_wrote_1_T (x0 : Deed) (x1 : Deed) (x2 : Deed) : Tree Bool :=
  .bnd (history_isWrite_T x0) fun y1 =>
  .grd y1 (history_isGood_T x0) false fun y2 =>
  .grd (y1 && y2) (history_meet_T x0 x1) false fun y3 =>
  .grd ((y1 && y2) && y3) (history_Closed_1_1_T x0 x2) false fun y4 =>
  .ret (((y1 && y2) && y3) && y4)

def history_wrote_1_g : Sig := ⟨56, (.cons (.val true tDeed) (.cons (.ptr tDeed) (.cons (.cp (.cons (.fn 45 .nil (.cons (.ptr tDeed) .nil)) .nil)) .nil))), .vals (.val false .bool), fun z => history_wrote_1_T z.1 z.2.1 z.2.2.1.1.2.1, false⟩

theorem history_wrote_1_ok : history_wrote_1_g.ok Try.prog := by
  refine Sig.lift mix tabOk nms _ Try.func56 (c := (bodyOf Try.f56)) (by kernel_rfl) (o := orT [history_isWrite_g, history_isGood_g, history_meet_g, history_Closed_1_1_g] [] noFz) (orT_sound ⟨history_isWrite_ok, ⟨history_isGood_ok, ⟨history_meet_ok, ⟨history_Closed_1_1_ok, trivial⟩⟩⟩⟩) (allLp_of [] (by kernel_rfl) trivial rfl) ?_
  intro z; kernel_rfl

def slices_IndexFunc_Deed_history_wrote_1_L2_step (s_ : List Deed) (f : Deed) (f2 : Deed) (t : Int) (t2 : Int) : Tree (Int ⊕ (Int ⊕ Unit)) :=
  .ite (decide (t2 < t)) (
    ask (inb t2 s_.length) <|
    .bnd (history_wrote_1_T (s_.getD t2.toNat (dfl tDeed : Deed)) f f2) fun y1 =>
    .ite y1 (
      .ret (.inr (.inl t2))) (
      .ret (.inl (w64 (t2 + 1))))) (
    .ret (.inr (.inr ())))

def slices_IndexFunc_Deed_history_wrote_1_L2 : Lp := ⟨2, [], [], (.cons (.val false (.list tDeed)) (.cons (.fn 56 .nil (.cons (.ptr tDeed) (.cons (.cp (.cons (.fn 45 .nil (.cons (.ptr tDeed) .nil)) .nil)) .nil))) (ca (ca4 (.cons (.val false (.int .i64)) (.cons (.val false (.int .i64)) (ca2 (ca8 .nil)))))))), .nil, 0, .more 0 [] (ca4 (.cons (.val false (.int .i64)) (ca2 (ca4 (ca8 .nil))))) .nil (.one 1 [] (ca (ca2 (ca16 .nil))) .nil), fun z => .bnd (.loop (fun v => slices_IndexFunc_Deed_history_wrote_1_L2_step z.1.1 z.1.2.1.2.1 z.1.2.1.2.2.1.1.2.1 z.1.2.2.2.2.2.2.2.1 v) z.1.2.2.2.2.2.2.2.2.1) fun r => .sum r (fun a0 => .ret (.inl ((cu4 (a0, (cu2 (cu4 (cu8 ()))))), ()))) (fun b0 => .ret (.inr ((cu (cu2 (cu16 ()))), ())))⟩

theorem slices_IndexFunc_Deed_history_wrote_1_L2_ok : slices_IndexFunc_Deed_history_wrote_1_L2.ok Try.prog (nthC (loopsOf (bodyOf Try.f49)) 0) := by
  refine Lp.lift (π := ((List Deed) × Deed × Deed × Int)) (V := Int) (ρ := (Int ⊕ Unit)) mix tabOk slices_IndexFunc_Deed_history_wrote_1_L2 (o := orT [history_wrote_1_g] [] noFz) (orT_sound ⟨history_wrote_1_ok, trivial⟩) (allLp_of [] (by kernel_rfl) trivial rfl) (fun x v => ((x.1, (((), (x.2.1, ((((), (x.2.2.1, ())), ()), ()))), (cu (cu4 (x.2.2.2, (v, (cu2 (cu8 ())))))))), ())) (fun x r => match r with | .inl a0 => .inl ((cu4 (a0, (cu2 (cu4 (cu8 ()))))), ()) | .inr b0 => (.inr ((cu (cu2 (cu16 ()))), ()))) (fun x v => slices_IndexFunc_Deed_history_wrote_1_L2_step x.1 x.2.1 x.2.2.1 x.2.2.2 v) (fun x r => .sum r (fun a0 => .ret (.inl ((cu4 (a0, (cu2 (cu4 (cu8 ()))))), ()))) (fun b0 => .ret (.inr ((cu (cu2 (cu16 ()))), ())))) (fun z => (z.1.1, z.1.2.1.2.1, z.1.2.1.2.2.1.1.2.1, z.1.2.2.2.2.2.2.2.1)) (fun z => z.1.2.2.2.2.2.2.2.2.1) (fun _ => rfl) (fun _ => rfl) (fun x r Q h => match r, h with | .inl _, h => h | .inr b0, h => (h)) ?_
  intro x v; kernel_rfl

def slices_IndexFunc_Deed_history_wrote_1_T (x0 : List Deed) (x1 : Deed) (x2 : Deed) : Tree Int :=
  .bnd (.loop (fun v => slices_IndexFunc_Deed_history_wrote_1_L2_step x0 x1 x2 (x0.length : Int) v) 0) fun r1 =>
  .sum r1 (fun r2 =>
    .ret r2) (fun r3 =>
    .ret (-1))

def slices_IndexFunc_Deed_history_wrote_1_g : Sig := ⟨49, (.cons (.val false (.list tDeed)) (.cons (.fn 56 .nil (.cons (.ptr tDeed) (.cons (.cp (.cons (.fn 45 .nil (.cons (.ptr tDeed) .nil)) .nil)) .nil))) .nil)), .vals (.val false (.int .i64)), fun z => slices_IndexFunc_Deed_history_wrote_1_T z.1 z.2.1.2.1 z.2.1.2.2.1.1.2.1, (0 : Int)⟩

theorem slices_IndexFunc_Deed_history_wrote_1_ok : slices_IndexFunc_Deed_history_wrote_1_g.ok Try.prog := by
  refine Sig.lift mix tabOk nms _ Try.func49 (c := (bodyOf Try.f49)) (by kernel_rfl) (o := orT [history_wrote_1_g] [slices_IndexFunc_Deed_history_wrote_1_L2] noFz) (orT_sound ⟨history_wrote_1_ok, trivial⟩) (allLp_of [nthC (loopsOf (bodyOf Try.f49)) 0] (by kernel_rfl) ⟨slices_IndexFunc_Deed_history_wrote_1_L2_ok, trivial⟩ (by kernel_rfl)) ?_
  intro z; kernel_rfl

def slices_ContainsFunc_Deed_history_wrote_1_T (x0 : List Deed) (x1 : Deed) (x2 : Deed) : Tree Bool :=
  .bnd (slices_IndexFunc_Deed_history_wrote_1_T x0 x1 x2) fun y1 =>
  .ret (decide ((0 : Int) ≤ y1))

def slices_ContainsFunc_Deed_history_wrote_1_g : Sig := ⟨23, (.cons (.val false (.list tDeed)) (.cons (.fn 56 .nil (.cons (.ptr tDeed) (.cons (.cp (.cons (.fn 45 .nil (.cons (.ptr tDeed) .nil)) .nil)) .nil))) .nil)), .vals (.val false .bool), fun z => slices_ContainsFunc_Deed_history_wrote_1_T z.1 z.2.1.2.1 z.2.1.2.2.1.1.2.1, false⟩

theorem slices_ContainsFunc_Deed_history_wrote_1_ok : slices_ContainsFunc_Deed_history_wrote_1_g.ok Try.prog := by
  refine Sig.lift mix tabOk nms _ Try.func23 (c := (bodyOf Try.f23)) (by kernel_rfl) (o := orT [slices_IndexFunc_Deed_history_wrote_1_g] [] noFz) (orT_sound ⟨slices_IndexFunc_Deed_history_wrote_1_ok, trivial⟩) (allLp_of [] (by kernel_rfl) trivial rfl) ?_
  intro z; kernel_rfl

def history_wrote_history_Closed_1_1_T (x0 : List Deed) (x1 : Deed) (x2 : Deed) : Tree Bool :=
  .bnd (slices_ContainsFunc_Deed_history_wrote_1_T x0 x1 x2) fun y1 =>
  .ret y1

def history_wrote_history_Closed_1_1_g : Sig := ⟨39, (.cons (.val false (.list tDeed)) (.cons (.val true tDeed) (.cons (.fn 45 .nil (.cons (.ptr tDeed) .nil)) .nil))), .vals (.val false .bool), fun z => history_wrote_history_Closed_1_1_T z.1 z.2.1 z.2.2.1.2.1, false⟩

theorem history_wrote_history_Closed_1_1_ok : history_wrote_history_Closed_1_1_g.ok Try.prog := by
  refine Sig.lift mix tabOk nms _ Try.func39 (c := (bodyOf Try.f39)) (by kernel_rfl) (o := orT [slices_ContainsFunc_Deed_history_wrote_1_g] [] noFz) (orT_sound ⟨slices_ContainsFunc_Deed_history_wrote_1_ok, trivial⟩) (allLp_of [] (by kernel_rfl) trivial rfl) ?_
  intro z; kernel_rfl

def history_Closed_1_T (x0 : Deed) (x1 : List Deed) : Tree Bool :=
  .bnd (history_isWrite_T x0) fun y1 =>
  .grd y1 (history_wrote_history_Closed_1_1_T x1 x0 x0) false fun y2 =>
  .ret (y1 && y2)

def history_Closed_1_g : Sig := ⟨44, (.cons (.val true tDeed) (.cons (.ptr (.list tDeed)) .nil)), .vals (.val false .bool), fun z => history_Closed_1_T z.1 z.2.1, false⟩

theorem history_Closed_1_ok : history_Closed_1_g.ok Try.prog := by
  refine Sig.lift mix tabOk nms _ Try.func44 (c := (bodyOf Try.f44)) (by kernel_rfl) (o := orT [history_isWrite_g, history_wrote_history_Closed_1_1_g] [] noFz) (orT_sound ⟨history_isWrite_ok, ⟨history_wrote_history_Closed_1_1_ok, trivial⟩⟩) (allLp_of [] (by kernel_rfl) trivial rfl) ?_
  intro z; kernel_rfl

def slices_IndexFunc_Deed_history_Closed_1_L2_step (s_ : List Deed) (f : List Deed) (t : Int) (t2 : Int) : Tree (Int ⊕ (Int ⊕ Unit)) :=
  .ite (decide (t2 < t)) (
    ask (inb t2 s_.length) <|
    .bnd (history_Closed_1_T (s_.getD t2.toNat (dfl tDeed : Deed)) f) fun y1 =>
    .ite y1 (
      .ret (.inr (.inl t2))) (
      .ret (.inl (w64 (t2 + 1))))) (
    .ret (.inr (.inr ())))

def slices_IndexFunc_Deed_history_Closed_1_L2 : Lp := ⟨2, [], [], (.cons (.val false (.list tDeed)) (.cons (.fn 44 .nil (.cons (.ptr (.list tDeed)) .nil)) (ca (ca4 (.cons (.val false (.int .i64)) (.cons (.val false (.int .i64)) (ca2 (ca8 .nil)))))))), .nil, 0, .more 0 [] (ca4 (.cons (.val false (.int .i64)) (ca2 (ca4 (ca8 .nil))))) .nil (.one 1 [] (ca (ca2 (ca16 .nil))) .nil), fun z => .bnd (.loop (fun v => slices_IndexFunc_Deed_history_Closed_1_L2_step z.1.1 z.1.2.1.2.1 z.1.2.2.2.2.2.2.2.1 v) z.1.2.2.2.2.2.2.2.2.1) fun r => .sum r (fun a0 => .ret (.inl ((cu4 (a0, (cu2 (cu4 (cu8 ()))))), ()))) (fun b0 => .ret (.inr ((cu (cu2 (cu16 ()))), ())))⟩

theorem slices_IndexFunc_Deed_history_Closed_1_L2_ok : slices_IndexFunc_Deed_history_Closed_1_L2.ok Try.prog (nthC (loopsOf (bodyOf Try.f49)) 0) := by
  refine Lp.lift (π := ((List Deed) × (List Deed) × Int)) (V := Int) (ρ := (Int ⊕ Unit)) mix tabOk slices_IndexFunc_Deed_history_Closed_1_L2 (o := orT [history_Closed_1_g] [] noFz) (orT_sound ⟨history_Closed_1_ok, trivial⟩) (allLp_of [] (by kernel_rfl) trivial rfl) (fun x v => ((x.1, (((), (x.2.1, ())), (cu (cu4 (x.2.2, (v, (cu2 (cu8 ())))))))), ())) (fun x r => match r with | .inl a0 => .inl ((cu4 (a0, (cu2 (cu4 (cu8 ()))))), ()) | .inr b0 => (.inr ((cu (cu2 (cu16 ()))), ()))) (fun x v => slices_IndexFunc_Deed_history_Closed_1_L2_step x.1 x.2.1 x.2.2 v) (fun x r => .sum r (fun a0 => .ret (.inl ((cu4 (a0, (cu2 (cu4 (cu8 ()))))), ()))) (fun b0 => .ret (.inr ((cu (cu2 (cu16 ()))), ())))) (fun z => (z.1.1, z.1.2.1.2.1, z.1.2.2.2.2.2.2.2.1)) (fun z => z.1.2.2.2.2.2.2.2.2.1) (fun _ => rfl) (fun _ => rfl) (fun x r Q h => match r, h with | .inl _, h => h | .inr b0, h => (h)) ?_
  intro x v; kernel_rfl

def slices_IndexFunc_Deed_history_Closed_1_T (x0 : List Deed) (x1 : List Deed) : Tree Int :=
  .bnd (.loop (fun v => slices_IndexFunc_Deed_history_Closed_1_L2_step x0 x1 (x0.length : Int) v) 0) fun r1 =>
  .sum r1 (fun r2 =>
    .ret r2) (fun r3 =>
    .ret (-1))

def slices_IndexFunc_Deed_history_Closed_1_g : Sig := ⟨49, (.cons (.val false (.list tDeed)) (.cons (.fn 44 .nil (.cons (.ptr (.list tDeed)) .nil)) .nil)), .vals (.val false (.int .i64)), fun z => slices_IndexFunc_Deed_history_Closed_1_T z.1 z.2.1.2.1, (0 : Int)⟩

theorem slices_IndexFunc_Deed_history_Closed_1_ok : slices_IndexFunc_Deed_history_Closed_1_g.ok Try.prog := by
  refine Sig.lift mix tabOk nms _ Try.func49 (c := (bodyOf Try.f49)) (by kernel_rfl) (o := orT [history_Closed_1_g] [slices_IndexFunc_Deed_history_Closed_1_L2] noFz) (orT_sound ⟨history_Closed_1_ok, trivial⟩) (allLp_of [nthC (loopsOf (bodyOf Try.f49)) 0] (by kernel_rfl) ⟨slices_IndexFunc_Deed_history_Closed_1_L2_ok, trivial⟩ (by kernel_rfl)) ?_
  intro z; kernel_rfl

def slices_ContainsFunc_Deed_history_Closed_1_T (x0 : List Deed) (x1 : List Deed) : Tree Bool :=
  .bnd (slices_IndexFunc_Deed_history_Closed_1_T x0 x1) fun y1 =>
  .ret (decide ((0 : Int) ≤ y1))

def slices_ContainsFunc_Deed_history_Closed_1_g : Sig := ⟨23, (.cons (.val false (.list tDeed)) (.cons (.fn 44 .nil (.cons (.ptr (.list tDeed)) .nil)) .nil)), .vals (.val false .bool), fun z => slices_ContainsFunc_Deed_history_Closed_1_T z.1 z.2.1.2.1, false⟩

theorem slices_ContainsFunc_Deed_history_Closed_1_ok : slices_ContainsFunc_Deed_history_Closed_1_g.ok Try.prog := by
  refine Sig.lift mix tabOk nms _ Try.func23 (c := (bodyOf Try.f23)) (by kernel_rfl) (o := orT [slices_IndexFunc_Deed_history_Closed_1_g] [] noFz) (orT_sound ⟨slices_IndexFunc_Deed_history_Closed_1_ok, trivial⟩) (allLp_of [] (by kernel_rfl) trivial rfl) ?_
  intro z; kernel_rfl

def history_Closed_T (x0 : List Deed) : Tree Bool :=
  .bnd (slices_ContainsFunc_Deed_history_Closed_1_T x0 x0) fun y1 =>
  .ret (!y1)

def history_Closed_g : Sig := ⟨18, (.cons (.val false (.list tDeed)) .nil), .vals (.val false .bool), fun z => history_Closed_T z.1, false⟩

theorem history_Closed_ok : history_Closed_g.ok Try.prog := by
  refine Sig.lift mix tabOk nms _ Try.func18 (c := (bodyOf Try.f18)) (by kernel_rfl) (o := orT [slices_ContainsFunc_Deed_history_Closed_1_g] [] noFz) (orT_sound ⟨slices_ContainsFunc_Deed_history_Closed_1_ok, trivial⟩) (allLp_of [] (by kernel_rfl) trivial rfl) ?_
  intro z; kernel_rfl

def history_Put_1_T (x0 : Deed) (x1 : Sib) (x2 : Deed) : Tree Bool :=
  .grd (((x0.2.2.2.2.2.2.1.2.2.2.2.1 == x1.2.1) && (decide (x0.2.2.2.2.2.2.1.2.2.2.2.2.2 = x1.2.2.2))) && ((decide (x0.2.2.2.2.2.2.1.1 = 3)) == x1.2.2.1)) (history_isWrite_T x0) false fun y1 =>
  .grd ((((x0.2.2.2.2.2.2.1.2.2.2.2.1 == x1.2.1) && (decide (x0.2.2.2.2.2.2.1.2.2.2.2.2.2 = x1.2.2.2))) && ((decide (x0.2.2.2.2.2.2.1.1 = 3)) == x1.2.2.1)) && y1) (history_meet_T x0 x2) false fun y2 =>
  .grd (((((((x0.2.2.2.2.2.2.1.2.2.2.2.1 == x1.2.1) && (decide (x0.2.2.2.2.2.2.1.2.2.2.2.2.2 = x1.2.2.2))) && ((decide (x0.2.2.2.2.2.2.1.1 = 3)) == x1.2.2.1)) && y1) && y2) && (x0.1 == x1.1.1)) && (decide (x0.2.2.2.1 < x2.2.2.2.2.1))) (history_isGood_T x0) false fun y3 =>
  .ret ((((((((x0.2.2.2.2.2.2.1.2.2.2.2.1 == x1.2.1) && (decide (x0.2.2.2.2.2.2.1.2.2.2.2.2.2 = x1.2.2.2))) && ((decide (x0.2.2.2.2.2.2.1.1 = 3)) == x1.2.2.1)) && y1) && y2) && (x0.1 == x1.1.1)) && (decide (x0.2.2.2.1 < x2.2.2.2.2.1))) && ((!y3) || ((x0.2.2.2.2.2.2.2.2.2.2.2.2.1 == x1.1.1) && ((decide (x0.2.2.2.2.2.2.2.2.2.2.2.2.2 = x1.1.2)) && true))))

def history_Put_1_g : Sig := ⟨24, (.cons (.val true tDeed) (.cons (.ptr tSib) (.cons (.ptr tDeed) .nil))), .vals (.val false .bool), fun z => history_Put_1_T z.1 z.2.1 z.2.2.1, false⟩

theorem history_Put_1_ok : history_Put_1_g.ok Try.prog := by
  refine Sig.lift mix tabOk nms _ Try.func24 (c := (bodyOf Try.f24)) (by kernel_rfl) (o := orT [history_isWrite_g, history_meet_g, history_isGood_g] [] noFz) (orT_sound ⟨history_isWrite_ok, ⟨history_meet_ok, ⟨history_isGood_ok, trivial⟩⟩⟩) (allLp_of [] (by kernel_rfl) trivial rfl) ?_
  intro z; kernel_rfl

def slices_IndexFunc_Deed_history_Put_1_L2_step (s_ : List Deed) (f : Sib) (f2 : Deed) (t : Int) (t2 : Int) : Tree (Int ⊕ (Int ⊕ Unit)) :=
  .ite (decide (t2 < t)) (
    ask (inb t2 s_.length) <|
    .bnd (history_Put_1_T (s_.getD t2.toNat (dfl tDeed : Deed)) f f2) fun y1 =>
    .ite y1 (
      .ret (.inr (.inl t2))) (
      .ret (.inl (w64 (t2 + 1))))) (
    .ret (.inr (.inr ())))

def slices_IndexFunc_Deed_history_Put_1_L2 : Lp := ⟨2, [], [], (.cons (.val false (.list tDeed)) (.cons (.fn 24 .nil (.cons (.ptr tSib) (.cons (.ptr tDeed) .nil))) (ca (ca4 (.cons (.val false (.int .i64)) (.cons (.val false (.int .i64)) (ca2 (ca8 .nil)))))))), .nil, 0, .more 0 [] (ca4 (.cons (.val false (.int .i64)) (ca2 (ca4 (ca8 .nil))))) .nil (.one 1 [] (ca (ca2 (ca16 .nil))) .nil), fun z => .bnd (.loop (fun v => slices_IndexFunc_Deed_history_Put_1_L2_step z.1.1 z.1.2.1.2.1 z.1.2.1.2.2.1 z.1.2.2.2.2.2.2.2.1 v) z.1.2.2.2.2.2.2.2.2.1) fun r => .sum r (fun a0 => .ret (.inl ((cu4 (a0, (cu2 (cu4 (cu8 ()))))), ()))) (fun b0 => .ret (.inr ((cu (cu2 (cu16 ()))), ())))⟩

theorem slices_IndexFunc_Deed_history_Put_1_L2_ok : slices_IndexFunc_Deed_history_Put_1_L2.ok Try.prog (nthC (loopsOf (bodyOf Try.f49)) 0) := by
  refine Lp.lift (π := ((List Deed) × Sib × Deed × Int)) (V := Int) (ρ := (Int ⊕ Unit)) mix tabOk slices_IndexFunc_Deed_history_Put_1_L2 (o := orT [history_Put_1_g] [] noFz) (orT_sound ⟨history_Put_1_ok, trivial⟩) (allLp_of [] (by kernel_rfl) trivial rfl) (fun x v => ((x.1, (((), (x.2.1, (x.2.2.1, ()))), (cu (cu4 (x.2.2.2, (v, (cu2 (cu8 ())))))))), ())) (fun x r => match r with | .inl a0 => .inl ((cu4 (a0, (cu2 (cu4 (cu8 ()))))), ()) | .inr b0 => (.inr ((cu (cu2 (cu16 ()))), ()))) (fun x v => slices_IndexFunc_Deed_history_Put_1_L2_step x.1 x.2.1 x.2.2.1 x.2.2.2 v) (fun x r => .sum r (fun a0 => .ret (.inl ((cu4 (a0, (cu2 (cu4 (cu8 ()))))), ()))) (fun b0 => .ret (.inr ((cu (cu2 (cu16 ()))), ())))) (fun z => (z.1.1, z.1.2.1.2.1, z.1.2.1.2.2.1, z.1.2.2.2.2.2.2.2.1)) (fun z => z.1.2.2.2.2.2.2.2.2.1) (fun _ => rfl) (fun _ => rfl) (fun x r Q h => match r, h with | .inl _, h => h | .inr b0, h => (h)) ?_
  intro x v; kernel_rfl

def slices_IndexFunc_Deed_history_Put_1_T (x0 : List Deed) (x1 : Sib) (x2 : Deed) : Tree Int :=
  .bnd (.loop (fun v => slices_IndexFunc_Deed_history_Put_1_L2_step x0 x1 x2 (x0.length : Int) v) 0) fun r1 =>
  .sum r1 (fun r2 =>
    .ret r2) (fun r3 =>
    .ret (-1))

def slices_IndexFunc_Deed_history_Put_1_g : Sig := ⟨49, (.cons (.val false (.list tDeed)) (.cons (.fn 24 .nil (.cons (.ptr tSib) (.cons (.ptr tDeed) .nil))) .nil)), .vals (.val false (.int .i64)), fun z => slices_IndexFunc_Deed_history_Put_1_T z.1 z.2.1.2.1 z.2.1.2.2.1, (0 : Int)⟩

theorem slices_IndexFunc_Deed_history_Put_1_ok : slices_IndexFunc_Deed_history_Put_1_g.ok Try.prog := by
  refine Sig.lift mix tabOk nms _ Try.func49 (c := (bodyOf Try.f49)) (by kernel_rfl) (o := orT [history_Put_1_g] [slices_IndexFunc_Deed_history_Put_1_L2] noFz) (orT_sound ⟨history_Put_1_ok, trivial⟩) (allLp_of [nthC (loopsOf (bodyOf Try.f49)) 0] (by kernel_rfl) ⟨slices_IndexFunc_Deed_history_Put_1_L2_ok, trivial⟩ (by kernel_rfl)) ?_
  intro z; kernel_rfl

def slices_ContainsFunc_Deed_history_Put_1_T (x0 : List Deed) (x1 : Sib) (x2 : Deed) : Tree Bool :=
  .bnd (slices_IndexFunc_Deed_history_Put_1_T x0 x1 x2) fun y1 =>
  .ret (decide ((0 : Int) ≤ y1))

def slices_ContainsFunc_Deed_history_Put_1_g : Sig := ⟨23, (.cons (.val false (.list tDeed)) (.cons (.fn 24 .nil (.cons (.ptr tSib) (.cons (.ptr tDeed) .nil))) .nil)), .vals (.val false .bool), fun z => slices_ContainsFunc_Deed_history_Put_1_T z.1 z.2.1.2.1 z.2.1.2.2.1, false⟩

theorem slices_ContainsFunc_Deed_history_Put_1_ok : slices_ContainsFunc_Deed_history_Put_1_g.ok Try.prog := by
  refine Sig.lift mix tabOk nms _ Try.func23 (c := (bodyOf Try.f23)) (by kernel_rfl) (o := orT [slices_IndexFunc_Deed_history_Put_1_g] [] noFz) (orT_sound ⟨slices_IndexFunc_Deed_history_Put_1_ok, trivial⟩) (allLp_of [] (by kernel_rfl) trivial rfl) ?_
  intro z; kernel_rfl

def history_Put_T (x0 : List Deed) (x1 : Deed) (x2 : Sib) : Tree Bool :=
  .bnd (slices_ContainsFunc_Deed_history_Put_1_T x0 x2 x1) fun y1 =>
  .ret y1

def history_Put_g : Sig := ⟨8, (.cons (.val false (.list tDeed)) (.cons (.val true tDeed) (.cons (.val true tSib) .nil))), .vals (.val false .bool), fun z => history_Put_T z.1 z.2.1 z.2.2.1, false⟩

theorem history_Put_ok : history_Put_g.ok Try.prog := by
  refine Sig.lift mix tabOk nms _ Try.func8 (c := (bodyOf Try.f8)) (by kernel_rfl) (o := orT [slices_ContainsFunc_Deed_history_Put_1_g] [] noFz) (orT_sound ⟨slices_ContainsFunc_Deed_history_Put_1_ok, trivial⟩) (allLp_of [] (by kernel_rfl) trivial rfl) ?_
  intro z; kernel_rfl

def history_Causal_1_T (x0 : Deed) (x1 : Deed) (x2 : Sib) : Tree Bool :=
  .bnd (dots_Has_T x1.2.2.2.2.2.2.2.2.2.2.1 x0.2.2.2.2.2.2.2.2.2.2.2.2) fun y1 =>
  .grd y1 (dots_Has_T x0.2.2.2.2.2.2.1.2.2.2.2.2.1 x2.1) false fun y2 =>
  .ret (y1 && y2)

def history_Causal_1_g : Sig := ⟨37, (.cons (.val true tDeed) (.cons (.ptr tDeed) (.cons (.ptr tSib) .nil))), .vals (.val false .bool), fun z => history_Causal_1_T z.1 z.2.1 z.2.2.1, false⟩

theorem history_Causal_1_ok : history_Causal_1_g.ok Try.prog := by
  refine Sig.lift mix tabOk nms _ Try.func37 (c := (bodyOf Try.f37)) (by kernel_rfl) (o := orT [dots_Has_g] [] noFz) (orT_sound ⟨dots_Has_ok, trivial⟩) (allLp_of [] (by kernel_rfl) trivial rfl) ?_
  intro z; kernel_rfl

def history_wrote_1__T (x0 : Deed) (x1 : Deed) (x2 : Deed) (x3 : Sib) : Tree Bool :=
  .bnd (history_isWrite_T x0) fun y1 =>
  .grd y1 (history_isGood_T x0) false fun y2 =>
  .grd (y1 && y2) (history_meet_T x0 x1) false fun y3 =>
  .grd ((y1 && y2) && y3) (history_Causal_1_T x0 x2 x3) false fun y4 =>
  .ret (((y1 && y2) && y3) && y4)

def history_wrote_1__g : Sig := ⟨56, (.cons (.val true tDeed) (.cons (.ptr tDeed) (.cons (.cp (.cons (.fn 37 .nil (.cons (.ptr tDeed) (.cons (.ptr tSib) .nil))) .nil)) .nil))), .vals (.val false .bool), fun z => history_wrote_1__T z.1 z.2.1 z.2.2.1.1.2.1 z.2.2.1.1.2.2.1, false⟩

theorem history_wrote_1__ok : history_wrote_1__g.ok Try.prog := by
  refine Sig.lift mix tabOk nms _ Try.func56 (c := (bodyOf Try.f56)) (by kernel_rfl) (o := orT [history_isWrite_g, history_isGood_g, history_meet_g, history_Causal_1_g] [] noFz) (orT_sound ⟨history_isWrite_ok, ⟨history_isGood_ok, ⟨history_meet_ok, ⟨history_Causal_1_ok, trivial⟩⟩⟩⟩) (allLp_of [] (by kernel_rfl) trivial rfl) ?_
  intro z; kernel_rfl

def slices_IndexFunc_Deed_history_wrote_1__L2_step (s_ : List Deed) (f : Deed) (f2 : Deed) (f3 : Sib) (t : Int) (t2 : Int) : Tree (Int ⊕ (Int ⊕ Unit)) :=
  .ite (decide (t2 < t)) (
    ask (inb t2 s_.length) <|
    .bnd (history_wrote_1__T (s_.getD t2.toNat (dfl tDeed : Deed)) f f2 f3) fun y1 =>
    .ite y1 (
      .ret (.inr (.inl t2))) (
      .ret (.inl (w64 (t2 + 1))))) (
    .ret (.inr (.inr ())))

def slices_IndexFunc_Deed_history_wrote_1__L2 : Lp := ⟨2, [], [], (.cons (.val false (.list tDeed)) (.cons (.fn 56 .nil (.cons (.ptr tDeed) (.cons (.cp (.cons (.fn 37 .nil (.cons (.ptr tDeed) (.cons (.ptr tSib) .nil))) .nil)) .nil))) (ca (ca4 (.cons (.val false (.int .i64)) (.cons (.val false (.int .i64)) (ca2 (ca8 .nil)))))))), .nil, 0, .more 0 [] (ca4 (.cons (.val false (.int .i64)) (ca2 (ca4 (ca8 .nil))))) .nil (.one 1 [] (ca (ca2 (ca16 .nil))) .nil), fun z => .bnd (.loop (fun v => slices_IndexFunc_Deed_history_wrote_1__L2_step z.1.1 z.1.2.1.2.1 z.1.2.1.2.2.1.1.2.1 z.1.2.1.2.2.1.1.2.2.1 z.1.2.2.2.2.2.2.2.1 v) z.1.2.2.2.2.2.2.2.2.1) fun r => .sum r (fun a0 => .ret (.inl ((cu4 (a0, (cu2 (cu4 (cu8 ()))))), ()))) (fun b0 => .ret (.inr ((cu (cu2 (cu16 ()))), ())))⟩

theorem slices_IndexFunc_Deed_history_wrote_1__L2_ok : slices_IndexFunc_Deed_history_wrote_1__L2.ok Try.prog (nthC (loopsOf (bodyOf Try.f49)) 0) := by
  refine Lp.lift (π := ((List Deed) × Deed × Deed × Sib × Int)) (V := Int) (ρ := (Int ⊕ Unit)) mix tabOk slices_IndexFunc_Deed_history_wrote_1__L2 (o := orT [history_wrote_1__g] [] noFz) (orT_sound ⟨history_wrote_1__ok, trivial⟩) (allLp_of [] (by kernel_rfl) trivial rfl) (fun x v => ((x.1, (((), (x.2.1, ((((), (x.2.2.1, (x.2.2.2.1, ()))), ()), ()))), (cu (cu4 (x.2.2.2.2, (v, (cu2 (cu8 ())))))))), ())) (fun x r => match r with | .inl a0 => .inl ((cu4 (a0, (cu2 (cu4 (cu8 ()))))), ()) | .inr b0 => (.inr ((cu (cu2 (cu16 ()))), ()))) (fun x v => slices_IndexFunc_Deed_history_wrote_1__L2_step x.1 x.2.1 x.2.2.1 x.2.2.2.1 x.2.2.2.2 v) (fun x r => .sum r (fun a0 => .ret (.inl ((cu4 (a0, (cu2 (cu4 (cu8 ()))))), ()))) (fun b0 => .ret (.inr ((cu (cu2 (cu16 ()))), ())))) (fun z => (z.1.1, z.1.2.1.2.1, z.1.2.1.2.2.1.1.2.1, z.1.2.1.2.2.1.1.2.2.1, z.1.2.2.2.2.2.2.2.1)) (fun z => z.1.2.2.2.2.2.2.2.2.1) (fun _ => rfl) (fun _ => rfl) (fun x r Q h => match r, h with | .inl _, h => h | .inr b0, h => (h)) ?_
  intro x v; kernel_rfl

def slices_IndexFunc_Deed_history_wrote_1__T (x0 : List Deed) (x1 : Deed) (x2 : Deed) (x3 : Sib) : Tree Int :=
  .bnd (.loop (fun v => slices_IndexFunc_Deed_history_wrote_1__L2_step x0 x1 x2 x3 (x0.length : Int) v) 0) fun r1 =>
  .sum r1 (fun r2 =>
    .ret r2) (fun r3 =>
    .ret (-1))

def slices_IndexFunc_Deed_history_wrote_1__g : Sig := ⟨49, (.cons (.val false (.list tDeed)) (.cons (.fn 56 .nil (.cons (.ptr tDeed) (.cons (.cp (.cons (.fn 37 .nil (.cons (.ptr tDeed) (.cons (.ptr tSib) .nil))) .nil)) .nil))) .nil)), .vals (.val false (.int .i64)), fun z => slices_IndexFunc_Deed_history_wrote_1__T z.1 z.2.1.2.1 z.2.1.2.2.1.1.2.1 z.2.1.2.2.1.1.2.2.1, (0 : Int)⟩

theorem slices_IndexFunc_Deed_history_wrote_1__ok : slices_IndexFunc_Deed_history_wrote_1__g.ok Try.prog := by
  refine Sig.lift mix tabOk nms _ Try.func49 (c := (bodyOf Try.f49)) (by kernel_rfl) (o := orT [history_wrote_1__g] [slices_IndexFunc_Deed_history_wrote_1__L2] noFz) (orT_sound ⟨history_wrote_1__ok, trivial⟩) (allLp_of [nthC (loopsOf (bodyOf Try.f49)) 0] (by kernel_rfl) ⟨slices_IndexFunc_Deed_history_wrote_1__L2_ok, trivial⟩ (by kernel_rfl)) ?_
  intro z; kernel_rfl

def slices_ContainsFunc_Deed_history_wrote_1__T (x0 : List Deed) (x1 : Deed) (x2 : Deed) (x3 : Sib) : Tree Bool :=
  .bnd (slices_IndexFunc_Deed_history_wrote_1__T x0 x1 x2 x3) fun y1 =>
  .ret (decide ((0 : Int) ≤ y1))

def slices_ContainsFunc_Deed_history_wrote_1__g : Sig := ⟨23, (.cons (.val false (.list tDeed)) (.cons (.fn 56 .nil (.cons (.ptr tDeed) (.cons (.cp (.cons (.fn 37 .nil (.cons (.ptr tDeed) (.cons (.ptr tSib) .nil))) .nil)) .nil))) .nil)), .vals (.val false .bool), fun z => slices_ContainsFunc_Deed_history_wrote_1__T z.1 z.2.1.2.1 z.2.1.2.2.1.1.2.1 z.2.1.2.2.1.1.2.2.1, false⟩

theorem slices_ContainsFunc_Deed_history_wrote_1__ok : slices_ContainsFunc_Deed_history_wrote_1__g.ok Try.prog := by
  refine Sig.lift mix tabOk nms _ Try.func23 (c := (bodyOf Try.f23)) (by kernel_rfl) (o := orT [slices_IndexFunc_Deed_history_wrote_1__g] [] noFz) (orT_sound ⟨slices_IndexFunc_Deed_history_wrote_1__ok, trivial⟩) (allLp_of [] (by kernel_rfl) trivial rfl) ?_
  intro z; kernel_rfl

def history_wrote_history_Causal_1_T (x0 : List Deed) (x1 : Deed) (x2 : Deed) (x3 : Sib) : Tree Bool :=
  .bnd (slices_ContainsFunc_Deed_history_wrote_1__T x0 x1 x2 x3) fun y1 =>
  .ret y1

def history_wrote_history_Causal_1_g : Sig := ⟨39, (.cons (.val false (.list tDeed)) (.cons (.val true tDeed) (.cons (.fn 37 .nil (.cons (.ptr tDeed) (.cons (.ptr tSib) .nil))) .nil))), .vals (.val false .bool), fun z => history_wrote_history_Causal_1_T z.1 z.2.1 z.2.2.1.2.1 z.2.2.1.2.2.1, false⟩

theorem history_wrote_history_Causal_1_ok : history_wrote_history_Causal_1_g.ok Try.prog := by
  refine Sig.lift mix tabOk nms _ Try.func39 (c := (bodyOf Try.f39)) (by kernel_rfl) (o := orT [slices_ContainsFunc_Deed_history_wrote_1__g] [] noFz) (orT_sound ⟨slices_ContainsFunc_Deed_history_wrote_1__ok, trivial⟩) (allLp_of [] (by kernel_rfl) trivial rfl) ?_
  intro z; kernel_rfl

def history_Causal_L7_step (l : List Deed) (closed : Bool) (t : List Deed) (t2 : Int) (t3 : Int) (t4 : List Sib) (t5 : Int) (d : Deed) (t6 : Int) : Tree (Int ⊕ (Bool ⊕ Unit)) :=
  .ite (decide (t6 < t5)) (
    ask (inb t6 t4.length) <|
    .grd (!(t4.getD t6.toNat (dfl tSib : Sib)).2.2.1) (dots_Has_T d.2.2.2.2.2.2.2.2.2.2.1 (t4.getD t6.toNat (dfl tSib : Sib)).1) false fun y1 =>
    .grd (!((t4.getD t6.toNat (dfl tSib : Sib)).2.2.1 || (!y1))) (history_Put_T l d (t4.getD t6.toNat (dfl tSib : Sib))) false fun y2 =>
    .grd ((!(((t4.getD t6.toNat (dfl tSib : Sib)).2.2.1 || (!y1)) || (!y2))) && closed) (history_wrote_history_Causal_1_T l d d (t4.getD t6.toNat (dfl tSib : Sib))) false fun y3 =>
    .ite ((((t4.getD t6.toNat (dfl tSib : Sib)).2.2.1 || (!y1)) || (!y2)) || (closed && y3)) (
      .ret (.inr (.inl false))) (
      .ret (.inl (w64 (t6 + 1))))) (
    .ret (.inr (.inr ())))

def history_Causal_L7 : Lp := ⟨7, [], [], (.cons (.val false (.list tDeed)) (ca2 (.cons (.val false .bool) (ca (.cons (.ref 0 0) (ca (ca4 (.cons (.val false (.list tDeed)) (.cons (.val false (.int .i64)) (.cons (.val false (.int .i64)) (ca2 (ca4 (ca8 (.cons (.val false (.list tSib)) (.cons (.val false (.int .i64)) (.cons (.val false (.int .i64)) (ca (ca32 .nil)))))))))))))))))), (.cells 39 (.cons (.flat tDeed) .nil) .nil), 0, .more 0 [] (ca2 (.cons (.val false .bool) (ca (ca4 (ca8 (ca16 (ca32 .nil))))))) .nil (.one 3 [] (.cons (.val false (.list tDeed)) (ca2 (.cons (.val false .bool) (ca (ca2 (ca4 (.cons (.val false (.list tDeed)) (.cons (.val false (.int .i64)) (.cons (.val false (.int .i64)) (ca2 (ca16 (ca32 .nil)))))))))))) .nil), fun z => .bnd (.loop (fun v => history_Causal_L7_step z.1.1 z.1.2.2.2.1 z.1.2.2.2.2.2.2.2.2.2.2.2.1 z.1.2.2.2.2.2.2.2.2.2.2.2.2.1 z.1.2.2.2.2.2.2.2.2.2.2.2.2.2.1 z.1.2.2.2.2.2.2.2.2.2.2.2.2.2.2.2.2.2.2.2.2.2.2.2.2.2.2.2.2.1 z.1.2.2.2.2.2.2.2.2.2.2.2.2.2.2.2.2.2.2.2.2.2.2.2.2.2.2.2.2.2.1 z.2.1.1 v) z.1.2.2.2.2.2.2.2.2.2.2.2.2.2.2.2.2.2.2.2.2.2.2.2.2.2.2.2.2.2.2.1) fun r => .sum r (fun a0 => .ret (.inl ((cu2 (a0, (cu (cu4 (cu8 (cu16 (cu32 ()))))))), ()))) (fun b0 => .ret (.inr ((z.1.1, (cu2 (z.1.2.2.2.1, (cu (cu2 (cu4 (z.1.2.2.2.2.2.2.2.2.2.2.2.1, (z.1.2.2.2.2.2.2.2.2.2.2.2.2.1, (z.1.2.2.2.2.2.2.2.2.2.2.2.2.2.1, (cu2 (cu16 (cu32 ())))))))))))), ())))⟩

theorem history_Causal_L7_ok : history_Causal_L7.ok Try.prog (nthC (loopsOf (nthC (loopsOf (bodyOf Try.f14)) 0)) 0) := by
  refine Lp.lift (π := ((List Deed) × Bool × (List Deed) × Int × Int × (List Sib) × Int × Deed)) (V := Int) (ρ := (Bool ⊕ Unit)) mix tabOk history_Causal_L7 (o := orT [history_Closed_g, history_isGood_g, dots_Has_g, history_Put_g, history_wrote_history_Causal_1_g] [] noFz) (orT_sound ⟨history_Closed_ok, ⟨history_isGood_ok, ⟨dots_Has_ok, ⟨history_Put_ok, ⟨history_wrote_history_Causal_1_ok, trivial⟩⟩⟩⟩⟩) (allLp_of [] (by kernel_rfl) trivial rfl) (fun x v => ((x.1, (cu2 (x.2.1, (cu ((), (cu (cu4 (x.2.2.1, (x.2.2.2.1, (x.2.2.2.2.1, (cu2 (cu4 (cu8 (x.2.2.2.2.2.1, (x.2.2.2.2.2.2.1, (v, (cu (cu32 ())))))))))))))))))), ((x.2.2.2.2.2.2.2, ()), ()))) (fun x r => match r with | .inl a0 => .inl ((cu2 (a0, (cu (cu4 (cu8 (cu16 (cu32 ()))))))), ()) | .inr b0 => (.inr ((x.1, (cu2 (x.2.1, (cu (cu2 (cu4 (x.2.2.1, (x.2.2.2.1, (x.2.2.2.2.1, (cu2 (cu16 (cu32 ())))))))))))), ()))) (fun x v => history_Causal_L7_step x.1 x.2.1 x.2.2.1 x.2.2.2.1 x.2.2.2.2.1 x.2.2.2.2.2.1 x.2.2.2.2.2.2.1 x.2.2.2.2.2.2.2 v) (fun x r => .sum r (fun a0 => .ret (.inl ((cu2 (a0, (cu (cu4 (cu8 (cu16 (cu32 ()))))))), ()))) (fun b0 => .ret (.inr ((x.1, (cu2 (x.2.1, (cu (cu2 (cu4 (x.2.2.1, (x.2.2.2.1, (x.2.2.2.2.1, (cu2 (cu16 (cu32 ())))))))))))), ())))) (fun z => (z.1.1, z.1.2.2.2.1, z.1.2.2.2.2.2.2.2.2.2.2.2.1, z.1.2.2.2.2.2.2.2.2.2.2.2.2.1, z.1.2.2.2.2.2.2.2.2.2.2.2.2.2.1, z.1.2.2.2.2.2.2.2.2.2.2.2.2.2.2.2.2.2.2.2.2.2.2.2.2.2.2.2.2.1, z.1.2.2.2.2.2.2.2.2.2.2.2.2.2.2.2.2.2.2.2.2.2.2.2.2.2.2.2.2.2.1, z.2.1.1)) (fun z => z.1.2.2.2.2.2.2.2.2.2.2.2.2.2.2.2.2.2.2.2.2.2.2.2.2.2.2.2.2.2.2.1) (fun _ => rfl) (fun _ => rfl) (fun x r Q h => match r, h with | .inl _, h => h | .inr b0, h => (h)) ?_
  intro x v; kernel_rfl

def history_Causal_L3_step (l : List Deed) (closed : Bool) (t : List Deed) (t2 : Int) (t3 : Int) : Tree (Int ⊕ (Bool ⊕ Unit)) :=
  .ite (decide (t3 < t2)) (
    ask (inb t3 t.length) <|
    .grd (!(!decide ((t.getD t3.toNat (dfl tDeed : Deed)).2.2.2.2.2.2.1.1 = 1))) (history_isGood_T (t.getD t3.toNat (dfl tDeed : Deed))) false fun y1 =>
    .ite ((!decide ((t.getD t3.toNat (dfl tDeed : Deed)).2.2.2.2.2.2.1.1 = 1)) || (!y1)) (
      .ret (.inl (w64 (t3 + 1)))) (
      .bnd (.loop (fun v => history_Causal_L7_step l closed t t2 t3 (t.getD t3.toNat (dfl tDeed : Deed)).2.2.2.2.2.2.2.2.2.1 ((t.getD t3.toNat (dfl tDeed : Deed)).2.2.2.2.2.2.2.2.2.1.length : Int) (t.getD t3.toNat (dfl tDeed : Deed)) v) 0) fun r2 =>
      .sum r2 (fun r3 =>
        .ret (.inr (.inl r3))) (fun r4 =>
        .ret (.inl (w64 (t3 + 1)))))) (
    .ret (.inr (.inr ())))

def history_Causal_L3 : Lp := ⟨3, [], [], (.cons (.val false (.list tDeed)) (ca2 (.cons (.val false .bool) (ca (ca2 (ca4 (.cons (.val false (.list tDeed)) (.cons (.val false (.int .i64)) (.cons (.val false (.int .i64)) (ca2 (ca16 (ca32 .nil)))))))))))), .nil, 0, .more 0 [] (ca2 (.cons (.val false .bool) (ca (ca4 (ca8 (ca16 (ca32 .nil))))))) .nil (.one 1 [] (ca32 (ca32 .nil)) .nil), fun z => .bnd (.loop (fun v => history_Causal_L3_step z.1.1 z.1.2.2.2.1 z.1.2.2.2.2.2.2.2.2.2.2.2.1 z.1.2.2.2.2.2.2.2.2.2.2.2.2.1 v) z.1.2.2.2.2.2.2.2.2.2.2.2.2.2.1) fun r => .sum r (fun a0 => .ret (.inl ((cu2 (a0, (cu (cu4 (cu8 (cu16 (cu32 ()))))))), ()))) (fun b0 => .ret (.inr ((cu32 (cu32 ())), ())))⟩

theorem history_Causal_L3_ok : history_Causal_L3.ok Try.prog (nthC (loopsOf (bodyOf Try.f14)) 0) := by
  refine Lp.lift (π := ((List Deed) × Bool × (List Deed) × Int)) (V := Int) (ρ := (Bool ⊕ Unit)) mix tabOk history_Causal_L3 (o := orT [history_Closed_g, history_isGood_g, dots_Has_g, history_Put_g, history_wrote_history_Causal_1_g] [history_Causal_L7] noFz) (orT_sound ⟨history_Closed_ok, ⟨history_isGood_ok, ⟨dots_Has_ok, ⟨history_Put_ok, ⟨history_wrote_history_Causal_1_ok, trivial⟩⟩⟩⟩⟩) (allLp_of [nthC (loopsOf (nthC (loopsOf (bodyOf Try.f14)) 0)) 0] (by kernel_rfl) ⟨history_Causal_L7_ok, trivial⟩ (by kernel_rfl)) (fun x v => ((x.1, (cu2 (x.2.1, (cu (cu2 (cu4 (x.2.2.1, (x.2.2.2, (v, (cu2 (cu16 (cu32 ())))))))))))), ())) (fun x r => match r with | .inl a0 => .inl ((cu2 (a0, (cu (cu4 (cu8 (cu16 (cu32 ()))))))), ()) | .inr b0 => (.inr ((cu32 (cu32 ())), ()))) (fun x v => history_Causal_L3_step x.1 x.2.1 x.2.2.1 x.2.2.2 v) (fun x r => .sum r (fun a0 => .ret (.inl ((cu2 (a0, (cu (cu4 (cu8 (cu16 (cu32 ()))))))), ()))) (fun b0 => .ret (.inr ((cu32 (cu32 ())), ())))) (fun z => (z.1.1, z.1.2.2.2.1, z.1.2.2.2.2.2.2.2.2.2.2.2.1, z.1.2.2.2.2.2.2.2.2.2.2.2.2.1)) (fun z => z.1.2.2.2.2.2.2.2.2.2.2.2.2.2.1) (fun _ => rfl) (fun _ => rfl) (fun x r Q h => match r, h with | .inl _, h => h | .inr b0, h => (h)) ?_
  intro x v; kernel_rfl

def history_Causal_T (x0 : List Deed) : Tree Bool :=
  .bnd (history_Closed_T x0) fun y1 =>
  .bnd (.loop (fun v => history_Causal_L3_step x0 y1 x0 (x0.length : Int) v) 0) fun r2 =>
  .sum r2 (fun r3 =>
    .ret r3) (fun r4 =>
    .ret true)

def history_Causal_g : Sig := ⟨14, (.cons (.val false (.list tDeed)) .nil), .vals (.val false .bool), fun z => history_Causal_T z.1, false⟩

theorem history_Causal_ok : history_Causal_g.ok Try.prog := by
  refine Sig.lift mix tabOk nms _ Try.func14 (c := (bodyOf Try.f14)) (by kernel_rfl) (o := orT [history_Closed_g, history_isGood_g, dots_Has_g, history_Put_g, history_wrote_history_Causal_1_g] [history_Causal_L3] noFz) (orT_sound ⟨history_Closed_ok, ⟨history_isGood_ok, ⟨dots_Has_ok, ⟨history_Put_ok, ⟨history_wrote_history_Causal_1_ok, trivial⟩⟩⟩⟩⟩) (allLp_of [nthC (loopsOf (bodyOf Try.f14)) 0] (by kernel_rfl) ⟨history_Causal_L3_ok, trivial⟩ (by kernel_rfl)) ?_
  intro z; kernel_rfl

def history_Covers_1_1_T (x0 : Deed) (x1 : Deed) : Tree Bool :=
  .grd (decide (x0.2.2.2.2.1 < x1.2.2.2.1)) (dots_Has_T x1.2.2.2.2.2.2.2.2.2.2.1 x0.2.2.2.2.2.2.2.2.2.2.2.2) false fun y1 =>
  .ret ((decide (x0.2.2.2.2.1 < x1.2.2.2.1)) && (!y1))

def history_Covers_1_1_g : Sig := ⟨43, (.cons (.val true tDeed) (.cons (.ptr tDeed) .nil)), .vals (.val false .bool), fun z => history_Covers_1_1_T z.1 z.2.1, false⟩

theorem history_Covers_1_1_ok : history_Covers_1_1_g.ok Try.prog := by
  refine Sig.lift mix tabOk nms _ Try.func43 (c := (bodyOf Try.f43)) (by kernel_rfl) (o := orT [dots_Has_g] [] noFz) (orT_sound ⟨dots_Has_ok, trivial⟩) (allLp_of [] (by kernel_rfl) trivial rfl) ?_
  intro z; kernel_rfl

def history_wrote_1___T (x0 : Deed) (x1 : Deed) (x2 : Deed) : Tree Bool :=
  .bnd (history_isWrite_T x0) fun y1 =>
  .grd y1 (history_isGood_T x0) false fun y2 =>
  .grd (y1 && y2) (history_meet_T x0 x1) false fun y3 =>
  .grd ((y1 && y2) && y3) (history_Covers_1_1_T x0 x2) false fun y4 =>
  .ret (((y1 && y2) && y3) && y4)

def history_wrote_1___g : Sig := ⟨56, (.cons (.val true tDeed) (.cons (.ptr tDeed) (.cons (.cp (.cons (.fn 43 .nil (.cons (.ptr tDeed) .nil)) .nil)) .nil))), .vals (.val false .bool), fun z => history_wrote_1___T z.1 z.2.1 z.2.2.1.1.2.1, false⟩

theorem history_wrote_1___ok : history_wrote_1___g.ok Try.prog := by
  refine Sig.lift mix tabOk nms _ Try.func56 (c := (bodyOf Try.f56)) (by kernel_rfl) (o := orT [history_isWrite_g, history_isGood_g, history_meet_g, history_Covers_1_1_g] [] noFz) (orT_sound ⟨history_isWrite_ok, ⟨history_isGood_ok, ⟨history_meet_ok, ⟨history_Covers_1_1_ok, trivial⟩⟩⟩⟩) (allLp_of [] (by kernel_rfl) trivial rfl) ?_
  intro z; kernel_rfl

def slices_IndexFunc_Deed_history_wrote_1___L2_step (s_ : List Deed) (f : Deed) (f2 : Deed) (t : Int) (t2 : Int) : Tree (Int ⊕ (Int ⊕ Unit)) :=
  .ite (decide (t2 < t)) (
    ask (inb t2 s_.length) <|
    .bnd (history_wrote_1___T (s_.getD t2.toNat (dfl tDeed : Deed)) f f2) fun y1 =>
    .ite y1 (
      .ret (.inr (.inl t2))) (
      .ret (.inl (w64 (t2 + 1))))) (
    .ret (.inr (.inr ())))

def slices_IndexFunc_Deed_history_wrote_1___L2 : Lp := ⟨2, [], [], (.cons (.val false (.list tDeed)) (.cons (.fn 56 .nil (.cons (.ptr tDeed) (.cons (.cp (.cons (.fn 43 .nil (.cons (.ptr tDeed) .nil)) .nil)) .nil))) (ca (ca4 (.cons (.val false (.int .i64)) (.cons (.val false (.int .i64)) (ca2 (ca8 .nil)))))))), .nil, 0, .more 0 [] (ca4 (.cons (.val false (.int .i64)) (ca2 (ca4 (ca8 .nil))))) .nil (.one 1 [] (ca (ca2 (ca16 .nil))) .nil), fun z => .bnd (.loop (fun v => slices_IndexFunc_Deed_history_wrote_1___L2_step z.1.1 z.1.2.1.2.1 z.1.2.1.2.2.1.1.2.1 z.1.2.2.2.2.2.2.2.1 v) z.1.2.2.2.2.2.2.2.2.1) fun r => .sum r (fun a0 => .ret (.inl ((cu4 (a0, (cu2 (cu4 (cu8 ()))))), ()))) (fun b0 => .ret (.inr ((cu (cu2 (cu16 ()))), ())))⟩

theorem slices_IndexFunc_Deed_history_wrote_1___L2_ok : slices_IndexFunc_Deed_history_wrote_1___L2.ok Try.prog (nthC (loopsOf (bodyOf Try.f49)) 0) := by
  refine Lp.lift (π := ((List Deed) × Deed × Deed × Int)) (V := Int) (ρ := (Int ⊕ Unit)) mix tabOk slices_IndexFunc_Deed_history_wrote_1___L2 (o := orT [history_wrote_1___g] [] noFz) (orT_sound ⟨history_wrote_1___ok, trivial⟩) (allLp_of [] (by kernel_rfl) trivial rfl) (fun x v => ((x.1, (((), (x.2.1, ((((), (x.2.2.1, ())), ()), ()))), (cu (cu4 (x.2.2.2, (v, (cu2 (cu8 ())))))))), ())) (fun x r => match r with | .inl a0 => .inl ((cu4 (a0, (cu2 (cu4 (cu8 ()))))), ()) | .inr b0 => (.inr ((cu (cu2 (cu16 ()))), ()))) (fun x v => slices_IndexFunc_Deed_history_wrote_1___L2_step x.1 x.2.1 x.2.2.1 x.2.2.2 v) (fun x r => .sum r (fun a0 => .ret (.inl ((cu4 (a0, (cu2 (cu4 (cu8 ()))))), ()))) (fun b0 => .ret (.inr ((cu (cu2 (cu16 ()))), ())))) (fun z => (z.1.1, z.1.2.1.2.1, z.1.2.1.2.2.1.1.2.1, z.1.2.2.2.2.2.2.2.1)) (fun z => z.1.2.2.2.2.2.2.2.2.1) (fun _ => rfl) (fun _ => rfl) (fun x r Q h => match r, h with | .inl _, h => h | .inr b0, h => (h)) ?_
  intro x v; kernel_rfl

def slices_IndexFunc_Deed_history_wrote_1___T (x0 : List Deed) (x1 : Deed) (x2 : Deed) : Tree Int :=
  .bnd (.loop (fun v => slices_IndexFunc_Deed_history_wrote_1___L2_step x0 x1 x2 (x0.length : Int) v) 0) fun r1 =>
  .sum r1 (fun r2 =>
    .ret r2) (fun r3 =>
    .ret (-1))

def slices_IndexFunc_Deed_history_wrote_1___g : Sig := ⟨49, (.cons (.val false (.list tDeed)) (.cons (.fn 56 .nil (.cons (.ptr tDeed) (.cons (.cp (.cons (.fn 43 .nil (.cons (.ptr tDeed) .nil)) .nil)) .nil))) .nil)), .vals (.val false (.int .i64)), fun z => slices_IndexFunc_Deed_history_wrote_1___T z.1 z.2.1.2.1 z.2.1.2.2.1.1.2.1, (0 : Int)⟩

theorem slices_IndexFunc_Deed_history_wrote_1___ok : slices_IndexFunc_Deed_history_wrote_1___g.ok Try.prog := by
  refine Sig.lift mix tabOk nms _ Try.func49 (c := (bodyOf Try.f49)) (by kernel_rfl) (o := orT [history_wrote_1___g] [slices_IndexFunc_Deed_history_wrote_1___L2] noFz) (orT_sound ⟨history_wrote_1___ok, trivial⟩) (allLp_of [nthC (loopsOf (bodyOf Try.f49)) 0] (by kernel_rfl) ⟨slices_IndexFunc_Deed_history_wrote_1___L2_ok, trivial⟩ (by kernel_rfl)) ?_
  intro z; kernel_rfl

def slices_ContainsFunc_Deed_history_wrote_1___T (x0 : List Deed) (x1 : Deed) (x2 : Deed) : Tree Bool :=
  .bnd (slices_IndexFunc_Deed_history_wrote_1___T x0 x1 x2) fun y1 =>
  .ret (decide ((0 : Int) ≤ y1))

def slices_ContainsFunc_Deed_history_wrote_1___g : Sig := ⟨23, (.cons (.val false (.list tDeed)) (.cons (.fn 56 .nil (.cons (.ptr tDeed) (.cons (.cp (.cons (.fn 43 .nil (.cons (.ptr tDeed) .nil)) .nil)) .nil))) .nil)), .vals (.val false .bool), fun z => slices_ContainsFunc_Deed_history_wrote_1___T z.1 z.2.1.2.1 z.2.1.2.2.1.1.2.1, false⟩

theorem slices_ContainsFunc_Deed_history_wrote_1___ok : slices_ContainsFunc_Deed_history_wrote_1___g.ok Try.prog := by
  refine Sig.lift mix tabOk nms _ Try.func23 (c := (bodyOf Try.f23)) (by kernel_rfl) (o := orT [slices_IndexFunc_Deed_history_wrote_1___g] [] noFz) (orT_sound ⟨slices_IndexFunc_Deed_history_wrote_1___ok, trivial⟩) (allLp_of [] (by kernel_rfl) trivial rfl) ?_
  intro z; kernel_rfl

def history_wrote_history_Covers_1_1_T (x0 : List Deed) (x1 : Deed) (x2 : Deed) : Tree Bool :=
  .bnd (slices_ContainsFunc_Deed_history_wrote_1___T x0 x1 x2) fun y1 =>
  .ret y1

def history_wrote_history_Covers_1_1_g : Sig := ⟨39, (.cons (.val false (.list tDeed)) (.cons (.val true tDeed) (.cons (.fn 43 .nil (.cons (.ptr tDeed) .nil)) .nil))), .vals (.val false .bool), fun z => history_wrote_history_Covers_1_1_T z.1 z.2.1 z.2.2.1.2.1, false⟩

theorem history_wrote_history_Covers_1_1_ok : history_wrote_history_Covers_1_1_g.ok Try.prog := by
  refine Sig.lift mix tabOk nms _ Try.func39 (c := (bodyOf Try.f39)) (by kernel_rfl) (o := orT [slices_ContainsFunc_Deed_history_wrote_1___g] [] noFz) (orT_sound ⟨slices_ContainsFunc_Deed_history_wrote_1___ok, trivial⟩) (allLp_of [] (by kernel_rfl) trivial rfl) ?_
  intro z; kernel_rfl

def history_Covers_1_T (x0 : Deed) (x1 : List Deed) : Tree Bool :=
  .grd (((decide (x0.2.2.2.2.2.2.1.1 = 1)) && x0.2.2.2.2.2.2.2.1) && ((decide (x0.2.2.2.2.2.2.2.2.1 = 0)) || (decide (x0.2.2.2.2.2.2.2.2.1 = 5)))) (history_wrote_history_Covers_1_1_T x1 x0 x0) false fun y1 =>
  .ret ((((decide (x0.2.2.2.2.2.2.1.1 = 1)) && x0.2.2.2.2.2.2.2.1) && ((decide (x0.2.2.2.2.2.2.2.2.1 = 0)) || (decide (x0.2.2.2.2.2.2.2.2.1 = 5)))) && y1)

def history_Covers_1_g : Sig := ⟨42, (.cons (.val true tDeed) (.cons (.ptr (.list tDeed)) .nil)), .vals (.val false .bool), fun z => history_Covers_1_T z.1 z.2.1, false⟩

theorem history_Covers_1_ok : history_Covers_1_g.ok Try.prog := by
  refine Sig.lift mix tabOk nms _ Try.func42 (c := (bodyOf Try.f42)) (by kernel_rfl) (o := orT [history_wrote_history_Covers_1_1_g] [] noFz) (orT_sound ⟨history_wrote_history_Covers_1_1_ok, trivial⟩) (allLp_of [] (by kernel_rfl) trivial rfl) ?_
  intro z; kernel_rfl

def slices_IndexFunc_Deed_history_Covers_1_L2_step (s_ : List Deed) (f : List Deed) (t : Int) (t2 : Int) : Tree (Int ⊕ (Int ⊕ Unit)) :=
  .ite (decide (t2 < t)) (
    ask (inb t2 s_.length) <|
    .bnd (history_Covers_1_T (s_.getD t2.toNat (dfl tDeed : Deed)) f) fun y1 =>
    .ite y1 (
      .ret (.inr (.inl t2))) (
      .ret (.inl (w64 (t2 + 1))))) (
    .ret (.inr (.inr ())))

def slices_IndexFunc_Deed_history_Covers_1_L2 : Lp := ⟨2, [], [], (.cons (.val false (.list tDeed)) (.cons (.fn 42 .nil (.cons (.ptr (.list tDeed)) .nil)) (ca (ca4 (.cons (.val false (.int .i64)) (.cons (.val false (.int .i64)) (ca2 (ca8 .nil)))))))), .nil, 0, .more 0 [] (ca4 (.cons (.val false (.int .i64)) (ca2 (ca4 (ca8 .nil))))) .nil (.one 1 [] (ca (ca2 (ca16 .nil))) .nil), fun z => .bnd (.loop (fun v => slices_IndexFunc_Deed_history_Covers_1_L2_step z.1.1 z.1.2.1.2.1 z.1.2.2.2.2.2.2.2.1 v) z.1.2.2.2.2.2.2.2.2.1) fun r => .sum r (fun a0 => .ret (.inl ((cu4 (a0, (cu2 (cu4 (cu8 ()))))), ()))) (fun b0 => .ret (.inr ((cu (cu2 (cu16 ()))), ())))⟩

theorem slices_IndexFunc_Deed_history_Covers_1_L2_ok : slices_IndexFunc_Deed_history_Covers_1_L2.ok Try.prog (nthC (loopsOf (bodyOf Try.f49)) 0) := by
  refine Lp.lift (π := ((List Deed) × (List Deed) × Int)) (V := Int) (ρ := (Int ⊕ Unit)) mix tabOk slices_IndexFunc_Deed_history_Covers_1_L2 (o := orT [history_Covers_1_g] [] noFz) (orT_sound ⟨history_Covers_1_ok, trivial⟩) (allLp_of [] (by kernel_rfl) trivial rfl) (fun x v => ((x.1, (((), (x.2.1, ())), (cu (cu4 (x.2.2, (v, (cu2 (cu8 ())))))))), ())) (fun x r => match r with | .inl a0 => .inl ((cu4 (a0, (cu2 (cu4 (cu8 ()))))), ()) | .inr b0 => (.inr ((cu (cu2 (cu16 ()))), ()))) (fun x v => slices_IndexFunc_Deed_history_Covers_1_L2_step x.1 x.2.1 x.2.2 v) (fun x r => .sum r (fun a0 => .ret (.inl ((cu4 (a0, (cu2 (cu4 (cu8 ()))))), ()))) (fun b0 => .ret (.inr ((cu (cu2 (cu16 ()))), ())))) (fun z => (z.1.1, z.1.2.1.2.1, z.1.2.2.2.2.2.2.2.1)) (fun z => z.1.2.2.2.2.2.2.2.2.1) (fun _ => rfl) (fun _ => rfl) (fun x r Q h => match r, h with | .inl _, h => h | .inr b0, h => (h)) ?_
  intro x v; kernel_rfl

def slices_IndexFunc_Deed_history_Covers_1_T (x0 : List Deed) (x1 : List Deed) : Tree Int :=
  .bnd (.loop (fun v => slices_IndexFunc_Deed_history_Covers_1_L2_step x0 x1 (x0.length : Int) v) 0) fun r1 =>
  .sum r1 (fun r2 =>
    .ret r2) (fun r3 =>
    .ret (-1))

def slices_IndexFunc_Deed_history_Covers_1_g : Sig := ⟨49, (.cons (.val false (.list tDeed)) (.cons (.fn 42 .nil (.cons (.ptr (.list tDeed)) .nil)) .nil)), .vals (.val false (.int .i64)), fun z => slices_IndexFunc_Deed_history_Covers_1_T z.1 z.2.1.2.1, (0 : Int)⟩

theorem slices_IndexFunc_Deed_history_Covers_1_ok : slices_IndexFunc_Deed_history_Covers_1_g.ok Try.prog := by
  refine Sig.lift mix tabOk nms _ Try.func49 (c := (bodyOf Try.f49)) (by kernel_rfl) (o := orT [history_Covers_1_g] [slices_IndexFunc_Deed_history_Covers_1_L2] noFz) (orT_sound ⟨history_Covers_1_ok, trivial⟩) (allLp_of [nthC (loopsOf (bodyOf Try.f49)) 0] (by kernel_rfl) ⟨slices_IndexFunc_Deed_history_Covers_1_L2_ok, trivial⟩ (by kernel_rfl)) ?_
  intro z; kernel_rfl

def slices_ContainsFunc_Deed_history_Covers_1_T (x0 : List Deed) (x1 : List Deed) : Tree Bool :=
  .bnd (slices_IndexFunc_Deed_history_Covers_1_T x0 x1) fun y1 =>
  .ret (decide ((0 : Int) ≤ y1))

def slices_ContainsFunc_Deed_history_Covers_1_g : Sig := ⟨23, (.cons (.val false (.list tDeed)) (.cons (.fn 42 .nil (.cons (.ptr (.list tDeed)) .nil)) .nil)), .vals (.val false .bool), fun z => slices_ContainsFunc_Deed_history_Covers_1_T z.1 z.2.1.2.1, false⟩

theorem slices_ContainsFunc_Deed_history_Covers_1_ok : slices_ContainsFunc_Deed_history_Covers_1_g.ok Try.prog := by
  refine Sig.lift mix tabOk nms _ Try.func23 (c := (bodyOf Try.f23)) (by kernel_rfl) (o := orT [slices_IndexFunc_Deed_history_Covers_1_g] [] noFz) (orT_sound ⟨slices_IndexFunc_Deed_history_Covers_1_ok, trivial⟩) (allLp_of [] (by kernel_rfl) trivial rfl) ?_
  intro z; kernel_rfl

def history_Covers_T (x0 : List Deed) : Tree Bool :=
  .bnd (slices_ContainsFunc_Deed_history_Covers_1_T x0 x0) fun y1 =>
  .ret (!y1)

def history_Covers_g : Sig := ⟨16, (.cons (.val false (.list tDeed)) .nil), .vals (.val false .bool), fun z => history_Covers_T z.1, false⟩

theorem history_Covers_ok : history_Covers_g.ok Try.prog := by
  refine Sig.lift mix tabOk nms _ Try.func16 (c := (bodyOf Try.f16)) (by kernel_rfl) (o := orT [slices_ContainsFunc_Deed_history_Covers_1_g] [] noFz) (orT_sound ⟨slices_ContainsFunc_Deed_history_Covers_1_ok, trivial⟩) (allLp_of [] (by kernel_rfl) trivial rfl) ?_
  intro z; kernel_rfl

def slices_Clone_Deed_T (x0 : List Deed) : Tree (List Deed) :=
  .ite (Nat.beq x0.length 0) (
    .both (
      .ret []) (
      ask (decide (x0.length * 280 ≤ roomNat)) <|
      .ret x0)) (
    ask (decide (x0.length * 280 ≤ roomNat)) <|
    .ret x0)

def slices_Clone_Deed_g : Sig := ⟨33, (.cons (.val false (.list tDeed)) .nil), .fresh 39 tDeed, fun z => slices_Clone_Deed_T z.1, ([] : List Deed)⟩

theorem slices_Clone_Deed_ok : slices_Clone_Deed_g.ok Try.prog := by
  refine Sig.lift mix tabOk nms _ Try.func33 (c := (bodyOf Try.f33)) (by kernel_rfl) (o := orT [] [] noFz) (orT_sound trivial) (allLp_of [] (by kernel_rfl) trivial rfl) ?_
  intro z; kernel_rfl

def slices_Clone_Deed_gv : Sig := ⟨33, (.cons (.val false (.list tDeed)) .nil), .vals (.val false (.list tDeed)), fun z => slices_Clone_Deed_T z.1, ([] : List Deed)⟩

theorem slices_Clone_Deed_okv : slices_Clone_Deed_gv.ok Try.prog := fun x y h => acalls_val (slices_Clone_Deed_ok x y h)

def history_Unanswered_1_T (x0 : Deed) : Tree Bool :=
  .ret x0.2.2.2.2.2.2.2.1

def history_Unanswered_1_g : Sig := ⟨48, (.cons (.val true tDeed) .nil), .vals (.val false .bool), fun z => history_Unanswered_1_T z.1, false⟩

theorem history_Unanswered_1_ok : history_Unanswered_1_g.ok Try.prog := by
  refine Sig.lift mix tabOk nms _ Try.func48 (c := (bodyOf Try.f48)) (by kernel_rfl) (o := orT [] [] noFz) (orT_sound trivial) (allLp_of [] (by kernel_rfl) trivial rfl) ?_
  intro z; kernel_rfl

def slices_IndexFunc_Deed_history_Unanswered_1_L2_step (s_ : List Deed) (t : Int) (t2 : Int) : Tree (Int ⊕ (Int ⊕ Unit)) :=
  .ite (decide (t2 < t)) (
    ask (inb t2 s_.length) <|
    .bnd (history_Unanswered_1_T (s_.getD t2.toNat (dfl tDeed : Deed))) fun y1 =>
    .ite y1 (
      .ret (.inr (.inl t2))) (
      .ret (.inl (w64 (t2 + 1))))) (
    .ret (.inr (.inr ())))

def slices_IndexFunc_Deed_history_Unanswered_1_L2 : Lp := ⟨2, [], [], (.cons (.val false (.list tDeed)) (.cons (.fn 48 .nil .nil) (ca (ca4 (.cons (.val false (.int .i64)) (.cons (.val false (.int .i64)) (ca2 (ca8 .nil)))))))), .nil, 0, .more 0 [] (ca4 (.cons (.val false (.int .i64)) (ca2 (ca4 (ca8 .nil))))) .nil (.one 1 [] (ca (ca2 (ca16 .nil))) .nil), fun z => .bnd (.loop (fun v => slices_IndexFunc_Deed_history_Unanswered_1_L2_step z.1.1 z.1.2.2.2.2.2.2.2.1 v) z.1.2.2.2.2.2.2.2.2.1) fun r => .sum r (fun a0 => .ret (.inl ((cu4 (a0, (cu2 (cu4 (cu8 ()))))), ()))) (fun b0 => .ret (.inr ((cu (cu2 (cu16 ()))), ())))⟩

theorem slices_IndexFunc_Deed_history_Unanswered_1_L2_ok : slices_IndexFunc_Deed_history_Unanswered_1_L2.ok Try.prog (nthC (loopsOf (bodyOf Try.f49)) 0) := by
  refine Lp.lift (π := ((List Deed) × Int)) (V := Int) (ρ := (Int ⊕ Unit)) mix tabOk slices_IndexFunc_Deed_history_Unanswered_1_L2 (o := orT [history_Unanswered_1_g] [] noFz) (orT_sound ⟨history_Unanswered_1_ok, trivial⟩) (allLp_of [] (by kernel_rfl) trivial rfl) (fun x v => ((x.1, (((), ()), (cu (cu4 (x.2, (v, (cu2 (cu8 ())))))))), ())) (fun x r => match r with | .inl a0 => .inl ((cu4 (a0, (cu2 (cu4 (cu8 ()))))), ()) | .inr b0 => (.inr ((cu (cu2 (cu16 ()))), ()))) (fun x v => slices_IndexFunc_Deed_history_Unanswered_1_L2_step x.1 x.2 v) (fun x r => .sum r (fun a0 => .ret (.inl ((cu4 (a0, (cu2 (cu4 (cu8 ()))))), ()))) (fun b0 => .ret (.inr ((cu (cu2 (cu16 ()))), ())))) (fun z => (z.1.1, z.1.2.2.2.2.2.2.2.1)) (fun z => z.1.2.2.2.2.2.2.2.2.1) (fun _ => rfl) (fun _ => rfl) (fun x r Q h => match r, h with | .inl _, h => h | .inr b0, h => (h)) ?_
  intro x v; kernel_rfl

def slices_IndexFunc_Deed_history_Unanswered_1_T (x0 : List Deed) : Tree Int :=
  .bnd (.loop (fun v => slices_IndexFunc_Deed_history_Unanswered_1_L2_step x0 (x0.length : Int) v) 0) fun r1 =>
  .sum r1 (fun r2 =>
    .ret r2) (fun r3 =>
    .ret (-1))

def slices_IndexFunc_Deed_history_Unanswered_1_g : Sig := ⟨49, (.cons (.val false (.list tDeed)) (.cons (.fn 48 .nil .nil) .nil)), .vals (.val false (.int .i64)), fun z => slices_IndexFunc_Deed_history_Unanswered_1_T z.1, (0 : Int)⟩

theorem slices_IndexFunc_Deed_history_Unanswered_1_ok : slices_IndexFunc_Deed_history_Unanswered_1_g.ok Try.prog := by
  refine Sig.lift mix tabOk nms _ Try.func49 (c := (bodyOf Try.f49)) (by kernel_rfl) (o := orT [history_Unanswered_1_g] [slices_IndexFunc_Deed_history_Unanswered_1_L2] noFz) (orT_sound ⟨history_Unanswered_1_ok, trivial⟩) (allLp_of [nthC (loopsOf (bodyOf Try.f49)) 0] (by kernel_rfl) ⟨slices_IndexFunc_Deed_history_Unanswered_1_L2_ok, trivial⟩ (by kernel_rfl)) ?_
  intro z; kernel_rfl

def slices_DeleteFunc_Deed_history_Unanswered_1_L5_step (i : Int) (j : Int) (s_ : List Deed) : Tree ((Int × Int × (List Deed)) ⊕ (Int × (List Deed))) :=
  .ite (decide (j < (s_.length : Int))) (
    ask (inb j s_.length) <|
    .bnd (history_Unanswered_1_T (s_.getD j.toNat (dfl tDeed : Deed))) fun y1 =>
    .ite (!y1) (
      ask (inb i s_.length) <|
      .ret (.inl ((w64 (i + 1)), (w64 (j + 1)), (s_.set i.toNat (s_.getD j.toNat (dfl tDeed : Deed)))))) (
      .ret (.inl (i, (w64 (j + 1)), s_)))) (
    .ret (.inr (i, s_)))

def slices_DeleteFunc_Deed_history_Unanswered_1_L5 : Lp := ⟨5, [], [], (.cons (.own 0) (.cons (.fn 48 .nil .nil) (ca (ca2 (.cons (.val false (.int .i64)) (.cons (.val false (.int .i64)) (ca (ca2 (ca32 .nil))))))))), (.rows 39 tDeed .nil), 1, .one 1 [] (.cons (.own 0) (ca4 (.cons (.val false (.int .i64)) (ca4 (ca32 .nil))))) (.rows 39 tDeed .nil), fun z => .bnd (.loop (fun v => slices_DeleteFunc_Deed_history_Unanswered_1_L5_step v.1 v.2.1 v.2.2) (z.1.2.2.2.2.2.1, z.1.2.2.2.2.2.2.1, z.2.1)) fun r => .ret (((), (cu4 (r.1, (cu4 (cu32 ()))))), (r.2, ()))⟩

theorem slices_DeleteFunc_Deed_history_Unanswered_1_L5_ok : slices_DeleteFunc_Deed_history_Unanswered_1_L5.ok Try.prog (nthC (loopsOf (bodyOf Try.f32)) 0) := by
  refine Lp.lift (π := Unit) (V := (Int × Int × (List Deed))) (ρ := (Int × (List Deed))) mix tabOk slices_DeleteFunc_Deed_history_Unanswered_1_L5 (o := orT [slices_IndexFunc_Deed_history_Unanswered_1_g, history_Unanswered_1_g] [] noFz) (orT_sound ⟨slices_IndexFunc_Deed_history_Unanswered_1_ok, ⟨history_Unanswered_1_ok, trivial⟩⟩) (allLp_of [] (by kernel_rfl) trivial rfl) (fun x v => (((), (((), ()), (cu (cu2 (v.1, (v.2.1, (cu (cu2 (cu32 ()))))))))), (v.2.2, ()))) (fun x r => (((), (cu4 (r.1, (cu4 (cu32 ()))))), (r.2, ()))) (fun x v => slices_DeleteFunc_Deed_history_Unanswered_1_L5_step v.1 v.2.1 v.2.2) (fun x r => .ret (((), (cu4 (r.1, (cu4 (cu32 ()))))), (r.2, ()))) (fun z => ()) (fun z => (z.1.2.2.2.2.2.1, z.1.2.2.2.2.2.2.1, z.2.1)) (fun _ => rfl) (fun _ => rfl) (fun _ _ _ h => h) ?_
  intro x v; kernel_rfl

def slices_DeleteFunc_Deed_history_Unanswered_1_T (x0 : List Deed) : Tree (List Deed × Unit) :=
  .bnd (slices_IndexFunc_Deed_history_Unanswered_1_T x0) fun y1 =>
  .ite (decide (y1 = (-1))) (
    .ret (x0, ())) (
    .bnd (.loop (fun v => slices_DeleteFunc_Deed_history_Unanswered_1_L5_step v.1 v.2.1 v.2.2) (y1, (w64 (y1 + 1)), x0)) fun r2 =>
    ask (inbe r2.1 r2.2.length) <|
    ask (inbe r2.1 (clearL r2.1.toNat (r2.2.length - r2.1.toNat) ([], ([], (0, (0, (0, (0, ((0, ([], ([], ([], ([], ([], 0)))))), (false, (0, ([], ([], ([], ([], 0))))))))))))) r2.2).length) <|
    .ret (((clearL r2.1.toNat (r2.2.length - r2.1.toNat) ([], ([], (0, (0, (0, (0, ((0, ([], ([], ([], ([], ([], 0)))))), (false, (0, ([], ([], ([], ([], 0))))))))))))) r2.2).take r2.1.toNat), ()))

def slices_DeleteFunc_Deed_history_Unanswered_1_g : MSig := ⟨32, (.cons (.own 0) (.cons (.fn 48 .nil .nil) .nil)), (.rows 39 tDeed .nil), [.frz 0], (.val false (.list tDeed)), (.dead .nil), some 0, fun z => slices_DeleteFunc_Deed_history_Unanswered_1_T z.2.1⟩

theorem slices_DeleteFunc_Deed_history_Unanswered_1_ok : slices_DeleteFunc_Deed_history_Unanswered_1_g.ok Try.prog := by
  refine MSig.lift mix tabOk nms _ Try.func32 (c := (bodyOf Try.f32)) (by kernel_rfl) (o := orT [slices_IndexFunc_Deed_history_Unanswered_1_g, history_Unanswered_1_g] [slices_DeleteFunc_Deed_history_Unanswered_1_L5] noFz) (orT_sound ⟨slices_IndexFunc_Deed_history_Unanswered_1_ok, ⟨history_Unanswered_1_ok, trivial⟩⟩) (allLp_of [nthC (loopsOf (bodyOf Try.f32)) 0] (by kernel_rfl) ⟨slices_DeleteFunc_Deed_history_Unanswered_1_L5_ok, trivial⟩ (by kernel_rfl)) (fun _ => rfl) ?_
  intro z; kernel_rfl

def history_Unanswered_T (x0 : List Deed) : Tree Int :=
  .bnd (slices_Clone_Deed_T x0) fun y1 =>
  .bnd (slices_DeleteFunc_Deed_history_Unanswered_1_T y1) fun y2 =>
  .ret (y2.1.length : Int)

def history_Unanswered_g : Sig := ⟨20, (.cons (.val false (.list tDeed)) .nil), .vals (.val false (.int .i64)), fun z => history_Unanswered_T z.1, (0 : Int)⟩

theorem history_Unanswered_ok : history_Unanswered_g.ok Try.prog := by
  refine Sig.lift mix tabOk nms _ Try.func20 (c := (bodyOf Try.f20)) (by kernel_rfl) (o := orM [slices_Clone_Deed_g] [slices_DeleteFunc_Deed_history_Unanswered_1_g] [] noFz) (orM_sound ⟨slices_Clone_Deed_ok, trivial⟩ ⟨slices_DeleteFunc_Deed_history_Unanswered_1_ok, trivial⟩) (allLp_ofM [] (by kernel_rfl) trivial rfl) ?_
  intro z; kernel_rfl

def history_Of_1_T (x0 : Deed) (x1 : Str) (x2 : Str) : Tree Bool :=
  .grd (!(!(x0.2.1 == x1))) (history_place_T x0) ([] : Str) fun y1 =>
  .ret ((!(x0.2.1 == x1)) || (!(y1 == x2)))

def history_Of_1_g : Sig := ⟨34, (.cons (.val true tDeed) (.cons (.ptr .str) (.cons (.ptr .str) .nil))), .vals (.val false .bool), fun z => history_Of_1_T z.1 z.2.1 z.2.2.1, false⟩

theorem history_Of_1_ok : history_Of_1_g.ok Try.prog := by
  refine Sig.lift mix tabOk nms _ Try.func34 (c := (bodyOf Try.f34)) (by kernel_rfl) (o := orT [history_place_g] [] noFz) (orT_sound ⟨history_place_ok, trivial⟩) (allLp_of [] (by kernel_rfl) trivial rfl) ?_
  intro z; kernel_rfl

def slices_IndexFunc_Deed_history_Of_1_L2_step (s_ : List Deed) (f : Str) (f2 : Str) (t : Int) (t2 : Int) : Tree (Int ⊕ (Int ⊕ Unit)) :=
  .ite (decide (t2 < t)) (
    ask (inb t2 s_.length) <|
    .bnd (history_Of_1_T (s_.getD t2.toNat (dfl tDeed : Deed)) f f2) fun y1 =>
    .ite y1 (
      .ret (.inr (.inl t2))) (
      .ret (.inl (w64 (t2 + 1))))) (
    .ret (.inr (.inr ())))

def slices_IndexFunc_Deed_history_Of_1_L2 : Lp := ⟨2, [], [], (.cons (.val false (.list tDeed)) (.cons (.fn 34 .nil (.cons (.ptr .str) (.cons (.ptr .str) .nil))) (ca (ca4 (.cons (.val false (.int .i64)) (.cons (.val false (.int .i64)) (ca2 (ca8 .nil)))))))), .nil, 0, .more 0 [] (ca4 (.cons (.val false (.int .i64)) (ca2 (ca4 (ca8 .nil))))) .nil (.one 1 [] (ca (ca2 (ca16 .nil))) .nil), fun z => .bnd (.loop (fun v => slices_IndexFunc_Deed_history_Of_1_L2_step z.1.1 z.1.2.1.2.1 z.1.2.1.2.2.1 z.1.2.2.2.2.2.2.2.1 v) z.1.2.2.2.2.2.2.2.2.1) fun r => .sum r (fun a0 => .ret (.inl ((cu4 (a0, (cu2 (cu4 (cu8 ()))))), ()))) (fun b0 => .ret (.inr ((cu (cu2 (cu16 ()))), ())))⟩

theorem slices_IndexFunc_Deed_history_Of_1_L2_ok : slices_IndexFunc_Deed_history_Of_1_L2.ok Try.prog (nthC (loopsOf (bodyOf Try.f49)) 0) := by
  refine Lp.lift (π := ((List Deed) × Str × Str × Int)) (V := Int) (ρ := (Int ⊕ Unit)) mix tabOk slices_IndexFunc_Deed_history_Of_1_L2 (o := orT [history_Of_1_g] [] noFz) (orT_sound ⟨history_Of_1_ok, trivial⟩) (allLp_of [] (by kernel_rfl) trivial rfl) (fun x v => ((x.1, (((), (x.2.1, (x.2.2.1, ()))), (cu (cu4 (x.2.2.2, (v, (cu2 (cu8 ())))))))), ())) (fun x r => match r with | .inl a0 => .inl ((cu4 (a0, (cu2 (cu4 (cu8 ()))))), ()) | .inr b0 => (.inr ((cu (cu2 (cu16 ()))), ()))) (fun x v => slices_IndexFunc_Deed_history_Of_1_L2_step x.1 x.2.1 x.2.2.1 x.2.2.2 v) (fun x r => .sum r (fun a0 => .ret (.inl ((cu4 (a0, (cu2 (cu4 (cu8 ()))))), ()))) (fun b0 => .ret (.inr ((cu (cu2 (cu16 ()))), ())))) (fun z => (z.1.1, z.1.2.1.2.1, z.1.2.1.2.2.1, z.1.2.2.2.2.2.2.2.1)) (fun z => z.1.2.2.2.2.2.2.2.2.1) (fun _ => rfl) (fun _ => rfl) (fun x r Q h => match r, h with | .inl _, h => h | .inr b0, h => (h)) ?_
  intro x v; kernel_rfl

def slices_IndexFunc_Deed_history_Of_1_T (x0 : List Deed) (x1 : Str) (x2 : Str) : Tree Int :=
  .bnd (.loop (fun v => slices_IndexFunc_Deed_history_Of_1_L2_step x0 x1 x2 (x0.length : Int) v) 0) fun r1 =>
  .sum r1 (fun r2 =>
    .ret r2) (fun r3 =>
    .ret (-1))

def slices_IndexFunc_Deed_history_Of_1_g : Sig := ⟨49, (.cons (.val false (.list tDeed)) (.cons (.fn 34 .nil (.cons (.ptr .str) (.cons (.ptr .str) .nil))) .nil)), .vals (.val false (.int .i64)), fun z => slices_IndexFunc_Deed_history_Of_1_T z.1 z.2.1.2.1 z.2.1.2.2.1, (0 : Int)⟩

theorem slices_IndexFunc_Deed_history_Of_1_ok : slices_IndexFunc_Deed_history_Of_1_g.ok Try.prog := by
  refine Sig.lift mix tabOk nms _ Try.func49 (c := (bodyOf Try.f49)) (by kernel_rfl) (o := orT [history_Of_1_g] [slices_IndexFunc_Deed_history_Of_1_L2] noFz) (orT_sound ⟨history_Of_1_ok, trivial⟩) (allLp_of [nthC (loopsOf (bodyOf Try.f49)) 0] (by kernel_rfl) ⟨slices_IndexFunc_Deed_history_Of_1_L2_ok, trivial⟩ (by kernel_rfl)) ?_
  intro z; kernel_rfl

def slices_DeleteFunc_Deed_history_Of_1_L5_step (c : Str) (c2 : Str) (i : Int) (j : Int) (s_ : List Deed) : Tree ((Int × Int × (List Deed)) ⊕ (Int × (List Deed))) :=
  .ite (decide (j < (s_.length : Int))) (
    ask (inb j s_.length) <|
    .bnd (history_Of_1_T (s_.getD j.toNat (dfl tDeed : Deed)) c c2) fun y1 =>
    .ite (!y1) (
      ask (inb i s_.length) <|
      .ret (.inl ((w64 (i + 1)), (w64 (j + 1)), (s_.set i.toNat (s_.getD j.toNat (dfl tDeed : Deed)))))) (
      .ret (.inl (i, (w64 (j + 1)), s_)))) (
    .ret (.inr (i, s_)))

def slices_DeleteFunc_Deed_history_Of_1_L5 : Lp := ⟨5, [], [], (.cons (.own 0) (.cons (.fn 34 .nil (.cons (.ref 1 0) (.cons (.ref 2 0) .nil))) (ca (ca2 (.cons (.val false (.int .i64)) (.cons (.val false (.int .i64)) (ca (ca2 (ca32 .nil))))))))), (.rows 39 tDeed (.cells 9 (.cons (.val false .str) .nil) (.cells 9 (.cons (.val false .str) .nil) .nil))), 3, .one 1 [] (.cons (.own 0) (ca4 (.cons (.val false (.int .i64)) (ca4 (ca32 .nil))))) (.rows 39 tDeed (.cells 9 (.cons (.val false .str) .nil) (.cells 9 (.cons (.val false .str) .nil) .nil))), fun z => .bnd (.loop (fun v => slices_DeleteFunc_Deed_history_Of_1_L5_step z.2.2.1.1 z.2.2.2.1.1 v.1 v.2.1 v.2.2) (z.1.2.2.2.2.2.1, z.1.2.2.2.2.2.2.1, z.2.1)) fun r => .ret (((), (cu4 (r.1, (cu4 (cu32 ()))))), (r.2, ((z.2.2.1.1, ()), ((z.2.2.2.1.1, ()), ()))))⟩

theorem slices_DeleteFunc_Deed_history_Of_1_L5_ok : slices_DeleteFunc_Deed_history_Of_1_L5.ok Try.prog (nthC (loopsOf (bodyOf Try.f32)) 0) := by
  refine Lp.lift (π := (Str × Str)) (V := (Int × Int × (List Deed))) (ρ := (Int × (List Deed))) mix tabOk slices_DeleteFunc_Deed_history_Of_1_L5 (o := orT [slices_IndexFunc_Deed_history_Of_1_g, history_Of_1_g] [] noFz) (orT_sound ⟨slices_IndexFunc_Deed_history_Of_1_ok, ⟨history_Of_1_ok, trivial⟩⟩) (allLp_of [] (by kernel_rfl) trivial rfl) (fun x v => (((), (((), ((), ((), ()))), (cu (cu2 (v.1, (v.2.1, (cu (cu2 (cu32 ()))))))))), (v.2.2, ((x.1, ()), ((x.2, ()), ()))))) (fun x r => (((), (cu4 (r.1, (cu4 (cu32 ()))))), (r.2, ((x.1, ()), ((x.2, ()), ()))))) (fun x v => slices_DeleteFunc_Deed_history_Of_1_L5_step x.1 x.2 v.1 v.2.1 v.2.2) (fun x r => .ret (((), (cu4 (r.1, (cu4 (cu32 ()))))), (r.2, ((x.1, ()), ((x.2, ()), ()))))) (fun z => (z.2.2.1.1, z.2.2.2.1.1)) (fun z => (z.1.2.2.2.2.2.1, z.1.2.2.2.2.2.2.1, z.2.1)) (fun _ => rfl) (fun _ => rfl) (fun _ _ _ h => h) ?_
  intro x v; kernel_rfl

def slices_DeleteFunc_Deed_history_Of_1_T (x0 : List Deed) (x1 : Str) (x2 : Str) : Tree (List Deed × ((Str × Unit) × ((Str × Unit) × Unit))) :=
  .bnd (slices_IndexFunc_Deed_history_Of_1_T x0 x1 x2) fun y1 =>
  .ite (decide (y1 = (-1))) (
    .ret (x0, ((x1, ()), ((x2, ()), ())))) (
    .bnd (.loop (fun v => slices_DeleteFunc_Deed_history_Of_1_L5_step x1 x2 v.1 v.2.1 v.2.2) (y1, (w64 (y1 + 1)), x0)) fun r2 =>
    ask (inbe r2.1 r2.2.length) <|
    ask (inbe r2.1 (clearL r2.1.toNat (r2.2.length - r2.1.toNat) ([], ([], (0, (0, (0, (0, ((0, ([], ([], ([], ([], ([], 0)))))), (false, (0, ([], ([], ([], ([], 0))))))))))))) r2.2).length) <|
    .ret (((clearL r2.1.toNat (r2.2.length - r2.1.toNat) ([], ([], (0, (0, (0, (0, ((0, ([], ([], ([], ([], ([], 0)))))), (false, (0, ([], ([], ([], ([], 0))))))))))))) r2.2).take r2.1.toNat), ((x1, ()), ((x2, ()), ()))))

def slices_DeleteFunc_Deed_history_Of_1_g : MSig := ⟨32, (.cons (.own 0) (.cons (.fn 34 .nil (.cons (.ref 1 0) (.cons (.ref 2 0) .nil))) .nil)), (.rows 39 tDeed (.cells 9 (.cons (.val false .str) .nil) (.cells 9 (.cons (.val false .str) .nil) .nil))), [.frz 0], (.val false (.list tDeed)), (.dead (.cells 9 (.cons (.val false .str) .nil) (.cells 9 (.cons (.val false .str) .nil) .nil))), some 0, fun z => slices_DeleteFunc_Deed_history_Of_1_T z.2.1 z.2.2.1.1 z.2.2.2.1.1⟩

theorem slices_DeleteFunc_Deed_history_Of_1_ok : slices_DeleteFunc_Deed_history_Of_1_g.ok Try.prog := by
  refine MSig.lift mix tabOk nms _ Try.func32 (c := (bodyOf Try.f32)) (by kernel_rfl) (o := orT [slices_IndexFunc_Deed_history_Of_1_g, history_Of_1_g] [slices_DeleteFunc_Deed_history_Of_1_L5] noFz) (orT_sound ⟨slices_IndexFunc_Deed_history_Of_1_ok, ⟨history_Of_1_ok, trivial⟩⟩) (allLp_of [nthC (loopsOf (bodyOf Try.f32)) 0] (by kernel_rfl) ⟨slices_DeleteFunc_Deed_history_Of_1_L5_ok, trivial⟩ (by kernel_rfl)) (fun _ => rfl) ?_
  intro z; kernel_rfl

def history_Of_T (x0 : List Deed) (x1 : Str) (x2 : Str) : Tree (List Deed) :=
  .bnd (slices_Clone_Deed_T x0) fun y1 =>
  .bnd (slices_DeleteFunc_Deed_history_Of_1_T y1 x1 x2) fun y2 =>
  .ret y2.1

def history_Of_g : Sig := ⟨11, (.cons (.val false (.list tDeed)) (.cons (.val false .str) (.cons (.val false .str) .nil))), .vals (.val false (.list tDeed)), fun z => history_Of_T z.1 z.2.1 z.2.2.1, ([] : List Deed)⟩

theorem history_Of_ok : history_Of_g.ok Try.prog := by
  refine Sig.lift mix tabOk nms _ Try.func11 (c := (bodyOf Try.f11)) (by kernel_rfl) (o := orM [slices_Clone_Deed_g] [slices_DeleteFunc_Deed_history_Of_1_g] [] noFz) (orM_sound ⟨slices_Clone_Deed_ok, trivial⟩ ⟨slices_DeleteFunc_Deed_history_Of_1_ok, trivial⟩) (allLp_ofM [] (by kernel_rfl) trivial rfl) ?_
  intro z; kernel_rfl

def l44_awake_T  : Tree Bool :=
  .bnd (history_Causal_T [(([97] : Str), (([116] : Str), (1, (1, (2, (0, ((2, ([], (([98] : Str), (([107] : Str), (([118] : Str), ([], 0)))))), (true, (0, ([], ([], ([], (([97] : Str), 1))))))))))))), (([98] : Str), (([116] : Str), (1, (3, (4, (0, ((1, ([], (([98] : Str), (([107] : Str), ([], ([], 0)))))), (true, (0, ([((([97] : Str), 1), (([118] : Str), (false, 0)))], ([(([97] : Str), (1, []))], ([], ([], 0)))))))))))))]) fun y1 =>
  .grd y1 (history_Causal_T [(([97] : Str), (([116] : Str), (1, (1, (2, (0, ((2, ([], (([98] : Str), (([107] : Str), (([118] : Str), ([], 0)))))), (true, (0, ([], ([], ([], (([97] : Str), 1))))))))))))), (([98] : Str), (([116] : Str), (1, (3, (4, (0, ((1, ([], (([98] : Str), (([107] : Str), ([], ([], 0)))))), (true, (0, ([((([97] : Str), 1), (([120] : Str), (false, 0)))], ([(([97] : Str), (1, []))], ([], ([], 0)))))))))))))]) false fun y2 =>
  .grd (y1 && (!y2)) (history_Covers_T [(([97] : Str), (([116] : Str), (1, (1, (2, (0, ((2, ([], (([98] : Str), (([107] : Str), (([118] : Str), ([], 0)))))), (true, (0, ([], ([], ([], (([97] : Str), 1))))))))))))), (([98] : Str), (([116] : Str), (1, (3, (4, (0, ((1, ([], (([98] : Str), (([107] : Str), ([], ([], 0)))))), (true, (0, ([((([97] : Str), 1), (([118] : Str), (false, 0)))], ([(([97] : Str), (1, []))], ([], ([], 0)))))))))))))]) false fun y3 =>
  .grd ((y1 && (!y2)) && y3) (history_Covers_T [(([97] : Str), (([116] : Str), (1, (1, (2, (0, ((2, ([], (([98] : Str), (([107] : Str), (([118] : Str), ([], 0)))))), (true, (0, ([], ([], ([], (([97] : Str), 1))))))))))))), (([98] : Str), (([116] : Str), (1, (3, (4, (0, ((1, ([], (([98] : Str), (([107] : Str), ([], ([], 0)))))), (true, (0, ([], ([], ([], ([], 0)))))))))))))]) false fun y4 =>
  .grd (((y1 && (!y2)) && y3) && (!y4)) (history_Put_T [(([97] : Str), (([116] : Str), (1, (1, (2, (0, ((2, ([], (([98] : Str), (([107] : Str), (([118] : Str), ([], 0)))))), (true, (0, ([], ([], ([], (([97] : Str), 1)))))))))))))] (([98] : Str), (([116] : Str), (1, (3, (4, (0, ((1, ([], (([98] : Str), (([107] : Str), ([], ([], 0)))))), (true, (0, ([((([97] : Str), 1), (([118] : Str), (false, 0)))], ([(([97] : Str), (1, []))], ([], ([], 0))))))))))))) ((([97] : Str), 1), (([118] : Str), (false, 0)))) false fun y5 =>
  .grd ((((y1 && (!y2)) && y3) && (!y4)) && y5) (history_Closed_T [(([97] : Str), (([116] : Str), (1, (1, (2, (0, ((2, ([], (([98] : Str), (([107] : Str), (([118] : Str), ([], 0)))))), (true, (0, ([], ([], ([], (([97] : Str), 1))))))))))))), (([98] : Str), (([116] : Str), (1, (3, (4, (0, ((1, ([], (([98] : Str), (([107] : Str), ([], ([], 0)))))), (true, (0, ([], ([], ([], ([], 0)))))))))))))]) false fun y6 =>
  .grd (((((y1 && (!y2)) && y3) && (!y4)) && y5) && y6) (history_Unanswered_T [([], ([], (0, (0, (0, (0, ((0, ([], ([], ([], ([], ([], 0)))))), (false, (0, ([], ([], ([], ([], 0)))))))))))))]) (0 : Int) fun y7 =>
  .grd ((((((y1 && (!y2)) && y3) && (!y4)) && y5) && y6) && (decide (y7 = 1))) (history_Of_T [(([97] : Str), (([116] : Str), (1, (1, (2, (0, ((2, ([], (([98] : Str), (([107] : Str), (([118] : Str), ([], 0)))))), (true, (0, ([], ([], ([], (([97] : Str), 1))))))))))))), (([98] : Str), (([116] : Str), (1, (3, (4, (0, ((1, ([], (([98] : Str), (([107] : Str), ([], ([], 0)))))), (true, (0, ([], ([], ([], ([], 0)))))))))))))] ([116] : Str) ([98, 47, 107] : Str)) ([] : List Deed) fun y8 =>
  .ret (((((((y1 && (!y2)) && y3) && (!y4)) && y5) && y6) && (decide (y7 = 1))) && (decide ((y8.length : Int) = 2)))

def l44_awake_g : Sig := ⟨7, .nil, .vals (.val false .bool), fun z => l44_awake_T, false⟩

theorem l44_awake_ok : l44_awake_g.ok Try.prog := by
  refine Sig.lift mix tabOk nms _ Try.func7 (c := (bodyOf Try.f7)) (by kernel_rfl) (o := orT [history_Causal_g, history_Covers_g, history_Put_g, history_Closed_g, history_Unanswered_g, history_Of_g] [] noFz) (orT_sound ⟨history_Causal_ok, ⟨history_Covers_ok, ⟨history_Put_ok, ⟨history_Closed_ok, ⟨history_Unanswered_ok, ⟨history_Of_ok, trivial⟩⟩⟩⟩⟩⟩) (allLp_of [] (by kernel_rfl) trivial rfl) ?_
  intro z; kernel_rfl

def r43_Writes_T (x0 : Deed) : Tree Bool :=
  .ret ((decide (x0.2.2.2.2.2.2.1.1 = 2)) || (decide (x0.2.2.2.2.2.2.1.1 = 3)))

def r43_Writes_g : Sig := ⟨28, (.cons (.val true tDeed) .nil), .vals (.val false .bool), fun z => r43_Writes_T z.1, false⟩

theorem r43_Writes_ok : r43_Writes_g.ok Try.prog := by
  refine Sig.lift mix tabOk nms _ Try.func28 (c := (bodyOf Try.f28)) (by kernel_rfl) (o := orT [] [] noFz) (orT_sound trivial) (allLp_of [] (by kernel_rfl) trivial rfl) ?_
  intro z; kernel_rfl

def r05_Join_T (x0 : Str) (x1 : Str) : Tree Str :=
  ask (decide (x0.length + ([47] : Str).length ≤ 9223372036854775807)) <|
  ask (decide ((x0 ++ ([47] : Str)).length + x1.length ≤ 9223372036854775807)) <|
  .ret ((x0 ++ ([47] : Str)) ++ x1)

def r05_Join_g : Sig := ⟨36, (.cons (.val false .str) (.cons (.val false .str) .nil)), .vals (.val false .str), fun z => r05_Join_T z.1 z.2.1, ([] : Str)⟩

theorem r05_Join_ok : r05_Join_g.ok Try.prog := by
  refine Sig.lift mix tabOk nms _ Try.func36 (c := (bodyOf Try.f36)) (by kernel_rfl) (o := orT [] [] noFz) (orT_sound trivial) (allLp_of [] (by kernel_rfl) trivial rfl) ?_
  intro z; kernel_rfl

def r43_Place_T (x0 : Deed) : Tree Str :=
  .bnd (r05_Join_T x0.2.2.2.2.2.2.1.2.2.1 x0.2.2.2.2.2.2.1.2.2.2.1) fun y1 =>
  .ret y1

def r43_Place_g : Sig := ⟨12, (.cons (.val true tDeed) .nil), .vals (.val false .str), fun z => r43_Place_T z.1, ([] : Str)⟩

theorem r43_Place_ok : r43_Place_g.ok Try.prog := by
  refine Sig.lift mix tabOk nms _ Try.func12 (c := (bodyOf Try.f12)) (by kernel_rfl) (o := orT [r05_Join_g] [] noFz) (orT_sound ⟨r05_Join_ok, trivial⟩) (allLp_of [] (by kernel_rfl) trivial rfl) ?_
  intro z; kernel_rfl

def r43_Meets_T (x0 : Deed) (x1 : Deed) : Tree Bool :=
  .grd (x0.2.1 == x1.2.1) (r43_Place_T x0) ([] : Str) fun y1 =>
  .grd (x0.2.1 == x1.2.1) (r43_Place_T x1) ([] : Str) fun y2 =>
  .ret ((x0.2.1 == x1.2.1) && (y1 == y2))

def r43_Meets_g : Sig := ⟨29, (.cons (.val true tDeed) (.cons (.val true tDeed) .nil)), .vals (.val false .bool), fun z => r43_Meets_T z.1 z.2.1, false⟩

theorem r43_Meets_ok : r43_Meets_g.ok Try.prog := by
  refine Sig.lift mix tabOk nms _ Try.func29 (c := (bodyOf Try.f29)) (by kernel_rfl) (o := orT [r43_Place_g] [] noFz) (orT_sound ⟨r43_Place_ok, trivial⟩) (allLp_of [] (by kernel_rfl) trivial rfl) ?_
  intro z; kernel_rfl

def r43_Good_T (x0 : Deed) : Tree Bool :=
  .ret (x0.2.2.2.2.2.2.2.1 && (decide (x0.2.2.2.2.2.2.2.2.1 = 0)))

def r43_Good_g : Sig := ⟨30, (.cons (.val true tDeed) .nil), .vals (.val false .bool), fun z => r43_Good_T z.1, false⟩

theorem r43_Good_ok : r43_Good_g.ok Try.prog := by
  refine Sig.lift mix tabOk nms _ Try.func30 (c := (bodyOf Try.f30)) (by kernel_rfl) (o := orT [] [] noFz) (orT_sound trivial) (allLp_of [] (by kernel_rfl) trivial rfl) ?_
  intro z; kernel_rfl

def r44_Put_L2_step (l : List Deed) (g : Deed) (s_ : Sib) (i : Int) : Tree (Int ⊕ (Bool ⊕ Unit)) :=
  .ite (decide (i < (l.length : Int))) (
    ask (inb i l.length) <|
    .bnd (r43_Writes_T (l.getD i.toNat (dfl tDeed : Deed))) fun y1 =>
    .grd y1 (r43_Meets_T (l.getD i.toNat (dfl tDeed : Deed)) g) false fun y2 =>
    .grd ((((((y1 && y2) && ((l.getD i.toNat (dfl tDeed : Deed)).1 == s_.1.1)) && (decide ((l.getD i.toNat (dfl tDeed : Deed)).2.2.2.1 < g.2.2.2.2.1))) && ((l.getD i.toNat (dfl tDeed : Deed)).2.2.2.2.2.2.1.2.2.2.2.1 == s_.2.1)) && (decide ((l.getD i.toNat (dfl tDeed : Deed)).2.2.2.2.2.2.1.2.2.2.2.2.2 = s_.2.2.2))) && ((decide ((l.getD i.toNat (dfl tDeed : Deed)).2.2.2.2.2.2.1.1 = 3)) == s_.2.2.1)) (r43_Good_T (l.getD i.toNat (dfl tDeed : Deed))) false fun y3 =>
    .ite (((((((y1 && y2) && ((l.getD i.toNat (dfl tDeed : Deed)).1 == s_.1.1)) && (decide ((l.getD i.toNat (dfl tDeed : Deed)).2.2.2.1 < g.2.2.2.2.1))) && ((l.getD i.toNat (dfl tDeed : Deed)).2.2.2.2.2.2.1.2.2.2.2.1 == s_.2.1)) && (decide ((l.getD i.toNat (dfl tDeed : Deed)).2.2.2.2.2.2.1.2.2.2.2.2.2 = s_.2.2.2))) && ((decide ((l.getD i.toNat (dfl tDeed : Deed)).2.2.2.2.2.2.1.1 = 3)) == s_.2.2.1)) && ((!y3) || (((l.getD i.toNat (dfl tDeed : Deed)).2.2.2.2.2.2.2.2.2.2.2.2.1 == s_.1.1) && ((decide ((l.getD i.toNat (dfl tDeed : Deed)).2.2.2.2.2.2.2.2.2.2.2.2.2 = s_.1.2)) && true)))) (
      .ret (.inr (.inl true))) (
      .ret (.inl (w64 (i + 1))))) (
    .ret (.inr (.inr ())))

def r44_Put_L2 : Lp := ⟨2, [], [], (.cons (.val false (.list tDeed)) (ca (ca2 (.cons (.ref 0 0) (.cons (.ref 1 0) (ca (.cons (.val false (.int .i64)) (ca (ca2 (ca4 (ca32 (ca32 .nil)))))))))))), (.cells 39 (.cons (.flat tDeed) .nil) (.cells 26 (.cons (.flat tSib) .nil) .nil)), 0, .more 0 [] (ca2 (ca4 (.cons (.val false .bool) (ca8 (ca32 (ca32 .nil)))))) .nil (.one 1 [] (ca (ca2 (ca4 (ca8 (ca32 (ca32 .nil)))))) .nil), fun z => .bnd (.loop (fun v => r44_Put_L2_step z.1.1 z.2.1.1 z.2.2.1.1 v) z.1.2.2.2.2.2.2.2.1) fun r => .sum r (fun a0 => .ret (.inl ((cu2 (cu4 (a0, (cu8 (cu32 (cu32 ())))))), ()))) (fun b0 => .ret (.inr ((cu (cu2 (cu4 (cu8 (cu32 (cu32 ())))))), ())))⟩

theorem r44_Put_L2_ok : r44_Put_L2.ok Try.prog (nthC (loopsOf (bodyOf Try.f9)) 0) := by
  refine Lp.lift (π := ((List Deed) × Deed × Sib)) (V := Int) (ρ := (Bool ⊕ Unit)) mix tabOk r44_Put_L2 (o := orT [r43_Writes_g, r43_Meets_g, r43_Good_g] [] noFz) (orT_sound ⟨r43_Writes_ok, ⟨r43_Meets_ok, ⟨r43_Good_ok, trivial⟩⟩⟩) (allLp_of [] (by kernel_rfl) trivial rfl) (fun x v => ((x.1, (cu (cu2 ((), ((), (cu (v, (cu (cu2 (cu4 (cu32 (cu32 ())))))))))))), ((x.2.1, ()), ((x.2.2, ()), ())))) (fun x r => match r with | .inl a0 => .inl ((cu2 (cu4 (a0, (cu8 (cu32 (cu32 ())))))), ()) | .inr b0 => (.inr ((cu (cu2 (cu4 (cu8 (cu32 (cu32 ())))))), ()))) (fun x v => r44_Put_L2_step x.1 x.2.1 x.2.2 v) (fun x r => .sum r (fun a0 => .ret (.inl ((cu2 (cu4 (a0, (cu8 (cu32 (cu32 ())))))), ()))) (fun b0 => .ret (.inr ((cu (cu2 (cu4 (cu8 (cu32 (cu32 ())))))), ())))) (fun z => (z.1.1, z.2.1.1, z.2.2.1.1)) (fun z => z.1.2.2.2.2.2.2.2.1) (fun _ => rfl) (fun _ => rfl) (fun x r Q h => match r, h with | .inl _, h => h | .inr b0, h => (h)) ?_
  intro x v; kernel_rfl

def r44_Put_T (x0 : List Deed) (x1 : Deed) (x2 : Sib) : Tree Bool :=
  .bnd (.loop (fun v => r44_Put_L2_step x0 x1 x2 v) 0) fun r1 =>
  .sum r1 (fun r2 =>
    .ret r2) (fun r3 =>
    .ret false)

def r44_Put_g : Sig := ⟨9, (.cons (.val false (.list tDeed)) (.cons (.val true tDeed) (.cons (.val true tSib) .nil))), .vals (.val false .bool), fun z => r44_Put_T z.1 z.2.1 z.2.2.1, false⟩

theorem r44_Put_ok : r44_Put_g.ok Try.prog := by
  refine Sig.lift mix tabOk nms _ Try.func9 (c := (bodyOf Try.f9)) (by kernel_rfl) (o := orT [r43_Writes_g, r43_Meets_g, r43_Good_g] [r44_Put_L2] noFz) (orT_sound ⟨r43_Writes_ok, ⟨r43_Meets_ok, ⟨r43_Good_ok, trivial⟩⟩⟩) (allLp_of [nthC (loopsOf (bodyOf Try.f9)) 0] (by kernel_rfl) ⟨r44_Put_L2_ok, trivial⟩ (by kernel_rfl)) ?_
  intro z; kernel_rfl

def r44_Of_L3_step (l : List Deed) (tenant : Str) (place : Str) (i : Int) (out : List Deed) : Tree ((Int × (List Deed)) ⊕ (List Deed)) :=
  .ite (decide (i < (l.length : Int))) (
    ask (inb i l.length) <|
    ask ((!((l.getD i.toNat (dfl tDeed : Deed)).2.1 == tenant)) || inb i l.length) <|
    .grd ((l.getD i.toNat (dfl tDeed : Deed)).2.1 == tenant) (r43_Place_T (l.getD i.toNat (dfl tDeed : Deed))) ([] : Str) fun y1 =>
    .ite (((l.getD i.toNat (dfl tDeed : Deed)).2.1 == tenant) && (y1 == place)) (
      ask (inb i l.length) <|
      ask (decide ((out ++ [(l.getD i.toNat (dfl tDeed : Deed))]).length * 280 ≤ roomNat)) <|
      .ret (.inl ((w64 (i + 1)), (out ++ [(l.getD i.toNat (dfl tDeed : Deed))])))) (
      .ret (.inl ((w64 (i + 1)), out)))) (
    .ret (.inr out))

def r44_Of_L3 : Lp := ⟨3, [.own 7 39 tDeed], [], (.cons (.val false (.list tDeed)) (.cons (.val false .str) (.cons (.val false .str) (ca4 (.cons (.own 0) (.cons (.val false (.int .i64)) (ca2 (ca4 (ca8 (ca16 .nil)))))))))), (.rows 39 tDeed .nil), 0, .one 1 [] (ca (ca2 (ca4 (.cons (.own 0) (ca (ca2 (ca4 (ca8 (ca16 .nil))))))))) (.rows 39 tDeed .nil), fun z => .bnd (.loop (fun v => r44_Of_L3_step z.1.1 z.1.2.1 z.1.2.2.1 v.1 v.2) (z.1.2.2.2.2.2.2.2.2.1, z.2.1)) fun r => .ret ((cu (cu2 (cu4 ((), (cu (cu2 (cu4 (cu8 (cu16 ()))))))))), (r, ()))⟩

theorem r44_Of_L3_ok : r44_Of_L3.ok Try.prog (nthC (loopsOf (bodyOf Try.f13)) 0) := by
  refine Lp.lift (π := ((List Deed) × Str × Str)) (V := (Int × (List Deed))) (ρ := List Deed) mix tabOk r44_Of_L3 (o := orT [r43_Place_g] [] noFz) (orT_sound ⟨r43_Place_ok, trivial⟩) (allLp_of [] (by kernel_rfl) trivial rfl) (fun x v => ((x.1, (x.2.1, (x.2.2, (cu4 ((), (v.1, (cu2 (cu4 (cu8 (cu16 ())))))))))), (v.2, ()))) (fun x r => ((cu (cu2 (cu4 ((), (cu (cu2 (cu4 (cu8 (cu16 ()))))))))), (r, ()))) (fun x v => r44_Of_L3_step x.1 x.2.1 x.2.2 v.1 v.2) (fun x r => .ret ((cu (cu2 (cu4 ((), (cu (cu2 (cu4 (cu8 (cu16 ()))))))))), (r, ()))) (fun z => (z.1.1, z.1.2.1, z.1.2.2.1)) (fun z => (z.1.2.2.2.2.2.2.2.2.1, z.2.1)) (fun _ => rfl) (fun _ => rfl) (fun _ _ _ h => h) ?_
  intro x v; kernel_rfl

def r44_Of_T (x0 : List Deed) (x1 : Str) (x2 : Str) : Tree (List Deed) :=
  .bnd (.loop (fun v => r44_Of_L3_step x0 x1 x2 v.1 v.2) (0, ([] : List Deed))) fun r1 =>
  .ret r1

def r44_Of_g : Sig := ⟨13, (.cons (.val false (.list tDeed)) (.cons (.val false .str) (.cons (.val false .str) .nil))), .fresh 39 tDeed, fun z => r44_Of_T z.1 z.2.1 z.2.2.1, ([] : List Deed)⟩

theorem r44_Of_ok : r44_Of_g.ok Try.prog := by
  refine Sig.lift mix tabOk nms _ Try.func13 (c := (bodyOf Try.f13)) (by kernel_rfl) (o := orT [r43_Place_g] [r44_Of_L3] noFz) (orT_sound ⟨r43_Place_ok, trivial⟩) (allLp_of [nthC (loopsOf (bodyOf Try.f13)) 0] (by kernel_rfl) ⟨r44_Of_L3_ok, trivial⟩ (by kernel_rfl)) ?_
  intro z; kernel_rfl

def r44_Of_gv : Sig := ⟨13, (.cons (.val false (.list tDeed)) (.cons (.val false .str) (.cons (.val false .str) .nil))), .vals (.val false (.list tDeed)), fun z => r44_Of_T z.1 z.2.1 z.2.2.1, ([] : List Deed)⟩

theorem r44_Of_okv : r44_Of_gv.ok Try.prog := fun x y h => acalls_val (r44_Of_ok x y h)

def r07_SameSibs_L4_step (a : List Sib) (b : List Sib) (i : Int) : Tree (Int ⊕ (Bool ⊕ Unit)) :=
  .ite ((decide (i < (a.length : Int))) && (decide (i < (b.length : Int)))) (
    ask (inb i a.length) <|
    ask (inb i b.length) <|
    .ite (!((((a.getD i.toNat (dfl tSib : Sib)).1.1 == (b.getD i.toNat (dfl tSib : Sib)).1.1) && ((decide ((a.getD i.toNat (dfl tSib : Sib)).1.2 = (b.getD i.toNat (dfl tSib : Sib)).1.2)) && true)) && (((a.getD i.toNat (dfl tSib : Sib)).2.1 == (b.getD i.toNat (dfl tSib : Sib)).2.1) && (((a.getD i.toNat (dfl tSib : Sib)).2.2.1 == (b.getD i.toNat (dfl tSib : Sib)).2.2.1) && ((decide ((a.getD i.toNat (dfl tSib : Sib)).2.2.2 = (b.getD i.toNat (dfl tSib : Sib)).2.2.2)) && true))))) (
      .ret (.inr (.inl false))) (
      .ret (.inl (w64 (i + 1))))) (
    .ret (.inr (.inr ())))

def r07_SameSibs_L4 : Lp := ⟨4, [], [], (.cons (.val false (.list tSib)) (.cons (.val false (.list tSib)) (ca (ca2 (.cons (.val false (.int .i64)) (ca2 (ca8 (ca16 .nil)))))))), .nil, 0, .more 0 [] (ca4 (.cons (.val false .bool) (ca (ca2 (ca8 (ca16 .nil)))))) .nil (.one 1 [] (ca32 .nil) .nil), fun z => .bnd (.loop (fun v => r07_SameSibs_L4_step z.1.1 z.1.2.1 v) z.1.2.2.2.2.2.1) fun r => .sum r (fun a0 => .ret (.inl ((cu4 (a0, (cu (cu2 (cu8 (cu16 ())))))), ()))) (fun b0 => .ret (.inr ((cu32 ()), ())))⟩

theorem r07_SameSibs_L4_ok : r07_SameSibs_L4.ok Try.prog (nthC (loopsOf (bodyOf Try.f50)) 0) := by
  refine Lp.lift (π := ((List Sib) × (List Sib))) (V := Int) (ρ := (Bool ⊕ Unit)) mix tabOk r07_SameSibs_L4 (o := orT [] [] noFz) (orT_sound trivial) (allLp_of [] (by kernel_rfl) trivial rfl) (fun x v => ((x.1, (x.2, (cu (cu2 (v, (cu2 (cu8 (cu16 ())))))))), ())) (fun x r => match r with | .inl a0 => .inl ((cu4 (a0, (cu (cu2 (cu8 (cu16 ())))))), ()) | .inr b0 => (.inr ((cu32 ()), ()))) (fun x v => r07_SameSibs_L4_step x.1 x.2 v) (fun x r => .sum r (fun a0 => .ret (.inl ((cu4 (a0, (cu (cu2 (cu8 (cu16 ())))))), ()))) (fun b0 => .ret (.inr ((cu32 ()), ())))) (fun z => (z.1.1, z.1.2.1)) (fun z => z.1.2.2.2.2.2.1) (fun _ => rfl) (fun _ => rfl) (fun x r Q h => match r, h with | .inl _, h => h | .inr b0, h => (h)) ?_
  intro x v; kernel_rfl

def r07_SameSibs_T (x0 : List Sib) (x1 : List Sib) : Tree Bool :=
  .ite (!decide ((x0.length : Int) = (x1.length : Int))) (
    .ret false) (
    .bnd (.loop (fun v => r07_SameSibs_L4_step x0 x1 v) 0) fun r1 =>
    .sum r1 (fun r2 =>
      .ret r2) (fun r3 =>
      .ret true))

def r07_SameSibs_g : Sig := ⟨50, (.cons (.val false (.list tSib)) (.cons (.val false (.list tSib)) .nil)), .vals (.val false .bool), fun z => r07_SameSibs_T z.1 z.2.1, false⟩

theorem r07_SameSibs_ok : r07_SameSibs_g.ok Try.prog := by
  refine Sig.lift mix tabOk nms _ Try.func50 (c := (bodyOf Try.f50)) (by kernel_rfl) (o := orT [] [r07_SameSibs_L4] noFz) (orT_sound trivial) (allLp_of [nthC (loopsOf (bodyOf Try.f50)) 0] (by kernel_rfl) ⟨r07_SameSibs_L4_ok, trivial⟩ (by kernel_rfl)) ?_
  intro z; kernel_rfl

def r06_SameInts_L4_step (a : List Int) (b : List Int) (i : Int) : Tree (Int ⊕ (Bool ⊕ Unit)) :=
  .ite ((decide (i < (a.length : Int))) && (decide (i < (b.length : Int)))) (
    ask (inb i a.length) <|
    ask (inb i b.length) <|
    .ite (!decide ((a.getD i.toNat (0 : Int)) = (b.getD i.toNat (0 : Int)))) (
      .ret (.inr (.inl false))) (
      .ret (.inl (w64 (i + 1))))) (
    .ret (.inr (.inr ())))

def r06_SameInts_L4 : Lp := ⟨4, [], [], (.cons (.val false (.list (.int .i64))) (.cons (.val false (.list (.int .i64))) (ca (ca2 (.cons (.val false (.int .i64)) (ca2 (ca8 (ca16 .nil)))))))), .nil, 0, .more 0 [] (ca4 (.cons (.val false .bool) (ca (ca2 (ca8 (ca16 .nil)))))) .nil (.one 1 [] (ca32 .nil) .nil), fun z => .bnd (.loop (fun v => r06_SameInts_L4_step z.1.1 z.1.2.1 v) z.1.2.2.2.2.2.1) fun r => .sum r (fun a0 => .ret (.inl ((cu4 (a0, (cu (cu2 (cu8 (cu16 ())))))), ()))) (fun b0 => .ret (.inr ((cu32 ()), ())))⟩

theorem r06_SameInts_L4_ok : r06_SameInts_L4.ok Try.prog (nthC (loopsOf (bodyOf Try.f65)) 0) := by
  refine Lp.lift (π := ((List Int) × (List Int))) (V := Int) (ρ := (Bool ⊕ Unit)) mix tabOk r06_SameInts_L4 (o := orT [] [] noFz) (orT_sound trivial) (allLp_of [] (by kernel_rfl) trivial rfl) (fun x v => ((x.1, (x.2, (cu (cu2 (v, (cu2 (cu8 (cu16 ())))))))), ())) (fun x r => match r with | .inl a0 => .inl ((cu4 (a0, (cu (cu2 (cu8 (cu16 ())))))), ()) | .inr b0 => (.inr ((cu32 ()), ()))) (fun x v => r06_SameInts_L4_step x.1 x.2 v) (fun x r => .sum r (fun a0 => .ret (.inl ((cu4 (a0, (cu (cu2 (cu8 (cu16 ())))))), ()))) (fun b0 => .ret (.inr ((cu32 ()), ())))) (fun z => (z.1.1, z.1.2.1)) (fun z => z.1.2.2.2.2.2.1) (fun _ => rfl) (fun _ => rfl) (fun x r Q h => match r, h with | .inl _, h => h | .inr b0, h => (h)) ?_
  intro x v; kernel_rfl

def r06_SameInts_T (x0 : List Int) (x1 : List Int) : Tree Bool :=
  .ite (!decide ((x0.length : Int) = (x1.length : Int))) (
    .ret false) (
    .bnd (.loop (fun v => r06_SameInts_L4_step x0 x1 v) 0) fun r1 =>
    .sum r1 (fun r2 =>
      .ret r2) (fun r3 =>
      .ret true))

def r06_SameInts_g : Sig := ⟨65, (.cons (.val false (.list (.int .i64))) (.cons (.val false (.list (.int .i64))) .nil)), .vals (.val false .bool), fun z => r06_SameInts_T z.1 z.2.1, false⟩

theorem r06_SameInts_ok : r06_SameInts_g.ok Try.prog := by
  refine Sig.lift mix tabOk nms _ Try.func65 (c := (bodyOf Try.f65)) (by kernel_rfl) (o := orT [] [r06_SameInts_L4] noFz) (orT_sound trivial) (allLp_of [nthC (loopsOf (bodyOf Try.f65)) 0] (by kernel_rfl) ⟨r06_SameInts_L4_ok, trivial⟩ (by kernel_rfl)) ?_
  intro z; kernel_rfl

def r06_Same_L4_step (a : List Seen) (b : List Seen) (i : Int) : Tree (Int ⊕ (Bool ⊕ Unit)) :=
  .ite ((decide (i < (a.length : Int))) && (decide (i < (b.length : Int)))) (
    ask (inb i a.length) <|
    ask (inb i b.length) <|
    ask ((!(!(!((a.getD i.toNat (dfl tSeen : Seen)).1 == (b.getD i.toNat (dfl tSeen : Seen)).1)))) || inb i a.length) <|
    ask ((!(!(!((a.getD i.toNat (dfl tSeen : Seen)).1 == (b.getD i.toNat (dfl tSeen : Seen)).1)))) || inb i b.length) <|
    ask ((!(!((!((a.getD i.toNat (dfl tSeen : Seen)).1 == (b.getD i.toNat (dfl tSeen : Seen)).1)) || (!decide ((a.getD i.toNat (dfl tSeen : Seen)).2.1 = (b.getD i.toNat (dfl tSeen : Seen)).2.1))))) || inb i a.length) <|
    ask ((!(!((!((a.getD i.toNat (dfl tSeen : Seen)).1 == (b.getD i.toNat (dfl tSeen : Seen)).1)) || (!decide ((a.getD i.toNat (dfl tSeen : Seen)).2.1 = (b.getD i.toNat (dfl tSeen : Seen)).2.1))))) || inb i b.length) <|
    .grd (!((!((a.getD i.toNat (dfl tSeen : Seen)).1 == (b.getD i.toNat (dfl tSeen : Seen)).1)) || (!decide ((a.getD i.toNat (dfl tSeen : Seen)).2.1 = (b.getD i.toNat (dfl tSeen : Seen)).2.1)))) (r06_SameInts_T (a.getD i.toNat (dfl tSeen : Seen)).2.2 (b.getD i.toNat (dfl tSeen : Seen)).2.2) false fun y1 =>
    .ite (((!((a.getD i.toNat (dfl tSeen : Seen)).1 == (b.getD i.toNat (dfl tSeen : Seen)).1)) || (!decide ((a.getD i.toNat (dfl tSeen : Seen)).2.1 = (b.getD i.toNat (dfl tSeen : Seen)).2.1))) || (!y1)) (
      .ret (.inr (.inl false))) (
      .ret (.inl (w64 (i + 1))))) (
    .ret (.inr (.inr ())))

def r06_Same_L4 : Lp := ⟨4, [], [], (.cons (.val false (.list tSeen)) (.cons (.val false (.list tSeen)) (ca (ca2 (.cons (.val false (.int .i64)) (ca (ca2 (ca4 (ca16 (ca32 .nil)))))))))), .nil, 0, .more 0 [] (ca4 (.cons (.val false .bool) (ca8 (ca16 (ca32 .nil))))) .nil (.one 1 [] (ca (ca4 (ca8 (ca16 (ca32 .nil))))) .nil), fun z => .bnd (.loop (fun v => r06_Same_L4_step z.1.1 z.1.2.1 v) z.1.2.2.2.2.2.1) fun r => .sum r (fun a0 => .ret (.inl ((cu4 (a0, (cu8 (cu16 (cu32 ()))))), ()))) (fun b0 => .ret (.inr ((cu (cu4 (cu8 (cu16 (cu32 ()))))), ())))⟩

theorem r06_Same_L4_ok : r06_Same_L4.ok Try.prog (nthC (loopsOf (bodyOf Try.f51)) 0) := by
  refine Lp.lift (π := ((List Seen) × (List Seen))) (V := Int) (ρ := (Bool ⊕ Unit)) mix tabOk r06_Same_L4 (o := orT [r06_SameInts_g] [] noFz) (orT_sound ⟨r06_SameInts_ok, trivial⟩) (allLp_of [] (by kernel_rfl) trivial rfl) (fun x v => ((x.1, (x.2, (cu (cu2 (v, (cu (cu2 (cu4 (cu16 (cu32 ())))))))))), ())) (fun x r => match r with | .inl a0 => .inl ((cu4 (a0, (cu8 (cu16 (cu32 ()))))), ()) | .inr b0 => (.inr ((cu (cu4 (cu8 (cu16 (cu32 ()))))), ()))) (fun x v => r06_Same_L4_step x.1 x.2 v) (fun x r => .sum r (fun a0 => .ret (.inl ((cu4 (a0, (cu8 (cu16 (cu32 ()))))), ()))) (fun b0 => .ret (.inr ((cu (cu4 (cu8 (cu16 (cu32 ()))))), ())))) (fun z => (z.1.1, z.1.2.1)) (fun z => z.1.2.2.2.2.2.1) (fun _ => rfl) (fun _ => rfl) (fun x r Q h => match r, h with | .inl _, h => h | .inr b0, h => (h)) ?_
  intro x v; kernel_rfl

def r06_Same_T (x0 : List Seen) (x1 : List Seen) : Tree Bool :=
  .ite (!decide ((x0.length : Int) = (x1.length : Int))) (
    .ret false) (
    .bnd (.loop (fun v => r06_Same_L4_step x0 x1 v) 0) fun r1 =>
    .sum r1 (fun r2 =>
      .ret r2) (fun r3 =>
      .ret true))

def r06_Same_g : Sig := ⟨51, (.cons (.val false (.list tSeen)) (.cons (.val false (.list tSeen)) .nil)), .vals (.val false .bool), fun z => r06_Same_T z.1 z.2.1, false⟩

theorem r06_Same_ok : r06_Same_g.ok Try.prog := by
  refine Sig.lift mix tabOk nms _ Try.func51 (c := (bodyOf Try.f51)) (by kernel_rfl) (o := orT [r06_SameInts_g] [r06_Same_L4] noFz) (orT_sound ⟨r06_SameInts_ok, trivial⟩) (allLp_of [nthC (loopsOf (bodyOf Try.f51)) 0] (by kernel_rfl) ⟨r06_Same_L4_ok, trivial⟩ (by kernel_rfl)) ?_
  intro z; kernel_rfl

def r42_Same_L4_step (a : Answer) (b : Answer) (i : Int) : Tree (Int ⊕ (Bool ⊕ Unit)) :=
  .ite ((decide (i < (a.2.2.2.1.length : Int))) && (decide (i < (b.2.2.2.1.length : Int)))) (
    ask (inb i a.2.2.2.1.length) <|
    ask (inb i b.2.2.2.1.length) <|
    .ite (!((a.2.2.2.1.getD i.toNat ([] : Str)) == (b.2.2.2.1.getD i.toNat ([] : Str)))) (
      .ret (.inr (.inl false))) (
      .ret (.inl (w64 (i + 1))))) (
    .ret (.inr (.inr ())))

def r42_Same_L4 : Lp := ⟨4, [], [], (ca2 (.cons (.ref 0 0) (.cons (.ref 1 0) (ca (.cons (.val false (.int .i64)) (ca2 (ca4 (ca8 (ca16 (ca32 .nil)))))))))), (.cells 37 (.cons (.flat tAnswer) .nil) (.cells 37 (.cons (.flat tAnswer) .nil) .nil)), 0, .more 0 [] (ca4 (.cons (.val false .bool) (ca (ca2 (ca4 (ca8 (ca16 (ca32 .nil)))))))) .nil (.one 1 [] (ca4 (ca32 (ca32 .nil))) .nil), fun z => .bnd (.loop (fun v => r42_Same_L4_step z.2.1.1 z.2.2.1.1 v) z.1.2.2.2.2.2.1) fun r => .sum r (fun a0 => .ret (.inl ((cu4 (a0, (cu (cu2 (cu4 (cu8 (cu16 (cu32 ())))))))), ()))) (fun b0 => .ret (.inr ((cu4 (cu32 (cu32 ()))), ())))⟩

theorem r42_Same_L4_ok : r42_Same_L4.ok Try.prog (nthC (loopsOf (bodyOf Try.f31)) 0) := by
  refine Lp.lift (π := (Answer × Answer)) (V := Int) (ρ := (Bool ⊕ Unit)) mix tabOk r42_Same_L4 (o := orT [r07_SameSibs_g, r06_Same_g] [] noFz) (orT_sound ⟨r07_SameSibs_ok, ⟨r06_Same_ok, trivial⟩⟩) (allLp_of [] (by kernel_rfl) trivial rfl) (fun x v => ((cu2 ((), ((), (cu (v, (cu2 (cu4 (cu8 (cu16 (cu32 ())))))))))), ((x.1, ()), ((x.2, ()), ())))) (fun x r => match r with | .inl a0 => .inl ((cu4 (a0, (cu (cu2 (cu4 (cu8 (cu16 (cu32 ())))))))), ()) | .inr b0 => (.inr ((cu4 (cu32 (cu32 ()))), ()))) (fun x v => r42_Same_L4_step x.1 x.2 v) (fun x r => .sum r (fun a0 => .ret (.inl ((cu4 (a0, (cu (cu2 (cu4 (cu8 (cu16 (cu32 ())))))))), ()))) (fun b0 => .ret (.inr ((cu4 (cu32 (cu32 ()))), ())))) (fun z => (z.2.1.1, z.2.2.1.1)) (fun z => z.1.2.2.2.2.2.1) (fun _ => rfl) (fun _ => rfl) (fun x r Q h => match r, h with | .inl _, h => h | .inr b0, h => (h)) ?_
  intro x v; kernel_rfl

def r42_Same_T (x0 : Answer) (x1 : Answer) : Tree Bool :=
  .grd (!((!decide (x0.1 = x1.1)) || (!((x0.2.2.2.2.1 == x1.2.2.2.2.1) && ((decide (x0.2.2.2.2.2 = x1.2.2.2.2.2)) && true))))) (r07_SameSibs_T x0.2.1 x1.2.1) false fun y1 =>
  .grd (!(((!decide (x0.1 = x1.1)) || (!((x0.2.2.2.2.1 == x1.2.2.2.2.1) && ((decide (x0.2.2.2.2.2 = x1.2.2.2.2.2)) && true)))) || (!y1))) (r06_Same_T x0.2.2.1 x1.2.2.1) false fun y2 =>
  .ite (((((!decide (x0.1 = x1.1)) || (!((x0.2.2.2.2.1 == x1.2.2.2.2.1) && ((decide (x0.2.2.2.2.2 = x1.2.2.2.2.2)) && true)))) || (!y1)) || (!y2)) || (!decide ((x0.2.2.2.1.length : Int) = (x1.2.2.2.1.length : Int)))) (
    .ret false) (
    .bnd (.loop (fun v => r42_Same_L4_step x0 x1 v) 0) fun r3 =>
    .sum r3 (fun r4 =>
      .ret r4) (fun r5 =>
      .ret true))

def r42_Same_g : Sig := ⟨31, (.cons (.val true tAnswer) (.cons (.val true tAnswer) .nil)), .vals (.val false .bool), fun z => r42_Same_T z.1 z.2.1, false⟩

theorem r42_Same_ok : r42_Same_g.ok Try.prog := by
  refine Sig.lift mix tabOk nms _ Try.func31 (c := (bodyOf Try.f31)) (by kernel_rfl) (o := orT [r07_SameSibs_g, r06_Same_g] [r42_Same_L4] noFz) (orT_sound ⟨r07_SameSibs_ok, ⟨r06_Same_ok, trivial⟩⟩) (allLp_of [nthC (loopsOf (bodyOf Try.f31)) 0] (by kernel_rfl) ⟨r42_Same_L4_ok, trivial⟩ (by kernel_rfl)) ?_
  intro z; kernel_rfl

def r43_Same_L4_step (a : List Deed) (b : List Deed) (i : Int) : Tree (Int ⊕ (Bool ⊕ Unit)) :=
  .ite ((decide (i < (a.length : Int))) && (decide (i < (b.length : Int)))) (
    ask (inb i a.length) <|
    ask (inb i b.length) <|
    .both (
      .grd (!((((((!((a.getD i.toNat (dfl tDeed : Deed)).1 == (b.getD i.toNat (dfl tDeed : Deed)).1)) || (!((a.getD i.toNat (dfl tDeed : Deed)).2.1 == (b.getD i.toNat (dfl tDeed : Deed)).2.1))) || (!decide ((a.getD i.toNat (dfl tDeed : Deed)).2.2.1 = (b.getD i.toNat (dfl tDeed : Deed)).2.2.1))) || (!decide ((a.getD i.toNat (dfl tDeed : Deed)).2.2.2.2.2.1 = (b.getD i.toNat (dfl tDeed : Deed)).2.2.2.2.2.1))) || (!((a.getD i.toNat (dfl tDeed : Deed)).2.2.2.2.2.2.2.1 == (b.getD i.toNat (dfl tDeed : Deed)).2.2.2.2.2.2.2.1))) || (!decide ((a.getD i.toNat (dfl tDeed : Deed)).2.2.2.2.2.2.1.1 = (b.getD i.toNat (dfl tDeed : Deed)).2.2.2.2.2.2.1.1)))) (r43_Place_T (a.getD i.toNat (dfl tDeed : Deed))) ([] : Str) fun y4 =>
      .grd (!((((((!((a.getD i.toNat (dfl tDeed : Deed)).1 == (b.getD i.toNat (dfl tDeed : Deed)).1)) || (!((a.getD i.toNat (dfl tDeed : Deed)).2.1 == (b.getD i.toNat (dfl tDeed : Deed)).2.1))) || (!decide ((a.getD i.toNat (dfl tDeed : Deed)).2.2.1 = (b.getD i.toNat (dfl tDeed : Deed)).2.2.1))) || (!decide ((a.getD i.toNat (dfl tDeed : Deed)).2.2.2.2.2.1 = (b.getD i.toNat (dfl tDeed : Deed)).2.2.2.2.2.1))) || (!((a.getD i.toNat (dfl tDeed : Deed)).2.2.2.2.2.2.2.1 == (b.getD i.toNat (dfl tDeed : Deed)).2.2.2.2.2.2.2.1))) || (!decide ((a.getD i.toNat (dfl tDeed : Deed)).2.2.2.2.2.2.1.1 = (b.getD i.toNat (dfl tDeed : Deed)).2.2.2.2.2.2.1.1)))) (r43_Place_T (b.getD i.toNat (dfl tDeed : Deed))) ([] : Str) fun y5 =>
      .grd (!(((((((!((a.getD i.toNat (dfl tDeed : Deed)).1 == (b.getD i.toNat (dfl tDeed : Deed)).1)) || (!((a.getD i.toNat (dfl tDeed : Deed)).2.1 == (b.getD i.toNat (dfl tDeed : Deed)).2.1))) || (!decide ((a.getD i.toNat (dfl tDeed : Deed)).2.2.1 = (b.getD i.toNat (dfl tDeed : Deed)).2.2.1))) || (!decide ((a.getD i.toNat (dfl tDeed : Deed)).2.2.2.2.2.1 = (b.getD i.toNat (dfl tDeed : Deed)).2.2.2.2.2.1))) || (!((a.getD i.toNat (dfl tDeed : Deed)).2.2.2.2.2.2.2.1 == (b.getD i.toNat (dfl tDeed : Deed)).2.2.2.2.2.2.2.1))) || (!decide ((a.getD i.toNat (dfl tDeed : Deed)).2.2.2.2.2.2.1.1 = (b.getD i.toNat (dfl tDeed : Deed)).2.2.2.2.2.2.1.1))) || (!(y4 == y5)))) (r42_Same_T (a.getD i.toNat (dfl tDeed : Deed)).2.2.2.2.2.2.2.2 (b.getD i.toNat (dfl tDeed : Deed)).2.2.2.2.2.2.2.2) false fun y6 =>
      .ite ((((((((!((a.getD i.toNat (dfl tDeed : Deed)).1 == (b.getD i.toNat (dfl tDeed : Deed)).1)) || (!((a.getD i.toNat (dfl tDeed : Deed)).2.1 == (b.getD i.toNat (dfl tDeed : Deed)).2.1))) || (!decide ((a.getD i.toNat (dfl tDeed : Deed)).2.2.1 = (b.getD i.toNat (dfl tDeed : Deed)).2.2.1))) || (!decide ((a.getD i.toNat (dfl tDeed : Deed)).2.2.2.2.2.1 = (b.getD i.toNat (dfl tDeed : Deed)).2.2.2.2.2.1))) || (!((a.getD i.toNat (dfl tDeed : Deed)).2.2.2.2.2.2.2.1 == (b.getD i.toNat (dfl tDeed : Deed)).2.2.2.2.2.2.2.1))) || (!decide ((a.getD i.toNat (dfl tDeed : Deed)).2.2.2.2.2.2.1.1 = (b.getD i.toNat (dfl tDeed : Deed)).2.2.2.2.2.2.1.1))) || (!(y4 == y5))) || (!y6)) (
        .ret (.inr (.inl false))) (
        .ret (.inl (w64 (i + 1))))) (
      .grd (!((((((!((a.getD i.toNat (dfl tDeed : Deed)).1 == (b.getD i.toNat (dfl tDeed : Deed)).1)) || (!((a.getD i.toNat (dfl tDeed : Deed)).2.1 == (b.getD i.toNat (dfl tDeed : Deed)).2.1))) || (!decide ((a.getD i.toNat (dfl tDeed : Deed)).2.2.1 = (b.getD i.toNat (dfl tDeed : Deed)).2.2.1))) || (!decide ((a.getD i.toNat (dfl tDeed : Deed)).2.2.2.2.2.1 = (b.getD i.toNat (dfl tDeed : Deed)).2.2.2.2.2.1))) || (!((a.getD i.toNat (dfl tDeed : Deed)).2.2.2.2.2.2.2.1 == (b.getD i.toNat (dfl tDeed : Deed)).2.2.2.2.2.2.2.1))) || (!decide ((a.getD i.toNat (dfl tDeed : Deed)).2.2.2.2.2.2.1.1 = (b.getD i.toNat (dfl tDeed : Deed)).2.2.2.2.2.2.1.1)))) (r43_Place_T (a.getD i.toNat (dfl tDeed : Deed))) ([] : Str) fun y1 =>
      .grd (!((((((!((a.getD i.toNat (dfl tDeed : Deed)).1 == (b.getD i.toNat (dfl tDeed : Deed)).1)) || (!((a.getD i.toNat (dfl tDeed : Deed)).2.1 == (b.getD i.toNat (dfl tDeed : Deed)).2.1))) || (!decide ((a.getD i.toNat (dfl tDeed : Deed)).2.2.1 = (b.getD i.toNat (dfl tDeed : Deed)).2.2.1))) || (!decide ((a.getD i.toNat (dfl tDeed : Deed)).2.2.2.2.2.1 = (b.getD i.toNat (dfl tDeed : Deed)).2.2.2.2.2.1))) || (!((a.getD i.toNat (dfl tDeed : Deed)).2.2.2.2.2.2.2.1 == (b.getD i.toNat (dfl tDeed : Deed)).2.2.2.2.2.2.2.1))) || (!decide ((a.getD i.toNat (dfl tDeed : Deed)).2.2.2.2.2.2.1.1 = (b.getD i.toNat (dfl tDeed : Deed)).2.2.2.2.2.2.1.1)))) (r43_Place_T (b.getD i.toNat (dfl tDeed : Deed))) ([] : Str) fun y2 =>
      .grd (!(((((((!((a.getD i.toNat (dfl tDeed : Deed)).1 == (b.getD i.toNat (dfl tDeed : Deed)).1)) || (!((a.getD i.toNat (dfl tDeed : Deed)).2.1 == (b.getD i.toNat (dfl tDeed : Deed)).2.1))) || (!decide ((a.getD i.toNat (dfl tDeed : Deed)).2.2.1 = (b.getD i.toNat (dfl tDeed : Deed)).2.2.1))) || (!decide ((a.getD i.toNat (dfl tDeed : Deed)).2.2.2.2.2.1 = (b.getD i.toNat (dfl tDeed : Deed)).2.2.2.2.2.1))) || (!((a.getD i.toNat (dfl tDeed : Deed)).2.2.2.2.2.2.2.1 == (b.getD i.toNat (dfl tDeed : Deed)).2.2.2.2.2.2.2.1))) || (!decide ((a.getD i.toNat (dfl tDeed : Deed)).2.2.2.2.2.2.1.1 = (b.getD i.toNat (dfl tDeed : Deed)).2.2.2.2.2.2.1.1))) || (!(y1 == y2)))) (r42_Same_T (a.getD i.toNat (dfl tDeed : Deed)).2.2.2.2.2.2.2.2 (b.getD i.toNat (dfl tDeed : Deed)).2.2.2.2.2.2.2.2) false fun y3 =>
      .ite ((((((((!((a.getD i.toNat (dfl tDeed : Deed)).1 == (b.getD i.toNat (dfl tDeed : Deed)).1)) || (!((a.getD i.toNat (dfl tDeed : Deed)).2.1 == (b.getD i.toNat (dfl tDeed : Deed)).2.1))) || (!decide ((a.getD i.toNat (dfl tDeed : Deed)).2.2.1 = (b.getD i.toNat (dfl tDeed : Deed)).2.2.1))) || (!decide ((a.getD i.toNat (dfl tDeed : Deed)).2.2.2.2.2.1 = (b.getD i.toNat (dfl tDeed : Deed)).2.2.2.2.2.1))) || (!((a.getD i.toNat (dfl tDeed : Deed)).2.2.2.2.2.2.2.1 == (b.getD i.toNat (dfl tDeed : Deed)).2.2.2.2.2.2.2.1))) || (!decide ((a.getD i.toNat (dfl tDeed : Deed)).2.2.2.2.2.2.1.1 = (b.getD i.toNat (dfl tDeed : Deed)).2.2.2.2.2.2.1.1))) || (!(y1 == y2))) || (!y3)) (
        .ret (.inr (.inl false))) (
        .ret (.inl (w64 (i + 1)))))) (
    .ret (.inr (.inr ())))

def r43_Same_L4 : Lp := ⟨4, [], [], (.cons (.val false (.list tDeed)) (.cons (.val false (.list tDeed)) (ca (ca2 (.cons (.val false (.int .i64)) (ca4 (ca16 (ca32 (ca32 .nil))))))))), .nil, 0, .more 0 [] (ca4 (.cons (.val false .bool) (ca (ca4 (ca16 (ca32 (ca32 .nil))))))) .nil (.one 1 [] (ca2 (ca8 (ca16 (ca32 (ca32 .nil))))) .nil), fun z => .bnd (.loop (fun v => r43_Same_L4_step z.1.1 z.1.2.1 v) z.1.2.2.2.2.2.1) fun r => .sum r (fun a0 => .ret (.inl ((cu4 (a0, (cu (cu4 (cu16 (cu32 (cu32 ()))))))), ()))) (fun b0 => .ret (.inr ((cu2 (cu8 (cu16 (cu32 (cu32 ()))))), ())))⟩

theorem r43_Same_L4_ok : r43_Same_L4.ok Try.prog (nthC (loopsOf (bodyOf Try.f10)) 0) := by
  refine Lp.lift (π := ((List Deed) × (List Deed))) (V := Int) (ρ := (Bool ⊕ Unit)) mix tabOk r43_Same_L4 (o := orT [r43_Place_g, r42_Same_g] [] noFz) (orT_sound ⟨r43_Place_ok, ⟨r42_Same_ok, trivial⟩⟩) (allLp_of [] (by kernel_rfl) trivial rfl) (fun x v => ((x.1, (x.2, (cu (cu2 (v, (cu4 (cu16 (cu32 (cu32 ()))))))))), ())) (fun x r => match r with | .inl a0 => .inl ((cu4 (a0, (cu (cu4 (cu16 (cu32 (cu32 ()))))))), ()) | .inr b0 => (.inr ((cu2 (cu8 (cu16 (cu32 (cu32 ()))))), ()))) (fun x v => r43_Same_L4_step x.1 x.2 v) (fun x r => .sum r (fun a0 => .ret (.inl ((cu4 (a0, (cu (cu4 (cu16 (cu32 (cu32 ()))))))), ()))) (fun b0 => .ret (.inr ((cu2 (cu8 (cu16 (cu32 (cu32 ()))))), ())))) (fun z => (z.1.1, z.1.2.1)) (fun z => z.1.2.2.2.2.2.1) (fun _ => rfl) (fun _ => rfl) (fun x r Q h => match r, h with | .inl _, h => h | .inr b0, h => (h)) ?_
  intro x v; kernel_rfl

def r43_Same_T (x0 : List Deed) (x1 : List Deed) : Tree Bool :=
  .ite (!decide ((x0.length : Int) = (x1.length : Int))) (
    .ret false) (
    .bnd (.loop (fun v => r43_Same_L4_step x0 x1 v) 0) fun r1 =>
    .sum r1 (fun r2 =>
      .ret r2) (fun r3 =>
      .ret true))

def r43_Same_g : Sig := ⟨10, (.cons (.val false (.list tDeed)) (.cons (.val false (.list tDeed)) .nil)), .vals (.val false .bool), fun z => r43_Same_T z.1 z.2.1, false⟩

theorem r43_Same_ok : r43_Same_g.ok Try.prog := by
  refine Sig.lift mix tabOk nms _ Try.func10 (c := (bodyOf Try.f10)) (by kernel_rfl) (o := orT [r43_Place_g, r42_Same_g] [r43_Same_L4] noFz) (orT_sound ⟨r43_Place_ok, ⟨r42_Same_ok, trivial⟩⟩) (allLp_of [nthC (loopsOf (bodyOf Try.f10)) 0] (by kernel_rfl) ⟨r43_Same_L4_ok, trivial⟩ (by kernel_rfl)) ?_
  intro z; kernel_rfl

def r06_in_L2_step (l : List Int) (n : Int) (i : Int) : Tree (Int ⊕ (Bool ⊕ Unit)) :=
  .ite (decide (i < (l.length : Int))) (
    ask (inb i l.length) <|
    .ite (decide ((l.getD i.toNat (0 : Int)) = n)) (
      .ret (.inr (.inl true))) (
      .ret (.inl (w64 (i + 1))))) (
    .ret (.inr (.inr ())))

def r06_in_L2 : Lp := ⟨2, [], [], (.cons (.val false (.list (.int .i64))) (.cons (.val false (.int .i64)) (ca (ca2 (.cons (.val false (.int .i64)) (ca4 (ca8 .nil))))))), .nil, 0, .more 0 [] (ca4 (.cons (.val false .bool) (ca (ca4 (ca8 .nil))))) .nil (.one 1 [] (ca2 (ca16 .nil)) .nil), fun z => .bnd (.loop (fun v => r06_in_L2_step z.1.1 z.1.2.1 v) z.1.2.2.2.2.2.1) fun r => .sum r (fun a0 => .ret (.inl ((cu4 (a0, (cu (cu4 (cu8 ()))))), ()))) (fun b0 => .ret (.inr ((cu2 (cu16 ())), ())))⟩

theorem r06_in_L2_ok : r06_in_L2.ok Try.prog (nthC (loopsOf (bodyOf Try.f57)) 0) := by
  refine Lp.lift (π := ((List Int) × Int)) (V := Int) (ρ := (Bool ⊕ Unit)) mix tabOk r06_in_L2 (o := orT [] [] noFz) (orT_sound trivial) (allLp_of [] (by kernel_rfl) trivial rfl) (fun x v => ((x.1, (x.2, (cu (cu2 (v, (cu4 (cu8 ()))))))), ())) (fun x r => match r with | .inl a0 => .inl ((cu4 (a0, (cu (cu4 (cu8 ()))))), ()) | .inr b0 => (.inr ((cu2 (cu16 ())), ()))) (fun x v => r06_in_L2_step x.1 x.2 v) (fun x r => .sum r (fun a0 => .ret (.inl ((cu4 (a0, (cu (cu4 (cu8 ()))))), ()))) (fun b0 => .ret (.inr ((cu2 (cu16 ())), ())))) (fun z => (z.1.1, z.1.2.1)) (fun z => z.1.2.2.2.2.2.1) (fun _ => rfl) (fun _ => rfl) (fun x r Q h => match r, h with | .inl _, h => h | .inr b0, h => (h)) ?_
  intro x v; kernel_rfl

def r06_in_T (x0 : List Int) (x1 : Int) : Tree Bool :=
  .bnd (.loop (fun v => r06_in_L2_step x0 x1 v) 0) fun r1 =>
  .sum r1 (fun r2 =>
    .ret r2) (fun r3 =>
    .ret false)

def r06_in_g : Sig := ⟨57, (.cons (.val false (.list (.int .i64))) (.cons (.val false (.int .i64)) .nil)), .vals (.val false .bool), fun z => r06_in_T z.1 z.2.1, false⟩

theorem r06_in_ok : r06_in_g.ok Try.prog := by
  refine Sig.lift mix tabOk nms _ Try.func57 (c := (bodyOf Try.f57)) (by kernel_rfl) (o := orT [] [r06_in_L2] noFz) (orT_sound trivial) (allLp_of [nthC (loopsOf (bodyOf Try.f57)) 0] (by kernel_rfl) ⟨r06_in_L2_ok, trivial⟩ (by kernel_rfl)) ?_
  intro z; kernel_rfl

def r06_Has_L2_step (c : List Seen) (d : Dot) (i : Int) : Tree (Int ⊕ (Bool ⊕ Unit)) :=
  .ite (decide (i < (c.length : Int))) (
    ask (inb i c.length) <|
    ask ((!(((c.getD i.toNat (dfl tSeen : Seen)).1 == d.1) && (decide ((0 : Int) < d.2)))) || inb i c.length) <|
    ask ((!(((c.getD i.toNat (dfl tSeen : Seen)).1 == d.1) && (!((decide ((0 : Int) < d.2)) && (decide (d.2 ≤ (c.getD i.toNat (dfl tSeen : Seen)).2.1)))))) || inb i c.length) <|
    .grd (((c.getD i.toNat (dfl tSeen : Seen)).1 == d.1) && (!((decide ((0 : Int) < d.2)) && (decide (d.2 ≤ (c.getD i.toNat (dfl tSeen : Seen)).2.1))))) (r06_in_T (c.getD i.toNat (dfl tSeen : Seen)).2.2 d.2) false fun y1 =>
    .ite (((c.getD i.toNat (dfl tSeen : Seen)).1 == d.1) && (((decide ((0 : Int) < d.2)) && (decide (d.2 ≤ (c.getD i.toNat (dfl tSeen : Seen)).2.1))) || y1)) (
      .ret (.inr (.inl true))) (
      .ret (.inl (w64 (i + 1))))) (
    .ret (.inr (.inr ())))

def r06_Has_L2 : Lp := ⟨2, [], [], (.cons (.val false (.list tSeen)) (ca2 (.cons (.ref 0 0) (ca (.cons (.val false (.int .i64)) (ca (ca2 (ca4 (ca32 .nil))))))))), (.cells 24 (.cons (.flat tDot) .nil) .nil), 0, .more 0 [] (ca4 (.cons (.val false .bool) (ca8 (ca32 .nil)))) .nil (.one 1 [] (ca (ca4 (ca8 (ca32 .nil)))) .nil), fun z => .bnd (.loop (fun v => r06_Has_L2_step z.1.1 z.2.1.1 v) z.1.2.2.2.2.2.1) fun r => .sum r (fun a0 => .ret (.inl ((cu4 (a0, (cu8 (cu32 ())))), ()))) (fun b0 => .ret (.inr ((cu (cu4 (cu8 (cu32 ())))), ())))⟩

theorem r06_Has_L2_ok : r06_Has_L2.ok Try.prog (nthC (loopsOf (bodyOf Try.f41)) 0) := by
  refine Lp.lift (π := ((List Seen) × Dot)) (V := Int) (ρ := (Bool ⊕ Unit)) mix tabOk r06_Has_L2 (o := orT [r06_in_g] [] noFz) (orT_sound ⟨r06_in_ok, trivial⟩) (allLp_of [] (by kernel_rfl) trivial rfl) (fun x v => ((x.1, (cu2 ((), (cu (v, (cu (cu2 (cu4 (cu32 ()))))))))), ((x.2, ()), ()))) (fun x r => match r with | .inl a0 => .inl ((cu4 (a0, (cu8 (cu32 ())))), ()) | .inr b0 => (.inr ((cu (cu4 (cu8 (cu32 ())))), ()))) (fun x v => r06_Has_L2_step x.1 x.2 v) (fun x r => .sum r (fun a0 => .ret (.inl ((cu4 (a0, (cu8 (cu32 ())))), ()))) (fun b0 => .ret (.inr ((cu (cu4 (cu8 (cu32 ())))), ())))) (fun z => (z.1.1, z.2.1.1)) (fun z => z.1.2.2.2.2.2.1) (fun _ => rfl) (fun _ => rfl) (fun x r Q h => match r, h with | .inl _, h => h | .inr b0, h => (h)) ?_
  intro x v; kernel_rfl

def r06_Has_T (x0 : List Seen) (x1 : Dot) : Tree Bool :=
  .bnd (.loop (fun v => r06_Has_L2_step x0 x1 v) 0) fun r1 =>
  .sum r1 (fun r2 =>
    .ret r2) (fun r3 =>
    .ret false)

def r06_Has_g : Sig := ⟨41, (.cons (.val false (.list tSeen)) (.cons (.val true tDot) .nil)), .vals (.val false .bool), fun z => r06_Has_T z.1 z.2.1, false⟩

theorem r06_Has_ok : r06_Has_g.ok Try.prog := by
  refine Sig.lift mix tabOk nms _ Try.func41 (c := (bodyOf Try.f41)) (by kernel_rfl) (o := orT [r06_in_g] [r06_Has_L2] noFz) (orT_sound ⟨r06_in_ok, trivial⟩) (allLp_of [nthC (loopsOf (bodyOf Try.f41)) 0] (by kernel_rfl) ⟨r06_Has_L2_ok, trivial⟩ (by kernel_rfl)) ?_
  intro z; kernel_rfl

def r05_Is_L2_step (s_ : Str) (i : Int) : Tree (Int ⊕ (Bool ⊕ Unit)) :=
  .ite (decide (i < (s_.length : Int))) (
    ask (inb i s_.length) <|
    ask ((!(!(decide ((sgetI s_ i) < 97)))) || inb i s_.length) <|
    ask ((!((decide ((sgetI s_ i) < 97)) || (decide ((122 : Int) < (sgetI s_ i))))) || inb i s_.length) <|
    ask ((!(((decide ((sgetI s_ i) < 97)) || (decide ((122 : Int) < (sgetI s_ i)))) && (!(decide ((sgetI s_ i) < 48))))) || inb i s_.length) <|
    ask ((!(((decide ((sgetI s_ i) < 97)) || (decide ((122 : Int) < (sgetI s_ i)))) && ((decide ((sgetI s_ i) < 48)) || (decide ((57 : Int) < (sgetI s_ i)))))) || inb i s_.length) <|
    .ite ((((decide ((sgetI s_ i) < 97)) || (decide ((122 : Int) < (sgetI s_ i)))) && ((decide ((sgetI s_ i) < 48)) || (decide ((57 : Int) < (sgetI s_ i))))) && (!decide ((sgetI s_ i) = 45))) (
      .ret (.inr (.inl false))) (
      .ret (.inl (w64 (i + 1))))) (
    .ret (.inr (.inr ())))

def r05_Is_L2 : Lp := ⟨2, [], [], (.cons (.val false .str) (ca2 (.cons (.val false (.int .i64)) (ca2 (ca8 (ca32 .nil)))))), .nil, 0, .more 0 [] (ca2 (.cons (.val false .bool) (ca (ca2 (ca8 (ca32 .nil)))))) .nil (.one 1 [] (.cons (.val false .str) (ca (ca4 (ca8 (ca32 .nil))))) .nil), fun z => .bnd (.loop (fun v => r05_Is_L2_step z.1.1 v) z.1.2.2.2.1) fun r => .sum r (fun a0 => .ret (.inl ((cu2 (a0, (cu (cu2 (cu8 (cu32 ())))))), ()))) (fun b0 => .ret (.inr ((z.1.1, (cu (cu4 (cu8 (cu32 ()))))), ())))⟩

theorem r05_Is_L2_ok : r05_Is_L2.ok Try.prog (nthC (loopsOf (bodyOf Try.f71)) 0) := by
  refine Lp.lift (π := Str) (V := Int) (ρ := (Bool ⊕ Unit)) mix tabOk r05_Is_L2 (o := orT [] [] noFz) (orT_sound trivial) (allLp_of [] (by kernel_rfl) trivial rfl) (fun x v => ((x, (cu2 (v, (cu2 (cu8 (cu32 ())))))), ())) (fun x r => match r with | .inl a0 => .inl ((cu2 (a0, (cu (cu2 (cu8 (cu32 ())))))), ()) | .inr b0 => (.inr ((x, (cu (cu4 (cu8 (cu32 ()))))), ()))) (fun x v => r05_Is_L2_step x v) (fun x r => .sum r (fun a0 => .ret (.inl ((cu2 (a0, (cu (cu2 (cu8 (cu32 ())))))), ()))) (fun b0 => .ret (.inr ((x, (cu (cu4 (cu8 (cu32 ()))))), ())))) (fun z => z.1.1) (fun z => z.1.2.2.2.1) (fun _ => rfl) (fun _ => rfl) (fun x r Q h => match r, h with | .inl _, h => h | .inr b0, h => (h)) ?_
  intro x v; kernel_rfl

def r05_Is_T (x0 : Str) : Tree Bool :=
  .bnd (.loop (fun v => r05_Is_L2_step x0 v) 0) fun r1 =>
  .sum r1 (fun r2 =>
    .ret r2) (fun r3 =>
    .ret ((decide ((1 : Int) ≤ (x0.length : Int))) && (decide ((x0.length : Int) ≤ 16))))

def r05_Is_g : Sig := ⟨71, (.cons (.val false .str) .nil), .vals (.val false .bool), fun z => r05_Is_T z.1, false⟩

theorem r05_Is_ok : r05_Is_g.ok Try.prog := by
  refine Sig.lift mix tabOk nms _ Try.func71 (c := (bodyOf Try.f71)) (by kernel_rfl) (o := orT [] [r05_Is_L2] noFz) (orT_sound trivial) (allLp_of [nthC (loopsOf (bodyOf Try.f71)) 0] (by kernel_rfl) ⟨r05_Is_L2_ok, trivial⟩ (by kernel_rfl)) ?_
  intro z; kernel_rfl

def r06_May_L11_step (c : List Seen) (n : Int) (i : Int) (x_ : Seen) (last : Int) (k : Int) : Tree ((Int × Int) ⊕ (Bool ⊕ Unit)) :=
  .ite (decide (k < (x_.2.2.length : Int))) (
    ask (inb k x_.2.2.length) <|
    ask ((!(!(decide ((x_.2.2.getD k.toNat (0 : Int)) ≤ last)))) || inb k x_.2.2.length) <|
    .ite ((decide ((x_.2.2.getD k.toNat (0 : Int)) ≤ last)) || (decide ((9007199254740992 : Int) < (x_.2.2.getD k.toNat (0 : Int))))) (
      .ret (.inr (.inl false))) (
      ask (inb k x_.2.2.length) <|
      .ret (.inl ((x_.2.2.getD k.toNat (0 : Int)), (w64 (k + 1)))))) (
    .ret (.inr (.inr ())))

def r06_May_L11 : Lp := ⟨11, [], [], (.cons (.val false (.list tSeen)) (ca2 (.cons (.val false (.int .i64)) (.cons (.val false (.int .i64)) (.cons (.ref 0 0) (.cons (.val false (.int .i64)) (.cons (.val false (.int .i64)) (ca (ca4 (ca8 (ca16 (ca32 (ca32 .nil))))))))))))), (.cells 51 (.cons (.flat tSeen) .nil) .nil), 0, .more 0 [] (ca2 (.cons (.val false .bool) (ca2 (ca32 (ca32 (ca32 .nil)))))) .nil (.one 3 [] (.cons (.val false (.list tSeen)) (ca2 (.cons (.val false (.int .i64)) (.cons (.val false (.int .i64)) (ca32 (ca32 (ca32 .nil))))))) .nil), fun z => .bnd (.loop (fun v => r06_May_L11_step z.1.1 z.1.2.2.2.1 z.1.2.2.2.2.1 z.2.1.1 v.1 v.2) (z.1.2.2.2.2.2.2.1, z.1.2.2.2.2.2.2.2.1)) fun r => .sum r (fun a0 => .ret (.inl ((cu2 (a0, (cu2 (cu32 (cu32 (cu32 ())))))), ()))) (fun b0 => .ret (.inr ((z.1.1, (cu2 (z.1.2.2.2.1, (z.1.2.2.2.2.1, (cu32 (cu32 (cu32 ()))))))), ())))⟩

theorem r06_May_L11_ok : r06_May_L11.ok Try.prog (nthC (loopsOf (nthC (loopsOf (bodyOf Try.f63)) 0)) 0) := by
  refine Lp.lift (π := ((List Seen) × Int × Int × Seen)) (V := (Int × Int)) (ρ := (Bool ⊕ Unit)) mix tabOk r06_May_L11 (o := orT [r05_Is_g] [] noFz) (orT_sound ⟨r05_Is_ok, trivial⟩) (allLp_of [] (by kernel_rfl) trivial rfl) (fun x v => ((x.1, (cu2 (x.2.1, (x.2.2.1, ((), (v.1, (v.2, (cu (cu4 (cu8 (cu16 (cu32 (cu32 ()))))))))))))), ((x.2.2.2, ()), ()))) (fun x r => match r with | .inl a0 => .inl ((cu2 (a0, (cu2 (cu32 (cu32 (cu32 ())))))), ()) | .inr b0 => (.inr ((x.1, (cu2 (x.2.1, (x.2.2.1, (cu32 (cu32 (cu32 ()))))))), ()))) (fun x v => r06_May_L11_step x.1 x.2.1 x.2.2.1 x.2.2.2 v.1 v.2) (fun x r => .sum r (fun a0 => .ret (.inl ((cu2 (a0, (cu2 (cu32 (cu32 (cu32 ())))))), ()))) (fun b0 => .ret (.inr ((x.1, (cu2 (x.2.1, (x.2.2.1, (cu32 (cu32 (cu32 ()))))))), ())))) (fun z => (z.1.1, z.1.2.2.2.1, z.1.2.2.2.2.1, z.2.1.1)) (fun z => (z.1.2.2.2.2.2.2.1, z.1.2.2.2.2.2.2.2.1)) (fun _ => rfl) (fun _ => rfl) (fun x r Q h => match r, h with | .inl _, h => h | .inr b0, h => (h)) ?_
  intro x v; kernel_rfl

def r06_May_L3_step (c : List Seen) (n : Int) (i : Int) : Tree ((Int × Int) ⊕ (Bool ⊕ Unit)) :=
  .ite (decide (i < (c.length : Int))) (
    ask (inb i c.length) <|
    .bnd (r05_Is_T (c.getD i.toNat (dfl tSeen : Seen)).1) fun y1 =>
    ask ((!((!(!y1)) && (decide ((0 : Int) < i)))) || inb (w64 (i - 1)) c.length) <|
    .ite ((((((!y1) || ((decide ((0 : Int) < i)) && (!ltS (c.getD ((w64 (i - 1)).toNat) (dfl tSeen : Seen)).1 (c.getD i.toNat (dfl tSeen : Seen)).1))) || (decide ((c.getD i.toNat (dfl tSeen : Seen)).2.1 < 0))) || (decide ((9007199254740992 : Int) < (c.getD i.toNat (dfl tSeen : Seen)).2.1))) || ((decide ((c.getD i.toNat (dfl tSeen : Seen)).2.1 = 0)) && (decide (((c.getD i.toNat (dfl tSeen : Seen)).2.2.length : Int) = 0)))) || (decide ((w64 ((4096 : Int) - n)) < ((c.getD i.toNat (dfl tSeen : Seen)).2.2.length : Int)))) (
      .ret (.inr (.inl false))) (
      .bnd (.loop (fun v => r06_May_L11_step c (w64 (n + ((c.getD i.toNat (dfl tSeen : Seen)).2.2.length : Int))) i (c.getD i.toNat (dfl tSeen : Seen)) v.1 v.2) ((w64 ((c.getD i.toNat (dfl tSeen : Seen)).2.1 + 1)), 0)) fun r2 =>
      .sum r2 (fun r3 =>
        .ret (.inr (.inl r3))) (fun r4 =>
        .ret (.inl ((w64 (n + ((c.getD i.toNat (dfl tSeen : Seen)).2.2.length : Int))), (w64 (i + 1))))))) (
    .ret (.inr (.inr ())))

def r06_May_L3 : Lp := ⟨3, [], [], (.cons (.val false (.list tSeen)) (ca2 (.cons (.val false (.int .i64)) (.cons (.val false (.int .i64)) (ca32 (ca32 (ca32 .nil))))))), .nil, 0, .more 0 [] (ca2 (.cons (.val false .bool) (ca2 (ca32 (ca32 (ca32 .nil)))))) .nil (.one 1 [] (ca (ca4 (ca32 (ca32 (ca32 .nil))))) .nil), fun z => .bnd (.loop (fun v => r06_May_L3_step z.1.1 v.1 v.2) (z.1.2.2.2.1, z.1.2.2.2.2.1)) fun r => .sum r (fun a0 => .ret (.inl ((cu2 (a0, (cu2 (cu32 (cu32 (cu32 ())))))), ()))) (fun b0 => .ret (.inr ((cu (cu4 (cu32 (cu32 (cu32 ()))))), ())))⟩

theorem r06_May_L3_ok : r06_May_L3.ok Try.prog (nthC (loopsOf (bodyOf Try.f63)) 0) := by
  refine Lp.lift (π := List Seen) (V := (Int × Int)) (ρ := (Bool ⊕ Unit)) mix tabOk r06_May_L3 (o := orT [r05_Is_g] [r06_May_L11] noFz) (orT_sound ⟨r05_Is_ok, trivial⟩) (allLp_of [nthC (loopsOf (nthC (loopsOf (bodyOf Try.f63)) 0)) 0] (by kernel_rfl) ⟨r06_May_L11_ok, trivial⟩ (by kernel_rfl)) (fun x v => ((x, (cu2 (v.1, (v.2, (cu32 (cu32 (cu32 ()))))))), ())) (fun x r => match r with | .inl a0 => .inl ((cu2 (a0, (cu2 (cu32 (cu32 (cu32 ())))))), ()) | .inr b0 => (.inr ((cu (cu4 (cu32 (cu32 (cu32 ()))))), ()))) (fun x v => r06_May_L3_step x v.1 v.2) (fun x r => .sum r (fun a0 => .ret (.inl ((cu2 (a0, (cu2 (cu32 (cu32 (cu32 ())))))), ()))) (fun b0 => .ret (.inr ((cu (cu4 (cu32 (cu32 (cu32 ()))))), ())))) (fun z => z.1.1) (fun z => (z.1.2.2.2.1, z.1.2.2.2.2.1)) (fun _ => rfl) (fun _ => rfl) (fun x r Q h => match r, h with | .inl _, h => h | .inr b0, h => (h)) ?_
  intro x v; kernel_rfl

def r06_May_T (x0 : List Seen) : Tree Bool :=
  .bnd (.loop (fun v => r06_May_L3_step x0 v.1 v.2) (0, 0)) fun r1 =>
  .sum r1 (fun r2 =>
    .ret r2) (fun r3 =>
    .ret true)

def r06_May_g : Sig := ⟨63, (.cons (.val false (.list tSeen)) .nil), .vals (.val false .bool), fun z => r06_May_T z.1, false⟩

theorem r06_May_ok : r06_May_g.ok Try.prog := by
  refine Sig.lift mix tabOk nms _ Try.func63 (c := (bodyOf Try.f63)) (by kernel_rfl) (o := orT [r05_Is_g] [r06_May_L3] noFz) (orT_sound ⟨r05_Is_ok, trivial⟩) (allLp_of [nthC (loopsOf (bodyOf Try.f63)) 0] (by kernel_rfl) ⟨r06_May_L3_ok, trivial⟩ (by kernel_rfl)) ?_
  intro z; kernel_rfl

def r06_of_L2_step (c : List Seen) (node : Str) (c2 : Seen) (i : Int) : Tree (Int ⊕ (Seen ⊕ Unit)) :=
  .ite (decide (i < (c.length : Int))) (
    ask (inb i c.length) <|
    .ite ((c.getD i.toNat (dfl tSeen : Seen)).1 == node) (
      ask (inb i c.length) <|
      .ret (.inr (.inl (c.getD i.toNat (dfl tSeen : Seen))))) (
      .ret (.inl (w64 (i + 1))))) (
    .ret (.inr (.inr ())))

def r06_of_L2 : Lp := ⟨2, [], [], (.cons (.val false (.list tSeen)) (.cons (.val false .str) (ca2 (.cons (.ref 0 0) (.cons (.val false (.int .i64)) (ca (ca2 (ca16 .nil)))))))), (.cells 51 (.cons (.flat tSeen) .nil) .nil), 0, .more 0 [] (ca4 (.cons (.ref 0 0) (ca4 (ca16 .nil)))) (.cells 51 (.cons (.flat tSeen) .nil) .nil) (.one 1 [] (ca (.cons (.val false .str) (ca2 (.cons (.ref 0 0) (ca4 (ca16 .nil)))))) (.cells 51 (.cons (.flat tSeen) .nil) .nil)), fun z => .bnd (.loop (fun v => r06_of_L2_step z.1.1 z.1.2.1 z.2.1.1 v) z.1.2.2.2.2.2.1) fun r => .sum r (fun a0 => .ret (.inl ((cu4 ((), (cu4 (cu16 ())))), ((a0, ()), ())))) (fun b0 => .ret (.inr ((cu (z.1.2.1, (cu2 ((), (cu4 (cu16 ())))))), ((z.2.1.1, ()), ()))))⟩

theorem r06_of_L2_ok : r06_of_L2.ok Try.prog (nthC (loopsOf (bodyOf Try.f64)) 0) := by
  refine Lp.lift (π := ((List Seen) × Str × Seen)) (V := Int) (ρ := (Seen ⊕ Unit)) mix tabOk r06_of_L2 (o := orT [] [] noFz) (orT_sound trivial) (allLp_of [] (by kernel_rfl) trivial rfl) (fun x v => ((x.1, (x.2.1, (cu2 ((), (v, (cu (cu2 (cu16 ())))))))), ((x.2.2, ()), ()))) (fun x r => match r with | .inl a0 => .inl ((cu4 ((), (cu4 (cu16 ())))), ((a0, ()), ())) | .inr b0 => (.inr ((cu (x.2.1, (cu2 ((), (cu4 (cu16 ())))))), ((x.2.2, ()), ())))) (fun x v => r06_of_L2_step x.1 x.2.1 x.2.2 v) (fun x r => .sum r (fun a0 => .ret (.inl ((cu4 ((), (cu4 (cu16 ())))), ((a0, ()), ())))) (fun b0 => .ret (.inr ((cu (x.2.1, (cu2 ((), (cu4 (cu16 ())))))), ((x.2.2, ()), ()))))) (fun z => (z.1.1, z.1.2.1, z.2.1.1)) (fun z => z.1.2.2.2.2.2.1) (fun _ => rfl) (fun _ => rfl) (fun x r Q h => match r, h with | .inl _, h => h | .inr b0, h => (h)) ?_
  intro x v; kernel_rfl

def r06_of_T (x0 : List Seen) (x1 : Str) : Tree Seen :=
  .bnd (.loop (fun v => r06_of_L2_step x0 x1 ([], (0, [])) v) 0) fun r1 =>
  .sum r1 (fun r2 =>
    .ret r2) (fun r3 =>
    .ret (x1, (0, [])))

def r06_of_g : Sig := ⟨64, (.cons (.val false (.list tSeen)) (.cons (.val false .str) .nil)), .vals (.val true tSeen), fun z => r06_of_T z.1 z.2.1, (dfl tSeen : Seen)⟩

theorem r06_of_ok : r06_of_g.ok Try.prog := by
  refine Sig.lift mix tabOk nms _ Try.func64 (c := (bodyOf Try.f64)) (by kernel_rfl) (o := orT [] [r06_of_L2] noFz) (orT_sound trivial) (allLp_of [nthC (loopsOf (bodyOf Try.f64)) 0] (by kernel_rfl) ⟨r06_of_L2_ok, trivial⟩ (by kernel_rfl)) ?_
  intro z; kernel_rfl

def r06_Covers_L10_step (a : List Seen) (b : List Seen) (i : Int) (x_ : Seen) (k : Int) : Tree (Int ⊕ (Bool ⊕ Unit)) :=
  ask (inb i b.length) <|
  .ite (decide (k < ((b.getD i.toNat (dfl tSeen : Seen)).2.2.length : Int))) (
    ask (inb i b.length) <|
    ask (inb k (b.getD i.toNat (dfl tSeen : Seen)).2.2.length) <|
    ask ((!(decide (x_.2.1 < ((b.getD i.toNat (dfl tSeen : Seen)).2.2.getD k.toNat (0 : Int))))) || inb i b.length) <|
    ask ((!(decide (x_.2.1 < ((b.getD i.toNat (dfl tSeen : Seen)).2.2.getD k.toNat (0 : Int))))) || inb k (b.getD i.toNat (dfl tSeen : Seen)).2.2.length) <|
    .grd (decide (x_.2.1 < ((b.getD i.toNat (dfl tSeen : Seen)).2.2.getD k.toNat (0 : Int)))) (r06_in_T x_.2.2 ((b.getD i.toNat (dfl tSeen : Seen)).2.2.getD k.toNat (0 : Int))) false fun y1 =>
    .ite ((decide (x_.2.1 < ((b.getD i.toNat (dfl tSeen : Seen)).2.2.getD k.toNat (0 : Int)))) && (!y1)) (
      .ret (.inr (.inl false))) (
      .ret (.inl (w64 (k + 1))))) (
    .ret (.inr (.inr ())))

def r06_Covers_L10 : Lp := ⟨10, [], [], (.cons (.val false (.list tSeen)) (.cons (.val false (.list tSeen)) (ca (ca2 (.cons (.val false (.int .i64)) (.cons (.ref 0 0) (.cons (.val false (.int .i64)) (ca32 (ca32 .nil))))))))), (.cells 51 (.cons (.flat tSeen) .nil) .nil), 0, .more 0 [] (ca4 (.cons (.val false .bool) (ca (ca2 (ca32 (ca32 .nil)))))) .nil (.one 3 [] (.cons (.val false (.list tSeen)) (.cons (.val false (.list tSeen)) (ca (ca2 (.cons (.val false (.int .i64)) (ca2 (ca32 (ca32 .nil)))))))) .nil), fun z => .bnd (.loop (fun v => r06_Covers_L10_step z.1.1 z.1.2.1 z.1.2.2.2.2.2.1 z.2.1.1 v) z.1.2.2.2.2.2.2.2.1) fun r => .sum r (fun a0 => .ret (.inl ((cu4 (a0, (cu (cu2 (cu32 (cu32 ())))))), ()))) (fun b0 => .ret (.inr ((z.1.1, (z.1.2.1, (cu (cu2 (z.1.2.2.2.2.2.1, (cu2 (cu32 (cu32 ())))))))), ())))⟩

theorem r06_Covers_L10_ok : r06_Covers_L10.ok Try.prog (nthC (loopsOf (nthC (loopsOf (bodyOf Try.f47)) 0)) 0) := by
  refine Lp.lift (π := ((List Seen) × (List Seen) × Int × Seen)) (V := Int) (ρ := (Bool ⊕ Unit)) mix tabOk r06_Covers_L10 (o := orT [r06_May_g, r06_of_g, r06_in_g] [] noFz) (orT_sound ⟨r06_May_ok, ⟨r06_of_ok, ⟨r06_in_ok, trivial⟩⟩⟩) (allLp_of [] (by kernel_rfl) trivial rfl) (fun x v => ((x.1, (x.2.1, (cu (cu2 (x.2.2.1, ((), (v, (cu32 (cu32 ()))))))))), ((x.2.2.2, ()), ()))) (fun x r => match r with | .inl a0 => .inl ((cu4 (a0, (cu (cu2 (cu32 (cu32 ())))))), ()) | .inr b0 => (.inr ((x.1, (x.2.1, (cu (cu2 (x.2.2.1, (cu2 (cu32 (cu32 ())))))))), ()))) (fun x v => r06_Covers_L10_step x.1 x.2.1 x.2.2.1 x.2.2.2 v) (fun x r => .sum r (fun a0 => .ret (.inl ((cu4 (a0, (cu (cu2 (cu32 (cu32 ())))))), ()))) (fun b0 => .ret (.inr ((x.1, (x.2.1, (cu (cu2 (x.2.2.1, (cu2 (cu32 (cu32 ())))))))), ())))) (fun z => (z.1.1, z.1.2.1, z.1.2.2.2.2.2.1, z.2.1.1)) (fun z => z.1.2.2.2.2.2.2.2.1) (fun _ => rfl) (fun _ => rfl) (fun x r Q h => match r, h with | .inl _, h => h | .inr b0, h => (h)) ?_
  intro x v; kernel_rfl

def r06_Covers_L4_step (a : List Seen) (b : List Seen) (i : Int) : Tree (Int ⊕ (Bool ⊕ Unit)) :=
  .ite (decide (i < (b.length : Int))) (
    ask (inb i b.length) <|
    .bnd (r06_of_T a (b.getD i.toNat (dfl tSeen : Seen)).1) fun y1 =>
    ask (inb i b.length) <|
    .ite (decide (y1.2.1 < (b.getD i.toNat (dfl tSeen : Seen)).2.1)) (
      .ret (.inr (.inl false))) (
      .bnd (.loop (fun v => r06_Covers_L10_step a b i y1 v) 0) fun r2 =>
      .sum r2 (fun r3 =>
        .ret (.inr (.inl r3))) (fun r4 =>
        .ret (.inl (w64 (i + 1)))))) (
    .ret (.inr (.inr ())))

def r06_Covers_L4 : Lp := ⟨4, [], [], (.cons (.val false (.list tSeen)) (.cons (.val false (.list tSeen)) (ca (ca2 (.cons (.val false (.int .i64)) (ca2 (ca32 (ca32 .nil)))))))), .nil, 0, .more 0 [] (ca4 (.cons (.val false .bool) (ca (ca2 (ca32 (ca32 .nil)))))) .nil (.one 1 [] (ca8 (ca32 (ca32 .nil))) .nil), fun z => .bnd (.loop (fun v => r06_Covers_L4_step z.1.1 z.1.2.1 v) z.1.2.2.2.2.2.1) fun r => .sum r (fun a0 => .ret (.inl ((cu4 (a0, (cu (cu2 (cu32 (cu32 ())))))), ()))) (fun b0 => .ret (.inr ((cu8 (cu32 (cu32 ()))), ())))⟩

theorem r06_Covers_L4_ok : r06_Covers_L4.ok Try.prog (nthC (loopsOf (bodyOf Try.f47)) 0) := by
  refine Lp.lift (π := ((List Seen) × (List Seen))) (V := Int) (ρ := (Bool ⊕ Unit)) mix tabOk r06_Covers_L4 (o := orT [r06_May_g, r06_of_g, r06_in_g] [r06_Covers_L10] noFz) (orT_sound ⟨r06_May_ok, ⟨r06_of_ok, ⟨r06_in_ok, trivial⟩⟩⟩) (allLp_of [nthC (loopsOf (nthC (loopsOf (bodyOf Try.f47)) 0)) 0] (by kernel_rfl) ⟨r06_Covers_L10_ok, trivial⟩ (by kernel_rfl)) (fun x v => ((x.1, (x.2, (cu (cu2 (v, (cu2 (cu32 (cu32 ())))))))), ())) (fun x r => match r with | .inl a0 => .inl ((cu4 (a0, (cu (cu2 (cu32 (cu32 ())))))), ()) | .inr b0 => (.inr ((cu8 (cu32 (cu32 ()))), ()))) (fun x v => r06_Covers_L4_step x.1 x.2 v) (fun x r => .sum r (fun a0 => .ret (.inl ((cu4 (a0, (cu (cu2 (cu32 (cu32 ())))))), ()))) (fun b0 => .ret (.inr ((cu8 (cu32 (cu32 ()))), ())))) (fun z => (z.1.1, z.1.2.1)) (fun z => z.1.2.2.2.2.2.1) (fun _ => rfl) (fun _ => rfl) (fun x r Q h => match r, h with | .inl _, h => h | .inr b0, h => (h)) ?_
  intro x v; kernel_rfl

def r06_Covers_T (x0 : List Seen) (x1 : List Seen) : Tree Bool :=
  .bnd (r06_May_T x0) fun y1 =>
  .grd (!(!y1)) (r06_May_T x1) false fun y2 =>
  .ite ((!y1) || (!y2)) (
    .ret false) (
    .bnd (.loop (fun v => r06_Covers_L4_step x0 x1 v) 0) fun r3 =>
    .sum r3 (fun r4 =>
      .ret r4) (fun r5 =>
      .ret true))

def r06_Covers_g : Sig := ⟨47, (.cons (.val false (.list tSeen)) (.cons (.val false (.list tSeen)) .nil)), .vals (.val false .bool), fun z => r06_Covers_T z.1 z.2.1, false⟩

theorem r06_Covers_ok : r06_Covers_g.ok Try.prog := by
  refine Sig.lift mix tabOk nms _ Try.func47 (c := (bodyOf Try.f47)) (by kernel_rfl) (o := orT [r06_May_g, r06_of_g, r06_in_g] [r06_Covers_L4] noFz) (orT_sound ⟨r06_May_ok, ⟨r06_of_ok, ⟨r06_in_ok, trivial⟩⟩⟩) (allLp_of [nthC (loopsOf (bodyOf Try.f47)) 0] (by kernel_rfl) ⟨r06_Covers_L4_ok, trivial⟩ (by kernel_rfl)) ?_
  intro z; kernel_rfl

def r43_Closed_L5_step (l : List Deed) (i : Int) (n : Int) : Tree (Int ⊕ (Bool ⊕ Unit)) :=
  .ite (decide (n < (l.length : Int))) (
    ask (inb i l.length) <|
    .bnd (r43_Writes_T (l.getD i.toNat (dfl tDeed : Deed))) fun y1 =>
    ask ((!y1) || inb n l.length) <|
    .grd y1 (r43_Writes_T (l.getD n.toNat (dfl tDeed : Deed))) false fun y2 =>
    ask ((!(y1 && y2)) || inb n l.length) <|
    .grd (y1 && y2) (r43_Good_T (l.getD n.toNat (dfl tDeed : Deed))) false fun y3 =>
    ask ((!((y1 && y2) && y3)) || inb i l.length) <|
    ask ((!((y1 && y2) && y3)) || inb n l.length) <|
    .grd ((y1 && y2) && y3) (r43_Meets_T (l.getD i.toNat (dfl tDeed : Deed)) (l.getD n.toNat (dfl tDeed : Deed))) false fun y4 =>
    ask ((!(((y1 && y2) && y3) && y4)) || inb i l.length) <|
    ask ((!(((y1 && y2) && y3) && y4)) || inb n l.length) <|
    .grd (((y1 && y2) && y3) && y4) (r06_Has_T (l.getD i.toNat (dfl tDeed : Deed)).2.2.2.2.2.2.1.2.2.2.2.2.1 (l.getD n.toNat (dfl tDeed : Deed)).2.2.2.2.2.2.2.2.2.2.2.2) false fun y5 =>
    ask ((!((((y1 && y2) && y3) && y4) && y5)) || inb i l.length) <|
    ask ((!((((y1 && y2) && y3) && y4) && y5)) || inb n l.length) <|
    .grd ((((y1 && y2) && y3) && y4) && y5) (r06_Covers_T (l.getD i.toNat (dfl tDeed : Deed)).2.2.2.2.2.2.1.2.2.2.2.2.1 (l.getD n.toNat (dfl tDeed : Deed)).2.2.2.2.2.2.1.2.2.2.2.2.1) false fun y6 =>
    .ite (((((y1 && y2) && y3) && y4) && y5) && (!y6)) (
      .ret (.inr (.inl false))) (
      .ret (.inl (w64 (n + 1))))) (
    .ret (.inr (.inr ())))

def r43_Closed_L5 : Lp := ⟨5, [], [], (.cons (.val false (.list tDeed)) (ca2 (.cons (.val false (.int .i64)) (.cons (.val false (.int .i64)) (ca (ca8 (ca32 (ca32 .nil)))))))), .nil, 0, .more 0 [] (ca2 (.cons (.val false .bool) (ca (ca2 (ca8 (ca32 (ca32 .nil))))))) .nil (.one 3 [] (.cons (.val false (.list tDeed)) (ca2 (.cons (.val false (.int .i64)) (ca2 (ca8 (ca32 (ca32 .nil))))))) .nil), fun z => .bnd (.loop (fun v => r43_Closed_L5_step z.1.1 z.1.2.2.2.1 v) z.1.2.2.2.2.1) fun r => .sum r (fun a0 => .ret (.inl ((cu2 (a0, (cu (cu2 (cu8 (cu32 (cu32 ()))))))), ()))) (fun b0 => .ret (.inr ((z.1.1, (cu2 (z.1.2.2.2.1, (cu2 (cu8 (cu32 (cu32 ()))))))), ())))⟩

theorem r43_Closed_L5_ok : r43_Closed_L5.ok Try.prog (nthC (loopsOf (nthC (loopsOf (bodyOf Try.f19)) 0)) 0) := by
  refine Lp.lift (π := ((List Deed) × Int)) (V := Int) (ρ := (Bool ⊕ Unit)) mix tabOk r43_Closed_L5 (o := orT [r43_Writes_g, r43_Good_g, r43_Meets_g, r06_Has_g, r06_Covers_g] [] noFz) (orT_sound ⟨r43_Writes_ok, ⟨r43_Good_ok, ⟨r43_Meets_ok, ⟨r06_Has_ok, ⟨r06_Covers_ok, trivial⟩⟩⟩⟩⟩) (allLp_of [] (by kernel_rfl) trivial rfl) (fun x v => ((x.1, (cu2 (x.2, (v, (cu (cu8 (cu32 (cu32 ())))))))), ())) (fun x r => match r with | .inl a0 => .inl ((cu2 (a0, (cu (cu2 (cu8 (cu32 (cu32 ()))))))), ()) | .inr b0 => (.inr ((x.1, (cu2 (x.2, (cu2 (cu8 (cu32 (cu32 ()))))))), ()))) (fun x v => r43_Closed_L5_step x.1 x.2 v) (fun x r => .sum r (fun a0 => .ret (.inl ((cu2 (a0, (cu (cu2 (cu8 (cu32 (cu32 ()))))))), ()))) (fun b0 => .ret (.inr ((x.1, (cu2 (x.2, (cu2 (cu8 (cu32 (cu32 ()))))))), ())))) (fun z => (z.1.1, z.1.2.2.2.1)) (fun z => z.1.2.2.2.2.1) (fun _ => rfl) (fun _ => rfl) (fun x r Q h => match r, h with | .inl _, h => h | .inr b0, h => (h)) ?_
  intro x v; kernel_rfl

def r43_Closed_L2_step (l : List Deed) (i : Int) : Tree (Int ⊕ (Bool ⊕ Unit)) :=
  .ite (decide (i < (l.length : Int))) (
    .bnd (.loop (fun v => r43_Closed_L5_step l i v) 0) fun r1 =>
    .sum r1 (fun r2 =>
      .ret (.inr (.inl r2))) (fun r3 =>
      .ret (.inl (w64 (i + 1))))) (
    .ret (.inr (.inr ())))

def r43_Closed_L2 : Lp := ⟨2, [], [], (.cons (.val false (.list tDeed)) (ca2 (.cons (.val false (.int .i64)) (ca2 (ca8 (ca32 (ca32 .nil))))))), .nil, 0, .more 0 [] (ca2 (.cons (.val false .bool) (ca (ca2 (ca8 (ca32 (ca32 .nil))))))) .nil (.one 1 [] (ca2 (ca4 (ca8 (ca32 (ca32 .nil))))) .nil), fun z => .bnd (.loop (fun v => r43_Closed_L2_step z.1.1 v) z.1.2.2.2.1) fun r => .sum r (fun a0 => .ret (.inl ((cu2 (a0, (cu (cu2 (cu8 (cu32 (cu32 ()))))))), ()))) (fun b0 => .ret (.inr ((cu2 (cu4 (cu8 (cu32 (cu32 ()))))), ())))⟩

theorem r43_Closed_L2_ok : r43_Closed_L2.ok Try.prog (nthC (loopsOf (bodyOf Try.f19)) 0) := by
  refine Lp.lift (π := List Deed) (V := Int) (ρ := (Bool ⊕ Unit)) mix tabOk r43_Closed_L2 (o := orT [r43_Writes_g, r43_Good_g, r43_Meets_g, r06_Has_g, r06_Covers_g] [r43_Closed_L5] noFz) (orT_sound ⟨r43_Writes_ok, ⟨r43_Good_ok, ⟨r43_Meets_ok, ⟨r06_Has_ok, ⟨r06_Covers_ok, trivial⟩⟩⟩⟩⟩) (allLp_of [nthC (loopsOf (nthC (loopsOf (bodyOf Try.f19)) 0)) 0] (by kernel_rfl) ⟨r43_Closed_L5_ok, trivial⟩ (by kernel_rfl)) (fun x v => ((x, (cu2 (v, (cu2 (cu8 (cu32 (cu32 ()))))))), ())) (fun x r => match r with | .inl a0 => .inl ((cu2 (a0, (cu (cu2 (cu8 (cu32 (cu32 ()))))))), ()) | .inr b0 => (.inr ((cu2 (cu4 (cu8 (cu32 (cu32 ()))))), ()))) (fun x v => r43_Closed_L2_step x v) (fun x r => .sum r (fun a0 => .ret (.inl ((cu2 (a0, (cu (cu2 (cu8 (cu32 (cu32 ()))))))), ()))) (fun b0 => .ret (.inr ((cu2 (cu4 (cu8 (cu32 (cu32 ()))))), ())))) (fun z => z.1.1) (fun z => z.1.2.2.2.1) (fun _ => rfl) (fun _ => rfl) (fun x r Q h => match r, h with | .inl _, h => h | .inr b0, h => (h)) ?_
  intro x v; kernel_rfl

def r43_Closed_T (x0 : List Deed) : Tree Bool :=
  .bnd (.loop (fun v => r43_Closed_L2_step x0 v) 0) fun r1 =>
  .sum r1 (fun r2 =>
    .ret r2) (fun r3 =>
    .ret true)

def r43_Closed_g : Sig := ⟨19, (.cons (.val false (.list tDeed)) .nil), .vals (.val false .bool), fun z => r43_Closed_T z.1, false⟩

theorem r43_Closed_ok : r43_Closed_g.ok Try.prog := by
  refine Sig.lift mix tabOk nms _ Try.func19 (c := (bodyOf Try.f19)) (by kernel_rfl) (o := orT [r43_Writes_g, r43_Good_g, r43_Meets_g, r06_Has_g, r06_Covers_g] [r43_Closed_L2] noFz) (orT_sound ⟨r43_Writes_ok, ⟨r43_Good_ok, ⟨r43_Meets_ok, ⟨r06_Has_ok, ⟨r06_Covers_ok, trivial⟩⟩⟩⟩⟩) (allLp_of [nthC (loopsOf (bodyOf Try.f19)) 0] (by kernel_rfl) ⟨r43_Closed_L2_ok, trivial⟩ (by kernel_rfl)) ?_
  intro z; kernel_rfl

def r43_put_T (x0 : Deed) (x1 : Deed) (x2 : Sib) : Tree Bool :=
  .bnd (r43_Writes_T x0) fun y1 =>
  .grd y1 (r43_Meets_T x0 x1) false fun y2 =>
  .grd ((((((y1 && y2) && (x0.1 == x2.1.1)) && (decide (x0.2.2.2.1 < x1.2.2.2.2.1))) && (x0.2.2.2.2.2.2.1.2.2.2.2.1 == x2.2.1)) && (decide (x0.2.2.2.2.2.2.1.2.2.2.2.2.2 = x2.2.2.2))) && ((decide (x0.2.2.2.2.2.2.1.1 = 3)) == x2.2.2.1)) (r43_Good_T x0) false fun y3 =>
  .ret (((((((y1 && y2) && (x0.1 == x2.1.1)) && (decide (x0.2.2.2.1 < x1.2.2.2.2.1))) && (x0.2.2.2.2.2.2.1.2.2.2.2.1 == x2.2.1)) && (decide (x0.2.2.2.2.2.2.1.2.2.2.2.2.2 = x2.2.2.2))) && ((decide (x0.2.2.2.2.2.2.1.1 = 3)) == x2.2.2.1)) && ((!y3) || ((x0.2.2.2.2.2.2.2.2.2.2.2.2.1 == x2.1.1) && ((decide (x0.2.2.2.2.2.2.2.2.2.2.2.2.2 = x2.1.2)) && true))))

def r43_put_g : Sig := ⟨40, (.cons (.val true tDeed) (.cons (.val true tDeed) (.cons (.val true tSib) .nil))), .vals (.val false .bool), fun z => r43_put_T z.1 z.2.1 z.2.2.1, false⟩

theorem r43_put_ok : r43_put_g.ok Try.prog := by
  refine Sig.lift mix tabOk nms _ Try.func40 (c := (bodyOf Try.f40)) (by kernel_rfl) (o := orT [r43_Writes_g, r43_Meets_g, r43_Good_g] [] noFz) (orT_sound ⟨r43_Writes_ok, ⟨r43_Meets_ok, ⟨r43_Good_ok, trivial⟩⟩⟩) (allLp_of [] (by kernel_rfl) trivial rfl) ?_
  intro z; kernel_rfl

def r43_Causal_L13_step (l : List Deed) (closed : Bool) (i : Int) (k : Int) (g : Deed) (s_ : Sib) (was : Bool) (n : Int) : Tree ((Bool × Int) ⊕ (Bool ⊕ Bool)) :=
  .ite (decide (n < (l.length : Int))) (
    ask ((!(!was)) || inb n l.length) <|
    .grd (!was) (r43_put_T (l.getD n.toNat (dfl tDeed : Deed)) g s_) false fun y1 =>
    ask ((!closed) || inb n l.length) <|
    .grd closed (r43_Writes_T (l.getD n.toNat (dfl tDeed : Deed))) false fun y2 =>
    ask ((!(closed && y2)) || inb n l.length) <|
    .grd (closed && y2) (r43_Good_T (l.getD n.toNat (dfl tDeed : Deed))) false fun y3 =>
    ask ((!((closed && y2) && y3)) || inb n l.length) <|
    .grd ((closed && y2) && y3) (r43_Meets_T (l.getD n.toNat (dfl tDeed : Deed)) g) false fun y4 =>
    ask ((!(((closed && y2) && y3) && y4)) || inb n l.length) <|
    .grd (((closed && y2) && y3) && y4) (r06_Has_T g.2.2.2.2.2.2.2.2.2.2.1 (l.getD n.toNat (dfl tDeed : Deed)).2.2.2.2.2.2.2.2.2.2.2.2) false fun y5 =>
    ask ((!((((closed && y2) && y3) && y4) && y5)) || inb n l.length) <|
    .grd ((((closed && y2) && y3) && y4) && y5) (r06_Has_T (l.getD n.toNat (dfl tDeed : Deed)).2.2.2.2.2.2.1.2.2.2.2.2.1 s_.1) false fun y6 =>
    .ite (((((closed && y2) && y3) && y4) && y5) && y6) (
      .ret (.inr (.inl false))) (
      .ret (.inl ((was || y1), (w64 (n + 1)))))) (
    .ret (.inr (.inr was)))

def r43_Causal_L13 : Lp := ⟨13, [], [], (.cons (.val false (.list tDeed)) (ca2 (.cons (.val false .bool) (.cons (.val false (.int .i64)) (.cons (.ref 0 0) (.cons (.val false (.int .i64)) (.cons (.ref 1 0) (.cons (.val false .bool) (.cons (.val false (.int .i64)) (ca16 (ca32 (ca32 (ca32 .nil))))))))))))), (.cells 39 (.cons (.flat tDeed) .nil) (.cells 26 (.cons (.flat tSib) .nil) .nil)), 0, .more 0 [] (ca2 (.cons (.val false .bool) (ca (ca2 (ca4 (ca16 (ca32 (ca32 (ca32 .nil))))))))) .nil (.one 5 [] (.cons (.val false (.list tDeed)) (ca2 (.cons (.val false .bool) (.cons (.val false (.int .i64)) (.cons (.ref 0 0) (.cons (.val false (.int .i64)) (.cons (.ref 1 0) (.cons (.val false .bool) (ca (ca16 (ca32 (ca32 (ca32 .nil))))))))))))) (.cells 39 (.cons (.flat tDeed) .nil) (.cells 26 (.cons (.flat tSib) .nil) .nil))), fun z => .bnd (.loop (fun v => r43_Causal_L13_step z.1.1 z.1.2.2.2.1 z.1.2.2.2.2.1 z.1.2.2.2.2.2.2.1 z.2.1.1 z.2.2.1.1 v.1 v.2) (z.1.2.2.2.2.2.2.2.2.1, z.1.2.2.2.2.2.2.2.2.2.1)) fun r => .sum r (fun a0 => .ret (.inl ((cu2 (a0, (cu (cu2 (cu4 (cu16 (cu32 (cu32 (cu32 ()))))))))), ()))) (fun b0 => .ret (.inr ((z.1.1, (cu2 (z.1.2.2.2.1, (z.1.2.2.2.2.1, ((), (z.1.2.2.2.2.2.2.1, ((), (b0, (cu (cu16 (cu32 (cu32 (cu32 ()))))))))))))), ((z.2.1.1, ()), ((z.2.2.1.1, ()), ())))))⟩

theorem r43_Causal_L13_ok : r43_Causal_L13.ok Try.prog (nthC (loopsOf (nthC (loopsOf (nthC (loopsOf (bodyOf Try.f15)) 0)) 0)) 0) := by
  refine Lp.lift (π := ((List Deed) × Bool × Int × Int × Deed × Sib)) (V := (Bool × Int)) (ρ := (Bool ⊕ Bool)) mix tabOk r43_Causal_L13 (o := orT [r43_Closed_g, r43_Good_g, r43_put_g, r43_Writes_g, r43_Meets_g, r06_Has_g] [] noFz) (orT_sound ⟨r43_Closed_ok, ⟨r43_Good_ok, ⟨r43_put_ok, ⟨r43_Writes_ok, ⟨r43_Meets_ok, ⟨r06_Has_ok, trivial⟩⟩⟩⟩⟩⟩) (allLp_of [] (by kernel_rfl) trivial rfl) (fun x v => ((x.1, (cu2 (x.2.1, (x.2.2.1, ((), (x.2.2.2.1, ((), (v.1, (v.2, (cu16 (cu32 (cu32 (cu32 ()))))))))))))), ((x.2.2.2.2.1, ()), ((x.2.2.2.2.2, ()), ())))) (fun x r => match r with | .inl a0 => .inl ((cu2 (a0, (cu (cu2 (cu4 (cu16 (cu32 (cu32 (cu32 ()))))))))), ()) | .inr b0 => (.inr ((x.1, (cu2 (x.2.1, (x.2.2.1, ((), (x.2.2.2.1, ((), (b0, (cu (cu16 (cu32 (cu32 (cu32 ()))))))))))))), ((x.2.2.2.2.1, ()), ((x.2.2.2.2.2, ()), ()))))) (fun x v => r43_Causal_L13_step x.1 x.2.1 x.2.2.1 x.2.2.2.1 x.2.2.2.2.1 x.2.2.2.2.2 v.1 v.2) (fun x r => .sum r (fun a0 => .ret (.inl ((cu2 (a0, (cu (cu2 (cu4 (cu16 (cu32 (cu32 (cu32 ()))))))))), ()))) (fun b0 => .ret (.inr ((x.1, (cu2 (x.2.1, (x.2.2.1, ((), (x.2.2.2.1, ((), (b0, (cu (cu16 (cu32 (cu32 (cu32 ()))))))))))))), ((x.2.2.2.2.1, ()), ((x.2.2.2.2.2, ()), ())))))) (fun z => (z.1.1, z.1.2.2.2.1, z.1.2.2.2.2.1, z.1.2.2.2.2.2.2.1, z.2.1.1, z.2.2.1.1)) (fun z => (z.1.2.2.2.2.2.2.2.2.1, z.1.2.2.2.2.2.2.2.2.2.1)) (fun _ => rfl) (fun _ => rfl) (fun x r Q h => match r, h with | .inl _, h => h | .inr b0, h => (h)) ?_
  intro x v; kernel_rfl

def r43_Causal_L8_step (l : List Deed) (closed : Bool) (i : Int) (g : Deed) (k : Int) : Tree (Int ⊕ (Bool ⊕ Unit)) :=
  .ite (decide (k < (g.2.2.2.2.2.2.2.2.2.1.length : Int))) (
    ask (inb k g.2.2.2.2.2.2.2.2.2.1.length) <|
    .bnd (.loop (fun v => r43_Causal_L13_step l closed i k g (g.2.2.2.2.2.2.2.2.2.1.getD k.toNat (dfl tSib : Sib)) v.1 v.2) (false, 0)) fun r1 =>
    .sum r1 (fun r2 =>
      .ret (.inr (.inl r2))) (fun r3 =>
      .grd (!((!r3) || (g.2.2.2.2.2.2.2.2.2.1.getD k.toNat (dfl tSib : Sib)).2.2.1)) (r06_Has_T g.2.2.2.2.2.2.2.2.2.2.1 (g.2.2.2.2.2.2.2.2.2.1.getD k.toNat (dfl tSib : Sib)).1) false fun y4 =>
      .ite (((!r3) || (g.2.2.2.2.2.2.2.2.2.1.getD k.toNat (dfl tSib : Sib)).2.2.1) || (!y4)) (
        .ret (.inr (.inl false))) (
        .ret (.inl (w64 (k + 1)))))) (
    .ret (.inr (.inr ())))

def r43_Causal_L8 : Lp := ⟨8, [], [], (.cons (.val false (.list tDeed)) (ca2 (.cons (.val false .bool) (.cons (.val false (.int .i64)) (.cons (.ref 0 0) (.cons (.val false (.int .i64)) (ca (ca2 (ca16 (ca32 (ca32 (ca32 .nil)))))))))))), (.cells 39 (.cons (.flat tDeed) .nil) .nil), 0, .more 0 [] (ca2 (.cons (.val false .bool) (ca (ca2 (ca4 (ca16 (ca32 (ca32 (ca32 .nil))))))))) .nil (.one 3 [] (.cons (.val false (.list tDeed)) (ca2 (.cons (.val false .bool) (.cons (.val false (.int .i64)) (ca (ca4 (ca16 (ca32 (ca32 (ca32 .nil)))))))))) .nil), fun z => .bnd (.loop (fun v => r43_Causal_L8_step z.1.1 z.1.2.2.2.1 z.1.2.2.2.2.1 z.2.1.1 v) z.1.2.2.2.2.2.2.1) fun r => .sum r (fun a0 => .ret (.inl ((cu2 (a0, (cu (cu2 (cu4 (cu16 (cu32 (cu32 (cu32 ()))))))))), ()))) (fun b0 => .ret (.inr ((z.1.1, (cu2 (z.1.2.2.2.1, (z.1.2.2.2.2.1, (cu (cu4 (cu16 (cu32 (cu32 (cu32 ())))))))))), ())))⟩

theorem r43_Causal_L8_ok : r43_Causal_L8.ok Try.prog (nthC (loopsOf (nthC (loopsOf (bodyOf Try.f15)) 0)) 0) := by
  refine Lp.lift (π := ((List Deed) × Bool × Int × Deed)) (V := Int) (ρ := (Bool ⊕ Unit)) mix tabOk r43_Causal_L8 (o := orT [r43_Closed_g, r43_Good_g, r43_put_g, r43_Writes_g, r43_Meets_g, r06_Has_g] [r43_Causal_L13] noFz) (orT_sound ⟨r43_Closed_ok, ⟨r43_Good_ok, ⟨r43_put_ok, ⟨r43_Writes_ok, ⟨r43_Meets_ok, ⟨r06_Has_ok, trivial⟩⟩⟩⟩⟩⟩) (allLp_of [nthC (loopsOf (nthC (loopsOf (nthC (loopsOf (bodyOf Try.f15)) 0)) 0)) 0] (by kernel_rfl) ⟨r43_Causal_L13_ok, trivial⟩ (by kernel_rfl)) (fun x v => ((x.1, (cu2 (x.2.1, (x.2.2.1, ((), (v, (cu (cu2 (cu16 (cu32 (cu32 (cu32 ())))))))))))), ((x.2.2.2, ()), ()))) (fun x r => match r with | .inl a0 => .inl ((cu2 (a0, (cu (cu2 (cu4 (cu16 (cu32 (cu32 (cu32 ()))))))))), ()) | .inr b0 => (.inr ((x.1, (cu2 (x.2.1, (x.2.2.1, (cu (cu4 (cu16 (cu32 (cu32 (cu32 ())))))))))), ()))) (fun x v => r43_Causal_L8_step x.1 x.2.1 x.2.2.1 x.2.2.2 v) (fun x r => .sum r (fun a0 => .ret (.inl ((cu2 (a0, (cu (cu2 (cu4 (cu16 (cu32 (cu32 (cu32 ()))))))))), ()))) (fun b0 => .ret (.inr ((x.1, (cu2 (x.2.1, (x.2.2.1, (cu (cu4 (cu16 (cu32 (cu32 (cu32 ())))))))))), ())))) (fun z => (z.1.1, z.1.2.2.2.1, z.1.2.2.2.2.1, z.2.1.1)) (fun z => z.1.2.2.2.2.2.2.1) (fun _ => rfl) (fun _ => rfl) (fun x r Q h => match r, h with | .inl _, h => h | .inr b0, h => (h)) ?_
  intro x v; kernel_rfl

def r43_Causal_L3_step (l : List Deed) (closed : Bool) (i : Int) : Tree (Int ⊕ (Bool ⊕ Unit)) :=
  .ite (decide (i < (l.length : Int))) (
    ask (inb i l.length) <|
    .grd (!(!decide ((l.getD i.toNat (dfl tDeed : Deed)).2.2.2.2.2.2.1.1 = 1))) (r43_Good_T (l.getD i.toNat (dfl tDeed : Deed))) false fun y1 =>
    .ite ((!decide ((l.getD i.toNat (dfl tDeed : Deed)).2.2.2.2.2.2.1.1 = 1)) || (!y1)) (
      .ret (.inl (w64 (i + 1)))) (
      .bnd (.loop (fun v => r43_Causal_L8_step l closed i (l.getD i.toNat (dfl tDeed : Deed)) v) 0) fun r2 =>
      .sum r2 (fun r3 =>
        .ret (.inr (.inl r3))) (fun r4 =>
        .ret (.inl (w64 (i + 1)))))) (
    .ret (.inr (.inr ())))

def r43_Causal_L3 : Lp := ⟨3, [], [], (.cons (.val false (.list tDeed)) (ca2 (.cons (.val false .bool) (.cons (.val false (.int .i64)) (ca (ca4 (ca16 (ca32 (ca32 (ca32 .nil)))))))))), .nil, 0, .more 0 [] (ca2 (.cons (.val false .bool) (ca (ca2 (ca4 (ca16 (ca32 (ca32 (ca32 .nil))))))))) .nil (.one 1 [] (ca2 (ca8 (ca16 (ca32 (ca32 (ca32 .nil)))))) .nil), fun z => .bnd (.loop (fun v => r43_Causal_L3_step z.1.1 z.1.2.2.2.1 v) z.1.2.2.2.2.1) fun r => .sum r (fun a0 => .ret (.inl ((cu2 (a0, (cu (cu2 (cu4 (cu16 (cu32 (cu32 (cu32 ()))))))))), ()))) (fun b0 => .ret (.inr ((cu2 (cu8 (cu16 (cu32 (cu32 (cu32 ())))))), ())))⟩

theorem r43_Causal_L3_ok : r43_Causal_L3.ok Try.prog (nthC (loopsOf (bodyOf Try.f15)) 0) := by
  refine Lp.lift (π := ((List Deed) × Bool)) (V := Int) (ρ := (Bool ⊕ Unit)) mix tabOk r43_Causal_L3 (o := orT [r43_Closed_g, r43_Good_g, r43_put_g, r43_Writes_g, r43_Meets_g, r06_Has_g] [r43_Causal_L8] noFz) (orT_sound ⟨r43_Closed_ok, ⟨r43_Good_ok, ⟨r43_put_ok, ⟨r43_Writes_ok, ⟨r43_Meets_ok, ⟨r06_Has_ok, trivial⟩⟩⟩⟩⟩⟩) (allLp_of [nthC (loopsOf (nthC (loopsOf (bodyOf Try.f15)) 0)) 0] (by kernel_rfl) ⟨r43_Causal_L8_ok, trivial⟩ (by kernel_rfl)) (fun x v => ((x.1, (cu2 (x.2, (v, (cu (cu4 (cu16 (cu32 (cu32 (cu32 ())))))))))), ())) (fun x r => match r with | .inl a0 => .inl ((cu2 (a0, (cu (cu2 (cu4 (cu16 (cu32 (cu32 (cu32 ()))))))))), ()) | .inr b0 => (.inr ((cu2 (cu8 (cu16 (cu32 (cu32 (cu32 ())))))), ()))) (fun x v => r43_Causal_L3_step x.1 x.2 v) (fun x r => .sum r (fun a0 => .ret (.inl ((cu2 (a0, (cu (cu2 (cu4 (cu16 (cu32 (cu32 (cu32 ()))))))))), ()))) (fun b0 => .ret (.inr ((cu2 (cu8 (cu16 (cu32 (cu32 (cu32 ())))))), ())))) (fun z => (z.1.1, z.1.2.2.2.1)) (fun z => z.1.2.2.2.2.1) (fun _ => rfl) (fun _ => rfl) (fun x r Q h => match r, h with | .inl _, h => h | .inr b0, h => (h)) ?_
  intro x v; kernel_rfl

def r43_Causal_T (x0 : List Deed) : Tree Bool :=
  .bnd (r43_Closed_T x0) fun y1 =>
  .bnd (.loop (fun v => r43_Causal_L3_step x0 y1 v) 0) fun r2 =>
  .sum r2 (fun r3 =>
    .ret r3) (fun r4 =>
    .ret true)

def r43_Causal_g : Sig := ⟨15, (.cons (.val false (.list tDeed)) .nil), .vals (.val false .bool), fun z => r43_Causal_T z.1, false⟩

theorem r43_Causal_ok : r43_Causal_g.ok Try.prog := by
  refine Sig.lift mix tabOk nms _ Try.func15 (c := (bodyOf Try.f15)) (by kernel_rfl) (o := orT [r43_Closed_g, r43_Good_g, r43_put_g, r43_Writes_g, r43_Meets_g, r06_Has_g] [r43_Causal_L3] noFz) (orT_sound ⟨r43_Closed_ok, ⟨r43_Good_ok, ⟨r43_put_ok, ⟨r43_Writes_ok, ⟨r43_Meets_ok, ⟨r06_Has_ok, trivial⟩⟩⟩⟩⟩⟩) (allLp_of [nthC (loopsOf (bodyOf Try.f15)) 0] (by kernel_rfl) ⟨r43_Causal_L3_ok, trivial⟩ (by kernel_rfl)) ?_
  intro z; kernel_rfl

def r43_Covers_L7_step (l : List Deed) (i : Int) (g : Deed) (n : Int) : Tree (Int ⊕ (Bool ⊕ Unit)) :=
  .ite (decide (n < (l.length : Int))) (
    ask (inb n l.length) <|
    .bnd (r43_Writes_T (l.getD n.toNat (dfl tDeed : Deed))) fun y1 =>
    ask ((!y1) || inb n l.length) <|
    .grd y1 (r43_Good_T (l.getD n.toNat (dfl tDeed : Deed))) false fun y2 =>
    ask ((!(y1 && y2)) || inb n l.length) <|
    .grd (y1 && y2) (r43_Meets_T (l.getD n.toNat (dfl tDeed : Deed)) g) false fun y3 =>
    ask ((!((y1 && y2) && y3)) || inb n l.length) <|
    ask ((!(((y1 && y2) && y3) && (decide ((l.getD n.toNat (dfl tDeed : Deed)).2.2.2.2.1 < g.2.2.2.1)))) || inb n l.length) <|
    .grd (((y1 && y2) && y3) && (decide ((l.getD n.toNat (dfl tDeed : Deed)).2.2.2.2.1 < g.2.2.2.1))) (r06_Has_T g.2.2.2.2.2.2.2.2.2.2.1 (l.getD n.toNat (dfl tDeed : Deed)).2.2.2.2.2.2.2.2.2.2.2.2) false fun y4 =>
    .ite ((((y1 && y2) && y3) && (decide ((l.getD n.toNat (dfl tDeed : Deed)).2.2.2.2.1 < g.2.2.2.1))) && (!y4)) (
      .ret (.inr (.inl false))) (
      .ret (.inl (w64 (n + 1))))) (
    .ret (.inr (.inr ())))

def r43_Covers_L7 : Lp := ⟨7, [], [], (.cons (.val false (.list tDeed)) (ca2 (.cons (.val false (.int .i64)) (.cons (.ref 0 0) (.cons (.val false (.int .i64)) (ca16 (ca32 (ca32 .nil)))))))), (.cells 39 (.cons (.flat tDeed) .nil) .nil), 0, .more 0 [] (ca2 (.cons (.val false .bool) (ca (ca2 (ca16 (ca32 (ca32 .nil))))))) .nil (.one 3 [] (.cons (.val false (.list tDeed)) (ca2 (.cons (.val false (.int .i64)) (ca2 (ca16 (ca32 (ca32 .nil))))))) .nil), fun z => .bnd (.loop (fun v => r43_Covers_L7_step z.1.1 z.1.2.2.2.1 z.2.1.1 v) z.1.2.2.2.2.2.1) fun r => .sum r (fun a0 => .ret (.inl ((cu2 (a0, (cu (cu2 (cu16 (cu32 (cu32 ()))))))), ()))) (fun b0 => .ret (.inr ((z.1.1, (cu2 (z.1.2.2.2.1, (cu2 (cu16 (cu32 (cu32 ()))))))), ())))⟩

theorem r43_Covers_L7_ok : r43_Covers_L7.ok Try.prog (nthC (loopsOf (nthC (loopsOf (bodyOf Try.f17)) 0)) 0) := by
  refine Lp.lift (π := ((List Deed) × Int × Deed)) (V := Int) (ρ := (Bool ⊕ Unit)) mix tabOk r43_Covers_L7 (o := orT [r43_Writes_g, r43_Good_g, r43_Meets_g, r06_Has_g] [] noFz) (orT_sound ⟨r43_Writes_ok, ⟨r43_Good_ok, ⟨r43_Meets_ok, ⟨r06_Has_ok, trivial⟩⟩⟩⟩) (allLp_of [] (by kernel_rfl) trivial rfl) (fun x v => ((x.1, (cu2 (x.2.1, ((), (v, (cu16 (cu32 (cu32 ())))))))), ((x.2.2, ()), ()))) (fun x r => match r with | .inl a0 => .inl ((cu2 (a0, (cu (cu2 (cu16 (cu32 (cu32 ()))))))), ()) | .inr b0 => (.inr ((x.1, (cu2 (x.2.1, (cu2 (cu16 (cu32 (cu32 ()))))))), ()))) (fun x v => r43_Covers_L7_step x.1 x.2.1 x.2.2 v) (fun x r => .sum r (fun a0 => .ret (.inl ((cu2 (a0, (cu (cu2 (cu16 (cu32 (cu32 ()))))))), ()))) (fun b0 => .ret (.inr ((x.1, (cu2 (x.2.1, (cu2 (cu16 (cu32 (cu32 ()))))))), ())))) (fun z => (z.1.1, z.1.2.2.2.1, z.2.1.1)) (fun z => z.1.2.2.2.2.2.1) (fun _ => rfl) (fun _ => rfl) (fun x r Q h => match r, h with | .inl _, h => h | .inr b0, h => (h)) ?_
  intro x v; kernel_rfl

def r43_Covers_L2_step (l : List Deed) (i : Int) : Tree (Int ⊕ (Bool ⊕ Unit)) :=
  .ite (decide (i < (l.length : Int))) (
    ask (inb i l.length) <|
    .ite (((!decide ((l.getD i.toNat (dfl tDeed : Deed)).2.2.2.2.2.2.1.1 = 1)) || (!(l.getD i.toNat (dfl tDeed : Deed)).2.2.2.2.2.2.2.1)) || ((!decide ((l.getD i.toNat (dfl tDeed : Deed)).2.2.2.2.2.2.2.2.1 = 0)) && (!decide ((l.getD i.toNat (dfl tDeed : Deed)).2.2.2.2.2.2.2.2.1 = 5)))) (
      .ret (.inl (w64 (i + 1)))) (
      .bnd (.loop (fun v => r43_Covers_L7_step l i (l.getD i.toNat (dfl tDeed : Deed)) v) 0) fun r1 =>
      .sum r1 (fun r2 =>
        .ret (.inr (.inl r2))) (fun r3 =>
        .ret (.inl (w64 (i + 1)))))) (
    .ret (.inr (.inr ())))

def r43_Covers_L2 : Lp := ⟨2, [], [], (.cons (.val false (.list tDeed)) (ca2 (.cons (.val false (.int .i64)) (ca2 (ca16 (ca32 (ca32 .nil))))))), .nil, 0, .more 0 [] (ca2 (.cons (.val false .bool) (ca (ca2 (ca16 (ca32 (ca32 .nil))))))) .nil (.one 1 [] (ca2 (ca4 (ca16 (ca32 (ca32 .nil))))) .nil), fun z => .bnd (.loop (fun v => r43_Covers_L2_step z.1.1 v) z.1.2.2.2.1) fun r => .sum r (fun a0 => .ret (.inl ((cu2 (a0, (cu (cu2 (cu16 (cu32 (cu32 ()))))))), ()))) (fun b0 => .ret (.inr ((cu2 (cu4 (cu16 (cu32 (cu32 ()))))), ())))⟩

theorem r43_Covers_L2_ok : r43_Covers_L2.ok Try.prog (nthC (loopsOf (bodyOf Try.f17)) 0) := by
  refine Lp.lift (π := List Deed) (V := Int) (ρ := (Bool ⊕ Unit)) mix tabOk r43_Covers_L2 (o := orT [r43_Writes_g, r43_Good_g, r43_Meets_g, r06_Has_g] [r43_Covers_L7] noFz) (orT_sound ⟨r43_Writes_ok, ⟨r43_Good_ok, ⟨r43_Meets_ok, ⟨r06_Has_ok, trivial⟩⟩⟩⟩) (allLp_of [nthC (loopsOf (nthC (loopsOf (bodyOf Try.f17)) 0)) 0] (by kernel_rfl) ⟨r43_Covers_L7_ok, trivial⟩ (by kernel_rfl)) (fun x v => ((x, (cu2 (v, (cu2 (cu16 (cu32 (cu32 ()))))))), ())) (fun x r => match r with | .inl a0 => .inl ((cu2 (a0, (cu (cu2 (cu16 (cu32 (cu32 ()))))))), ()) | .inr b0 => (.inr ((cu2 (cu4 (cu16 (cu32 (cu32 ()))))), ()))) (fun x v => r43_Covers_L2_step x v) (fun x r => .sum r (fun a0 => .ret (.inl ((cu2 (a0, (cu (cu2 (cu16 (cu32 (cu32 ()))))))), ()))) (fun b0 => .ret (.inr ((cu2 (cu4 (cu16 (cu32 (cu32 ()))))), ())))) (fun z => z.1.1) (fun z => z.1.2.2.2.1) (fun _ => rfl) (fun _ => rfl) (fun x r Q h => match r, h with | .inl _, h => h | .inr b0, h => (h)) ?_
  intro x v; kernel_rfl

def r43_Covers_T (x0 : List Deed) : Tree Bool :=
  .bnd (.loop (fun v => r43_Covers_L2_step x0 v) 0) fun r1 =>
  .sum r1 (fun r2 =>
    .ret r2) (fun r3 =>
    .ret true)

def r43_Covers_g : Sig := ⟨17, (.cons (.val false (.list tDeed)) .nil), .vals (.val false .bool), fun z => r43_Covers_T z.1, false⟩

theorem r43_Covers_ok : r43_Covers_g.ok Try.prog := by
  refine Sig.lift mix tabOk nms _ Try.func17 (c := (bodyOf Try.f17)) (by kernel_rfl) (o := orT [r43_Writes_g, r43_Good_g, r43_Meets_g, r06_Has_g] [r43_Covers_L2] noFz) (orT_sound ⟨r43_Writes_ok, ⟨r43_Good_ok, ⟨r43_Meets_ok, ⟨r06_Has_ok, trivial⟩⟩⟩⟩) (allLp_of [nthC (loopsOf (bodyOf Try.f17)) 0] (by kernel_rfl) ⟨r43_Covers_L2_ok, trivial⟩ (by kernel_rfl)) ?_
  intro z; kernel_rfl

def r44_Unanswered_L3_step (l : List Deed) (n : Int) (i : Int) : Tree ((Int × Int) ⊕ Int) :=
  .ite (decide (i < (l.length : Int))) (
    ask (inb i l.length) <|
    .ite (!(l.getD i.toNat (dfl tDeed : Deed)).2.2.2.2.2.2.2.1) (
      .ret (.inl ((w64 (n + 1)), (w64 (i + 1))))) (
      .ret (.inl (n, (w64 (i + 1)))))) (
    .ret (.inr n))

def r44_Unanswered_L3 : Lp := ⟨3, [], [], (.cons (.val false (.list tDeed)) (ca2 (.cons (.val false (.int .i64)) (.cons (.val false (.int .i64)) (ca (ca2 (ca4 (ca8 .nil)))))))), .nil, 0, .one 1 [] (ca (ca2 (.cons (.val false (.int .i64)) (ca16 .nil)))) .nil, fun z => .bnd (.loop (fun v => r44_Unanswered_L3_step z.1.1 v.1 v.2) (z.1.2.2.2.1, z.1.2.2.2.2.1)) fun r => .ret ((cu (cu2 (r, (cu16 ())))), ())⟩

theorem r44_Unanswered_L3_ok : r44_Unanswered_L3.ok Try.prog (nthC (loopsOf (bodyOf Try.f21)) 0) := by
  refine Lp.lift (π := List Deed) (V := (Int × Int)) (ρ := Int) mix tabOk r44_Unanswered_L3 (o := orT [] [] noFz) (orT_sound trivial) (allLp_of [] (by kernel_rfl) trivial rfl) (fun x v => ((x, (cu2 (v.1, (v.2, (cu (cu2 (cu4 (cu8 ())))))))), ())) (fun x r => ((cu (cu2 (r, (cu16 ())))), ())) (fun x v => r44_Unanswered_L3_step x v.1 v.2) (fun x r => .ret ((cu (cu2 (r, (cu16 ())))), ())) (fun z => z.1.1) (fun z => (z.1.2.2.2.1, z.1.2.2.2.2.1)) (fun _ => rfl) (fun _ => rfl) (fun _ _ _ h => h) ?_
  intro x v; kernel_rfl

def r44_Unanswered_T (x0 : List Deed) : Tree Int :=
  .bnd (.loop (fun v => r44_Unanswered_L3_step x0 v.1 v.2) (0, 0)) fun r1 =>
  .ret r1

def r44_Unanswered_g : Sig := ⟨21, (.cons (.val false (.list tDeed)) .nil), .vals (.val false (.int .i64)), fun z => r44_Unanswered_T z.1, (0 : Int)⟩

theorem r44_Unanswered_ok : r44_Unanswered_g.ok Try.prog := by
  refine Sig.lift mix tabOk nms _ Try.func21 (c := (bodyOf Try.f21)) (by kernel_rfl) (o := orT [] [r44_Unanswered_L3] noFz) (orT_sound trivial) (allLp_of [nthC (loopsOf (bodyOf Try.f21)) 0] (by kernel_rfl) ⟨r44_Unanswered_L3_ok, trivial⟩ (by kernel_rfl)) ?_
  intro z; kernel_rfl

def l44_HistoryIs_L4_step (l : List Deed) (s_ : Sib) (i : Int) : Tree (Int ⊕ (Bool ⊕ Unit)) :=
  .ite (decide (i < (l.length : Int))) (
    ask (inb i l.length) <|
    .bnd (history_Put_T l (l.getD i.toNat (dfl tDeed : Deed)) s_) fun y1 =>
    ask (inb i l.length) <|
    .bnd (r44_Put_T l (l.getD i.toNat (dfl tDeed : Deed)) s_) fun y2 =>
    ask ((!(!(!(y1 == y2)))) || inb i l.length) <|
    ask ((!(!(!(y1 == y2)))) || inb i l.length) <|
    .grd (!(!(y1 == y2))) (r43_Place_T (l.getD i.toNat (dfl tDeed : Deed))) ([] : Str) fun y3 =>
    .grd (!(!(y1 == y2))) (history_Of_T l (l.getD i.toNat (dfl tDeed : Deed)).2.1 y3) ([] : List Deed) fun y4 =>
    ask ((!(!(!(y1 == y2)))) || inb i l.length) <|
    ask ((!(!(!(y1 == y2)))) || inb i l.length) <|
    .grd (!(!(y1 == y2))) (r43_Place_T (l.getD i.toNat (dfl tDeed : Deed))) ([] : Str) fun y5 =>
    .grd (!(!(y1 == y2))) (r44_Of_T l (l.getD i.toNat (dfl tDeed : Deed)).2.1 y5) ([] : List Deed) fun y6 =>
    .grd (!(!(y1 == y2))) (r43_Same_T y4 y6) false fun y7 =>
    .ite ((!(y1 == y2)) || (!y7)) (
      .ret (.inr (.inl false))) (
      .ret (.inl (w64 (i + 1))))) (
    .ret (.inr (.inr ())))

def l44_HistoryIs_L4 : Lp := ⟨4, [], [], (.cons (.val false (.list tDeed)) (ca2 (.cons (.ref 0 0) (ca (.cons (.val false (.int .i64)) (ca (ca2 (ca4 (ca8 (ca16 (ca32 (ca32 .nil)))))))))))), (.cells 26 (.cons (.flat tSib) .nil) .nil), 0, .more 0 [] (ca4 (.cons (.val false .bool) (ca32 (ca32 (ca32 .nil))))) .nil (.one 1 [] (.cons (.val false (.list tDeed)) (ca4 (ca32 (ca32 (ca32 .nil))))) .nil), fun z => .bnd (.loop (fun v => l44_HistoryIs_L4_step z.1.1 z.2.1.1 v) z.1.2.2.2.2.2.1) fun r => .sum r (fun a0 => .ret (.inl ((cu4 (a0, (cu32 (cu32 (cu32 ()))))), ()))) (fun b0 => .ret (.inr ((z.1.1, (cu4 (cu32 (cu32 (cu32 ()))))), ())))⟩

theorem l44_HistoryIs_L4_ok : l44_HistoryIs_L4.ok Try.prog (nthC (loopsOf (bodyOf Try.f3)) 0) := by
  refine Lp.lift (π := ((List Deed) × Sib)) (V := Int) (ρ := (Bool ⊕ Unit)) mix tabOk l44_HistoryIs_L4 (o := orT [r44_Few_g, l44_awake_g, history_Put_g, r44_Put_g, r43_Place_g, history_Of_g, r44_Of_gv, r43_Same_g, history_Causal_g, r43_Causal_g, history_Covers_g, r43_Covers_g, history_Closed_g, r43_Closed_g, history_Unanswered_g, r44_Unanswered_g] [] noFz) (orT_sound ⟨r44_Few_ok, ⟨l44_awake_ok, ⟨history_Put_ok, ⟨r44_Put_ok, ⟨r43_Place_ok, ⟨history_Of_ok, ⟨r44_Of_okv, ⟨r43_Same_ok, ⟨history_Causal_ok, ⟨r43_Causal_ok, ⟨history_Covers_ok, ⟨r43_Covers_ok, ⟨history_Closed_ok, ⟨r43_Closed_ok, ⟨history_Unanswered_ok, ⟨r44_Unanswered_ok, trivial⟩⟩⟩⟩⟩⟩⟩⟩⟩⟩⟩⟩⟩⟩⟩⟩) (allLp_of [] (by kernel_rfl) trivial rfl) (fun x v => ((x.1, (cu2 ((), (cu (v, (cu (cu2 (cu4 (cu8 (cu16 (cu32 (cu32 ())))))))))))), ((x.2, ()), ()))) (fun x r => match r with | .inl a0 => .inl ((cu4 (a0, (cu32 (cu32 (cu32 ()))))), ()) | .inr b0 => (.inr ((x.1, (cu4 (cu32 (cu32 (cu32 ()))))), ()))) (fun x v => l44_HistoryIs_L4_step x.1 x.2 v) (fun x r => .sum r (fun a0 => .ret (.inl ((cu4 (a0, (cu32 (cu32 (cu32 ()))))), ()))) (fun b0 => .ret (.inr ((x.1, (cu4 (cu32 (cu32 (cu32 ()))))), ())))) (fun z => (z.1.1, z.2.1.1)) (fun z => z.1.2.2.2.2.2.1) (fun _ => rfl) (fun _ => rfl) (fun x r Q h => match r, h with | .inl _, h => h | .inr b0, h => (h)) ?_
  intro x v; kernel_rfl

def l44_HistoryIs_T (x0 : List Deed) (x1 : Sib) : Tree Bool :=
  .bnd (r44_Few_T x0 14) fun y1 =>
  .ite (((!y1) || (decide ((300 : Int) < (x1.2.1.length : Int)))) || (decide ((100 : Int) < (x1.1.1.length : Int)))) (
    .bnd l44_awake_T fun y2 =>
    .ret y2) (
    .bnd (.loop (fun v => l44_HistoryIs_L4_step x0 x1 v) 0) fun r3 =>
    .sum r3 (fun r4 =>
      .ret r4) (fun r5 =>
      .bnd (history_Causal_T x0) fun y6 =>
      .bnd (r43_Causal_T x0) fun y7 =>
      .grd (y6 == y7) (history_Covers_T x0) false fun y8 =>
      .grd (y6 == y7) (r43_Covers_T x0) false fun y9 =>
      .grd ((y6 == y7) && (y8 == y9)) (history_Closed_T x0) false fun y10 =>
      .grd ((y6 == y7) && (y8 == y9)) (r43_Closed_T x0) false fun y11 =>
      .grd (((y6 == y7) && (y8 == y9)) && (y10 == y11)) (history_Unanswered_T x0) (0 : Int) fun y12 =>
      .grd (((y6 == y7) && (y8 == y9)) && (y10 == y11)) (r44_Unanswered_T x0) (0 : Int) fun y13 =>
      .grd ((((y6 == y7) && (y8 == y9)) && (y10 == y11)) && (decide (y12 = y13))) l44_awake_T false fun y14 =>
      .ret (((((y6 == y7) && (y8 == y9)) && (y10 == y11)) && (decide (y12 = y13))) && y14)))

def l44_HistoryIs_g : Sig := ⟨3, (.cons (.val false (.list tDeed)) (.cons (.val true tSib) .nil)), .vals (.val false .bool), fun z => l44_HistoryIs_T z.1 z.2.1, false⟩

theorem l44_HistoryIs_ok : l44_HistoryIs_g.ok Try.prog := by
  refine Sig.lift mix tabOk nms _ Try.func3 (c := (bodyOf Try.f3)) (by kernel_rfl) (o := orT [r44_Few_g, l44_awake_g, history_Put_g, r44_Put_g, r43_Place_g, history_Of_g, r44_Of_gv, r43_Same_g, history_Causal_g, r43_Causal_g, history_Covers_g, r43_Covers_g, history_Closed_g, r43_Closed_g, history_Unanswered_g, r44_Unanswered_g] [l44_HistoryIs_L4] noFz) (orT_sound ⟨r44_Few_ok, ⟨l44_awake_ok, ⟨history_Put_ok, ⟨r44_Put_ok, ⟨r43_Place_ok, ⟨history_Of_ok, ⟨r44_Of_okv, ⟨r43_Same_ok, ⟨history_Causal_ok, ⟨r43_Causal_ok, ⟨history_Covers_ok, ⟨r43_Covers_ok, ⟨history_Closed_ok, ⟨r43_Closed_ok, ⟨history_Unanswered_ok, ⟨r44_Unanswered_ok, trivial⟩⟩⟩⟩⟩⟩⟩⟩⟩⟩⟩⟩⟩⟩⟩⟩) (allLp_of [nthC (loopsOf (bodyOf Try.f3)) 0] (by kernel_rfl) ⟨l44_HistoryIs_L4_ok, trivial⟩ (by kernel_rfl)) ?_
  intro z; kernel_rfl

def l44_HistoryMore_fz : Nat → List Pre
  | 6 => [.frz 0]
  | _ => []

def l44_HistoryMore_T (x0 : List Deed) (x1 : Deed) : Tree Bool :=
  .bnd (r44_Few_T x0 14) fun y1 =>
  .grd (!(!y1)) (r44_Few_T [x1] 1) false fun y2 =>
  .ite ((!y1) || (!y2)) (
    .bnd l44_awake_T fun y3 =>
    .ret y3) (
    .both (
      .both (
        ask (decide (x0.length * 280 ≤ roomNat)) <|
        ask (decide ((x0 ++ [(x1.1, (x1.2.1, (x1.2.2.1, (x1.2.2.2.1, (x1.2.2.2.2.1, (x1.2.2.2.2.2.1, ((2, (x1.2.2.2.2.2.2.1.2.1, (x1.2.2.2.2.2.2.1.2.2.1, (x1.2.2.2.2.2.2.1.2.2.2.1, (x1.2.2.2.2.2.2.1.2.2.2.2.1, ([], x1.2.2.2.2.2.2.1.2.2.2.2.2.2)))))), (false, x1.2.2.2.2.2.2.2.2))))))))]).length * 280 ≤ roomNat)) <|
        .bnd (history_Covers_T (x0 ++ [(x1.1, (x1.2.1, (x1.2.2.1, (x1.2.2.2.1, (x1.2.2.2.2.1, (x1.2.2.2.2.2.1, ((2, (x1.2.2.2.2.2.2.1.2.1, (x1.2.2.2.2.2.2.1.2.2.1, (x1.2.2.2.2.2.2.1.2.2.2.1, (x1.2.2.2.2.2.2.1.2.2.2.2.1, ([], x1.2.2.2.2.2.2.1.2.2.2.2.2.2)))))), (false, x1.2.2.2.2.2.2.2.2))))))))])) fun y22 =>
        .bnd (history_Covers_T x0) fun y23 =>
        .grd (!(!(y22 == y23))) (history_Closed_T (x0 ++ [(x1.1, (x1.2.1, (x1.2.2.1, (x1.2.2.2.1, (x1.2.2.2.2.1, (x1.2.2.2.2.2.1, ((2, (x1.2.2.2.2.2.2.1.2.1, (x1.2.2.2.2.2.2.1.2.2.1, (x1.2.2.2.2.2.2.1.2.2.2.1, (x1.2.2.2.2.2.2.1.2.2.2.2.1, ([], x1.2.2.2.2.2.2.1.2.2.2.2.2.2)))))), (false, x1.2.2.2.2.2.2.2.2))))))))])) false fun y24 =>
        .grd (!(!(y22 == y23))) (history_Closed_T x0) false fun y25 =>
        .grd (!((!(y22 == y23)) || (!(y24 == y25)))) (history_Unanswered_T (x0 ++ [(x1.1, (x1.2.1, (x1.2.2.1, (x1.2.2.2.1, (x1.2.2.2.2.1, (x1.2.2.2.2.2.1, ((2, (x1.2.2.2.2.2.2.1.2.1, (x1.2.2.2.2.2.2.1.2.2.1, (x1.2.2.2.2.2.2.1.2.2.2.1, (x1.2.2.2.2.2.2.1.2.2.2.2.1, ([], x1.2.2.2.2.2.2.1.2.2.2.2.2.2)))))), (false, x1.2.2.2.2.2.2.2.2))))))))])) (0 : Int) fun y26 =>
        .grd (!((!(y22 == y23)) || (!(y24 == y25)))) (history_Unanswered_T x0) (0 : Int) fun y27 =>
        .ite (((!(y22 == y23)) || (!(y24 == y25))) || (!decide (y26 = (w64 (y27 + 1))))) (
          .ret false) (
          .bnd (history_Causal_T x0) fun y28 =>
          .grd (!(!y28)) (history_Causal_T (x0 ++ [(x1.1, (x1.2.1, (x1.2.2.1, (x1.2.2.2.1, (x1.2.2.2.2.1, (x1.2.2.2.2.2.1, ((2, (x1.2.2.2.2.2.2.1.2.1, (x1.2.2.2.2.2.2.1.2.2.1, (x1.2.2.2.2.2.2.1.2.2.2.1, (x1.2.2.2.2.2.2.1.2.2.2.2.1, ([], x1.2.2.2.2.2.2.1.2.2.2.2.2.2)))))), (false, x1.2.2.2.2.2.2.2.2))))))))])) false fun y29 =>
          .grd ((!y28) || y29) l44_awake_T false fun y30 =>
          .ret (((!y28) || y29) && y30))) (
        ask (decide (x0.length * 280 ≤ roomNat)) <|
        ask (decide ((x0 ++ [(x1.1, (x1.2.1, (x1.2.2.1, (x1.2.2.2.1, (x1.2.2.2.2.1, (x1.2.2.2.2.2.1, ((2, (x1.2.2.2.2.2.2.1.2.1, (x1.2.2.2.2.2.2.1.2.2.1, (x1.2.2.2.2.2.2.1.2.2.2.1, (x1.2.2.2.2.2.2.1.2.2.2.2.1, ([], x1.2.2.2.2.2.2.1.2.2.2.2.2.2)))))), (false, x1.2.2.2.2.2.2.2.2))))))))]).length * 280 ≤ roomNat)) <|
        .bnd (history_Covers_T (x0 ++ [(x1.1, (x1.2.1, (x1.2.2.1, (x1.2.2.2.1, (x1.2.2.2.2.1, (x1.2.2.2.2.2.1, ((2, (x1.2.2.2.2.2.2.1.2.1, (x1.2.2.2.2.2.2.1.2.2.1, (x1.2.2.2.2.2.2.1.2.2.2.1, (x1.2.2.2.2.2.2.1.2.2.2.2.1, ([], x1.2.2.2.2.2.2.1.2.2.2.2.2.2)))))), (false, x1.2.2.2.2.2.2.2.2))))))))])) fun y13 =>
        .bnd (history_Covers_T x0) fun y14 =>
        .grd (!(!(y13 == y14))) (history_Closed_T (x0 ++ [(x1.1, (x1.2.1, (x1.2.2.1, (x1.2.2.2.1, (x1.2.2.2.2.1, (x1.2.2.2.2.2.1, ((2, (x1.2.2.2.2.2.2.1.2.1, (x1.2.2.2.2.2.2.1.2.2.1, (x1.2.2.2.2.2.2.1.2.2.2.1, (x1.2.2.2.2.2.2.1.2.2.2.2.1, ([], x1.2.2.2.2.2.2.1.2.2.2.2.2.2)))))), (false, x1.2.2.2.2.2.2.2.2))))))))])) false fun y15 =>
        .grd (!(!(y13 == y14))) (history_Closed_T x0) false fun y16 =>
        .grd (!((!(y13 == y14)) || (!(y15 == y16)))) (history_Unanswered_T (x0 ++ [(x1.1, (x1.2.1, (x1.2.2.1, (x1.2.2.2.1, (x1.2.2.2.2.1, (x1.2.2.2.2.2.1, ((2, (x1.2.2.2.2.2.2.1.2.1, (x1.2.2.2.2.2.2.1.2.2.1, (x1.2.2.2.2.2.2.1.2.2.2.1, (x1.2.2.2.2.2.2.1.2.2.2.2.1, ([], x1.2.2.2.2.2.2.1.2.2.2.2.2.2)))))), (false, x1.2.2.2.2.2.2.2.2))))))))])) (0 : Int) fun y17 =>
        .grd (!((!(y13 == y14)) || (!(y15 == y16)))) (history_Unanswered_T x0) (0 : Int) fun y18 =>
        .ite (((!(y13 == y14)) || (!(y15 == y16))) || (!decide (y17 = (w64 (y18 + 1))))) (
          .ret false) (
          .bnd (history_Causal_T x0) fun y19 =>
          .grd (!(!y19)) (history_Causal_T (x0 ++ [(x1.1, (x1.2.1, (x1.2.2.1, (x1.2.2.2.1, (x1.2.2.2.2.1, (x1.2.2.2.2.2.1, ((2, (x1.2.2.2.2.2.2.1.2.1, (x1.2.2.2.2.2.2.1.2.2.1, (x1.2.2.2.2.2.2.1.2.2.2.1, (x1.2.2.2.2.2.2.1.2.2.2.2.1, ([], x1.2.2.2.2.2.2.1.2.2.2.2.2.2)))))), (false, x1.2.2.2.2.2.2.2.2))))))))])) false fun y20 =>
          .grd ((!y19) || y20) l44_awake_T false fun y21 =>
          .ret (((!y19) || y20) && y21)))) (
      ask (decide (x0.length * 280 ≤ roomNat)) <|
      ask (decide ((x0 ++ [(x1.1, (x1.2.1, (x1.2.2.1, (x1.2.2.2.1, (x1.2.2.2.2.1, (x1.2.2.2.2.2.1, ((2, (x1.2.2.2.2.2.2.1.2.1, (x1.2.2.2.2.2.2.1.2.2.1, (x1.2.2.2.2.2.2.1.2.2.2.1, (x1.2.2.2.2.2.2.1.2.2.2.2.1, ([], x1.2.2.2.2.2.2.1.2.2.2.2.2.2)))))), (false, x1.2.2.2.2.2.2.2.2))))))))]).length * 280 ≤ roomNat)) <|
      .bnd (history_Covers_T (x0 ++ [(x1.1, (x1.2.1, (x1.2.2.1, (x1.2.2.2.1, (x1.2.2.2.2.1, (x1.2.2.2.2.2.1, ((2, (x1.2.2.2.2.2.2.1.2.1, (x1.2.2.2.2.2.2.1.2.2.1, (x1.2.2.2.2.2.2.1.2.2.2.1, (x1.2.2.2.2.2.2.1.2.2.2.2.1, ([], x1.2.2.2.2.2.2.1.2.2.2.2.2.2)))))), (false, x1.2.2.2.2.2.2.2.2))))))))])) fun y4 =>
      .bnd (history_Covers_T x0) fun y5 =>
      .grd (!(!(y4 == y5))) (history_Closed_T (x0 ++ [(x1.1, (x1.2.1, (x1.2.2.1, (x1.2.2.2.1, (x1.2.2.2.2.1, (x1.2.2.2.2.2.1, ((2, (x1.2.2.2.2.2.2.1.2.1, (x1.2.2.2.2.2.2.1.2.2.1, (x1.2.2.2.2.2.2.1.2.2.2.1, (x1.2.2.2.2.2.2.1.2.2.2.2.1, ([], x1.2.2.2.2.2.2.1.2.2.2.2.2.2)))))), (false, x1.2.2.2.2.2.2.2.2))))))))])) false fun y6 =>
      .grd (!(!(y4 == y5))) (history_Closed_T x0) false fun y7 =>
      .grd (!((!(y4 == y5)) || (!(y6 == y7)))) (history_Unanswered_T (x0 ++ [(x1.1, (x1.2.1, (x1.2.2.1, (x1.2.2.2.1, (x1.2.2.2.2.1, (x1.2.2.2.2.2.1, ((2, (x1.2.2.2.2.2.2.1.2.1, (x1.2.2.2.2.2.2.1.2.2.1, (x1.2.2.2.2.2.2.1.2.2.2.1, (x1.2.2.2.2.2.2.1.2.2.2.2.1, ([], x1.2.2.2.2.2.2.1.2.2.2.2.2.2)))))), (false, x1.2.2.2.2.2.2.2.2))))))))])) (0 : Int) fun y8 =>
      .grd (!((!(y4 == y5)) || (!(y6 == y7)))) (history_Unanswered_T x0) (0 : Int) fun y9 =>
      .ite (((!(y4 == y5)) || (!(y6 == y7))) || (!decide (y8 = (w64 (y9 + 1))))) (
        .ret false) (
        .bnd (history_Causal_T x0) fun y10 =>
        .grd (!(!y10)) (history_Causal_T (x0 ++ [(x1.1, (x1.2.1, (x1.2.2.1, (x1.2.2.2.1, (x1.2.2.2.2.1, (x1.2.2.2.2.2.1, ((2, (x1.2.2.2.2.2.2.1.2.1, (x1.2.2.2.2.2.2.1.2.2.1, (x1.2.2.2.2.2.2.1.2.2.2.1, (x1.2.2.2.2.2.2.1.2.2.2.2.1, ([], x1.2.2.2.2.2.2.1.2.2.2.2.2.2)))))), (false, x1.2.2.2.2.2.2.2.2))))))))])) false fun y11 =>
        .grd ((!y10) || y11) l44_awake_T false fun y12 =>
        .ret (((!y10) || y11) && y12))))

def l44_HistoryMore_g : Sig := ⟨5, (.cons (.val false (.list tDeed)) (.cons (.val true tDeed) .nil)), .vals (.val false .bool), fun z => l44_HistoryMore_T z.1 z.2.1, false⟩

theorem l44_HistoryMore_ok : l44_HistoryMore_g.ok Try.prog := by
  refine Sig.lift mix tabOk nms _ Try.func5 (c := (bodyOf Try.f5)) (by kernel_rfl) (o := orT [r44_Few_g, l44_awake_g, history_Covers_g, history_Closed_g, history_Unanswered_g, history_Causal_g] [] l44_HistoryMore_fz) (orT_sound ⟨r44_Few_ok, ⟨l44_awake_ok, ⟨history_Covers_ok, ⟨history_Closed_ok, ⟨history_Unanswered_ok, ⟨history_Causal_ok, trivial⟩⟩⟩⟩⟩⟩) (allLp_of [] (by kernel_rfl) trivial rfl) ?_
  intro z; kernel_rfl

def l44_HistoryKeys_fz : Nat → List Pre
  | 17 => [.spl 9 2, .spl 10 2]
  | _ => []

def l44_HistoryKeys_L4_step (l : List Deed) (i : Int) : Tree (Int ⊕ (Bool ⊕ Unit)) :=
  .ite (decide (i < (l.length : Int))) (
    ask (inb i l.length) <|
    .ite ((((!((l.getD i.toNat (dfl tDeed : Deed)).2.1 == ([116] : Str))) && (!((l.getD i.toNat (dfl tDeed : Deed)).2.1 == ([117] : Str)))) || (!((l.getD i.toNat (dfl tDeed : Deed)).2.2.2.2.2.2.1.2.2.1 == ([98] : Str)))) || ((!((l.getD i.toNat (dfl tDeed : Deed)).2.2.2.2.2.2.1.2.2.2.1 == ([106] : Str))) && (!((l.getD i.toNat (dfl tDeed : Deed)).2.2.2.2.2.2.1.2.2.2.1 == ([107] : Str))))) (
      .bnd l44_awake_T fun y1 =>
      .ret (.inr (.inl y1))) (
      .ret (.inl (w64 (i + 1))))) (
    .ret (.inr (.inr ())))

def l44_HistoryKeys_L4 : Lp := ⟨4, [], [], (.cons (.val false (.list tDeed)) (ca2 (.cons (.val false (.int .i64)) (ca2 (ca8 (ca16 (ca32 (ca32 .nil)))))))), .nil, 0, .more 0 [] (ca2 (.cons (.val false .bool) (ca (ca2 (ca8 (ca16 (ca32 (ca32 .nil)))))))) .nil (.one 1 [] (.cons (.val false (.list tDeed)) (ca (ca4 (ca8 (ca16 (ca32 (ca32 .nil))))))) .nil), fun z => .bnd (.loop (fun v => l44_HistoryKeys_L4_step z.1.1 v) z.1.2.2.2.1) fun r => .sum r (fun a0 => .ret (.inl ((cu2 (a0, (cu (cu2 (cu8 (cu16 (cu32 (cu32 ())))))))), ()))) (fun b0 => .ret (.inr ((z.1.1, (cu (cu4 (cu8 (cu16 (cu32 (cu32 ()))))))), ())))⟩

theorem l44_HistoryKeys_L4_ok : l44_HistoryKeys_L4.ok Try.prog (nthC (loopsOf (bodyOf Try.f4)) 0) := by
  refine Lp.lift (π := List Deed) (V := Int) (ρ := (Bool ⊕ Unit)) mix tabOk l44_HistoryKeys_L4 (o := orT [r44_Few_g, l44_awake_g, history_Of_g, history_Covers_g, history_Closed_g] [] l44_HistoryKeys_fz) (orT_sound ⟨r44_Few_ok, ⟨l44_awake_ok, ⟨history_Of_ok, ⟨history_Covers_ok, ⟨history_Closed_ok, trivial⟩⟩⟩⟩⟩) (allLp_of [] (by kernel_rfl) trivial rfl) (fun x v => ((x, (cu2 (v, (cu2 (cu8 (cu16 (cu32 (cu32 ())))))))), ())) (fun x r => match r with | .inl a0 => .inl ((cu2 (a0, (cu (cu2 (cu8 (cu16 (cu32 (cu32 ())))))))), ()) | .inr b0 => (.inr ((x, (cu (cu4 (cu8 (cu16 (cu32 (cu32 ()))))))), ()))) (fun x v => l44_HistoryKeys_L4_step x v) (fun x r => .sum r (fun a0 => .ret (.inl ((cu2 (a0, (cu (cu2 (cu8 (cu16 (cu32 (cu32 ())))))))), ()))) (fun b0 => .ret (.inr ((x, (cu (cu4 (cu8 (cu16 (cu32 (cu32 ()))))))), ())))) (fun z => z.1.1) (fun z => z.1.2.2.2.1) (fun _ => rfl) (fun _ => rfl) (fun x r Q h => match r, h with | .inl _, h => h | .inr b0, h => (h)) ?_
  intro x v; kernel_rfl

def l44_HistoryKeys_L15_step (l : List Deed) (lanes : (Str × Str)) (places : (Str × Str)) (covers : Bool) (closed : Bool) (i : Int) (k : Int) : Tree ((Bool × Bool × Int × Int) ⊕ (Bool × Bool × Int)) :=
  .ite (decide (k < 2)) (
    .ite (decide (i = 0)) (
      .ite (decide (k = 0)) (
        ask (inb 0 2) <|
        ask (inb 0 2) <|
        .bnd (history_Of_T l lanes.1 places.1) fun y10 =>
        .grd covers (history_Covers_T y10) false fun y11 =>
        .grd closed (history_Closed_T y10) false fun y12 =>
        .ret (.inl ((covers && y11), (closed && y12), 0, (w64 ((0 : Int) + 1))))) (
        .ite (decide (k = 1)) (
          ask (inb 0 2) <|
          ask (inb 1 2) <|
          .bnd (history_Of_T l lanes.1 places.2) fun y7 =>
          .grd covers (history_Covers_T y7) false fun y8 =>
          .grd closed (history_Closed_T y7) false fun y9 =>
          .ret (.inl ((covers && y8), (closed && y9), 0, (w64 ((1 : Int) + 1))))) (
          .fail))) (
      .ite (decide (i = 1)) (
        .ite (decide (k = 0)) (
          ask (inb 1 2) <|
          ask (inb 0 2) <|
          .bnd (history_Of_T l lanes.2 places.1) fun y4 =>
          .grd covers (history_Covers_T y4) false fun y5 =>
          .grd closed (history_Closed_T y4) false fun y6 =>
          .ret (.inl ((covers && y5), (closed && y6), 1, (w64 ((0 : Int) + 1))))) (
          .ite (decide (k = 1)) (
            ask (inb 1 2) <|
            ask (inb 1 2) <|
            .bnd (history_Of_T l lanes.2 places.2) fun y1 =>
            .grd covers (history_Covers_T y1) false fun y2 =>
            .grd closed (history_Closed_T y1) false fun y3 =>
            .ret (.inl ((covers && y2), (closed && y3), 1, (w64 ((1 : Int) + 1))))) (
            .fail))) (
        .fail))) (
    .ret (.inr (covers, closed, i)))

def l44_HistoryKeys_L15 : Lp := ⟨15, [], [], (.cons (.val false (.list tDeed)) (ca4 (.cons (.val false .bool) (.cons (.val false .bool) (.cons (.ref 0 0) (.cons (.ref 1 0) (.cons (.val false (.int .i64)) (.cons (.val false (.int .i64)) (ca (ca2 (ca16 (ca32 (ca32 .nil))))))))))))), (.cells 46 (.cons (.flat (.pair .str .str)) .nil) (.cells 46 (.cons (.flat (.pair .str .str)) .nil) .nil)), 0, .one 5 [] (.cons (.val false (.list tDeed)) (ca4 (.cons (.val false .bool) (.cons (.val false .bool) (.cons (.ref 0 0) (.cons (.ref 1 0) (.cons (.val false (.int .i64)) (ca4 (ca16 (ca32 (ca32 .nil))))))))))) (.cells 46 (.cons (.flat (.pair .str .str)) .nil) (.cells 46 (.cons (.flat (.pair .str .str)) .nil) .nil)), fun z => .bnd (.loop (fun v => l44_HistoryKeys_L15_step z.1.1 z.2.1.1 z.2.2.1.1 v.1 v.2.1 v.2.2.1 v.2.2.2) (z.1.2.2.2.2.2.1, z.1.2.2.2.2.2.2.1, z.1.2.2.2.2.2.2.2.2.2.1, z.1.2.2.2.2.2.2.2.2.2.2.1)) fun r => .ret ((z.1.1, (cu4 (r.1, (r.2.1, ((), ((), (r.2.2, (cu4 (cu16 (cu32 (cu32 ()))))))))))), ((z.2.1.1, ()), ((z.2.2.1.1, ()), ())))⟩

theorem l44_HistoryKeys_L15_ok : l44_HistoryKeys_L15.ok Try.prog (nthC (loopsOf (nthC (loopsOf (bodyOf Try.f4)) 1)) 0) := by
  refine Lp.lift (π := ((List Deed) × (Str × Str) × (Str × Str))) (V := (Bool × Bool × Int × Int)) (ρ := (Bool × Bool × Int)) mix tabOk l44_HistoryKeys_L15 (o := orT [r44_Few_g, l44_awake_g, history_Of_g, history_Covers_g, history_Closed_g] [] l44_HistoryKeys_fz) (orT_sound ⟨r44_Few_ok, ⟨l44_awake_ok, ⟨history_Of_ok, ⟨history_Covers_ok, ⟨history_Closed_ok, trivial⟩⟩⟩⟩⟩) (allLp_of [] (by kernel_rfl) trivial rfl) (fun x v => ((x.1, (cu4 (v.1, (v.2.1, ((), ((), (v.2.2.1, (v.2.2.2, (cu (cu2 (cu16 (cu32 (cu32 ()))))))))))))), ((x.2.1, ()), ((x.2.2, ()), ())))) (fun x r => ((x.1, (cu4 (r.1, (r.2.1, ((), ((), (r.2.2, (cu4 (cu16 (cu32 (cu32 ()))))))))))), ((x.2.1, ()), ((x.2.2, ()), ())))) (fun x v => l44_HistoryKeys_L15_step x.1 x.2.1 x.2.2 v.1 v.2.1 v.2.2.1 v.2.2.2) (fun x r => .ret ((x.1, (cu4 (r.1, (r.2.1, ((), ((), (r.2.2, (cu4 (cu16 (cu32 (cu32 ()))))))))))), ((x.2.1, ()), ((x.2.2, ()), ())))) (fun z => (z.1.1, z.2.1.1, z.2.2.1.1)) (fun z => (z.1.2.2.2.2.2.1, z.1.2.2.2.2.2.2.1, z.1.2.2.2.2.2.2.2.2.2.1, z.1.2.2.2.2.2.2.2.2.2.2.1)) (fun _ => rfl) (fun _ => rfl) (fun _ _ _ h => h) ?_
  intro x v; kernel_rfl

def l44_HistoryKeys_L12_step (l : List Deed) (lanes : (Str × Str)) (places : (Str × Str)) (covers : Bool) (closed : Bool) (i : Int) : Tree ((Bool × Bool × Int) ⊕ (Bool × Bool)) :=
  .ite (decide (i < 2)) (
    .bnd (.loop (fun v => l44_HistoryKeys_L15_step l lanes places v.1 v.2.1 v.2.2.1 v.2.2.2) (covers, closed, i, 0)) fun r1 =>
    .ret (.inl (r1.1, r1.2.1, (w64 (r1.2.2 + 1))))) (
    .ret (.inr (covers, closed)))

def l44_HistoryKeys_L12 : Lp := ⟨12, [], [], (.cons (.val false (.list tDeed)) (ca4 (.cons (.val false .bool) (.cons (.val false .bool) (.cons (.ref 0 0) (.cons (.ref 1 0) (.cons (.val false (.int .i64)) (ca4 (ca16 (ca32 (ca32 .nil))))))))))), (.cells 46 (.cons (.flat (.pair .str .str)) .nil) (.cells 46 (.cons (.flat (.pair .str .str)) .nil) .nil)), 0, .one 3 [] (.cons (.val false (.list tDeed)) (ca4 (.cons (.val false .bool) (.cons (.val false .bool) (ca (ca2 (ca4 (ca16 (ca32 (ca32 .nil)))))))))) .nil, fun z => .bnd (.loop (fun v => l44_HistoryKeys_L12_step z.1.1 z.2.1.1 z.2.2.1.1 v.1 v.2.1 v.2.2) (z.1.2.2.2.2.2.1, z.1.2.2.2.2.2.2.1, z.1.2.2.2.2.2.2.2.2.2.1)) fun r => .ret ((z.1.1, (cu4 (r.1, (r.2, (cu (cu2 (cu4 (cu16 (cu32 (cu32 ())))))))))), ())⟩

theorem l44_HistoryKeys_L12_ok : l44_HistoryKeys_L12.ok Try.prog (nthC (loopsOf (bodyOf Try.f4)) 1) := by
  refine Lp.lift (π := ((List Deed) × (Str × Str) × (Str × Str))) (V := (Bool × Bool × Int)) (ρ := (Bool × Bool)) mix tabOk l44_HistoryKeys_L12 (o := orT [r44_Few_g, l44_awake_g, history_Of_g, history_Covers_g, history_Closed_g] [l44_HistoryKeys_L15] l44_HistoryKeys_fz) (orT_sound ⟨r44_Few_ok, ⟨l44_awake_ok, ⟨history_Of_ok, ⟨history_Covers_ok, ⟨history_Closed_ok, trivial⟩⟩⟩⟩⟩) (allLp_of [nthC (loopsOf (nthC (loopsOf (bodyOf Try.f4)) 1)) 0] (by kernel_rfl) ⟨l44_HistoryKeys_L15_ok, trivial⟩ (by kernel_rfl)) (fun x v => ((x.1, (cu4 (v.1, (v.2.1, ((), ((), (v.2.2, (cu4 (cu16 (cu32 (cu32 ()))))))))))), ((x.2.1, ()), ((x.2.2, ()), ())))) (fun x r => ((x.1, (cu4 (r.1, (r.2, (cu (cu2 (cu4 (cu16 (cu32 (cu32 ())))))))))), ())) (fun x v => l44_HistoryKeys_L12_step x.1 x.2.1 x.2.2 v.1 v.2.1 v.2.2) (fun x r => .ret ((x.1, (cu4 (r.1, (r.2, (cu (cu2 (cu4 (cu16 (cu32 (cu32 ())))))))))), ())) (fun z => (z.1.1, z.2.1.1, z.2.2.1.1)) (fun z => (z.1.2.2.2.2.2.1, z.1.2.2.2.2.2.2.1, z.1.2.2.2.2.2.2.2.2.2.1)) (fun _ => rfl) (fun _ => rfl) (fun _ _ _ h => h) ?_
  intro x v; kernel_rfl

def l44_HistoryKeys_T (x0 : List Deed) : Tree Bool :=
  .bnd (r44_Few_T x0 14) fun y1 =>
  .ite (!y1) (
    .bnd l44_awake_T fun y2 =>
    .ret y2) (
    .bnd (.loop (fun v => l44_HistoryKeys_L4_step x0 v) 0) fun r3 =>
    .sum r3 (fun r4 =>
      .ret r4) (fun r5 =>
      .bnd (.loop (fun v => l44_HistoryKeys_L12_step x0 (([116] : Str), ([117] : Str)) (([98, 47, 106] : Str), ([98, 47, 107] : Str)) v.1 v.2.1 v.2.2) (true, true, 0)) fun r6 =>
      .bnd (history_Covers_T x0) fun y7 =>
      .grd (y7 == r6.1) (history_Closed_T x0) false fun y8 =>
      .grd ((y7 == r6.1) && (y8 == r6.2)) l44_awake_T false fun y9 =>
      .ret (((y7 == r6.1) && (y8 == r6.2)) && y9)))

def l44_HistoryKeys_g : Sig := ⟨4, (.cons (.val false (.list tDeed)) .nil), .vals (.val false .bool), fun z => l44_HistoryKeys_T z.1, false⟩

theorem l44_HistoryKeys_ok : l44_HistoryKeys_g.ok Try.prog := by
  refine Sig.lift mix tabOk nms _ Try.func4 (c := (bodyOf Try.f4)) (by kernel_rfl) (o := orT [r44_Few_g, l44_awake_g, history_Of_g, history_Covers_g, history_Closed_g] [l44_HistoryKeys_L4, l44_HistoryKeys_L12] l44_HistoryKeys_fz) (orT_sound ⟨r44_Few_ok, ⟨l44_awake_ok, ⟨history_Of_ok, ⟨history_Covers_ok, ⟨history_Closed_ok, trivial⟩⟩⟩⟩⟩) (allLp_of [nthC (loopsOf (bodyOf Try.f4)) 0, nthC (loopsOf (bodyOf Try.f4)) 1] (by kernel_rfl) ⟨l44_HistoryKeys_L4_ok, ⟨l44_HistoryKeys_L12_ok, trivial⟩⟩ (by kernel_rfl)) ?_
  intro z; kernel_rfl

end Go.Eng
