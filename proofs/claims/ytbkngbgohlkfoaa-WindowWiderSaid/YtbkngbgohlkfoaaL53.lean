/- Lifted: 35 functions, part 1. -/
import Derived.Test.YtbkngbgohlkfoaaTrG
import Derived.Test.YtbkngbgohlkfoaaTrF
import Derived.Test.YtbkngbgohlkfoaaEngT
import Derived.Test.YtbkngbgohlkfoaaShf
import Derived.Test.YtbkngbgohlkfoaaTrS
namespace Go.Eng
open Go Go.Proofs
set_option maxRecDepth 100000
abbrev Bucket : Type := (Int × Int)
abbrev tBucket : Ty := (.pair (.int .i64) (.int .i64))

abbrev Seen : Type := (Str × (Int × List Int))
abbrev tSeen : Ty := (.pair .str (.pair (.int .i64) (.list (.int .i64))))

abbrev Call : Type := (Int × (Str × (Str × (Str × (Str × (List Seen × Int))))))
abbrev tCall : Ty := (.pair (.int .i64) (.pair .str (.pair .str (.pair .str (.pair .str (.pair (.list tSeen) (.int .i64)))))))

abbrev Dot : Type := (Str × Int)
abbrev tDot : Ty := (.pair .str (.int .i64))

abbrev Sib : Type := (Dot × (Str × (Bool × Int)))
abbrev tSib : Ty := (.pair tDot (.pair .str (.pair .bool (.int .i64))))

abbrev Answer : Type := (Int × (List Sib × (List Seen × (List Str × Dot))))
abbrev tAnswer : Ty := (.pair (.int .i64) (.pair (.list tSib) (.pair (.list tSeen) (.pair (.list .str) tDot))))

abbrev Deed : Type := (Str × (Str × (Int × (Int × (Int × (Int × (Call × (Bool × Answer))))))))
abbrev tDeed : Ty := (.pair .str (.pair .str (.pair (.int .i64) (.pair (.int .i64) (.pair (.int .i64) (.pair (.int .i64) (.pair tCall (.pair .bool tAnswer))))))))

def slices_Clone_int_T (x0 : List Int) : Tree (List Int) :=
  .ite (Nat.beq x0.length 0) (
    .both (
      .ret []) (
      ask (decide (x0.length * 8 ≤ roomNat)) <|
      .ret x0)) (
    ask (decide (x0.length * 8 ≤ roomNat)) <|
    .ret x0)

def slices_Clone_int_g : Sig := ⟨31, (.cons (.val false (.list (.int .i64))) .nil), .fresh 3 (.int .i64), fun z => slices_Clone_int_T z.1, ([] : List Int)⟩

theorem slices_Clone_int_ok : slices_Clone_int_g.ok Try.prog := by
  refine Sig.lift mix tabOk nms _ Try.func31 (c := (bodyOf Try.f31)) (by kernel_rfl) (o := orT [] [] noFz) (orT_sound trivial) (allLp_of [] (by kernel_rfl) trivial rfl) ?_
  intro z; kernel_rfl

def slices_Clone_int_gv : Sig := ⟨31, (.cons (.val false (.list (.int .i64))) .nil), .vals (.val false (.list (.int .i64))), fun z => slices_Clone_int_T z.1, ([] : List Int)⟩

theorem slices_Clone_int_okv : slices_Clone_int_gv.ok Try.prog := fun x y h => acalls_val (slices_Clone_int_ok x y h)

def slices_Sort_int_T (x0 : List Int) : Tree (Unit × (List Int × Unit)) :=
  ask (decide (x0.length < 4611686018427387904)) <|
  .ret ((), (sortI x0, ()))

def slices_Sort_int_g : MSig := ⟨32, (.cons (.own 0) .nil), (.rows 3 (.int .i64) .nil), [], .nil, (.rows 3 (.int .i64) .nil), none, fun z => slices_Sort_int_T z.2.1⟩

theorem slices_Sort_int_ok : slices_Sort_int_g.ok Try.prog := by
  refine sort_scalls (P := Try.prog) (f := 32) (t := (.int .i64)) (e := 3) rfl (Value.int .i64) sortI (fun l => (isortB_perm _ l).length_eq) (fun l x h => (isortB_perm _ l).mem_iff.1 h) (by intro w S v x h; cases h; rfl) (fun x => rfl) (fun b cap zs w h1 h2 h3 => ?_) (fun p cap w => Try.slices_Sort_int_none p cap w) (fun args w => enters_of Try.func32 (by kernel_rfl) rfl args w)
  rw [← mergeI]; exact Try.slices_Sort_int b 0 cap zs w h1 h2 h3

def window_sorted_T (x0 : List Int) : Tree (List Int) :=
  .bnd (slices_Clone_int_T x0) fun y1 =>
  .bnd (slices_Sort_int_T y1) fun y2 =>
  .ret y2.2.1

def window_sorted_g : Sig := ⟨23, (.cons (.val false (.list (.int .i64))) .nil), .fresh 3 (.int .i64), fun z => window_sorted_T z.1, ([] : List Int)⟩

theorem window_sorted_ok : window_sorted_g.ok Try.prog := by
  refine Sig.lift mix tabOk nms _ Try.func23 (c := (bodyOf Try.f23)) (by kernel_rfl) (o := orM [slices_Clone_int_g] [slices_Sort_int_g] [] noFz) (orM_sound ⟨slices_Clone_int_ok, trivial⟩ ⟨slices_Sort_int_ok, trivial⟩) (allLp_ofM [] (by kernel_rfl) trivial rfl) ?_
  intro z; kernel_rfl

def window_sorted_gv : Sig := ⟨23, (.cons (.val false (.list (.int .i64))) .nil), .vals (.val false (.list (.int .i64))), fun z => window_sorted_T z.1, ([] : List Int)⟩

theorem window_sorted_okv : window_sorted_gv.ok Try.prog := fun x y h => acalls_val (window_sorted_ok x y h)

def window_Worst_1_T (x0 : Int) (x1 : Int) (x2 : Int) (x3 : Int) : Tree (Unit × ((Int × Unit) × ((Int × Unit) × Unit))) :=
  .ite (decide (x2 < x1)) (
    .ret ((), ((x1, ()), ((x0, ()), ())))) (
    .ret ((), ((x2, ()), ((x3, ()), ()))))

def window_Worst_1_g : MSig := ⟨20, (.cons (.val false (.int .i64)) (.cons (.val false (.int .i64)) (.cons (.ref 0 0) (.cons (.ref 1 0) .nil)))), (.cells 3 (.cons (.val false (.int .i64)) .nil) (.cells 3 (.cons (.val false (.int .i64)) .nil) .nil)), [], .nil, (.cells 3 (.cons (.val false (.int .i64)) .nil) (.cells 3 (.cons (.val false (.int .i64)) .nil) .nil)), none, fun z => window_Worst_1_T z.1.1 z.1.2.1 z.2.1.1 z.2.2.1.1⟩

theorem window_Worst_1_ok : window_Worst_1_g.ok Try.prog := by
  refine MSig.lift mix tabOk nms _ Try.func20 (c := (bodyOf Try.f20)) (by kernel_rfl) (o := orT [] [] noFz) (orT_sound trivial) (allLp_of [] (by kernel_rfl) trivial rfl) (fun _ => rfl) ?_
  intro z; kernel_rfl

def window_push_window_Worst_1_L6_step (far : Int) (k : Int) (from_ : Int) (t : Int) (t2 : Int) (c : Int) (c2 : Int) (l : List Int) (end_ : Int) : Tree (Int ⊕ Int) :=
  ask ((!(decide (end_ < (l.length : Int)))) || inb end_ l.length) <|
  .ite ((decide (end_ < (l.length : Int))) && (decide ((IntKind.wrap .u64 ((IntKind.wrap .u64 ((l.getD end_.toNat (0 : Int)))) - (IntKind.wrap .u64 (from_)))) ≤ far))) (
    .ret (.inl (w64 (end_ + 1)))) (
    .ret (.inr end_))

def window_push_window_Worst_1_L6 : Lp := ⟨6, [], [], (ca2 (.cons (.fn 20 .nil (.cons (.ref 0 0) (.cons (.ref 1 0) .nil))) (ca (ca2 (.cons (.own 2) (.cons (.val false (.int .u64)) (.cons (.val false (.int .i64)) (.cons (.val false (.int .i64)) (.cons (.val false (.int .i64)) (ca (ca4 (.cons (.own 2) (.cons (.val false (.int .i64)) (.cons (.val false (.int .i64)) (ca (ca4 (ca8 (ca16 .nil)))))))))))))))))), (.cells 3 (.cons (.val false (.int .i64)) .nil) (.cells 3 (.cons (.val false (.int .i64)) .nil) (.rows 3 (.int .i64) .nil))), 2, .one 3 [] (ca2 (.cons (.fn 20 .nil (.cons (.ref 0 0) (.cons (.ref 1 0) .nil))) (ca (ca2 (.cons (.own 2) (.cons (.val false (.int .u64)) (.cons (.val false (.int .i64)) (.cons (.val false (.int .i64)) (.cons (.val false (.int .i64)) (ca (ca4 (.cons (.own 2) (.cons (.val false (.int .i64)) (.cons (.val false (.int .i64)) (ca (ca4 (ca8 (ca16 .nil)))))))))))))))))) (.cells 3 (.cons (.val false (.int .i64)) .nil) (.cells 3 (.cons (.val false (.int .i64)) .nil) (.rows 3 (.int .i64) .nil))), fun z => .bnd (.loop (fun v => window_push_window_Worst_1_L6_step z.1.2.2.2.2.2.2.2.1 z.1.2.2.2.2.2.2.2.2.2.1 z.1.2.2.2.2.2.2.2.2.2.2.1 z.1.2.2.2.2.2.2.2.2.2.2.2.2.2.2.2.2.2.1 z.1.2.2.2.2.2.2.2.2.2.2.2.2.2.2.2.2.2.2.1 z.2.1.1 z.2.2.1.1 z.2.2.2.1 v) z.1.2.2.2.2.2.2.2.2.1) fun r => .ret ((cu2 (((), ((), ((), ()))), (cu (cu2 ((), (z.1.2.2.2.2.2.2.2.1, (r, (z.1.2.2.2.2.2.2.2.2.2.1, (z.1.2.2.2.2.2.2.2.2.2.2.1, (cu (cu4 ((), (z.1.2.2.2.2.2.2.2.2.2.2.2.2.2.2.2.2.2.1, (z.1.2.2.2.2.2.2.2.2.2.2.2.2.2.2.2.2.2.2.1, (cu (cu4 (cu8 (cu16 ())))))))))))))))))), ((z.2.1.1, ()), ((z.2.2.1.1, ()), (z.2.2.2.1, ()))))⟩

theorem window_push_window_Worst_1_L6_ok : window_push_window_Worst_1_L6.ok Try.prog (nthC (loopsOf (nthC (loopsOf (bodyOf Try.f19)) 0)) 0) := by
  refine Lp.lift (π := (Int × Int × Int × Int × Int × Int × Int × (List Int))) (V := Int) (ρ := Int) mix tabOk window_push_window_Worst_1_L6 (o := orM [window_sorted_g] [window_Worst_1_g] [] noFz) (orM_sound ⟨window_sorted_ok, trivial⟩ ⟨window_Worst_1_ok, trivial⟩) (allLp_ofM [] (by kernel_rfl) trivial rfl) (fun x v => ((cu2 (((), ((), ((), ()))), (cu (cu2 ((), (x.1, (v, (x.2.1, (x.2.2.1, (cu (cu4 ((), (x.2.2.2.1, (x.2.2.2.2.1, (cu (cu4 (cu8 (cu16 ())))))))))))))))))), ((x.2.2.2.2.2.1, ()), ((x.2.2.2.2.2.2.1, ()), (x.2.2.2.2.2.2.2, ()))))) (fun x r => ((cu2 (((), ((), ((), ()))), (cu (cu2 ((), (x.1, (r, (x.2.1, (x.2.2.1, (cu (cu4 ((), (x.2.2.2.1, (x.2.2.2.2.1, (cu (cu4 (cu8 (cu16 ())))))))))))))))))), ((x.2.2.2.2.2.1, ()), ((x.2.2.2.2.2.2.1, ()), (x.2.2.2.2.2.2.2, ()))))) (fun x v => window_push_window_Worst_1_L6_step x.1 x.2.1 x.2.2.1 x.2.2.2.1 x.2.2.2.2.1 x.2.2.2.2.2.1 x.2.2.2.2.2.2.1 x.2.2.2.2.2.2.2 v) (fun x r => .ret ((cu2 (((), ((), ((), ()))), (cu (cu2 ((), (x.1, (r, (x.2.1, (x.2.2.1, (cu (cu4 ((), (x.2.2.2.1, (x.2.2.2.2.1, (cu (cu4 (cu8 (cu16 ())))))))))))))))))), ((x.2.2.2.2.2.1, ()), ((x.2.2.2.2.2.2.1, ()), (x.2.2.2.2.2.2.2, ()))))) (fun z => (z.1.2.2.2.2.2.2.2.1, z.1.2.2.2.2.2.2.2.2.2.1, z.1.2.2.2.2.2.2.2.2.2.2.1, z.1.2.2.2.2.2.2.2.2.2.2.2.2.2.2.2.2.2.1, z.1.2.2.2.2.2.2.2.2.2.2.2.2.2.2.2.2.2.2.1, z.2.1.1, z.2.2.1.1, z.2.2.2.1)) (fun z => z.1.2.2.2.2.2.2.2.2.1) (fun _ => rfl) (fun _ => rfl) (fun _ _ _ h => h) ?_
  intro x v; kernel_rfl

def window_push_window_Worst_1_L4_step (far : Int) (t : Int) (l : List Int) (end_ : Int) (t2 : Int) (c : Int) (c2 : Int) : Tree ((Int × Int × Int × Int) ⊕ (Int × Int)) :=
  .ite (decide (t2 < t)) (
    ask (inb t2 l.length) <|
    .bnd (.loop (fun v => window_push_window_Worst_1_L6_step far t2 (l.getD t2.toNat (0 : Int)) t t2 c c2 l v) end_) fun r1 =>
    .bnd (window_Worst_1_T (l.getD t2.toNat (0 : Int)) (w64 (r1 - t2)) c c2) fun y2 =>
    .ret (.inl (r1, (w64 (t2 + 1)), y2.2.1.1, y2.2.2.1.1))) (
    .ret (.inr (c, c2)))

def window_push_window_Worst_1_L4 : Lp := ⟨4, [], [], (ca2 (.cons (.fn 20 .nil (.cons (.ref 0 0) (.cons (.ref 1 0) .nil))) (ca (ca2 (.cons (.own 2) (.cons (.val false (.int .u64)) (.cons (.val false (.int .i64)) (ca (ca2 (ca4 (.cons (.own 2) (.cons (.val false (.int .i64)) (.cons (.val false (.int .i64)) (ca (ca4 (ca8 (ca16 .nil))))))))))))))))), (.cells 3 (.cons (.val false (.int .i64)) .nil) (.cells 3 (.cons (.val false (.int .i64)) .nil) (.rows 3 (.int .i64) .nil))), 2, .one 1 [] (ca16 (ca32 .nil)) (.cells 3 (.cons (.val false (.int .i64)) .nil) (.cells 3 (.cons (.val false (.int .i64)) .nil) .nil)), fun z => .bnd (.loop (fun v => window_push_window_Worst_1_L4_step z.1.2.2.2.2.2.2.2.1 z.1.2.2.2.2.2.2.2.2.2.2.2.2.2.2.2.2.2.1 z.2.2.2.1 v.1 v.2.1 v.2.2.1 v.2.2.2) (z.1.2.2.2.2.2.2.2.2.1, z.1.2.2.2.2.2.2.2.2.2.2.2.2.2.2.2.2.2.2.1, z.2.1.1, z.2.2.1.1)) fun r => .ret ((cu16 (cu32 ())), ((r.1, ()), ((r.2, ()), ())))⟩

theorem window_push_window_Worst_1_L4_ok : window_push_window_Worst_1_L4.ok Try.prog (nthC (loopsOf (bodyOf Try.f19)) 0) := by
  refine Lp.lift (π := (Int × Int × (List Int))) (V := (Int × Int × Int × Int)) (ρ := (Int × Int)) mix tabOk window_push_window_Worst_1_L4 (o := orM [window_sorted_g] [window_Worst_1_g] [window_push_window_Worst_1_L6] noFz) (orM_sound ⟨window_sorted_ok, trivial⟩ ⟨window_Worst_1_ok, trivial⟩) (allLp_ofM [nthC (loopsOf (nthC (loopsOf (bodyOf Try.f19)) 0)) 0] (by kernel_rfl) ⟨window_push_window_Worst_1_L6_ok, trivial⟩ (by kernel_rfl)) (fun x v => ((cu2 (((), ((), ((), ()))), (cu (cu2 ((), (x.1, (v.1, (cu (cu2 (cu4 ((), (x.2.1, (v.2.1, (cu (cu4 (cu8 (cu16 ()))))))))))))))))), ((v.2.2.1, ()), ((v.2.2.2, ()), (x.2.2, ()))))) (fun x r => ((cu16 (cu32 ())), ((r.1, ()), ((r.2, ()), ())))) (fun x v => window_push_window_Worst_1_L4_step x.1 x.2.1 x.2.2 v.1 v.2.1 v.2.2.1 v.2.2.2) (fun x r => .ret ((cu16 (cu32 ())), ((r.1, ()), ((r.2, ()), ())))) (fun z => (z.1.2.2.2.2.2.2.2.1, z.1.2.2.2.2.2.2.2.2.2.2.2.2.2.2.2.2.2.1, z.2.2.2.1)) (fun z => (z.1.2.2.2.2.2.2.2.2.1, z.1.2.2.2.2.2.2.2.2.2.2.2.2.2.2.2.2.2.2.1, z.2.1.1, z.2.2.1.1)) (fun _ => rfl) (fun _ => rfl) (fun _ _ _ h => h) ?_
  intro x v; kernel_rfl

def window_push_window_Worst_1_T (x0 : List Int) (x1 : Int) (x2 : Int) (x3 : Int) : Tree (Unit × ((Int × Unit) × ((Int × Unit) × Unit))) :=
  .bnd (window_sorted_T x0) fun y1 =>
  .bnd (.loop (fun v => window_push_window_Worst_1_L4_step (IntKind.wrap .u64 ((std.imax x1 0))) (y1.length : Int) y1 v.1 v.2.1 v.2.2.1 v.2.2.2) (0, 0, x2, x3)) fun r2 =>
  .ret ((), ((r2.1, ()), ((r2.2, ()), ())))

def window_push_window_Worst_1_g : MSig := ⟨19, (.cons (.val false (.list (.int .i64))) (.cons (.val false (.int .i64)) (.cons (.fn 20 .nil (.cons (.ref 0 0) (.cons (.ref 1 0) .nil))) .nil))), (.cells 3 (.cons (.val false (.int .i64)) .nil) (.cells 3 (.cons (.val false (.int .i64)) .nil) .nil)), [], .nil, (.cells 3 (.cons (.val false (.int .i64)) .nil) (.cells 3 (.cons (.val false (.int .i64)) .nil) .nil)), none, fun z => window_push_window_Worst_1_T z.1.1 z.1.2.1 z.2.1.1 z.2.2.1.1⟩

theorem window_push_window_Worst_1_ok : window_push_window_Worst_1_g.ok Try.prog := by
  refine MSig.lift mix tabOk nms _ Try.func19 (c := (bodyOf Try.f19)) (by kernel_rfl) (o := orM [window_sorted_g] [window_Worst_1_g] [window_push_window_Worst_1_L4] noFz) (orM_sound ⟨window_sorted_ok, trivial⟩ ⟨window_Worst_1_ok, trivial⟩) (allLp_ofM [nthC (loopsOf (bodyOf Try.f19)) 0] (by kernel_rfl) ⟨window_push_window_Worst_1_L4_ok, trivial⟩ (by kernel_rfl)) (fun _ => rfl) ?_
  intro z; kernel_rfl

def window_Worst_T (x0 : List Int) (x1 : Int) : Tree (Int × Bool × Unit) :=
  .bnd (window_push_window_Worst_1_T x0 x1 0 0) fun y1 =>
  .ret (y1.2.2.1.1, (decide ((0 : Int) < y1.2.1.1)), ())

def window_Worst_g : Sig := ⟨7, (.cons (.val false (.list (.int .i64))) (.cons (.val false (.int .i64)) .nil)), .vals (.cons (.val false (.int .i64)) (.cons (.val false .bool) .nil)), fun z => window_Worst_T z.1 z.2.1, ((0 : Int), false, ())⟩

theorem window_Worst_ok : window_Worst_g.ok Try.prog := by
  refine Sig.lift mix tabOk nms _ Try.func7 (c := (bodyOf Try.f7)) (by kernel_rfl) (o := orM [] [window_push_window_Worst_1_g] [] noFz) (orM_sound trivial ⟨window_push_window_Worst_1_ok, trivial⟩) (allLp_ofM [] (by kernel_rfl) trivial rfl) ?_
  intro z; kernel_rfl

def window_Most_1_T (x0 : Int) (x1 : Int) (x2 : Int) : Tree (Unit × ((Int × Unit) × Unit)) :=
  .ret ((), (((std.imax x2 x1), ()), ()))

def window_Most_1_g : MSig := ⟨22, (.cons (.val false (.int .i64)) (.cons (.val false (.int .i64)) (.cons (.ref 0 0) .nil))), (.cells 3 (.cons (.val false (.int .i64)) .nil) .nil), [], .nil, (.cells 3 (.cons (.val false (.int .i64)) .nil) .nil), none, fun z => window_Most_1_T z.1.1 z.1.2.1 z.2.1.1⟩

theorem window_Most_1_ok : window_Most_1_g.ok Try.prog := by
  refine MSig.lift mix tabOk nms _ Try.func22 (c := (bodyOf Try.f22)) (by kernel_rfl) (o := orT [] [] noFz) (orT_sound trivial) (allLp_of [] (by kernel_rfl) trivial rfl) (fun _ => rfl) ?_
  intro z; kernel_rfl

def window_push_window_Most_1_L6_step (far : Int) (k : Int) (from_ : Int) (t : Int) (t2 : Int) (c : Int) (l : List Int) (end_ : Int) : Tree (Int ⊕ Int) :=
  ask ((!(decide (end_ < (l.length : Int)))) || inb end_ l.length) <|
  .ite ((decide (end_ < (l.length : Int))) && (decide ((IntKind.wrap .u64 ((IntKind.wrap .u64 ((l.getD end_.toNat (0 : Int)))) - (IntKind.wrap .u64 (from_)))) ≤ far))) (
    .ret (.inl (w64 (end_ + 1)))) (
    .ret (.inr end_))

def window_push_window_Most_1_L6 : Lp := ⟨6, [], [], (ca2 (.cons (.fn 22 .nil (.cons (.ref 0 0) .nil)) (ca (ca2 (.cons (.own 1) (.cons (.val false (.int .u64)) (.cons (.val false (.int .i64)) (.cons (.val false (.int .i64)) (.cons (.val false (.int .i64)) (ca (ca4 (.cons (.own 1) (.cons (.val false (.int .i64)) (.cons (.val false (.int .i64)) (ca (ca4 (ca8 (ca16 .nil)))))))))))))))))), (.cells 3 (.cons (.val false (.int .i64)) .nil) (.rows 3 (.int .i64) .nil)), 1, .one 3 [] (ca2 (.cons (.fn 22 .nil (.cons (.ref 0 0) .nil)) (ca (ca2 (.cons (.own 1) (.cons (.val false (.int .u64)) (.cons (.val false (.int .i64)) (.cons (.val false (.int .i64)) (.cons (.val false (.int .i64)) (ca (ca4 (.cons (.own 1) (.cons (.val false (.int .i64)) (.cons (.val false (.int .i64)) (ca (ca4 (ca8 (ca16 .nil)))))))))))))))))) (.cells 3 (.cons (.val false (.int .i64)) .nil) (.rows 3 (.int .i64) .nil)), fun z => .bnd (.loop (fun v => window_push_window_Most_1_L6_step z.1.2.2.2.2.2.2.2.1 z.1.2.2.2.2.2.2.2.2.2.1 z.1.2.2.2.2.2.2.2.2.2.2.1 z.1.2.2.2.2.2.2.2.2.2.2.2.2.2.2.2.2.2.1 z.1.2.2.2.2.2.2.2.2.2.2.2.2.2.2.2.2.2.2.1 z.2.1.1 z.2.2.1 v) z.1.2.2.2.2.2.2.2.2.1) fun r => .ret ((cu2 (((), ((), ())), (cu (cu2 ((), (z.1.2.2.2.2.2.2.2.1, (r, (z.1.2.2.2.2.2.2.2.2.2.1, (z.1.2.2.2.2.2.2.2.2.2.2.1, (cu (cu4 ((), (z.1.2.2.2.2.2.2.2.2.2.2.2.2.2.2.2.2.2.1, (z.1.2.2.2.2.2.2.2.2.2.2.2.2.2.2.2.2.2.2.1, (cu (cu4 (cu8 (cu16 ())))))))))))))))))), ((z.2.1.1, ()), (z.2.2.1, ())))⟩

theorem window_push_window_Most_1_L6_ok : window_push_window_Most_1_L6.ok Try.prog (nthC (loopsOf (nthC (loopsOf (bodyOf Try.f19)) 0)) 0) := by
  refine Lp.lift (π := (Int × Int × Int × Int × Int × Int × (List Int))) (V := Int) (ρ := Int) mix tabOk window_push_window_Most_1_L6 (o := orM [window_sorted_g] [window_Most_1_g] [] noFz) (orM_sound ⟨window_sorted_ok, trivial⟩ ⟨window_Most_1_ok, trivial⟩) (allLp_ofM [] (by kernel_rfl) trivial rfl) (fun x v => ((cu2 (((), ((), ())), (cu (cu2 ((), (x.1, (v, (x.2.1, (x.2.2.1, (cu (cu4 ((), (x.2.2.2.1, (x.2.2.2.2.1, (cu (cu4 (cu8 (cu16 ())))))))))))))))))), ((x.2.2.2.2.2.1, ()), (x.2.2.2.2.2.2, ())))) (fun x r => ((cu2 (((), ((), ())), (cu (cu2 ((), (x.1, (r, (x.2.1, (x.2.2.1, (cu (cu4 ((), (x.2.2.2.1, (x.2.2.2.2.1, (cu (cu4 (cu8 (cu16 ())))))))))))))))))), ((x.2.2.2.2.2.1, ()), (x.2.2.2.2.2.2, ())))) (fun x v => window_push_window_Most_1_L6_step x.1 x.2.1 x.2.2.1 x.2.2.2.1 x.2.2.2.2.1 x.2.2.2.2.2.1 x.2.2.2.2.2.2 v) (fun x r => .ret ((cu2 (((), ((), ())), (cu (cu2 ((), (x.1, (r, (x.2.1, (x.2.2.1, (cu (cu4 ((), (x.2.2.2.1, (x.2.2.2.2.1, (cu (cu4 (cu8 (cu16 ())))))))))))))))))), ((x.2.2.2.2.2.1, ()), (x.2.2.2.2.2.2, ())))) (fun z => (z.1.2.2.2.2.2.2.2.1, z.1.2.2.2.2.2.2.2.2.2.1, z.1.2.2.2.2.2.2.2.2.2.2.1, z.1.2.2.2.2.2.2.2.2.2.2.2.2.2.2.2.2.2.1, z.1.2.2.2.2.2.2.2.2.2.2.2.2.2.2.2.2.2.2.1, z.2.1.1, z.2.2.1)) (fun z => z.1.2.2.2.2.2.2.2.2.1) (fun _ => rfl) (fun _ => rfl) (fun _ _ _ h => h) ?_
  intro x v; kernel_rfl

def window_push_window_Most_1_L4_step (far : Int) (t : Int) (l : List Int) (end_ : Int) (t2 : Int) (c : Int) : Tree ((Int × Int × Int) ⊕ Int) :=
  .ite (decide (t2 < t)) (
    ask (inb t2 l.length) <|
    .bnd (.loop (fun v => window_push_window_Most_1_L6_step far t2 (l.getD t2.toNat (0 : Int)) t t2 c l v) end_) fun r1 =>
    .bnd (window_Most_1_T (l.getD t2.toNat (0 : Int)) (w64 (r1 - t2)) c) fun y2 =>
    .ret (.inl (r1, (w64 (t2 + 1)), y2.2.1.1))) (
    .ret (.inr c))

def window_push_window_Most_1_L4 : Lp := ⟨4, [], [], (ca2 (.cons (.fn 22 .nil (.cons (.ref 0 0) .nil)) (ca (ca2 (.cons (.own 1) (.cons (.val false (.int .u64)) (.cons (.val false (.int .i64)) (ca (ca2 (ca4 (.cons (.own 1) (.cons (.val false (.int .i64)) (.cons (.val false (.int .i64)) (ca (ca4 (ca8 (ca16 .nil))))))))))))))))), (.cells 3 (.cons (.val false (.int .i64)) .nil) (.rows 3 (.int .i64) .nil)), 1, .one 1 [] (ca16 (ca32 .nil)) (.cells 3 (.cons (.val false (.int .i64)) .nil) .nil), fun z => .bnd (.loop (fun v => window_push_window_Most_1_L4_step z.1.2.2.2.2.2.2.2.1 z.1.2.2.2.2.2.2.2.2.2.2.2.2.2.2.2.2.2.1 z.2.2.1 v.1 v.2.1 v.2.2) (z.1.2.2.2.2.2.2.2.2.1, z.1.2.2.2.2.2.2.2.2.2.2.2.2.2.2.2.2.2.2.1, z.2.1.1)) fun r => .ret ((cu16 (cu32 ())), ((r, ()), ()))⟩

theorem window_push_window_Most_1_L4_ok : window_push_window_Most_1_L4.ok Try.prog (nthC (loopsOf (bodyOf Try.f19)) 0) := by
  refine Lp.lift (π := (Int × Int × (List Int))) (V := (Int × Int × Int)) (ρ := Int) mix tabOk window_push_window_Most_1_L4 (o := orM [window_sorted_g] [window_Most_1_g] [window_push_window_Most_1_L6] noFz) (orM_sound ⟨window_sorted_ok, trivial⟩ ⟨window_Most_1_ok, trivial⟩) (allLp_ofM [nthC (loopsOf (nthC (loopsOf (bodyOf Try.f19)) 0)) 0] (by kernel_rfl) ⟨window_push_window_Most_1_L6_ok, trivial⟩ (by kernel_rfl)) (fun x v => ((cu2 (((), ((), ())), (cu (cu2 ((), (x.1, (v.1, (cu (cu2 (cu4 ((), (x.2.1, (v.2.1, (cu (cu4 (cu8 (cu16 ()))))))))))))))))), ((v.2.2, ()), (x.2.2, ())))) (fun x r => ((cu16 (cu32 ())), ((r, ()), ()))) (fun x v => window_push_window_Most_1_L4_step x.1 x.2.1 x.2.2 v.1 v.2.1 v.2.2) (fun x r => .ret ((cu16 (cu32 ())), ((r, ()), ()))) (fun z => (z.1.2.2.2.2.2.2.2.1, z.1.2.2.2.2.2.2.2.2.2.2.2.2.2.2.2.2.2.1, z.2.2.1)) (fun z => (z.1.2.2.2.2.2.2.2.2.1, z.1.2.2.2.2.2.2.2.2.2.2.2.2.2.2.2.2.2.2.1, z.2.1.1)) (fun _ => rfl) (fun _ => rfl) (fun _ _ _ h => h) ?_
  intro x v; kernel_rfl

def window_push_window_Most_1_T (x0 : List Int) (x1 : Int) (x2 : Int) : Tree (Unit × ((Int × Unit) × Unit)) :=
  .bnd (window_sorted_T x0) fun y1 =>
  .bnd (.loop (fun v => window_push_window_Most_1_L4_step (IntKind.wrap .u64 ((std.imax x1 0))) (y1.length : Int) y1 v.1 v.2.1 v.2.2) (0, 0, x2)) fun r2 =>
  .ret ((), ((r2, ()), ()))

def window_push_window_Most_1_g : MSig := ⟨19, (.cons (.val false (.list (.int .i64))) (.cons (.val false (.int .i64)) (.cons (.fn 22 .nil (.cons (.ref 0 0) .nil)) .nil))), (.cells 3 (.cons (.val false (.int .i64)) .nil) .nil), [], .nil, (.cells 3 (.cons (.val false (.int .i64)) .nil) .nil), none, fun z => window_push_window_Most_1_T z.1.1 z.1.2.1 z.2.1.1⟩

theorem window_push_window_Most_1_ok : window_push_window_Most_1_g.ok Try.prog := by
  refine MSig.lift mix tabOk nms _ Try.func19 (c := (bodyOf Try.f19)) (by kernel_rfl) (o := orM [window_sorted_g] [window_Most_1_g] [window_push_window_Most_1_L4] noFz) (orM_sound ⟨window_sorted_ok, trivial⟩ ⟨window_Most_1_ok, trivial⟩) (allLp_ofM [nthC (loopsOf (bodyOf Try.f19)) 0] (by kernel_rfl) ⟨window_push_window_Most_1_L4_ok, trivial⟩ (by kernel_rfl)) (fun _ => rfl) ?_
  intro z; kernel_rfl

def window_Most_T (x0 : List Int) (x1 : Int) : Tree Int :=
  .bnd (window_push_window_Most_1_T x0 x1 0) fun y1 =>
  .ret y1.2.1.1

def window_Most_g : Sig := ⟨9, (.cons (.val false (.list (.int .i64))) (.cons (.val false (.int .i64)) .nil)), .vals (.val false (.int .i64)), fun z => window_Most_T z.1 z.2.1, (0 : Int)⟩

theorem window_Most_ok : window_Most_g.ok Try.prog := by
  refine Sig.lift mix tabOk nms _ Try.func9 (c := (bodyOf Try.f9)) (by kernel_rfl) (o := orM [] [window_push_window_Most_1_g] [] noFz) (orM_sound trivial ⟨window_push_window_Most_1_ok, trivial⟩) (allLp_ofM [] (by kernel_rfl) trivial rfl) ?_
  intro z; kernel_rfl

def window_refused_T (x0 : Int) : Tree Bool :=
  .ite (decide (x0 = 1)) (
    .ite (decide (x0 = 1)) (
      .ret true) (
      .ret false)) (
    .ite (decide (x0 = 7)) (
      .ite (decide (x0 = 7)) (
        .ret true) (
        .ret false)) (
      .ite (decide (x0 = 8)) (
        .ite (decide (x0 = 8)) (
          .ret true) (
          .ret false)) (
        .ite (decide (x0 = 11)) (
          .ite (decide (x0 = 11)) (
            .ret true) (
            .ret false)) (
          .ite (decide (x0 = 9)) (
            .ret true) (
            .ret false)))))

def window_refused_g : Sig := ⟨27, (.cons (.val false (.int .i64)) .nil), .vals (.val false .bool), fun z => window_refused_T z.1, false⟩

theorem window_refused_ok : window_refused_g.ok Try.prog := by
  refine Sig.lift mix tabOk nms _ Try.func27 (c := (bodyOf Try.f27)) (by kernel_rfl) (o := orT [] [] noFz) (orT_sound trivial) (allLp_of [] (by kernel_rfl) trivial rfl) ?_
  intro z; kernel_rfl

def window_Let_L3_step (node : Str) (lane : Str) (t : List Deed) (t2 : Int) (t3 : Int) (out : List Int) : Tree ((Int × (List Int)) ⊕ (List Int)) :=
  .ite (decide (t3 < t2)) (
    ask (inb t3 t.length) <|
    .grd ((((t.getD t3.toNat (dfl tDeed : Deed)).1 == node) && ((t.getD t3.toNat (dfl tDeed : Deed)).2.1 == lane)) && (!(!(t.getD t3.toNat (dfl tDeed : Deed)).2.2.2.2.2.2.2.1))) (window_refused_T (t.getD t3.toNat (dfl tDeed : Deed)).2.2.2.2.2.2.2.2.1) false fun y1 =>
    .ite ((((t.getD t3.toNat (dfl tDeed : Deed)).1 == node) && ((t.getD t3.toNat (dfl tDeed : Deed)).2.1 == lane)) && ((!(t.getD t3.toNat (dfl tDeed : Deed)).2.2.2.2.2.2.2.1) || (!y1))) (
      ask (decide ((out ++ [(t.getD t3.toNat (dfl tDeed : Deed)).2.2.2.2.2.1]).length * 8 ≤ roomNat)) <|
      .ret (.inl ((w64 (t3 + 1)), (out ++ [(t.getD t3.toNat (dfl tDeed : Deed)).2.2.2.2.2.1])))) (
      .ret (.inl ((w64 (t3 + 1)), out)))) (
    .ret (.inr out))

def window_Let_L3 : Lp := ⟨3, [.own 7 3 (.int .i64)], [], (ca (.cons (.val false .str) (.cons (.val false .str) (ca4 (.cons (.own 0) (ca2 (.cons (.val false (.list tDeed)) (.cons (.val false (.int .i64)) (.cons (.val false (.int .i64)) (ca32 .nil)))))))))), (.rows 3 (.int .i64) .nil), 0, .one 1 [] (ca (ca2 (ca4 (.cons (.own 0) (ca (ca4 (ca32 .nil))))))) (.rows 3 (.int .i64) .nil), fun z => .bnd (.loop (fun v => window_Let_L3_step z.1.2.1 z.1.2.2.1 z.1.2.2.2.2.2.2.2.2.2.2.1 z.1.2.2.2.2.2.2.2.2.2.2.2.1 v.1 v.2) (z.1.2.2.2.2.2.2.2.2.2.2.2.2.1, z.2.1)) fun r => .ret ((cu (cu2 (cu4 ((), (cu (cu4 (cu32 ()))))))), (r, ()))⟩

theorem window_Let_L3_ok : window_Let_L3.ok Try.prog (nthC (loopsOf (bodyOf Try.f15)) 0) := by
  refine Lp.lift (π := (Str × Str × (List Deed) × Int)) (V := (Int × (List Int))) (ρ := List Int) mix tabOk window_Let_L3 (o := orT [window_refused_g] [] noFz) (orT_sound ⟨window_refused_ok, trivial⟩) (allLp_of [] (by kernel_rfl) trivial rfl) (fun x v => ((cu (x.1, (x.2.1, (cu4 ((), (cu2 (x.2.2.1, (x.2.2.2, (v.1, (cu32 ())))))))))), (v.2, ()))) (fun x r => ((cu (cu2 (cu4 ((), (cu (cu4 (cu32 ()))))))), (r, ()))) (fun x v => window_Let_L3_step x.1 x.2.1 x.2.2.1 x.2.2.2 v.1 v.2) (fun x r => .ret ((cu (cu2 (cu4 ((), (cu (cu4 (cu32 ()))))))), (r, ()))) (fun z => (z.1.2.1, z.1.2.2.1, z.1.2.2.2.2.2.2.2.2.2.2.1, z.1.2.2.2.2.2.2.2.2.2.2.2.1)) (fun z => (z.1.2.2.2.2.2.2.2.2.2.2.2.2.1, z.2.1)) (fun _ => rfl) (fun _ => rfl) (fun _ _ _ h => h) ?_
  intro x v; kernel_rfl

def window_Let_T (x0 : List Deed) (x1 : Str) (x2 : Str) : Tree (List Int) :=
  .bnd (.loop (fun v => window_Let_L3_step x1 x2 x0 (x0.length : Int) v.1 v.2) (0, ([] : List Int))) fun r1 =>
  .ret r1

def window_Let_g : Sig := ⟨15, (.cons (.val false (.list tDeed)) (.cons (.val false .str) (.cons (.val false .str) .nil))), .fresh 3 (.int .i64), fun z => window_Let_T z.1 z.2.1 z.2.2.1, ([] : List Int)⟩

theorem window_Let_ok : window_Let_g.ok Try.prog := by
  refine Sig.lift mix tabOk nms _ Try.func15 (c := (bodyOf Try.f15)) (by kernel_rfl) (o := orT [window_refused_g] [window_Let_L3] noFz) (orT_sound ⟨window_refused_ok, trivial⟩) (allLp_of [nthC (loopsOf (bodyOf Try.f15)) 0] (by kernel_rfl) ⟨window_Let_L3_ok, trivial⟩ (by kernel_rfl)) ?_
  intro z; kernel_rfl

def window_Let_gv : Sig := ⟨15, (.cons (.val false (.list tDeed)) (.cons (.val false .str) (.cons (.val false .str) .nil))), .vals (.val false (.list (.int .i64))), fun z => window_Let_T z.1 z.2.1 z.2.2.1, ([] : List Int)⟩

theorem window_Let_okv : window_Let_gv.ok Try.prog := fun x y h => acalls_val (window_Let_ok x y h)

def r06_SameInts_L4_step (a : List Int) (b : List Int) (i : Int) : Tree (Int ⊕ (Bool ⊕ Unit)) :=
  .ite ((decide (i < (a.length : Int))) && (decide (i < (b.length : Int)))) (
    ask (inb i a.length) <|
    ask (inb i b.length) <|
    .ite (!decide ((a.getD i.toNat (0 : Int)) = (b.getD i.toNat (0 : Int)))) (
      .ret (.inr (.inl false))) (
      .ret (.inl (w64 (i + 1))))) (
    .ret (.inr (.inr ())))

def r06_SameInts_L4 : Lp := ⟨4, [], [], (.cons (.val false (.list (.int .i64))) (.cons (.val false (.list (.int .i64))) (ca (ca2 (.cons (.val false (.int .i64)) (ca2 (ca8 (ca16 .nil)))))))), .nil, 0, .more 0 [] (ca4 (.cons (.val false .bool) (ca (ca2 (ca8 (ca16 .nil)))))) .nil (.one 1 [] (ca32 .nil) .nil), fun z => .bnd (.loop (fun v => r06_SameInts_L4_step z.1.1 z.1.2.1 v) z.1.2.2.2.2.2.1) fun r => .sum r (fun a0 => .ret (.inl ((cu4 (a0, (cu (cu2 (cu8 (cu16 ())))))), ()))) (fun b0 => .ret (.inr ((cu32 ()), ())))⟩

theorem r06_SameInts_L4_ok : r06_SameInts_L4.ok Try.prog (nthC (loopsOf (bodyOf Try.f14)) 0) := by
  refine Lp.lift (π := ((List Int) × (List Int))) (V := Int) (ρ := (Bool ⊕ Unit)) mix tabOk r06_SameInts_L4 (o := orT [] [] noFz) (orT_sound trivial) (allLp_of [] (by kernel_rfl) trivial rfl) (fun x v => ((x.1, (x.2, (cu (cu2 (v, (cu2 (cu8 (cu16 ())))))))), ())) (fun x r => match r with | .inl a0 => .inl ((cu4 (a0, (cu (cu2 (cu8 (cu16 ())))))), ()) | .inr b0 => (.inr ((cu32 ()), ()))) (fun x v => r06_SameInts_L4_step x.1 x.2 v) (fun x r => .sum r (fun a0 => .ret (.inl ((cu4 (a0, (cu (cu2 (cu8 (cu16 ())))))), ()))) (fun b0 => .ret (.inr ((cu32 ()), ())))) (fun z => (z.1.1, z.1.2.1)) (fun z => z.1.2.2.2.2.2.1) (fun _ => rfl) (fun _ => rfl) (fun x r Q h => match r, h with | .inl _, h => h | .inr b0, h => (h)) ?_
  intro x v; kernel_rfl

def r06_SameInts_T (x0 : List Int) (x1 : List Int) : Tree Bool :=
  .ite (!decide ((x0.length : Int) = (x1.length : Int))) (
    .ret false) (
    .bnd (.loop (fun v => r06_SameInts_L4_step x0 x1 v) 0) fun r1 =>
    .sum r1 (fun r2 =>
      .ret r2) (fun r3 =>
      .ret true))

def r06_SameInts_g : Sig := ⟨14, (.cons (.val false (.list (.int .i64))) (.cons (.val false (.list (.int .i64))) .nil)), .vals (.val false .bool), fun z => r06_SameInts_T z.1 z.2.1, false⟩

theorem r06_SameInts_ok : r06_SameInts_g.ok Try.prog := by
  refine Sig.lift mix tabOk nms _ Try.func14 (c := (bodyOf Try.f14)) (by kernel_rfl) (o := orT [] [r06_SameInts_L4] noFz) (orT_sound trivial) (allLp_of [nthC (loopsOf (bodyOf Try.f14)) 0] (by kernel_rfl) ⟨r06_SameInts_L4_ok, trivial⟩ (by kernel_rfl)) ?_
  intro z; kernel_rfl

def rate_bounds_hold_T (x0 : Bucket) (x1 : Int) : Tree Int :=
  .ret (std.imax x0.1 (std.imin x1 x0.2))

def rate_bounds_hold_g : Sig := ⟨37, (.cons (.val true tBucket) (.cons (.val false (.int .i64)) .nil)), .vals (.val false (.int .i64)), fun z => rate_bounds_hold_T z.1 z.2.1, (0 : Int)⟩

theorem rate_bounds_hold_ok : rate_bounds_hold_g.ok Try.prog := by
  refine Sig.lift mix tabOk nms _ Try.func37 (c := (bodyOf Try.f37)) (by kernel_rfl) (o := orT [] [] noFz) (orT_sound trivial) (allLp_of [] (by kernel_rfl) trivial rfl) ?_
  intro z; kernel_rfl

def rate_calls_T (x0 : Int) : Tree Int :=
  .bnd (rate_bounds_hold_T (0, 1048576) x0) fun y1 =>
  .ret y1

def rate_calls_g : Sig := ⟨33, (.cons (.val false (.int .i64)) .nil), .vals (.val false (.int .i64)), fun z => rate_calls_T z.1, (0 : Int)⟩

theorem rate_calls_ok : rate_calls_g.ok Try.prog := by
  refine Sig.lift mix tabOk nms _ Try.func33 (c := (bodyOf Try.f33)) (by kernel_rfl) (o := orT [rate_bounds_hold_g] [] noFz) (orT_sound ⟨rate_bounds_hold_ok, trivial⟩) (allLp_of [] (by kernel_rfl) trivial rfl) ?_
  intro z; kernel_rfl

def rate_ticks_T (x0 : Int) : Tree Int :=
  .bnd (rate_bounds_hold_T (0, 1099511627776) x0) fun y1 =>
  .ret y1

def rate_ticks_g : Sig := ⟨38, (.cons (.val false (.int .i64)) .nil), .vals (.val false (.int .i64)), fun z => rate_ticks_T z.1, (0 : Int)⟩

theorem rate_ticks_ok : rate_ticks_g.ok Try.prog := by
  refine Sig.lift mix tabOk nms _ Try.func38 (c := (bodyOf Try.f38)) (by kernel_rfl) (o := orT [rate_bounds_hold_g] [] noFz) (orT_sound ⟨rate_bounds_hold_ok, trivial⟩) (allLp_of [] (by kernel_rfl) trivial rfl) ?_
  intro z; kernel_rfl

def rate_gone_T (x0 : Int) (x1 : Int) (x2 : Int) : Tree Int :=
  .bnd (rate_ticks_T x1) fun y1 =>
  .bnd (rate_ticks_T x0) fun y2 =>
  .bnd (rate_calls_T x2) fun y3 =>
  .ret (w64 ((std.imax 0 (w64 (y1 - y2))) * y3))

def rate_gone_g : Sig := ⟨34, (.cons (.val false (.int .i64)) (.cons (.val false (.int .i64)) (.cons (.val false (.int .i64)) .nil))), .vals (.val false (.int .i64)), fun z => rate_gone_T z.1 z.2.1 z.2.2.1, (0 : Int)⟩

theorem rate_gone_ok : rate_gone_g.ok Try.prog := by
  refine Sig.lift mix tabOk nms _ Try.func34 (c := (bodyOf Try.f34)) (by kernel_rfl) (o := orT [rate_ticks_g, rate_calls_g] [] noFz) (orT_sound ⟨rate_ticks_ok, ⟨rate_calls_ok, trivial⟩⟩) (allLp_of [] (by kernel_rfl) trivial rfl) ?_
  intro z; kernel_rfl

def rate_Most_T (x0 : Int) (x1 : Int) (x2 : Int) (x3 : Int) : Tree Int :=
  .bnd (rate_calls_T x3) fun y1 =>
  .bnd (rate_gone_T x0 x1 x2) fun y2 =>
  .ret (w64 (y1 + y2))

def rate_Most_g : Sig := ⟨24, (.cons (.val false (.int .i64)) (.cons (.val false (.int .i64)) (.cons (.val false (.int .i64)) (.cons (.val false (.int .i64)) .nil)))), .vals (.val false (.int .i64)), fun z => rate_Most_T z.1 z.2.1 z.2.2.1 z.2.2.2.1, (0 : Int)⟩

theorem rate_Most_ok : rate_Most_g.ok Try.prog := by
  refine Sig.lift mix tabOk nms _ Try.func24 (c := (bodyOf Try.f24)) (by kernel_rfl) (o := orT [rate_calls_g, rate_gone_g] [] noFz) (orT_sound ⟨rate_calls_ok, ⟨rate_gone_ok, trivial⟩⟩) (allLp_of [] (by kernel_rfl) trivial rfl) ?_
  intro z; kernel_rfl

def window_Within_L6_step (r : Int) (burst : Int) (i : Int) (from_ : Int) (t : Int) (t2 : Int) (l : List Int) (k : Int) : Tree (Int ⊕ (Bool ⊕ Unit)) :=
  .ite (decide (k < (l.length : Int))) (
    ask (inb k l.length) <|
    .bnd (rate_Most_T from_ (l.getD k.toNat (0 : Int)) r burst) fun y1 =>
    .ite (decide (y1 < (w64 ((w64 (k - i)) + 1)))) (
      .ret (.inr (.inl false))) (
      .ret (.inl (w64 (k + 1))))) (
    .ret (.inr (.inr ())))

def window_Within_L6 : Lp := ⟨6, [], [], (ca (.cons (.val false (.int .i64)) (.cons (.val false (.int .i64)) (ca4 (.cons (.own 0) (.cons (.val false (.int .i64)) (.cons (.val false (.int .i64)) (.cons (.val false (.int .i64)) (ca2 (.cons (.own 0) (.cons (.val false (.int .i64)) (.cons (.val false (.int .i64)) (ca (ca8 (ca16 .nil))))))))))))))), (.rows 3 (.int .i64) .nil), 0, .more 0 [] (ca2 (ca4 (.cons (.val false .bool) (ca2 (ca32 .nil))))) .nil (.one 3 [] (ca (.cons (.val false (.int .i64)) (.cons (.val false (.int .i64)) (ca4 (.cons (.own 0) (ca (ca4 (.cons (.own 0) (.cons (.val false (.int .i64)) (.cons (.val false (.int .i64)) (ca (ca8 (ca16 .nil))))))))))))) (.rows 3 (.int .i64) .nil)), fun z => .bnd (.loop (fun v => window_Within_L6_step z.1.2.1 z.1.2.2.1 z.1.2.2.2.2.2.2.2.2.1 z.1.2.2.2.2.2.2.2.2.2.1 z.1.2.2.2.2.2.2.2.2.2.2.2.2.2.2.1 z.1.2.2.2.2.2.2.2.2.2.2.2.2.2.2.2.1 z.2.1 v) z.1.2.2.2.2.2.2.2.2.2.2.1) fun r => .sum r (fun a0 => .ret (.inl ((cu2 (cu4 (a0, (cu2 (cu32 ()))))), ()))) (fun b0 => .ret (.inr ((cu (z.1.2.1, (z.1.2.2.1, (cu4 ((), (cu (cu4 ((), (z.1.2.2.2.2.2.2.2.2.2.2.2.2.2.2.1, (z.1.2.2.2.2.2.2.2.2.2.2.2.2.2.2.2.1, (cu (cu8 (cu16 ()))))))))))))), (z.2.1, ()))))⟩

theorem window_Within_L6_ok : window_Within_L6.ok Try.prog (nthC (loopsOf (nthC (loopsOf (bodyOf Try.f11)) 0)) 0) := by
  refine Lp.lift (π := (Int × Int × Int × Int × Int × Int × (List Int))) (V := Int) (ρ := (Bool ⊕ Unit)) mix tabOk window_Within_L6 (o := orT [window_sorted_g, rate_Most_g] [] noFz) (orT_sound ⟨window_sorted_ok, ⟨rate_Most_ok, trivial⟩⟩) (allLp_of [] (by kernel_rfl) trivial rfl) (fun x v => ((cu (x.1, (x.2.1, (cu4 ((), (x.2.2.1, (x.2.2.2.1, (v, (cu2 ((), (x.2.2.2.2.1, (x.2.2.2.2.2.1, (cu (cu8 (cu16 ()))))))))))))))), (x.2.2.2.2.2.2, ()))) (fun x r => match r with | .inl a0 => .inl ((cu2 (cu4 (a0, (cu2 (cu32 ()))))), ()) | .inr b0 => (.inr ((cu (x.1, (x.2.1, (cu4 ((), (cu (cu4 ((), (x.2.2.2.2.1, (x.2.2.2.2.2.1, (cu (cu8 (cu16 ()))))))))))))), (x.2.2.2.2.2.2, ())))) (fun x v => window_Within_L6_step x.1 x.2.1 x.2.2.1 x.2.2.2.1 x.2.2.2.2.1 x.2.2.2.2.2.1 x.2.2.2.2.2.2 v) (fun x r => .sum r (fun a0 => .ret (.inl ((cu2 (cu4 (a0, (cu2 (cu32 ()))))), ()))) (fun b0 => .ret (.inr ((cu (x.1, (x.2.1, (cu4 ((), (cu (cu4 ((), (x.2.2.2.2.1, (x.2.2.2.2.2.1, (cu (cu8 (cu16 ()))))))))))))), (x.2.2.2.2.2.2, ()))))) (fun z => (z.1.2.1, z.1.2.2.1, z.1.2.2.2.2.2.2.2.2.1, z.1.2.2.2.2.2.2.2.2.2.1, z.1.2.2.2.2.2.2.2.2.2.2.2.2.2.2.1, z.1.2.2.2.2.2.2.2.2.2.2.2.2.2.2.2.1, z.2.1)) (fun z => z.1.2.2.2.2.2.2.2.2.2.2.1) (fun _ => rfl) (fun _ => rfl) (fun x r Q h => match r, h with | .inl _, h => h | .inr b0, h => (h)) ?_
  intro x v; kernel_rfl

def window_Within_L3_step (r : Int) (burst : Int) (t : Int) (l : List Int) (t2 : Int) : Tree (Int ⊕ (Bool ⊕ Unit)) :=
  .ite (decide (t2 < t)) (
    ask (inb t2 l.length) <|
    .bnd (.loop (fun v => window_Within_L6_step r burst t2 (l.getD t2.toNat (0 : Int)) t t2 l v) t2) fun r1 =>
    .sum r1 (fun r2 =>
      .ret (.inr (.inl r2))) (fun r3 =>
      .ret (.inl (w64 (t2 + 1))))) (
    .ret (.inr (.inr ())))

def window_Within_L3 : Lp := ⟨3, [], [], (ca (.cons (.val false (.int .i64)) (.cons (.val false (.int .i64)) (ca4 (.cons (.own 0) (ca (ca4 (.cons (.own 0) (.cons (.val false (.int .i64)) (.cons (.val false (.int .i64)) (ca (ca8 (ca16 .nil))))))))))))), (.rows 3 (.int .i64) .nil), 0, .more 0 [] (ca2 (ca4 (.cons (.val false .bool) (ca2 (ca32 .nil))))) .nil (.one 1 [] (ca (ca8 (ca32 .nil))) .nil), fun z => .bnd (.loop (fun v => window_Within_L3_step z.1.2.1 z.1.2.2.1 z.1.2.2.2.2.2.2.2.2.2.2.2.2.2.2.1 z.2.1 v) z.1.2.2.2.2.2.2.2.2.2.2.2.2.2.2.2.1) fun r => .sum r (fun a0 => .ret (.inl ((cu2 (cu4 (a0, (cu2 (cu32 ()))))), ()))) (fun b0 => .ret (.inr ((cu (cu8 (cu32 ()))), ())))⟩

theorem window_Within_L3_ok : window_Within_L3.ok Try.prog (nthC (loopsOf (bodyOf Try.f11)) 0) := by
  refine Lp.lift (π := (Int × Int × Int × (List Int))) (V := Int) (ρ := (Bool ⊕ Unit)) mix tabOk window_Within_L3 (o := orT [window_sorted_g, rate_Most_g] [window_Within_L6] noFz) (orT_sound ⟨window_sorted_ok, ⟨rate_Most_ok, trivial⟩⟩) (allLp_of [nthC (loopsOf (nthC (loopsOf (bodyOf Try.f11)) 0)) 0] (by kernel_rfl) ⟨window_Within_L6_ok, trivial⟩ (by kernel_rfl)) (fun x v => ((cu (x.1, (x.2.1, (cu4 ((), (cu (cu4 ((), (x.2.2.1, (v, (cu (cu8 (cu16 ()))))))))))))), (x.2.2.2, ()))) (fun x r => match r with | .inl a0 => .inl ((cu2 (cu4 (a0, (cu2 (cu32 ()))))), ()) | .inr b0 => (.inr ((cu (cu8 (cu32 ()))), ()))) (fun x v => window_Within_L3_step x.1 x.2.1 x.2.2.1 x.2.2.2 v) (fun x r => .sum r (fun a0 => .ret (.inl ((cu2 (cu4 (a0, (cu2 (cu32 ()))))), ()))) (fun b0 => .ret (.inr ((cu (cu8 (cu32 ()))), ())))) (fun z => (z.1.2.1, z.1.2.2.1, z.1.2.2.2.2.2.2.2.2.2.2.2.2.2.2.1, z.2.1)) (fun z => z.1.2.2.2.2.2.2.2.2.2.2.2.2.2.2.2.1) (fun _ => rfl) (fun _ => rfl) (fun x r Q h => match r, h with | .inl _, h => h | .inr b0, h => (h)) ?_
  intro x v; kernel_rfl

def window_Within_T (x0 : List Int) (x1 : Int) (x2 : Int) : Tree Bool :=
  .bnd (window_sorted_T x0) fun y1 =>
  .bnd (.loop (fun v => window_Within_L3_step x1 x2 (y1.length : Int) y1 v) 0) fun r2 =>
  .sum r2 (fun r3 =>
    .ret r3) (fun r4 =>
    .ret true)

def window_Within_g : Sig := ⟨11, (.cons (.val false (.list (.int .i64))) (.cons (.val false (.int .i64)) (.cons (.val false (.int .i64)) .nil))), .vals (.val false .bool), fun z => window_Within_T z.1 z.2.1 z.2.2.1, false⟩

theorem window_Within_ok : window_Within_g.ok Try.prog := by
  refine Sig.lift mix tabOk nms _ Try.func11 (c := (bodyOf Try.f11)) (by kernel_rfl) (o := orT [window_sorted_g, rate_Most_g] [window_Within_L3] noFz) (orT_sound ⟨window_sorted_ok, ⟨rate_Most_ok, trivial⟩⟩) (allLp_of [nthC (loopsOf (bodyOf Try.f11)) 0] (by kernel_rfl) ⟨window_Within_L3_ok, trivial⟩ (by kernel_rfl)) ?_
  intro z; kernel_rfl

def l53_awake_T  : Tree Bool :=
  .bnd (window_Worst_T [5, 1, 2] 1) fun y1 =>
  .bnd (window_Most_T [5, 1, 2] 1) fun y2 =>
  .grd (((decide (y2 = 2)) && (decide (y1.1 = 1))) && y1.2.1) (window_Let_T [(([97] : Str), (([116] : Str), (0, (0, (0, (3, ((0, ([], ([], ([], ([], ([], 0)))))), (false, (0, ([], ([], ([], ([], 0))))))))))))), (([97] : Str), (([116] : Str), (0, (0, (0, (4, ((0, ([], ([], ([], ([], ([], 0)))))), (true, (9, ([], ([], ([], ([], 0)))))))))))))] ([97] : Str) ([116] : Str)) ([] : List Int) fun y3 =>
  .grd (((decide (y2 = 2)) && (decide (y1.1 = 1))) && y1.2.1) (r06_SameInts_T y3 [3]) false fun y4 =>
  .grd ((((decide (y2 = 2)) && (decide (y1.1 = 1))) && y1.2.1) && y4) (window_Within_T [1, 1, 2] 1 2) false fun y5 =>
  .grd (((((decide (y2 = 2)) && (decide (y1.1 = 1))) && y1.2.1) && y4) && y5) (window_Within_T [1, 1, 1] 1 2) false fun y6 =>
  .ret ((((((decide (y2 = 2)) && (decide (y1.1 = 1))) && y1.2.1) && y4) && y5) && (!y6))

def l53_awake_g : Sig := ⟨6, .nil, .vals (.val false .bool), fun z => l53_awake_T, false⟩

theorem l53_awake_ok : l53_awake_g.ok Try.prog := by
  refine Sig.lift mix tabOk nms _ Try.func6 (c := (bodyOf Try.f6)) (by kernel_rfl) (o := orT [window_Worst_g, window_Most_g, window_Let_gv, r06_SameInts_g, window_Within_g] [] noFz) (orT_sound ⟨window_Worst_ok, ⟨window_Most_ok, ⟨window_Let_okv, ⟨r06_SameInts_ok, ⟨window_Within_ok, trivial⟩⟩⟩⟩⟩) (allLp_of [] (by kernel_rfl) trivial rfl) ?_
  intro z; kernel_rfl

def r53_between_T (x0 : Int) (x1 : Int) (x2 : Int) : Tree Bool :=
  .ret ((decide (x0 = x1)) || (((decide (x1 < x0)) && (decide ((0 : Int) < x2))) && (decide ((IntKind.wrap .u64 ((IntKind.wrap .u64 (x0)) - (IntKind.wrap .u64 (x1)))) ≤ (IntKind.wrap .u64 (x2))))))

def r53_between_g : Sig := ⟨30, (.cons (.val false (.int .i64)) (.cons (.val false (.int .i64)) (.cons (.val false (.int .i64)) .nil))), .vals (.val false .bool), fun z => r53_between_T z.1 z.2.1 z.2.2.1, false⟩

theorem r53_between_ok : r53_between_g.ok Try.prog := by
  refine Sig.lift mix tabOk nms _ Try.func30 (c := (bodyOf Try.f30)) (by kernel_rfl) (o := orT [] [] noFz) (orT_sound trivial) (allLp_of [] (by kernel_rfl) trivial rfl) ?_
  intro z; kernel_rfl

def r53_count_L3_step (ticks : List Int) (from_ : Int) (width : Int) (n : Int) (i : Int) : Tree ((Int × Int) ⊕ Int) :=
  .ite (decide (i < (ticks.length : Int))) (
    ask (inb i ticks.length) <|
    .bnd (r53_between_T (ticks.getD i.toNat (0 : Int)) from_ width) fun y1 =>
    .ite y1 (
      .ret (.inl ((w64 (n + 1)), (w64 (i + 1))))) (
      .ret (.inl (n, (w64 (i + 1)))))) (
    .ret (.inr n))

def r53_count_L3 : Lp := ⟨3, [], [], (.cons (.val false (.list (.int .i64))) (.cons (.val false (.int .i64)) (.cons (.val false (.int .i64)) (ca4 (.cons (.val false (.int .i64)) (.cons (.val false (.int .i64)) (ca16 .nil))))))), .nil, 0, .one 1 [] (ca (ca2 (ca4 (.cons (.val false (.int .i64)) (ca (ca16 .nil)))))) .nil, fun z => .bnd (.loop (fun v => r53_count_L3_step z.1.1 z.1.2.1 z.1.2.2.1 v.1 v.2) (z.1.2.2.2.2.2.2.2.1, z.1.2.2.2.2.2.2.2.2.1)) fun r => .ret ((cu (cu2 (cu4 (r, (cu (cu16 ())))))), ())⟩

theorem r53_count_L3_ok : r53_count_L3.ok Try.prog (nthC (loopsOf (bodyOf Try.f21)) 0) := by
  refine Lp.lift (π := ((List Int) × Int × Int)) (V := (Int × Int)) (ρ := Int) mix tabOk r53_count_L3 (o := orT [r53_between_g] [] noFz) (orT_sound ⟨r53_between_ok, trivial⟩) (allLp_of [] (by kernel_rfl) trivial rfl) (fun x v => ((x.1, (x.2.1, (x.2.2, (cu4 (v.1, (v.2, (cu16 ()))))))), ())) (fun x r => ((cu (cu2 (cu4 (r, (cu (cu16 ())))))), ())) (fun x v => r53_count_L3_step x.1 x.2.1 x.2.2 v.1 v.2) (fun x r => .ret ((cu (cu2 (cu4 (r, (cu (cu16 ())))))), ())) (fun z => (z.1.1, z.1.2.1, z.1.2.2.1)) (fun z => (z.1.2.2.2.2.2.2.2.1, z.1.2.2.2.2.2.2.2.2.1)) (fun _ => rfl) (fun _ => rfl) (fun _ _ _ h => h) ?_
  intro x v; kernel_rfl

def r53_count_T (x0 : List Int) (x1 : Int) (x2 : Int) : Tree Int :=
  .bnd (.loop (fun v => r53_count_L3_step x0 x1 x2 v.1 v.2) (0, 0)) fun r1 =>
  .ret r1

def r53_count_g : Sig := ⟨21, (.cons (.val false (.list (.int .i64))) (.cons (.val false (.int .i64)) (.cons (.val false (.int .i64)) .nil))), .vals (.val false (.int .i64)), fun z => r53_count_T z.1 z.2.1 z.2.2.1, (0 : Int)⟩

theorem r53_count_ok : r53_count_g.ok Try.prog := by
  refine Sig.lift mix tabOk nms _ Try.func21 (c := (bodyOf Try.f21)) (by kernel_rfl) (o := orT [r53_between_g] [r53_count_L3] noFz) (orT_sound ⟨r53_between_ok, trivial⟩) (allLp_of [nthC (loopsOf (bodyOf Try.f21)) 0] (by kernel_rfl) ⟨r53_count_L3_ok, trivial⟩ (by kernel_rfl)) ?_
  intro z; kernel_rfl

def r53_Most_L3_step (ticks : List Int) (width : Int) (n : Int) (i : Int) : Tree ((Int × Int) ⊕ Int) :=
  .ite (decide (i < (ticks.length : Int))) (
    ask (inb i ticks.length) <|
    .bnd (r53_count_T ticks (ticks.getD i.toNat (0 : Int)) width) fun y1 =>
    .ret (.inl ((std.imax n y1), (w64 (i + 1))))) (
    .ret (.inr n))

def r53_Most_L3 : Lp := ⟨3, [], [], (.cons (.val false (.list (.int .i64))) (.cons (.val false (.int .i64)) (ca (ca2 (.cons (.val false (.int .i64)) (.cons (.val false (.int .i64)) (ca16 .nil))))))), .nil, 0, .one 1 [] (ca (ca4 (.cons (.val false (.int .i64)) (ca (ca16 .nil))))) .nil, fun z => .bnd (.loop (fun v => r53_Most_L3_step z.1.1 z.1.2.1 v.1 v.2) (z.1.2.2.2.2.2.1, z.1.2.2.2.2.2.2.1)) fun r => .ret ((cu (cu4 (r, (cu (cu16 ()))))), ())⟩

theorem r53_Most_L3_ok : r53_Most_L3.ok Try.prog (nthC (loopsOf (bodyOf Try.f10)) 0) := by
  refine Lp.lift (π := ((List Int) × Int)) (V := (Int × Int)) (ρ := Int) mix tabOk r53_Most_L3 (o := orT [r53_count_g] [] noFz) (orT_sound ⟨r53_count_ok, trivial⟩) (allLp_of [] (by kernel_rfl) trivial rfl) (fun x v => ((x.1, (x.2, (cu (cu2 (v.1, (v.2, (cu16 ()))))))), ())) (fun x r => ((cu (cu4 (r, (cu (cu16 ()))))), ())) (fun x v => r53_Most_L3_step x.1 x.2 v.1 v.2) (fun x r => .ret ((cu (cu4 (r, (cu (cu16 ()))))), ())) (fun z => (z.1.1, z.1.2.1)) (fun z => (z.1.2.2.2.2.2.1, z.1.2.2.2.2.2.2.1)) (fun _ => rfl) (fun _ => rfl) (fun _ _ _ h => h) ?_
  intro x v; kernel_rfl

def r53_Most_T (x0 : List Int) (x1 : Int) : Tree Int :=
  .bnd (.loop (fun v => r53_Most_L3_step x0 x1 v.1 v.2) (0, 0)) fun r1 =>
  .ret r1

def r53_Most_g : Sig := ⟨10, (.cons (.val false (.list (.int .i64))) (.cons (.val false (.int .i64)) .nil)), .vals (.val false (.int .i64)), fun z => r53_Most_T z.1 z.2.1, (0 : Int)⟩

theorem r53_Most_ok : r53_Most_g.ok Try.prog := by
  refine Sig.lift mix tabOk nms _ Try.func10 (c := (bodyOf Try.f10)) (by kernel_rfl) (o := orT [r53_count_g] [r53_Most_L3] noFz) (orT_sound ⟨r53_count_ok, trivial⟩) (allLp_of [nthC (loopsOf (bodyOf Try.f10)) 0] (by kernel_rfl) ⟨r53_Most_L3_ok, trivial⟩ (by kernel_rfl)) ?_
  intro z; kernel_rfl

def r53_Worst_L4_step (ticks : List Int) (width : Int) (most : Int) (best : Int) (ok : Bool) (i : Int) : Tree ((Int × Bool × Int) ⊕ (Int × Bool)) :=
  .ite (decide (i < (ticks.length : Int))) (
    ask (inb i ticks.length) <|
    .bnd (r53_count_T ticks (ticks.getD i.toNat (0 : Int)) width) fun y1 =>
    ask ((!((decide (y1 = most)) && (!(!ok)))) || inb i ticks.length) <|
    .ite ((decide (y1 = most)) && ((!ok) || (decide ((ticks.getD i.toNat (0 : Int)) < best)))) (
      ask (inb i ticks.length) <|
      .ret (.inl ((ticks.getD i.toNat (0 : Int)), true, (w64 (i + 1))))) (
      .ret (.inl (best, ok, (w64 (i + 1)))))) (
    .ret (.inr (best, ok)))

def r53_Worst_L4 : Lp := ⟨4, [], [], (.cons (.val false (.list (.int .i64))) (.cons (.val false (.int .i64)) (ca4 (.cons (.val false (.int .i64)) (.cons (.val false .bool) (.cons (.val false (.int .i64)) (.cons (.val false (.int .i64)) (ca4 (ca32 .nil))))))))), .nil, 0, .one 1 [] (ca2 (ca4 (.cons (.val false (.int .i64)) (.cons (.val false .bool) (ca2 (ca4 (ca32 .nil))))))) .nil, fun z => .bnd (.loop (fun v => r53_Worst_L4_step z.1.1 z.1.2.1 z.1.2.2.2.2.2.2.2.2.1 v.1 v.2.1 v.2.2) (z.1.2.2.2.2.2.2.1, z.1.2.2.2.2.2.2.2.1, z.1.2.2.2.2.2.2.2.2.2.1)) fun r => .ret ((cu2 (cu4 (r.1, (r.2, (cu2 (cu4 (cu32 ()))))))), ())⟩

theorem r53_Worst_L4_ok : r53_Worst_L4.ok Try.prog (nthC (loopsOf (bodyOf Try.f8)) 0) := by
  refine Lp.lift (π := ((List Int) × Int × Int)) (V := (Int × Bool × Int)) (ρ := (Int × Bool)) mix tabOk r53_Worst_L4 (o := orT [r53_Most_g, r53_count_g] [] noFz) (orT_sound ⟨r53_Most_ok, ⟨r53_count_ok, trivial⟩⟩) (allLp_of [] (by kernel_rfl) trivial rfl) (fun x v => ((x.1, (x.2.1, (cu4 (v.1, (v.2.1, (x.2.2, (v.2.2, (cu4 (cu32 ()))))))))), ())) (fun x r => ((cu2 (cu4 (r.1, (r.2, (cu2 (cu4 (cu32 ()))))))), ())) (fun x v => r53_Worst_L4_step x.1 x.2.1 x.2.2 v.1 v.2.1 v.2.2) (fun x r => .ret ((cu2 (cu4 (r.1, (r.2, (cu2 (cu4 (cu32 ()))))))), ())) (fun z => (z.1.1, z.1.2.1, z.1.2.2.2.2.2.2.2.2.1)) (fun z => (z.1.2.2.2.2.2.2.1, z.1.2.2.2.2.2.2.2.1, z.1.2.2.2.2.2.2.2.2.2.1)) (fun _ => rfl) (fun _ => rfl) (fun _ _ _ h => h) ?_
  intro x v; kernel_rfl

def r53_Worst_T (x0 : List Int) (x1 : Int) : Tree (Int × Bool × Unit) :=
  .bnd (r53_Most_T x0 x1) fun y1 =>
  .bnd (.loop (fun v => r53_Worst_L4_step x0 x1 y1 v.1 v.2.1 v.2.2) (0, false, 0)) fun r2 =>
  .ret (r2.1, r2.2, ())

def r53_Worst_g : Sig := ⟨8, (.cons (.val false (.list (.int .i64))) (.cons (.val false (.int .i64)) .nil)), .vals (.cons (.val false (.int .i64)) (.cons (.val false .bool) .nil)), fun z => r53_Worst_T z.1 z.2.1, ((0 : Int), false, ())⟩

theorem r53_Worst_ok : r53_Worst_g.ok Try.prog := by
  refine Sig.lift mix tabOk nms _ Try.func8 (c := (bodyOf Try.f8)) (by kernel_rfl) (o := orT [r53_Most_g, r53_count_g] [r53_Worst_L4] noFz) (orT_sound ⟨r53_Most_ok, ⟨r53_count_ok, trivial⟩⟩) (allLp_of [nthC (loopsOf (bodyOf Try.f8)) 0] (by kernel_rfl) ⟨r53_Worst_L4_ok, trivial⟩ (by kernel_rfl)) ?_
  intro z; kernel_rfl

def r30_in_T (x0 : Int) (x1 : Int) : Tree Int :=
  .ret (std.imax 0 (std.imin x0 x1))

def r30_in_g : Sig := ⟨28, (.cons (.val false (.int .i64)) (.cons (.val false (.int .i64)) .nil)), .vals (.val false (.int .i64)), fun z => r30_in_T z.1 z.2.1, (0 : Int)⟩

theorem r30_in_ok : r30_in_g.ok Try.prog := by
  refine Sig.lift mix tabOk nms _ Try.func28 (c := (bodyOf Try.f28)) (by kernel_rfl) (o := orT [] [] noFz) (orT_sound trivial) (allLp_of [] (by kernel_rfl) trivial rfl) ?_
  intro z; kernel_rfl

def r30_Most_T (x0 : Int) (x1 : Int) (x2 : Int) (x3 : Int) : Tree Int :=
  .bnd (r30_in_T x3 1048576) fun y1 =>
  .bnd (r30_in_T x1 1099511627776) fun y2 =>
  .bnd (r30_in_T x0 1099511627776) fun y3 =>
  .bnd (r30_in_T x2 1048576) fun y4 =>
  .ret (w64 (y1 + (w64 ((std.imax 0 (w64 (y2 - y3))) * y4))))

def r30_Most_g : Sig := ⟨25, (.cons (.val false (.int .i64)) (.cons (.val false (.int .i64)) (.cons (.val false (.int .i64)) (.cons (.val false (.int .i64)) .nil)))), .vals (.val false (.int .i64)), fun z => r30_Most_T z.1 z.2.1 z.2.2.1 z.2.2.2.1, (0 : Int)⟩

theorem r30_Most_ok : r30_Most_g.ok Try.prog := by
  refine Sig.lift mix tabOk nms _ Try.func25 (c := (bodyOf Try.f25)) (by kernel_rfl) (o := orT [r30_in_g] [] noFz) (orT_sound ⟨r30_in_ok, trivial⟩) (allLp_of [] (by kernel_rfl) trivial rfl) ?_
  intro z; kernel_rfl

def r53_Within_L10_step (ticks : List Int) (rate : Int) (burst : Int) (i : Int) (k : Int) (n : Int) (j : Int) : Tree ((Int × Int) ⊕ Int) :=
  .ite (decide (j < (ticks.length : Int))) (
    ask (inb j ticks.length) <|
    ask (inb i ticks.length) <|
    ask ((!(decide ((ticks.getD i.toNat (0 : Int)) ≤ (ticks.getD j.toNat (0 : Int))))) || inb j ticks.length) <|
    ask ((!(decide ((ticks.getD i.toNat (0 : Int)) ≤ (ticks.getD j.toNat (0 : Int))))) || inb k ticks.length) <|
    .ite ((decide ((ticks.getD i.toNat (0 : Int)) ≤ (ticks.getD j.toNat (0 : Int)))) && (decide ((ticks.getD j.toNat (0 : Int)) ≤ (ticks.getD k.toNat (0 : Int))))) (
      .ret (.inl ((w64 (n + 1)), (w64 (j + 1))))) (
      .ret (.inl (n, (w64 (j + 1)))))) (
    .ret (.inr n))

def r53_Within_L10 : Lp := ⟨10, [], [], (.cons (.val false (.list (.int .i64))) (.cons (.val false (.int .i64)) (.cons (.val false (.int .i64)) (ca4 (.cons (.val false (.int .i64)) (.cons (.val false (.int .i64)) (.cons (.val false (.int .i64)) (.cons (.val false (.int .i64)) (ca2 (ca4 (ca8 (ca16 (ca32 .nil))))))))))))), .nil, 0, .one 5 [] (.cons (.val false (.list (.int .i64))) (.cons (.val false (.int .i64)) (.cons (.val false (.int .i64)) (ca4 (.cons (.val false (.int .i64)) (.cons (.val false (.int .i64)) (.cons (.val false (.int .i64)) (ca (ca2 (ca4 (ca8 (ca16 (ca32 .nil))))))))))))) .nil, fun z => .bnd (.loop (fun v => r53_Within_L10_step z.1.1 z.1.2.1 z.1.2.2.1 z.1.2.2.2.2.2.2.2.1 z.1.2.2.2.2.2.2.2.2.1 v.1 v.2) (z.1.2.2.2.2.2.2.2.2.2.1, z.1.2.2.2.2.2.2.2.2.2.2.1)) fun r => .ret ((z.1.1, (z.1.2.1, (z.1.2.2.1, (cu4 (z.1.2.2.2.2.2.2.2.1, (z.1.2.2.2.2.2.2.2.2.1, (r, (cu (cu2 (cu4 (cu8 (cu16 (cu32 ()))))))))))))), ())⟩

theorem r53_Within_L10_ok : r53_Within_L10.ok Try.prog (nthC (loopsOf (nthC (loopsOf (nthC (loopsOf (bodyOf Try.f12)) 0)) 0)) 0) := by
  refine Lp.lift (π := ((List Int) × Int × Int × Int × Int)) (V := (Int × Int)) (ρ := Int) mix tabOk r53_Within_L10 (o := orT [r30_Most_g] [] noFz) (orT_sound ⟨r30_Most_ok, trivial⟩) (allLp_of [] (by kernel_rfl) trivial rfl) (fun x v => ((x.1, (x.2.1, (x.2.2.1, (cu4 (x.2.2.2.1, (x.2.2.2.2, (v.1, (v.2, (cu2 (cu4 (cu8 (cu16 (cu32 ()))))))))))))), ())) (fun x r => ((x.1, (x.2.1, (x.2.2.1, (cu4 (x.2.2.2.1, (x.2.2.2.2, (r, (cu (cu2 (cu4 (cu8 (cu16 (cu32 ()))))))))))))), ())) (fun x v => r53_Within_L10_step x.1 x.2.1 x.2.2.1 x.2.2.2.1 x.2.2.2.2 v.1 v.2) (fun x r => .ret ((x.1, (x.2.1, (x.2.2.1, (cu4 (x.2.2.2.1, (x.2.2.2.2, (r, (cu (cu2 (cu4 (cu8 (cu16 (cu32 ()))))))))))))), ())) (fun z => (z.1.1, z.1.2.1, z.1.2.2.1, z.1.2.2.2.2.2.2.2.1, z.1.2.2.2.2.2.2.2.2.1)) (fun z => (z.1.2.2.2.2.2.2.2.2.2.1, z.1.2.2.2.2.2.2.2.2.2.2.1)) (fun _ => rfl) (fun _ => rfl) (fun _ _ _ h => h) ?_
  intro x v; kernel_rfl

def r53_Within_L5_step (ticks : List Int) (rate : Int) (burst : Int) (i : Int) (k : Int) : Tree (Int ⊕ (Bool ⊕ Unit)) :=
  .ite (decide (k < (ticks.length : Int))) (
    ask (inb i ticks.length) <|
    ask (inb k ticks.length) <|
    .ite (decide ((ticks.getD k.toNat (0 : Int)) < (ticks.getD i.toNat (0 : Int)))) (
      .ret (.inl (w64 (k + 1)))) (
      .bnd (.loop (fun v => r53_Within_L10_step ticks rate burst i k v.1 v.2) (0, 0)) fun r1 =>
      ask (inb i ticks.length) <|
      ask (inb k ticks.length) <|
      .bnd (r30_Most_T (ticks.getD i.toNat (0 : Int)) (ticks.getD k.toNat (0 : Int)) rate burst) fun y2 =>
      .ite (decide (y2 < r1)) (
        .ret (.inr (.inl false))) (
        .ret (.inl (w64 (k + 1)))))) (
    .ret (.inr (.inr ())))

def r53_Within_L5 : Lp := ⟨5, [], [], (.cons (.val false (.list (.int .i64))) (.cons (.val false (.int .i64)) (.cons (.val false (.int .i64)) (ca4 (.cons (.val false (.int .i64)) (.cons (.val false (.int .i64)) (ca32 (ca32 .nil)))))))), .nil, 0, .more 0 [] (ca2 (ca4 (.cons (.val false .bool) (ca2 (ca32 (ca32 .nil)))))) .nil (.one 3 [] (.cons (.val false (.list (.int .i64))) (.cons (.val false (.int .i64)) (.cons (.val false (.int .i64)) (ca4 (.cons (.val false (.int .i64)) (ca (ca32 (ca32 .nil)))))))) .nil), fun z => .bnd (.loop (fun v => r53_Within_L5_step z.1.1 z.1.2.1 z.1.2.2.1 z.1.2.2.2.2.2.2.2.1 v) z.1.2.2.2.2.2.2.2.2.1) fun r => .sum r (fun a0 => .ret (.inl ((cu2 (cu4 (a0, (cu2 (cu32 (cu32 ())))))), ()))) (fun b0 => .ret (.inr ((z.1.1, (z.1.2.1, (z.1.2.2.1, (cu4 (z.1.2.2.2.2.2.2.2.1, (cu (cu32 (cu32 ())))))))), ())))⟩

theorem r53_Within_L5_ok : r53_Within_L5.ok Try.prog (nthC (loopsOf (nthC (loopsOf (bodyOf Try.f12)) 0)) 0) := by
  refine Lp.lift (π := ((List Int) × Int × Int × Int)) (V := Int) (ρ := (Bool ⊕ Unit)) mix tabOk r53_Within_L5 (o := orT [r30_Most_g] [r53_Within_L10] noFz) (orT_sound ⟨r30_Most_ok, trivial⟩) (allLp_of [nthC (loopsOf (nthC (loopsOf (nthC (loopsOf (bodyOf Try.f12)) 0)) 0)) 0] (by kernel_rfl) ⟨r53_Within_L10_ok, trivial⟩ (by kernel_rfl)) (fun x v => ((x.1, (x.2.1, (x.2.2.1, (cu4 (x.2.2.2, (v, (cu32 (cu32 ())))))))), ())) (fun x r => match r with | .inl a0 => .inl ((cu2 (cu4 (a0, (cu2 (cu32 (cu32 ())))))), ()) | .inr b0 => (.inr ((x.1, (x.2.1, (x.2.2.1, (cu4 (x.2.2.2, (cu (cu32 (cu32 ())))))))), ()))) (fun x v => r53_Within_L5_step x.1 x.2.1 x.2.2.1 x.2.2.2 v) (fun x r => .sum r (fun a0 => .ret (.inl ((cu2 (cu4 (a0, (cu2 (cu32 (cu32 ())))))), ()))) (fun b0 => .ret (.inr ((x.1, (x.2.1, (x.2.2.1, (cu4 (x.2.2.2, (cu (cu32 (cu32 ())))))))), ())))) (fun z => (z.1.1, z.1.2.1, z.1.2.2.1, z.1.2.2.2.2.2.2.2.1)) (fun z => z.1.2.2.2.2.2.2.2.2.1) (fun _ => rfl) (fun _ => rfl) (fun x r Q h => match r, h with | .inl _, h => h | .inr b0, h => (h)) ?_
  intro x v; kernel_rfl

def r53_Within_L2_step (ticks : List Int) (rate : Int) (burst : Int) (i : Int) : Tree (Int ⊕ (Bool ⊕ Unit)) :=
  .ite (decide (i < (ticks.length : Int))) (
    .bnd (.loop (fun v => r53_Within_L5_step ticks rate burst i v) 0) fun r1 =>
    .sum r1 (fun r2 =>
      .ret (.inr (.inl r2))) (fun r3 =>
      .ret (.inl (w64 (i + 1))))) (
    .ret (.inr (.inr ())))

def r53_Within_L2 : Lp := ⟨2, [], [], (.cons (.val false (.list (.int .i64))) (.cons (.val false (.int .i64)) (.cons (.val false (.int .i64)) (ca4 (.cons (.val false (.int .i64)) (ca (ca32 (ca32 .nil)))))))), .nil, 0, .more 0 [] (ca2 (ca4 (.cons (.val false .bool) (ca2 (ca32 (ca32 .nil)))))) .nil (.one 1 [] (ca (ca8 (ca32 (ca32 .nil)))) .nil), fun z => .bnd (.loop (fun v => r53_Within_L2_step z.1.1 z.1.2.1 z.1.2.2.1 v) z.1.2.2.2.2.2.2.2.1) fun r => .sum r (fun a0 => .ret (.inl ((cu2 (cu4 (a0, (cu2 (cu32 (cu32 ())))))), ()))) (fun b0 => .ret (.inr ((cu (cu8 (cu32 (cu32 ())))), ())))⟩

theorem r53_Within_L2_ok : r53_Within_L2.ok Try.prog (nthC (loopsOf (bodyOf Try.f12)) 0) := by
  refine Lp.lift (π := ((List Int) × Int × Int)) (V := Int) (ρ := (Bool ⊕ Unit)) mix tabOk r53_Within_L2 (o := orT [r30_Most_g] [r53_Within_L5] noFz) (orT_sound ⟨r30_Most_ok, trivial⟩) (allLp_of [nthC (loopsOf (nthC (loopsOf (bodyOf Try.f12)) 0)) 0] (by kernel_rfl) ⟨r53_Within_L5_ok, trivial⟩ (by kernel_rfl)) (fun x v => ((x.1, (x.2.1, (x.2.2, (cu4 (v, (cu (cu32 (cu32 ())))))))), ())) (fun x r => match r with | .inl a0 => .inl ((cu2 (cu4 (a0, (cu2 (cu32 (cu32 ())))))), ()) | .inr b0 => (.inr ((cu (cu8 (cu32 (cu32 ())))), ()))) (fun x v => r53_Within_L2_step x.1 x.2.1 x.2.2 v) (fun x r => .sum r (fun a0 => .ret (.inl ((cu2 (cu4 (a0, (cu2 (cu32 (cu32 ())))))), ()))) (fun b0 => .ret (.inr ((cu (cu8 (cu32 (cu32 ())))), ())))) (fun z => (z.1.1, z.1.2.1, z.1.2.2.1)) (fun z => z.1.2.2.2.2.2.2.2.1) (fun _ => rfl) (fun _ => rfl) (fun x r Q h => match r, h with | .inl _, h => h | .inr b0, h => (h)) ?_
  intro x v; kernel_rfl

def r53_Within_T (x0 : List Int) (x1 : Int) (x2 : Int) : Tree Bool :=
  .bnd (.loop (fun v => r53_Within_L2_step x0 x1 x2 v) 0) fun r1 =>
  .sum r1 (fun r2 =>
    .ret r2) (fun r3 =>
    .ret true)

def r53_Within_g : Sig := ⟨12, (.cons (.val false (.list (.int .i64))) (.cons (.val false (.int .i64)) (.cons (.val false (.int .i64)) .nil))), .vals (.val false .bool), fun z => r53_Within_T z.1 z.2.1 z.2.2.1, false⟩

theorem r53_Within_ok : r53_Within_g.ok Try.prog := by
  refine Sig.lift mix tabOk nms _ Try.func12 (c := (bodyOf Try.f12)) (by kernel_rfl) (o := orT [r30_Most_g] [r53_Within_L2] noFz) (orT_sound ⟨r30_Most_ok, trivial⟩) (allLp_of [nthC (loopsOf (bodyOf Try.f12)) 0] (by kernel_rfl) ⟨r53_Within_L2_ok, trivial⟩ (by kernel_rfl)) ?_
  intro z; kernel_rfl

def l53_WindowIs_T (x0 : List Int) (x1 : (Int × Bucket)) : Tree Bool :=
  .ite (decide ((30 : Int) < (x0.length : Int))) (
    .bnd l53_awake_T fun y1 =>
    .ret y1) (
    ask (inb 0 3) <|
    .bnd (window_Worst_T x0 x1.1) fun y2 =>
    ask (inb 0 3) <|
    .bnd (r53_Worst_T x0 x1.1) fun y3 =>
    ask (inb 0 3) <|
    .bnd (window_Most_T x0 x1.1) fun y4 =>
    ask (inb 0 3) <|
    .bnd (r53_Most_T x0 x1.1) fun y5 =>
    ask ((!(((decide (y4 = y5)) && (decide (y2.1 = y3.1))) && (y2.2.1 == y3.2.1))) || inb 1 3) <|
    ask ((!(((decide (y4 = y5)) && (decide (y2.1 = y3.1))) && (y2.2.1 == y3.2.1))) || inb 2 3) <|
    .grd (((decide (y4 = y5)) && (decide (y2.1 = y3.1))) && (y2.2.1 == y3.2.1)) (window_Within_T x0 x1.2.1 x1.2.2) false fun y6 =>
    ask ((!(((decide (y4 = y5)) && (decide (y2.1 = y3.1))) && (y2.2.1 == y3.2.1))) || inb 1 3) <|
    ask ((!(((decide (y4 = y5)) && (decide (y2.1 = y3.1))) && (y2.2.1 == y3.2.1))) || inb 2 3) <|
    .grd (((decide (y4 = y5)) && (decide (y2.1 = y3.1))) && (y2.2.1 == y3.2.1)) (r53_Within_T x0 x1.2.1 x1.2.2) false fun y7 =>
    .grd ((((decide (y4 = y5)) && (decide (y2.1 = y3.1))) && (y2.2.1 == y3.2.1)) && (y6 == y7)) l53_awake_T false fun y8 =>
    .ret (((((decide (y4 = y5)) && (decide (y2.1 = y3.1))) && (y2.2.1 == y3.2.1)) && (y6 == y7)) && y8))

def l53_WindowIs_g : Sig := ⟨3, (.cons (.val false (.list (.int .i64))) (.cons (.val true (.pair (.int .i64) tBucket)) .nil)), .vals (.val false .bool), fun z => l53_WindowIs_T z.1 z.2.1, false⟩

theorem l53_WindowIs_ok : l53_WindowIs_g.ok Try.prog := by
  refine Sig.lift mix tabOk nms _ Try.func3 (c := (bodyOf Try.f3)) (by kernel_rfl) (o := orT [l53_awake_g, window_Worst_g, r53_Worst_g, window_Most_g, r53_Most_g, window_Within_g, r53_Within_g] [] noFz) (orT_sound ⟨l53_awake_ok, ⟨window_Worst_ok, ⟨r53_Worst_ok, ⟨window_Most_ok, ⟨r53_Most_ok, ⟨window_Within_ok, ⟨r53_Within_ok, trivial⟩⟩⟩⟩⟩⟩⟩) (allLp_of [] (by kernel_rfl) trivial rfl) ?_
  intro z; kernel_rfl

def r06_Few_L2_step (c : List Seen) (i : Int) : Tree (Int ⊕ (Bool ⊕ Unit)) :=
  .ite ((decide (i < (c.length : Int))) && (decide (i < 12))) (
    ask (inb i c.length) <|
    ask ((!(!(decide ((100 : Int) < ((c.getD i.toNat (dfl tSeen : Seen)).1.length : Int))))) || inb i c.length) <|
    .ite ((decide ((100 : Int) < ((c.getD i.toNat (dfl tSeen : Seen)).1.length : Int))) || (decide ((40 : Int) < ((c.getD i.toNat (dfl tSeen : Seen)).2.2.length : Int)))) (
      .ret (.inr (.inl false))) (
      .ret (.inl (w64 (i + 1))))) (
    .ret (.inr (.inr ())))

def r06_Few_L2 : Lp := ⟨2, [], [], (.cons (.val false (.list tSeen)) (ca2 (.cons (.val false (.int .i64)) (ca (ca4 (ca8 (ca16 .nil))))))), .nil, 0, .more 0 [] (ca2 (.cons (.val false .bool) (ca2 (ca4 (ca8 (ca16 .nil)))))) .nil (.one 1 [] (.cons (.val false (.list tSeen)) (ca32 .nil)) .nil), fun z => .bnd (.loop (fun v => r06_Few_L2_step z.1.1 v) z.1.2.2.2.1) fun r => .sum r (fun a0 => .ret (.inl ((cu2 (a0, (cu2 (cu4 (cu8 (cu16 ())))))), ()))) (fun b0 => .ret (.inr ((z.1.1, (cu32 ())), ())))⟩

theorem r06_Few_L2_ok : r06_Few_L2.ok Try.prog (nthC (loopsOf (bodyOf Try.f26)) 0) := by
  refine Lp.lift (π := List Seen) (V := Int) (ρ := (Bool ⊕ Unit)) mix tabOk r06_Few_L2 (o := orT [] [] noFz) (orT_sound trivial) (allLp_of [] (by kernel_rfl) trivial rfl) (fun x v => ((x, (cu2 (v, (cu (cu4 (cu8 (cu16 ()))))))), ())) (fun x r => match r with | .inl a0 => .inl ((cu2 (a0, (cu2 (cu4 (cu8 (cu16 ())))))), ()) | .inr b0 => (.inr ((x, (cu32 ())), ()))) (fun x v => r06_Few_L2_step x v) (fun x r => .sum r (fun a0 => .ret (.inl ((cu2 (a0, (cu2 (cu4 (cu8 (cu16 ())))))), ()))) (fun b0 => .ret (.inr ((x, (cu32 ())), ())))) (fun z => z.1.1) (fun z => z.1.2.2.2.1) (fun _ => rfl) (fun _ => rfl) (fun x r Q h => match r, h with | .inl _, h => h | .inr b0, h => (h)) ?_
  intro x v; kernel_rfl

def r06_Few_T (x0 : List Seen) : Tree Bool :=
  .bnd (.loop (fun v => r06_Few_L2_step x0 v) 0) fun r1 =>
  .sum r1 (fun r2 =>
    .ret r2) (fun r3 =>
    .ret (decide ((x0.length : Int) ≤ 12)))

def r06_Few_g : Sig := ⟨26, (.cons (.val false (.list tSeen)) .nil), .vals (.val false .bool), fun z => r06_Few_T z.1, false⟩

theorem r06_Few_ok : r06_Few_g.ok Try.prog := by
  refine Sig.lift mix tabOk nms _ Try.func26 (c := (bodyOf Try.f26)) (by kernel_rfl) (o := orT [] [r06_Few_L2] noFz) (orT_sound trivial) (allLp_of [nthC (loopsOf (bodyOf Try.f26)) 0] (by kernel_rfl) ⟨r06_Few_L2_ok, trivial⟩ (by kernel_rfl)) ?_
  intro z; kernel_rfl

def r44_Few_L2_step (l : List Deed) (most : Int) (i : Int) : Tree (Int ⊕ (Bool ⊕ Unit)) :=
  .ite ((decide (i < (l.length : Int))) && (decide (i < most))) (
    ask (inb i l.length) <|
    .grd (!(((((decide ((100 : Int) < ((l.getD i.toNat (dfl tDeed : Deed)).1.length : Int))) || (decide ((100 : Int) < ((l.getD i.toNat (dfl tDeed : Deed)).2.1.length : Int)))) || (decide ((100 : Int) < ((l.getD i.toNat (dfl tDeed : Deed)).2.2.2.2.2.2.1.2.2.1.length : Int)))) || (decide ((100 : Int) < ((l.getD i.toNat (dfl tDeed : Deed)).2.2.2.2.2.2.1.2.2.2.1.length : Int)))) || (decide ((300 : Int) < ((l.getD i.toNat (dfl tDeed : Deed)).2.2.2.2.2.2.1.2.2.2.2.1.length : Int))))) (r06_Few_T (l.getD i.toNat (dfl tDeed : Deed)).2.2.2.2.2.2.1.2.2.2.2.2.1) false fun y1 =>
    .grd (!((((((decide ((100 : Int) < ((l.getD i.toNat (dfl tDeed : Deed)).1.length : Int))) || (decide ((100 : Int) < ((l.getD i.toNat (dfl tDeed : Deed)).2.1.length : Int)))) || (decide ((100 : Int) < ((l.getD i.toNat (dfl tDeed : Deed)).2.2.2.2.2.2.1.2.2.1.length : Int)))) || (decide ((100 : Int) < ((l.getD i.toNat (dfl tDeed : Deed)).2.2.2.2.2.2.1.2.2.2.1.length : Int)))) || (decide ((300 : Int) < ((l.getD i.toNat (dfl tDeed : Deed)).2.2.2.2.2.2.1.2.2.2.2.1.length : Int)))) || (!y1))) (r06_Few_T (l.getD i.toNat (dfl tDeed : Deed)).2.2.2.2.2.2.2.2.2.2.1) false fun y2 =>
    .ite ((((((((decide ((100 : Int) < ((l.getD i.toNat (dfl tDeed : Deed)).1.length : Int))) || (decide ((100 : Int) < ((l.getD i.toNat (dfl tDeed : Deed)).2.1.length : Int)))) || (decide ((100 : Int) < ((l.getD i.toNat (dfl tDeed : Deed)).2.2.2.2.2.2.1.2.2.1.length : Int)))) || (decide ((100 : Int) < ((l.getD i.toNat (dfl tDeed : Deed)).2.2.2.2.2.2.1.2.2.2.1.length : Int)))) || (decide ((300 : Int) < ((l.getD i.toNat (dfl tDeed : Deed)).2.2.2.2.2.2.1.2.2.2.2.1.length : Int)))) || (!y1)) || (!y2)) || (decide ((12 : Int) < ((l.getD i.toNat (dfl tDeed : Deed)).2.2.2.2.2.2.2.2.2.1.length : Int)))) (
      .ret (.inr (.inl false))) (
      .ret (.inl (w64 (i + 1))))) (
    .ret (.inr (.inr ())))

def r44_Few_L2 : Lp := ⟨2, [], [], (.cons (.val false (.list tDeed)) (.cons (.val false (.int .i64)) (ca (ca2 (.cons (.val false (.int .i64)) (ca8 (ca32 (ca32 .nil)))))))), .nil, 0, .more 0 [] (ca4 (.cons (.val false .bool) (ca (ca8 (ca32 (ca32 .nil)))))) .nil (.one 1 [] (.cons (.val false (.list tDeed)) (.cons (.val false (.int .i64)) (ca4 (ca8 (ca32 (ca32 .nil)))))) .nil), fun z => .bnd (.loop (fun v => r44_Few_L2_step z.1.1 z.1.2.1 v) z.1.2.2.2.2.2.1) fun r => .sum r (fun a0 => .ret (.inl ((cu4 (a0, (cu (cu8 (cu32 (cu32 ())))))), ()))) (fun b0 => .ret (.inr ((z.1.1, (z.1.2.1, (cu4 (cu8 (cu32 (cu32 ())))))), ())))⟩

theorem r44_Few_L2_ok : r44_Few_L2.ok Try.prog (nthC (loopsOf (bodyOf Try.f13)) 0) := by
  refine Lp.lift (π := ((List Deed) × Int)) (V := Int) (ρ := (Bool ⊕ Unit)) mix tabOk r44_Few_L2 (o := orT [r06_Few_g] [] noFz) (orT_sound ⟨r06_Few_ok, trivial⟩) (allLp_of [] (by kernel_rfl) trivial rfl) (fun x v => ((x.1, (x.2, (cu (cu2 (v, (cu8 (cu32 (cu32 ())))))))), ())) (fun x r => match r with | .inl a0 => .inl ((cu4 (a0, (cu (cu8 (cu32 (cu32 ())))))), ()) | .inr b0 => (.inr ((x.1, (x.2, (cu4 (cu8 (cu32 (cu32 ())))))), ()))) (fun x v => r44_Few_L2_step x.1 x.2 v) (fun x r => .sum r (fun a0 => .ret (.inl ((cu4 (a0, (cu (cu8 (cu32 (cu32 ())))))), ()))) (fun b0 => .ret (.inr ((x.1, (x.2, (cu4 (cu8 (cu32 (cu32 ())))))), ())))) (fun z => (z.1.1, z.1.2.1)) (fun z => z.1.2.2.2.2.2.1) (fun _ => rfl) (fun _ => rfl) (fun x r Q h => match r, h with | .inl _, h => h | .inr b0, h => (h)) ?_
  intro x v; kernel_rfl

def r44_Few_T (x0 : List Deed) (x1 : Int) : Tree Bool :=
  .bnd (.loop (fun v => r44_Few_L2_step x0 x1 v) 0) fun r1 =>
  .sum r1 (fun r2 =>
    .ret r2) (fun r3 =>
    .ret (decide ((x0.length : Int) ≤ x1)))

def r44_Few_g : Sig := ⟨13, (.cons (.val false (.list tDeed)) (.cons (.val false (.int .i64)) .nil)), .vals (.val false .bool), fun z => r44_Few_T z.1 z.2.1, false⟩

theorem r44_Few_ok : r44_Few_g.ok Try.prog := by
  refine Sig.lift mix tabOk nms _ Try.func13 (c := (bodyOf Try.f13)) (by kernel_rfl) (o := orT [r06_Few_g] [r44_Few_L2] noFz) (orT_sound ⟨r06_Few_ok, trivial⟩) (allLp_of [nthC (loopsOf (bodyOf Try.f13)) 0] (by kernel_rfl) ⟨r44_Few_L2_ok, trivial⟩ (by kernel_rfl)) ?_
  intro z; kernel_rfl

def r53_Let_L3_step (l : List Deed) (node : Str) (lane : Str) (i : Int) (out : List Int) : Tree ((Int × (List Int)) ⊕ (List Int)) :=
  .ite (decide (i < (l.length : Int))) (
    ask (inb i l.length) <|
    ask (inb i l.length) <|
    ask (inb i l.length) <|
    ask ((!((l.getD i.toNat (dfl tDeed : Deed)).1 == node)) || inb i l.length) <|
    .ite ((((l.getD i.toNat (dfl tDeed : Deed)).1 == node) && ((l.getD i.toNat (dfl tDeed : Deed)).2.1 == lane)) && (!((l.getD i.toNat (dfl tDeed : Deed)).2.2.2.2.2.2.2.1 && (((((decide ((l.getD i.toNat (dfl tDeed : Deed)).2.2.2.2.2.2.2.2.1 = 1)) || (decide ((l.getD i.toNat (dfl tDeed : Deed)).2.2.2.2.2.2.2.2.1 = 7))) || (decide ((l.getD i.toNat (dfl tDeed : Deed)).2.2.2.2.2.2.2.2.1 = 8))) || (decide ((l.getD i.toNat (dfl tDeed : Deed)).2.2.2.2.2.2.2.2.1 = 11))) || (decide ((l.getD i.toNat (dfl tDeed : Deed)).2.2.2.2.2.2.2.2.1 = 9)))))) (
      ask (inb i l.length) <|
      ask (decide ((out ++ [(l.getD i.toNat (dfl tDeed : Deed)).2.2.2.2.2.1]).length * 8 ≤ roomNat)) <|
      .ret (.inl ((w64 (i + 1)), (out ++ [(l.getD i.toNat (dfl tDeed : Deed)).2.2.2.2.2.1])))) (
      .ret (.inl ((w64 (i + 1)), out)))) (
    .ret (.inr out))

def r53_Let_L3 : Lp := ⟨3, [.own 7 3 (.int .i64)], [], (.cons (.val false (.list tDeed)) (.cons (.val false .str) (.cons (.val false .str) (ca4 (.cons (.own 0) (.cons (.val false (.int .i64)) (ca4 (ca32 (ca32 .nil))))))))), (.rows 3 (.int .i64) .nil), 0, .one 1 [] (ca (ca2 (ca4 (.cons (.own 0) (ca (ca4 (ca32 (ca32 .nil)))))))) (.rows 3 (.int .i64) .nil), fun z => .bnd (.loop (fun v => r53_Let_L3_step z.1.1 z.1.2.1 z.1.2.2.1 v.1 v.2) (z.1.2.2.2.2.2.2.2.2.1, z.2.1)) fun r => .ret ((cu (cu2 (cu4 ((), (cu (cu4 (cu32 (cu32 ())))))))), (r, ()))⟩

theorem r53_Let_L3_ok : r53_Let_L3.ok Try.prog (nthC (loopsOf (bodyOf Try.f16)) 0) := by
  refine Lp.lift (π := ((List Deed) × Str × Str)) (V := (Int × (List Int))) (ρ := List Int) mix tabOk r53_Let_L3 (o := orT [] [] noFz) (orT_sound trivial) (allLp_of [] (by kernel_rfl) trivial rfl) (fun x v => ((x.1, (x.2.1, (x.2.2, (cu4 ((), (v.1, (cu4 (cu32 (cu32 ()))))))))), (v.2, ()))) (fun x r => ((cu (cu2 (cu4 ((), (cu (cu4 (cu32 (cu32 ())))))))), (r, ()))) (fun x v => r53_Let_L3_step x.1 x.2.1 x.2.2 v.1 v.2) (fun x r => .ret ((cu (cu2 (cu4 ((), (cu (cu4 (cu32 (cu32 ())))))))), (r, ()))) (fun z => (z.1.1, z.1.2.1, z.1.2.2.1)) (fun z => (z.1.2.2.2.2.2.2.2.2.1, z.2.1)) (fun _ => rfl) (fun _ => rfl) (fun _ _ _ h => h) ?_
  intro x v; kernel_rfl

def r53_Let_T (x0 : List Deed) (x1 : Str) (x2 : Str) : Tree (List Int) :=
  .bnd (.loop (fun v => r53_Let_L3_step x0 x1 x2 v.1 v.2) (0, ([] : List Int))) fun r1 =>
  .ret r1

def r53_Let_g : Sig := ⟨16, (.cons (.val false (.list tDeed)) (.cons (.val false .str) (.cons (.val false .str) .nil))), .fresh 3 (.int .i64), fun z => r53_Let_T z.1 z.2.1 z.2.2.1, ([] : List Int)⟩

theorem r53_Let_ok : r53_Let_g.ok Try.prog := by
  refine Sig.lift mix tabOk nms _ Try.func16 (c := (bodyOf Try.f16)) (by kernel_rfl) (o := orT [] [r53_Let_L3] noFz) (orT_sound trivial) (allLp_of [nthC (loopsOf (bodyOf Try.f16)) 0] (by kernel_rfl) ⟨r53_Let_L3_ok, trivial⟩ (by kernel_rfl)) ?_
  intro z; kernel_rfl

def r53_Let_gv : Sig := ⟨16, (.cons (.val false (.list tDeed)) (.cons (.val false .str) (.cons (.val false .str) .nil))), .vals (.val false (.list (.int .i64))), fun z => r53_Let_T z.1 z.2.1 z.2.2.1, ([] : List Int)⟩

theorem r53_Let_okv : r53_Let_gv.ok Try.prog := fun x y h => acalls_val (r53_Let_ok x y h)

def l53_WindowLet_T (x0 : List Deed) (x1 : Str) (x2 : Str) : Tree Bool :=
  .bnd (r44_Few_T x0 14) fun y1 =>
  .ite (((!y1) || (decide ((100 : Int) < (x1.length : Int)))) || (decide ((100 : Int) < (x2.length : Int)))) (
    .bnd l53_awake_T fun y2 =>
    .ret y2) (
    .bnd (window_Let_T x0 x1 x2) fun y3 =>
    .bnd (r53_Let_T x0 x1 x2) fun y4 =>
    .bnd (r06_SameInts_T y3 y4) fun y5 =>
    .grd y5 l53_awake_T false fun y6 =>
    .ret (y5 && y6))

def l53_WindowLet_g : Sig := ⟨4, (.cons (.val false (.list tDeed)) (.cons (.val false .str) (.cons (.val false .str) .nil))), .vals (.val false .bool), fun z => l53_WindowLet_T z.1 z.2.1 z.2.2.1, false⟩

theorem l53_WindowLet_ok : l53_WindowLet_g.ok Try.prog := by
  refine Sig.lift mix tabOk nms _ Try.func4 (c := (bodyOf Try.f4)) (by kernel_rfl) (o := orT [r44_Few_g, l53_awake_g, window_Let_g, r53_Let_g, r06_SameInts_g] [] noFz) (orT_sound ⟨r44_Few_ok, ⟨l53_awake_ok, ⟨window_Let_ok, ⟨r53_Let_ok, ⟨r06_SameInts_ok, trivial⟩⟩⟩⟩⟩) (allLp_of [] (by kernel_rfl) trivial rfl) ?_
  intro z; kernel_rfl

def r30_Full_T (x0 : Int) (x1 : Int) : Tree Bucket :=
  .bnd (r30_in_T x1 1048576) fun y1 =>
  .bnd (r30_in_T x0 1099511627776) fun y2 =>
  .ret (y1, y2)

def r30_Full_g : Sig := ⟨17, (.cons (.val false (.int .i64)) (.cons (.val false (.int .i64)) .nil)), .vals (.val true tBucket), fun z => r30_Full_T z.1 z.2.1, (dfl tBucket : Bucket)⟩

theorem r30_Full_ok : r30_Full_g.ok Try.prog := by
  refine Sig.lift mix tabOk nms _ Try.func17 (c := (bodyOf Try.f17)) (by kernel_rfl) (o := orT [r30_in_g] [] noFz) (orT_sound ⟨r30_in_ok, trivial⟩) (allLp_of [] (by kernel_rfl) trivial rfl) ?_
  intro z; kernel_rfl

def r30_Fill_T (x0 : Bucket) (x1 : Int) (x2 : Int) (x3 : Int) : Tree Bucket :=
  .bnd (r30_in_T x0.1 1048576) fun y1 =>
  .bnd (r30_in_T x0.2 1099511627776) fun y2 =>
  .bnd (r30_in_T x1 1099511627776) fun y3 =>
  .ite (decide (y2 < y3)) (
    .bnd (r30_in_T x2 1048576) fun y4 =>
    .bnd (r30_in_T x3 1048576) fun y5 =>
    .ret ((std.imin (w64 (y1 + (w64 ((w64 (y3 - y2)) * y4)))) y5), y3)) (
    .bnd (r30_in_T x3 1048576) fun y6 =>
    .ret ((std.imin y1 y6), y2))

def r30_Fill_g : Sig := ⟨29, (.cons (.val true tBucket) (.cons (.val false (.int .i64)) (.cons (.val false (.int .i64)) (.cons (.val false (.int .i64)) .nil)))), .vals (.val true tBucket), fun z => r30_Fill_T z.1 z.2.1 z.2.2.1 z.2.2.2.1, (dfl tBucket : Bucket)⟩

theorem r30_Fill_ok : r30_Fill_g.ok Try.prog := by
  refine Sig.lift mix tabOk nms _ Try.func29 (c := (bodyOf Try.f29)) (by kernel_rfl) (o := orT [r30_in_g] [] noFz) (orT_sound ⟨r30_in_ok, trivial⟩) (allLp_of [] (by kernel_rfl) trivial rfl) ?_
  intro z; kernel_rfl

def r30_Take_T (x0 : Bucket) (x1 : Int) (x2 : Int) (x3 : Int) : Tree (Bucket × Bool × Unit) :=
  .bnd (r30_Fill_T x0 x1 x2 x3) fun y1 =>
  .ite (decide (y1.1 = 0)) (
    .ret (y1, false, ())) (
    .ret (((w64 (y1.1 - 1)), y1.2), true, ()))

def r30_Take_g : Sig := ⟨18, (.cons (.val true tBucket) (.cons (.val false (.int .i64)) (.cons (.val false (.int .i64)) (.cons (.val false (.int .i64)) .nil)))), .vals (.cons (.val true tBucket) (.cons (.val false .bool) .nil)), fun z => r30_Take_T z.1 z.2.1 z.2.2.1 z.2.2.2.1, ((dfl tBucket : Bucket), false, ())⟩

theorem r30_Take_ok : r30_Take_g.ok Try.prog := by
  refine Sig.lift mix tabOk nms _ Try.func18 (c := (bodyOf Try.f18)) (by kernel_rfl) (o := orT [r30_Fill_g] [] noFz) (orT_sound ⟨r30_Fill_ok, trivial⟩) (allLp_of [] (by kernel_rfl) trivial rfl) ?_
  intro z; kernel_rfl

def l53_WindowWider_L5_step (l : List Int) (n : Int) (widths : (Int × Int)) (i : Int) (ticks : List Int) : Tree ((Int × (List Int)) ⊕ (List Int)) :=
  .ite (decide (i < (l.length : Int))) (
    ask (inb i l.length) <|
    ask (decide ((ticks ++ [(w64 ((l.getD i.toNat (0 : Int))))]).length * 8 ≤ roomNat)) <|
    .ret (.inl ((w64 (i + 1)), (ticks ++ [(w64 ((l.getD i.toNat (0 : Int))))])))) (
    .ret (.inr ticks))

def l53_WindowWider_L5 : Lp := ⟨5, [.own 7 3 (.int .i64)], [], (.cons (.val false (.list (.int .u8))) (ca (.cons (.val false (.int .u8)) (ca (.cons (.ref 0 0) (ca2 (.cons (.own 1) (.cons (.val false (.int .i64)) (ca (ca2 (ca8 (ca32 (ca32 (ca32 .nil)))))))))))))), (.cells 36 (.cons (.flat (.pair (.int .u8) (.int .u8))) .nil) (.rows 3 (.int .i64) .nil)), 0, .one 1 [] (.cons (.val false (.list (.int .u8))) (ca (.cons (.val false (.int .u8)) (ca (.cons (.ref 0 0) (ca2 (.cons (.own 1) (ca4 (ca8 (ca32 (ca32 (ca32 .nil)))))))))))) (.cells 36 (.cons (.flat (.pair (.int .u8) (.int .u8))) .nil) (.rows 3 (.int .i64) .nil)), fun z => .bnd (.loop (fun v => l53_WindowWider_L5_step z.1.1 z.1.2.2.1 z.2.1.1 v.1 v.2) (z.1.2.2.2.2.2.2.2.2.1, z.2.2.1)) fun r => .ret ((z.1.1, (cu (z.1.2.2.1, (cu ((), (cu2 ((), (cu4 (cu8 (cu32 (cu32 (cu32 ())))))))))))), ((z.2.1.1, ()), (r, ())))⟩

theorem l53_WindowWider_L5_ok : l53_WindowWider_L5.ok Try.prog (nthC (loopsOf (bodyOf Try.f5)) 0) := by
  refine Lp.lift (π := ((List Int) × Int × (Int × Int))) (V := (Int × (List Int))) (ρ := List Int) mix tabOk l53_WindowWider_L5 (o := orT [l53_awake_g, window_Most_g, r30_Full_g, r30_Take_g, window_Within_g] [] noFz) (orT_sound ⟨l53_awake_ok, ⟨window_Most_ok, ⟨r30_Full_ok, ⟨r30_Take_ok, ⟨window_Within_ok, trivial⟩⟩⟩⟩⟩) (allLp_of [] (by kernel_rfl) trivial rfl) (fun x v => ((x.1, (cu (x.2.1, (cu ((), (cu2 ((), (v.1, (cu (cu2 (cu8 (cu32 (cu32 (cu32 ())))))))))))))), ((x.2.2, ()), (v.2, ())))) (fun x r => ((x.1, (cu (x.2.1, (cu ((), (cu2 ((), (cu4 (cu8 (cu32 (cu32 (cu32 ())))))))))))), ((x.2.2, ()), (r, ())))) (fun x v => l53_WindowWider_L5_step x.1 x.2.1 x.2.2 v.1 v.2) (fun x r => .ret ((x.1, (cu (x.2.1, (cu ((), (cu2 ((), (cu4 (cu8 (cu32 (cu32 (cu32 ())))))))))))), ((x.2.2, ()), (r, ())))) (fun z => (z.1.1, z.1.2.2.1, z.2.1.1)) (fun z => (z.1.2.2.2.2.2.2.2.2.1, z.2.2.1)) (fun _ => rfl) (fun _ => rfl) (fun _ _ _ h => h) ?_
  intro x v; kernel_rfl

def l53_WindowWider_L16_step (l : List Int) (rate : Int) (burst : Int) (now : Int) (i : Int) (bucket : Bucket) (let_ : List Int) : Tree ((Int × Int × Bucket × (List Int)) ⊕ (List Int)) :=
  .ite (decide (i < (l.length : Int))) (
    ask (inb i l.length) <|
    .bnd (r30_Take_T bucket (w64 (now + (w64 ((stdArith .and .u8 (l.getD i.toNat (0 : Int)) 7))))) rate burst) fun y1 =>
    .ite y1.2.1 (
      ask (decide ((let_ ++ [(w64 (now + (w64 ((stdArith .and .u8 (l.getD i.toNat (0 : Int)) 7)))))]).length * 8 ≤ roomNat)) <|
      .ret (.inl ((w64 (now + (w64 ((stdArith .and .u8 (l.getD i.toNat (0 : Int)) 7))))), (w64 (i + 1)), y1.1, (let_ ++ [(w64 (now + (w64 ((stdArith .and .u8 (l.getD i.toNat (0 : Int)) 7)))))])))) (
      .ret (.inl ((w64 (now + (w64 ((stdArith .and .u8 (l.getD i.toNat (0 : Int)) 7))))), (w64 (i + 1)), y1.1, let_)))) (
    .ret (.inr let_))

def l53_WindowWider_L16 : Lp := ⟨16, [.own 15 3 (.int .i64)], [], (.cons (.val false (.list (.int .u8))) (ca2 (ca8 (.cons (.val false (.int .i64)) (.cons (.val false (.int .i64)) (.cons (.ref 2 0) (.cons (.val false (.int .i64)) (.cons (.own 3) (.cons (.val false (.int .i64)) (ca (ca2 (ca32 (ca32 (ca32 .nil)))))))))))))), (.cells 36 (ca2 .nil) (.dead (.cells 39 (.cons (.flat tBucket) .nil) (.rows 3 (.int .i64) .nil)))), 0, .one 3 [] (ca (ca2 (ca8 (.cons (.val false (.int .i64)) (.cons (.val false (.int .i64)) (ca2 (.cons (.own 3) (ca4 (ca32 (ca32 (ca32 .nil))))))))))) (.cells 36 (ca2 .nil) (.dead (.cells 39 (ca2 .nil) (.rows 3 (.int .i64) .nil)))), fun z => .bnd (.loop (fun v => l53_WindowWider_L16_step z.1.1 z.1.2.2.2.2.2.2.2.2.2.2.2.1 z.1.2.2.2.2.2.2.2.2.2.2.2.2.1 v.1 v.2.1 v.2.2.1 v.2.2.2) (z.1.2.2.2.2.2.2.2.2.2.2.2.2.2.2.1, z.1.2.2.2.2.2.2.2.2.2.2.2.2.2.2.2.2.1, z.2.2.1.1, z.2.2.2.1)) fun r => .ret ((cu (cu2 (cu8 (z.1.2.2.2.2.2.2.2.2.2.2.2.1, (z.1.2.2.2.2.2.2.2.2.2.2.2.2.1, (cu2 ((), (cu4 (cu32 (cu32 (cu32 ()))))))))))), ((cu2 ()), ((cu2 ()), (r, ()))))⟩

theorem l53_WindowWider_L16_ok : l53_WindowWider_L16.ok Try.prog (nthC (loopsOf (bodyOf Try.f5)) 1) := by
  refine Lp.lift (π := ((List Int) × Int × Int)) (V := (Int × Int × Bucket × (List Int))) (ρ := List Int) mix tabOk l53_WindowWider_L16 (o := orT [l53_awake_g, window_Most_g, r30_Full_g, r30_Take_g, window_Within_g] [] noFz) (orT_sound ⟨l53_awake_ok, ⟨window_Most_ok, ⟨r30_Full_ok, ⟨r30_Take_ok, ⟨window_Within_ok, trivial⟩⟩⟩⟩⟩) (allLp_of [] (by kernel_rfl) trivial rfl) (fun x v => ((x.1, (cu2 (cu8 (x.2.1, (x.2.2, ((), (v.1, ((), (v.2.1, (cu (cu2 (cu32 (cu32 (cu32 ())))))))))))))), ((cu2 ()), ((v.2.2.1, ()), (v.2.2.2, ()))))) (fun x r => ((cu (cu2 (cu8 (x.2.1, (x.2.2, (cu2 ((), (cu4 (cu32 (cu32 (cu32 ()))))))))))), ((cu2 ()), ((cu2 ()), (r, ()))))) (fun x v => l53_WindowWider_L16_step x.1 x.2.1 x.2.2 v.1 v.2.1 v.2.2.1 v.2.2.2) (fun x r => .ret ((cu (cu2 (cu8 (x.2.1, (x.2.2, (cu2 ((), (cu4 (cu32 (cu32 (cu32 ()))))))))))), ((cu2 ()), ((cu2 ()), (r, ()))))) (fun z => (z.1.1, z.1.2.2.2.2.2.2.2.2.2.2.2.1, z.1.2.2.2.2.2.2.2.2.2.2.2.2.1)) (fun z => (z.1.2.2.2.2.2.2.2.2.2.2.2.2.2.2.1, z.1.2.2.2.2.2.2.2.2.2.2.2.2.2.2.2.2.1, z.2.2.1.1, z.2.2.2.1)) (fun _ => rfl) (fun _ => rfl) (fun _ _ _ h => h) ?_
  intro x v; kernel_rfl

def l53_WindowWider_T (x0 : List Int) (x1 : (Int × Int)) (x2 : Int) : Tree Bool :=
  .ite (decide ((30 : Int) < (x0.length : Int))) (
    .bnd l53_awake_T fun y1 =>
    .ret y1) (
    .bnd (.loop (fun v => l53_WindowWider_L5_step x0 x2 x1 v.1 v.2) (0, ([] : List Int))) fun r2 =>
    ask (inb 0 2) <|
    ask (inb 1 2) <|
    ask (inb 0 2) <|
    ask (inb 1 2) <|
    .bnd (window_Most_T r2 (w64 ((std.imin x1.1 x1.2)))) fun y3 =>
    .bnd (window_Most_T r2 (w64 ((std.imax x1.1 x1.2)))) fun y4 =>
    .grd (!(decide (y4 < y3))) (window_Most_T r2 255) (0 : Int) fun y5 =>
    .grd ((!((decide (y4 < y3)) || (!decide (y5 = (r2.length : Int))))) && (decide ((0 : Int) < (r2.length : Int)))) (window_Most_T r2 (-1)) (0 : Int) fun y6 =>
    .ite (((decide (y4 < y3)) || (!decide (y5 = (r2.length : Int)))) || ((decide ((0 : Int) < (r2.length : Int))) && (decide (y6 < 1)))) (
      .ret false) (
      ask (decide ((0 : Int) ≤ 4)) <|
      .bnd (r30_Full_T 0 (w64 ((stdShift .shr .u8 x2 4)))) fun y7 =>
      .bnd (.loop (fun v => l53_WindowWider_L16_step x0 (w64 ((stdArith .and .u8 x2 15))) (w64 ((stdShift .shr .u8 x2 4))) v.1 v.2.1 v.2.2.1 v.2.2.2) (0, 0, y7, ([] : List Int))) fun r8 =>
      .bnd (window_Within_T r8 (w64 ((stdArith .and .u8 x2 15))) (w64 ((stdShift .shr .u8 x2 4)))) fun y9 =>
      .grd y9 l53_awake_T false fun y10 =>
      .ret (y9 && y10)))

def l53_WindowWider_g : Sig := ⟨5, (.cons (.val false (.list (.int .u8))) (.cons (.val true (.pair (.int .u8) (.int .u8))) (.cons (.val false (.int .u8)) .nil))), .vals (.val false .bool), fun z => l53_WindowWider_T z.1 z.2.1 z.2.2.1, false⟩

theorem l53_WindowWider_ok : l53_WindowWider_g.ok Try.prog := by
  refine Sig.lift mix tabOk nms _ Try.func5 (c := (bodyOf Try.f5)) (by kernel_rfl) (o := orT [l53_awake_g, window_Most_g, r30_Full_g, r30_Take_g, window_Within_g] [l53_WindowWider_L5, l53_WindowWider_L16] noFz) (orT_sound ⟨l53_awake_ok, ⟨window_Most_ok, ⟨r30_Full_ok, ⟨r30_Take_ok, ⟨window_Within_ok, trivial⟩⟩⟩⟩⟩) (allLp_of [nthC (loopsOf (bodyOf Try.f5)) 0, nthC (loopsOf (bodyOf Try.f5)) 1] (by kernel_rfl) ⟨l53_WindowWider_L5_ok, ⟨l53_WindowWider_L16_ok, trivial⟩⟩ (by kernel_rfl)) ?_
  intro z; kernel_rfl

end Go.Eng
