/- Lifted: 59 functions, part 1. -/
import Derived.Test.YtmpnhffnkbpcfaaTrG
import Derived.Test.YtmpnhffnkbpcfaaTrF
import Derived.Test.YtmpnhffnkbpcfaaEngT
namespace Go.Eng
open Go Go.Proofs
set_option maxRecDepth 100000
abbrev Reg : Type := (Int × (Str × Str))
abbrev tReg : Ty := (.pair (.int .i64) (.pair .str .str))

abbrev Entry : Type := (Str × Reg)
abbrev tEntry : Ty := (.pair .str tReg)

def r09_Few_T (x0 : Reg) : Tree Bool :=
  .ret ((decide ((x0.2.1.length : Int) ≤ 100)) && (decide ((x0.2.2.length : Int) ≤ 300)))

def r09_Few_g : Sig := ⟨26, (.cons (.val true tReg) .nil), .vals (.val false .bool), fun z => r09_Few_T z.1, false⟩

theorem r09_Few_ok : r09_Few_g.ok Try.prog := by
  refine Sig.lift mix tabOk nms _ Try.func26 (c := (bodyOf Try.f26)) (by kernel_rfl) (o := orT [] [] noFz) (orT_sound trivial) (allLp_of [] (by kernel_rfl) trivial rfl) ?_
  intro z; kernel_rfl

def r10_Few_L2_step (l : List Entry) (most : Int) (i : Int) : Tree (Int ⊕ (Bool ⊕ Unit)) :=
  .ite ((decide (i < (l.length : Int))) && (decide (i < most))) (
    ask (inb i l.length) <|
    ask ((!(!(decide ((200 : Int) < ((l.getD i.toNat (dfl tEntry : Entry)).1.length : Int))))) || inb i l.length) <|
    .grd (!(decide ((200 : Int) < ((l.getD i.toNat (dfl tEntry : Entry)).1.length : Int)))) (r09_Few_T (l.getD i.toNat (dfl tEntry : Entry)).2) false fun y1 =>
    .ite ((decide ((200 : Int) < ((l.getD i.toNat (dfl tEntry : Entry)).1.length : Int))) || (!y1)) (
      .ret (.inr (.inl false))) (
      .ret (.inl (w64 (i + 1))))) (
    .ret (.inr (.inr ())))

def r10_Few_L2 : Lp := ⟨2, [], [], (.cons (.val false (.list tEntry)) (.cons (.val false (.int .i64)) (ca (ca2 (.cons (.val false (.int .i64)) (ca (ca2 (ca4 (ca8 (ca16 .nil)))))))))), .nil, 0, .more 0 [] (ca4 (.cons (.val false .bool) (ca32 .nil))) .nil (.one 1 [] (.cons (.val false (.list tEntry)) (.cons (.val false (.int .i64)) (ca (ca2 (ca32 .nil))))) .nil), fun z => .bnd (.loop (fun v => r10_Few_L2_step z.1.1 z.1.2.1 v) z.1.2.2.2.2.2.1) fun r => .sum r (fun a0 => .ret (.inl ((cu4 (a0, (cu32 ()))), ()))) (fun b0 => .ret (.inr ((z.1.1, (z.1.2.1, (cu (cu2 (cu32 ()))))), ())))⟩

theorem r10_Few_L2_ok : r10_Few_L2.ok Try.prog (nthC (loopsOf (bodyOf Try.f7)) 0) := by
  refine Lp.lift (π := ((List Entry) × Int)) (V := Int) (ρ := (Bool ⊕ Unit)) mix tabOk r10_Few_L2 (o := orT [r09_Few_g] [] noFz) (orT_sound ⟨r09_Few_ok, trivial⟩) (allLp_of [] (by kernel_rfl) trivial rfl) (fun x v => ((x.1, (x.2, (cu (cu2 (v, (cu (cu2 (cu4 (cu8 (cu16 ())))))))))), ())) (fun x r => match r with | .inl a0 => .inl ((cu4 (a0, (cu32 ()))), ()) | .inr b0 => (.inr ((x.1, (x.2, (cu (cu2 (cu32 ()))))), ()))) (fun x v => r10_Few_L2_step x.1 x.2 v) (fun x r => .sum r (fun a0 => .ret (.inl ((cu4 (a0, (cu32 ()))), ()))) (fun b0 => .ret (.inr ((x.1, (x.2, (cu (cu2 (cu32 ()))))), ())))) (fun z => (z.1.1, z.1.2.1)) (fun z => z.1.2.2.2.2.2.1) (fun _ => rfl) (fun _ => rfl) (fun x r Q h => match r, h with | .inl _, h => h | .inr b0, h => (h)) ?_
  intro x v; kernel_rfl

def r10_Few_T (x0 : List Entry) (x1 : Int) : Tree Bool :=
  .bnd (.loop (fun v => r10_Few_L2_step x0 x1 v) 0) fun r1 =>
  .sum r1 (fun r2 =>
    .ret r2) (fun r3 =>
    .ret (decide ((x0.length : Int) ≤ x1)))

def r10_Few_g : Sig := ⟨7, (.cons (.val false (.list tEntry)) (.cons (.val false (.int .i64)) .nil)), .vals (.val false .bool), fun z => r10_Few_T z.1 z.2.1, false⟩

theorem r10_Few_ok : r10_Few_g.ok Try.prog := by
  refine Sig.lift mix tabOk nms _ Try.func7 (c := (bodyOf Try.f7)) (by kernel_rfl) (o := orT [r09_Few_g] [r10_Few_L2] noFz) (orT_sound ⟨r09_Few_ok, trivial⟩) (allLp_of [nthC (loopsOf (bodyOf Try.f7)) 0] (by kernel_rfl) ⟨r10_Few_L2_ok, trivial⟩ (by kernel_rfl)) ?_
  intro z; kernel_rfl

def name_isLetter_T (x0 : Int) : Tree Bool :=
  .ret ((((decide ((97 : Int) ≤ x0)) && (decide (x0 ≤ 122))) || ((decide ((48 : Int) ≤ x0)) && (decide (x0 ≤ 57)))) || (decide (x0 = 45)))

def name_isLetter_g : Sig := ⟨57, (.cons (.val false (.int .i32)) .nil), .vals (.val false .bool), fun z => name_isLetter_T z.1, false⟩

theorem name_isLetter_ok : name_isLetter_g.ok Try.prog := by
  refine Sig.lift mix tabOk nms _ Try.func57 (c := (bodyOf Try.f57)) (by kernel_rfl) (o := orT [] [] noFz) (orT_sound trivial) (allLp_of [] (by kernel_rfl) trivial rfl) ?_
  intro z; kernel_rfl

def name_Is_L4_step (str : Str) (pos : Nat) : Tree (Nat ⊕ (Bool ⊕ Unit)) :=
  .ite (decide ((pos : Int) < (str.length : Int))) (
    ask (decide ((pos : Int) < (str.length : Int))) <|
    .bnd (name_isLetter_T (std.rune str pos)) fun y1 =>
    .ite (!y1) (
      .ret (.inr (.inl false))) (
      .ret (.inl (std.npos str pos)))) (
    .ret (.inr (.inr ())))

def name_Is_L4 : Lp := ⟨4, [], [], (ca (ca4 (ca8 (.cons (.ref 0 0) (ca2 (ca4 .nil)))))), (.siter .nil), 0, .more 0 [] (ca2 (.cons (.val false .bool) (ca (ca16 .nil)))) .nil (.one 1 [] (ca4 (ca16 .nil)) .nil), fun z => .bnd (.loop (fun v => name_Is_L4_step z.2.1.1 v) z.2.1.2) fun r => .sum r (fun a0 => .ret (.inl ((cu2 (a0, (cu (cu16 ())))), ()))) (fun b0 => .ret (.inr ((cu4 (cu16 ())), ())))⟩

theorem name_Is_L4_ok : name_Is_L4.ok Try.prog (nthC (loopsOf (bodyOf Try.f52)) 0) := by
  refine Lp.lift (π := Str) (V := Nat) (ρ := (Bool ⊕ Unit)) mix tabOk name_Is_L4 (o := orT [name_isLetter_g] [] noFz) (orT_sound ⟨name_isLetter_ok, trivial⟩) (allLp_of [] (by kernel_rfl) trivial rfl) (fun x v => ((cu (cu4 (cu8 ((), (cu2 (cu4 ())))))), ((x, v), ()))) (fun x r => match r with | .inl a0 => .inl ((cu2 (a0, (cu (cu16 ())))), ()) | .inr b0 => (.inr ((cu4 (cu16 ())), ()))) (fun x v => name_Is_L4_step x v) (fun x r => .sum r (fun a0 => .ret (.inl ((cu2 (a0, (cu (cu16 ())))), ()))) (fun b0 => .ret (.inr ((cu4 (cu16 ())), ())))) (fun z => z.2.1.1) (fun z => z.2.1.2) (fun _ => rfl) (fun _ => rfl) (fun x r Q h => match r, h with | .inl _, h => h | .inr b0, h => (h)) ?_
  intro x v; kernel_rfl

def name_Is_T (x0 : Str) : Tree Bool :=
  .ite ((x0 == ([] : Str)) || (decide ((16 : Int) < (x0.length : Int)))) (
    .ret false) (
    .bnd (.loop (fun v => name_Is_L4_step x0 v) 0) fun r1 =>
    .sum r1 (fun r2 =>
      .ret r2) (fun r3 =>
      .ret true))

def name_Is_g : Sig := ⟨52, (.cons (.val false .str) .nil), .vals (.val false .bool), fun z => name_Is_T z.1, false⟩

theorem name_Is_ok : name_Is_g.ok Try.prog := by
  refine Sig.lift mix tabOk nms _ Try.func52 (c := (bodyOf Try.f52)) (by kernel_rfl) (o := orT [name_isLetter_g] [name_Is_L4] noFz) (orT_sound ⟨name_isLetter_ok, trivial⟩) (allLp_of [nthC (loopsOf (bodyOf Try.f52)) 0] (by kernel_rfl) ⟨name_Is_L4_ok, trivial⟩ (by kernel_rfl)) ?_
  intro z; kernel_rfl

def register_Check_T (x0 : Reg) : Tree Int :=
  .grd ((!((decide (x0.1 < 1)) || (decide ((9007199254740992 : Int) < x0.1)))) && (!(x0.2.1 == ([] : Str)))) (name_Is_T x0.2.1) false fun y1 =>
  .ite ((((decide (x0.1 < 1)) || (decide ((9007199254740992 : Int) < x0.1))) || ((!(x0.2.1 == ([] : Str))) && (!y1))) || (decide ((256 : Int) < (x0.2.2.length : Int)))) (
    .ret 1) (
    .ret 0)

def register_Check_g : Sig := ⟨45, (.cons (.val true tReg) .nil), .vals (.val false (.int .i64)), fun z => register_Check_T z.1, (0 : Int)⟩

theorem register_Check_ok : register_Check_g.ok Try.prog := by
  refine Sig.lift mix tabOk nms _ Try.func45 (c := (bodyOf Try.f45)) (by kernel_rfl) (o := orT [name_Is_g] [] noFz) (orT_sound ⟨name_Is_ok, trivial⟩) (allLp_of [] (by kernel_rfl) trivial rfl) ?_
  intro z; kernel_rfl

def registry_isEntry_T (x0 : Entry) : Tree Bool :=
  .grd ((!(x0.1 == ([] : Str))) && (decide ((x0.1.length : Int) ≤ 128))) (register_Check_T x0.2) (0 : Int) fun y1 =>
  .ret (((!(x0.1 == ([] : Str))) && (decide ((x0.1.length : Int) ≤ 128))) && (decide (y1 = 0)))

def registry_isEntry_g : Sig := ⟨27, (.cons (.val true tEntry) .nil), .vals (.val false .bool), fun z => registry_isEntry_T z.1, false⟩

theorem registry_isEntry_ok : registry_isEntry_g.ok Try.prog := by
  refine Sig.lift mix tabOk nms _ Try.func27 (c := (bodyOf Try.f27)) (by kernel_rfl) (o := orT [register_Check_g] [] noFz) (orT_sound ⟨register_Check_ok, trivial⟩) (allLp_of [] (by kernel_rfl) trivial rfl) ?_
  intro z; kernel_rfl

def registry_Check_L4_step (l : List Entry) (t : List Entry) (t2 : Int) (t3 : Int) : Tree (Int ⊕ (Int ⊕ Unit)) :=
  .ite (decide (t3 < t2)) (
    ask (inb t3 t.length) <|
    .bnd (registry_isEntry_T (t.getD t3.toNat (dfl tEntry : Entry))) fun y1 =>
    ask ((!((!(!y1)) && (decide ((0 : Int) < t3)))) || inb (w64 (t3 - 1)) l.length) <|
    .ite ((!y1) || ((decide ((0 : Int) < t3)) && (!ltS (l.getD ((w64 (t3 - 1)).toNat) (dfl tEntry : Entry)).1 (t.getD t3.toNat (dfl tEntry : Entry)).1))) (
      .ret (.inr (.inl 1))) (
      .ret (.inl (w64 (t3 + 1))))) (
    .ret (.inr (.inr ())))

def registry_Check_L4 : Lp := ⟨4, [], [], (.cons (.val false (.list tEntry)) (ca (ca2 (ca4 (.cons (.val false (.list tEntry)) (.cons (.val false (.int .i64)) (.cons (.val false (.int .i64)) (ca (ca2 (ca4 (ca16 .nil))))))))))), .nil, 0, .more 0 [] (ca2 (.cons (.val false (.int .i64)) (ca (ca2 (ca4 (ca8 (ca16 .nil))))))) .nil (.one 1 [] (ca2 (ca32 .nil)) .nil), fun z => .bnd (.loop (fun v => registry_Check_L4_step z.1.1 z.1.2.2.2.2.2.2.2.2.1 z.1.2.2.2.2.2.2.2.2.2.1 v) z.1.2.2.2.2.2.2.2.2.2.2.1) fun r => .sum r (fun a0 => .ret (.inl ((cu2 (a0, (cu (cu2 (cu4 (cu8 (cu16 ()))))))), ()))) (fun b0 => .ret (.inr ((cu2 (cu32 ())), ())))⟩

theorem registry_Check_L4_ok : registry_Check_L4.ok Try.prog (nthC (loopsOf (bodyOf Try.f9)) 0) := by
  refine Lp.lift (π := ((List Entry) × (List Entry) × Int)) (V := Int) (ρ := (Int ⊕ Unit)) mix tabOk registry_Check_L4 (o := orT [registry_isEntry_g] [] noFz) (orT_sound ⟨registry_isEntry_ok, trivial⟩) (allLp_of [] (by kernel_rfl) trivial rfl) (fun x v => ((x.1, (cu (cu2 (cu4 (x.2.1, (x.2.2, (v, (cu (cu2 (cu4 (cu16 ()))))))))))), ())) (fun x r => match r with | .inl a0 => .inl ((cu2 (a0, (cu (cu2 (cu4 (cu8 (cu16 ()))))))), ()) | .inr b0 => (.inr ((cu2 (cu32 ())), ()))) (fun x v => registry_Check_L4_step x.1 x.2.1 x.2.2 v) (fun x r => .sum r (fun a0 => .ret (.inl ((cu2 (a0, (cu (cu2 (cu4 (cu8 (cu16 ()))))))), ()))) (fun b0 => .ret (.inr ((cu2 (cu32 ())), ())))) (fun z => (z.1.1, z.1.2.2.2.2.2.2.2.2.1, z.1.2.2.2.2.2.2.2.2.2.1)) (fun z => z.1.2.2.2.2.2.2.2.2.2.2.1) (fun _ => rfl) (fun _ => rfl) (fun x r Q h => match r, h with | .inl _, h => h | .inr b0, h => (h)) ?_
  intro x v; kernel_rfl

def registry_Check_T (x0 : List Entry) : Tree Int :=
  .ite (decide ((4096 : Int) < (x0.length : Int))) (
    .ret 1) (
    .bnd (.loop (fun v => registry_Check_L4_step x0 x0 (x0.length : Int) v) 0) fun r1 =>
    .sum r1 (fun r2 =>
      .ret r2) (fun r3 =>
      .ret 0))

def registry_Check_g : Sig := ⟨9, (.cons (.val false (.list tEntry)) .nil), .vals (.val false (.int .i64)), fun z => registry_Check_T z.1, (0 : Int)⟩

theorem registry_Check_ok : registry_Check_g.ok Try.prog := by
  refine Sig.lift mix tabOk nms _ Try.func9 (c := (bodyOf Try.f9)) (by kernel_rfl) (o := orT [registry_isEntry_g] [registry_Check_L4] noFz) (orT_sound ⟨registry_isEntry_ok, trivial⟩) (allLp_of [nthC (loopsOf (bodyOf Try.f9)) 0] (by kernel_rfl) ⟨registry_Check_L4_ok, trivial⟩ (by kernel_rfl)) ?_
  intro z; kernel_rfl

def registry_Get_1_T (x0 : Entry) (x1 : Str) : Tree Bool :=
  .ret (x0.1 == x1)

def registry_Get_1_g : Sig := ⟨29, (.cons (.val true tEntry) (.cons (.ptr .str) .nil)), .vals (.val false .bool), fun z => registry_Get_1_T z.1 z.2.1, false⟩

theorem registry_Get_1_ok : registry_Get_1_g.ok Try.prog := by
  refine Sig.lift mix tabOk nms _ Try.func29 (c := (bodyOf Try.f29)) (by kernel_rfl) (o := orT [] [] noFz) (orT_sound trivial) (allLp_of [] (by kernel_rfl) trivial rfl) ?_
  intro z; kernel_rfl

def slices_IndexFunc_Entry_registry_Get_1_L2_step (s_ : List Entry) (f : Str) (t : Int) (t2 : Int) : Tree (Int ⊕ (Int ⊕ Unit)) :=
  .ite (decide (t2 < t)) (
    ask (inb t2 s_.length) <|
    .bnd (registry_Get_1_T (s_.getD t2.toNat (dfl tEntry : Entry)) f) fun y1 =>
    .ite y1 (
      .ret (.inr (.inl t2))) (
      .ret (.inl (w64 (t2 + 1))))) (
    .ret (.inr (.inr ())))

def slices_IndexFunc_Entry_registry_Get_1_L2 : Lp := ⟨2, [], [], (.cons (.val false (.list tEntry)) (.cons (.fn 29 .nil (.cons (.ptr .str) .nil)) (ca (ca4 (.cons (.val false (.int .i64)) (.cons (.val false (.int .i64)) (ca2 (ca8 .nil)))))))), .nil, 0, .more 0 [] (ca4 (.cons (.val false (.int .i64)) (ca2 (ca4 (ca8 .nil))))) .nil (.one 1 [] (ca (ca2 (ca16 .nil))) .nil), fun z => .bnd (.loop (fun v => slices_IndexFunc_Entry_registry_Get_1_L2_step z.1.1 z.1.2.1.2.1 z.1.2.2.2.2.2.2.2.1 v) z.1.2.2.2.2.2.2.2.2.1) fun r => .sum r (fun a0 => .ret (.inl ((cu4 (a0, (cu2 (cu4 (cu8 ()))))), ()))) (fun b0 => .ret (.inr ((cu (cu2 (cu16 ()))), ())))⟩

theorem slices_IndexFunc_Entry_registry_Get_1_L2_ok : slices_IndexFunc_Entry_registry_Get_1_L2.ok Try.prog (nthC (loopsOf (bodyOf Try.f28)) 0) := by
  refine Lp.lift (π := ((List Entry) × Str × Int)) (V := Int) (ρ := (Int ⊕ Unit)) mix tabOk slices_IndexFunc_Entry_registry_Get_1_L2 (o := orT [registry_Get_1_g] [] noFz) (orT_sound ⟨registry_Get_1_ok, trivial⟩) (allLp_of [] (by kernel_rfl) trivial rfl) (fun x v => ((x.1, (((), (x.2.1, ())), (cu (cu4 (x.2.2, (v, (cu2 (cu8 ())))))))), ())) (fun x r => match r with | .inl a0 => .inl ((cu4 (a0, (cu2 (cu4 (cu8 ()))))), ()) | .inr b0 => (.inr ((cu (cu2 (cu16 ()))), ()))) (fun x v => slices_IndexFunc_Entry_registry_Get_1_L2_step x.1 x.2.1 x.2.2 v) (fun x r => .sum r (fun a0 => .ret (.inl ((cu4 (a0, (cu2 (cu4 (cu8 ()))))), ()))) (fun b0 => .ret (.inr ((cu (cu2 (cu16 ()))), ())))) (fun z => (z.1.1, z.1.2.1.2.1, z.1.2.2.2.2.2.2.2.1)) (fun z => z.1.2.2.2.2.2.2.2.2.1) (fun _ => rfl) (fun _ => rfl) (fun x r Q h => match r, h with | .inl _, h => h | .inr b0, h => (h)) ?_
  intro x v; kernel_rfl

def slices_IndexFunc_Entry_registry_Get_1_T (x0 : List Entry) (x1 : Str) : Tree Int :=
  .bnd (.loop (fun v => slices_IndexFunc_Entry_registry_Get_1_L2_step x0 x1 (x0.length : Int) v) 0) fun r1 =>
  .sum r1 (fun r2 =>
    .ret r2) (fun r3 =>
    .ret (-1))

def slices_IndexFunc_Entry_registry_Get_1_g : Sig := ⟨28, (.cons (.val false (.list tEntry)) (.cons (.fn 29 .nil (.cons (.ptr .str) .nil)) .nil)), .vals (.val false (.int .i64)), fun z => slices_IndexFunc_Entry_registry_Get_1_T z.1 z.2.1.2.1, (0 : Int)⟩

theorem slices_IndexFunc_Entry_registry_Get_1_ok : slices_IndexFunc_Entry_registry_Get_1_g.ok Try.prog := by
  refine Sig.lift mix tabOk nms _ Try.func28 (c := (bodyOf Try.f28)) (by kernel_rfl) (o := orT [registry_Get_1_g] [slices_IndexFunc_Entry_registry_Get_1_L2] noFz) (orT_sound ⟨registry_Get_1_ok, trivial⟩) (allLp_of [nthC (loopsOf (bodyOf Try.f28)) 0] (by kernel_rfl) ⟨slices_IndexFunc_Entry_registry_Get_1_L2_ok, trivial⟩ (by kernel_rfl)) ?_
  intro z; kernel_rfl

def registry_Get_T (x0 : List Entry) (x1 : Str) : Tree Reg :=
  .bnd (slices_IndexFunc_Entry_registry_Get_1_T x0 x1) fun y1 =>
  .ite (decide (y1 < 0)) (
    .ret (0, ([], []))) (
    ask (inb y1 x0.length) <|
    .ret (x0.getD y1.toNat (dfl tEntry : Entry)).2)

def registry_Get_g : Sig := ⟨11, (.cons (.val false (.list tEntry)) (.cons (.val false .str) .nil)), .vals (.val true tReg), fun z => registry_Get_T z.1 z.2.1, (dfl tReg : Reg)⟩

theorem registry_Get_ok : registry_Get_g.ok Try.prog := by
  refine Sig.lift mix tabOk nms _ Try.func11 (c := (bodyOf Try.f11)) (by kernel_rfl) (o := orT [slices_IndexFunc_Entry_registry_Get_1_g] [] noFz) (orT_sound ⟨slices_IndexFunc_Entry_registry_Get_1_ok, trivial⟩) (allLp_of [] (by kernel_rfl) trivial rfl) ?_
  intro z; kernel_rfl

def register_Next_T (x0 : Reg) (x1 : Str) (x2 : Str) : Tree (Reg × Int × Unit) :=
  .grd (!((decide (x0.1 = 0)) && ((x0.2.1 == []) && ((x0.2.2 == []) && true)))) (register_Check_T x0) (0 : Int) fun y1 =>
  .grd (!((!((decide (x0.1 = 0)) && ((x0.2.1 == []) && ((x0.2.2 == []) && true)))) && (!decide (y1 = 0)))) (name_Is_T x1) false fun y2 =>
  .ite ((((!((decide (x0.1 = 0)) && ((x0.2.1 == []) && ((x0.2.2 == []) && true)))) && (!decide (y1 = 0))) || (!y2)) || (decide ((256 : Int) < (x2.length : Int)))) (
    .ret ((0, ([], [])), 1, ())) (
    .ite (decide ((9007199254740992 : Int) ≤ x0.1)) (
      .ret ((0, ([], [])), 4, ())) (
      .ret (((w64 (x0.1 + 1)), (x1, x2)), 0, ())))

def register_Next_g : Sig := ⟨43, (.cons (.val true tReg) (.cons (.val false .str) (.cons (.val false .str) .nil))), .vals (.cons (.val true tReg) (.cons (.val false (.int .i64)) .nil)), fun z => register_Next_T z.1 z.2.1 z.2.2.1, ((dfl tReg : Reg), (0 : Int), ())⟩

theorem register_Next_ok : register_Next_g.ok Try.prog := by
  refine Sig.lift mix tabOk nms _ Try.func43 (c := (bodyOf Try.f43)) (by kernel_rfl) (o := orT [register_Check_g, name_Is_g] [] noFz) (orT_sound ⟨register_Check_ok, ⟨name_Is_ok, trivial⟩⟩) (allLp_of [] (by kernel_rfl) trivial rfl) ?_
  intro z; kernel_rfl

def registry_Set_T (x0 : List Entry) (x1 : Str) (x2 : Str) (x3 : Str) : Tree (Entry × Int × Unit) :=
  .bnd (registry_Check_T x0) fun y1 =>
  .ite (((!decide (y1 = 0)) || (x2 == ([] : Str))) || (decide ((128 : Int) < (x2.length : Int)))) (
    .ret (([], (0, ([], []))), 1, ())) (
    .bnd (registry_Get_T x0 x2) fun y2 =>
    .bnd (register_Next_T y2 x1 x3) fun y3 =>
    .ite (!decide (y3.2.1 = 0)) (
      .ret (([], (0, ([], []))), y3.2.1, ())) (
      .ret ((x2, y3.1), 0, ())))

def registry_Set_g : Sig := ⟨23, (.cons (.val false (.list tEntry)) (.cons (.val false .str) (.cons (.val false .str) (.cons (.val false .str) .nil)))), .vals (.cons (.val true tEntry) (.cons (.val false (.int .i64)) .nil)), fun z => registry_Set_T z.1 z.2.1 z.2.2.1 z.2.2.2.1, ((dfl tEntry : Entry), (0 : Int), ())⟩

theorem registry_Set_ok : registry_Set_g.ok Try.prog := by
  refine Sig.lift mix tabOk nms _ Try.func23 (c := (bodyOf Try.f23)) (by kernel_rfl) (o := orT [registry_Check_g, registry_Get_g, register_Next_g] [] noFz) (orT_sound ⟨registry_Check_ok, ⟨registry_Get_ok, ⟨register_Next_ok, trivial⟩⟩⟩) (allLp_of [] (by kernel_rfl) trivial rfl) ?_
  intro z; kernel_rfl

def cmpstring_T (x0 : Str) (x1 : Str) : Tree Int :=
  .ret (Lib.compareBytes x0 x1)

def cmpstring_g : Sig := ⟨56, (.cons (.val false .str) (.cons (.val false .str) .nil)), .vals (.val false (.int .i64)), fun z => cmpstring_T z.1 z.2.1, (0 : Int)⟩

theorem cmpstring_ok : cmpstring_g.ok Try.prog := by
  intro x y h
  cases h
  exact ACalls.cmpstring Try.func56 (by decide) rfl rfl rfl _ _

def bytealg_CompareString_T (x0 : Str) (x1 : Str) : Tree Int :=
  .bnd (cmpstring_T x0 x1) fun y1 =>
  .ret y1

def bytealg_CompareString_g : Sig := ⟨50, (.cons (.val false .str) (.cons (.val false .str) .nil)), .vals (.val false (.int .i64)), fun z => bytealg_CompareString_T z.1 z.2.1, (0 : Int)⟩

theorem bytealg_CompareString_ok : bytealg_CompareString_g.ok Try.prog := by
  refine Sig.lift mix tabOk nms _ Try.func50 (c := (bodyOf Try.f50)) (by kernel_rfl) (o := orT [cmpstring_g] [] noFz) (orT_sound ⟨cmpstring_ok, trivial⟩) (allLp_of [] (by kernel_rfl) trivial rfl) ?_
  intro z; kernel_rfl

def strings_Compare_T (x0 : Str) (x1 : Str) : Tree Int :=
  .bnd (bytealg_CompareString_T x0 x1) fun y1 =>
  .ret y1

def strings_Compare_g : Sig := ⟨40, (.cons (.val false .str) (.cons (.val false .str) .nil)), .vals (.val false (.int .i64)), fun z => strings_Compare_T z.1 z.2.1, (0 : Int)⟩

theorem strings_Compare_ok : strings_Compare_g.ok Try.prog := by
  refine Sig.lift mix tabOk nms _ Try.func40 (c := (bodyOf Try.f40)) (by kernel_rfl) (o := orT [bytealg_CompareString_g] [] noFz) (orT_sound ⟨bytealg_CompareString_ok, trivial⟩) (allLp_of [] (by kernel_rfl) trivial rfl) ?_
  intro z; kernel_rfl

def cmp_isNaN_int_T (x0 : Int) : Tree Bool :=
  .ret (!decide (x0 = x0))

def cmp_isNaN_int_g : Sig := ⟨58, (.cons (.val false (.int .i64)) .nil), .vals (.val false .bool), fun z => cmp_isNaN_int_T z.1, false⟩

theorem cmp_isNaN_int_ok : cmp_isNaN_int_g.ok Try.prog := by
  refine Sig.lift mix tabOk nms _ Try.func58 (c := (bodyOf Try.f58)) (by kernel_rfl) (o := orT [] [] noFz) (orT_sound trivial) (allLp_of [] (by kernel_rfl) trivial rfl) ?_
  intro z; kernel_rfl

def cmp_Compare_int_T (x0 : Int) (x1 : Int) : Tree Int :=
  .bnd (cmp_isNaN_int_T x0) fun y1 =>
  .bnd (cmp_isNaN_int_T x1) fun y2 =>
  .ite y1 (
    .ite y2 (
      .ret 0) (
      .ret (-1))) (
    .ite y2 (
      .ret 1) (
      .ite (decide (x0 < x1)) (
        .ret (-1)) (
        .ite (decide (x1 < x0)) (
          .ret 1) (
          .ret 0))))

def cmp_Compare_int_g : Sig := ⟨55, (.cons (.val false (.int .i64)) (.cons (.val false (.int .i64)) .nil)), .vals (.val false (.int .i64)), fun z => cmp_Compare_int_T z.1 z.2.1, (0 : Int)⟩

theorem cmp_Compare_int_ok : cmp_Compare_int_g.ok Try.prog := by
  refine Sig.lift mix tabOk nms _ Try.func55 (c := (bodyOf Try.f55)) (by kernel_rfl) (o := orT [cmp_isNaN_int_g] [] noFz) (orT_sound ⟨cmp_isNaN_int_ok, trivial⟩) (allLp_of [] (by kernel_rfl) trivial rfl) ?_
  intro z; kernel_rfl

def cmp_Or_int_L3_step (zero : Int) (t : List Int) (t2 : Int) (t3 : Int) : Tree (Int ⊕ (Int ⊕ Unit)) :=
  .ite (decide (t3 < t2)) (
    ask (inb t3 t.length) <|
    .ite (!decide ((t.getD t3.toNat (0 : Int)) = zero)) (
      .ret (.inr (.inl (t.getD t3.toNat (0 : Int))))) (
      .ret (.inl (w64 (t3 + 1))))) (
    .ret (.inr (.inr ())))

def cmp_Or_int_L3 : Lp := ⟨3, [], [], (ca (ca2 (.cons (.val false (.int .i64)) (ca2 (.cons (.val false (.list (.int .i64))) (.cons (.val false (.int .i64)) (.cons (.val false (.int .i64)) (ca (ca8 .nil))))))))), .nil, 0, .more 0 [] (ca2 (.cons (.val false (.int .i64)) (ca (ca2 (ca4 (ca8 .nil)))))) .nil (.one 1 [] (ca (ca2 (.cons (.val false (.int .i64)) (ca2 (ca4 (ca8 .nil)))))) .nil), fun z => .bnd (.loop (fun v => cmp_Or_int_L3_step z.1.2.2.2.1 z.1.2.2.2.2.2.2.1 z.1.2.2.2.2.2.2.2.1 v) z.1.2.2.2.2.2.2.2.2.1) fun r => .sum r (fun a0 => .ret (.inl ((cu2 (a0, (cu (cu2 (cu4 (cu8 ())))))), ()))) (fun b0 => .ret (.inr ((cu (cu2 (z.1.2.2.2.1, (cu2 (cu4 (cu8 ())))))), ())))⟩

theorem cmp_Or_int_L3_ok : cmp_Or_int_L3.ok Try.prog (nthC (loopsOf (bodyOf Try.f54)) 0) := by
  refine Lp.lift (π := (Int × (List Int) × Int)) (V := Int) (ρ := (Int ⊕ Unit)) mix tabOk cmp_Or_int_L3 (o := orT [] [] noFz) (orT_sound trivial) (allLp_of [] (by kernel_rfl) trivial rfl) (fun x v => ((cu (cu2 (x.1, (cu2 (x.2.1, (x.2.2, (v, (cu (cu8 ()))))))))), ())) (fun x r => match r with | .inl a0 => .inl ((cu2 (a0, (cu (cu2 (cu4 (cu8 ())))))), ()) | .inr b0 => (.inr ((cu (cu2 (x.1, (cu2 (cu4 (cu8 ())))))), ()))) (fun x v => cmp_Or_int_L3_step x.1 x.2.1 x.2.2 v) (fun x r => .sum r (fun a0 => .ret (.inl ((cu2 (a0, (cu (cu2 (cu4 (cu8 ())))))), ()))) (fun b0 => .ret (.inr ((cu (cu2 (x.1, (cu2 (cu4 (cu8 ())))))), ())))) (fun z => (z.1.2.2.2.1, z.1.2.2.2.2.2.2.1, z.1.2.2.2.2.2.2.2.1)) (fun z => z.1.2.2.2.2.2.2.2.2.1) (fun _ => rfl) (fun _ => rfl) (fun x r Q h => match r, h with | .inl _, h => h | .inr b0, h => (h)) ?_
  intro x v; kernel_rfl

def cmp_Or_int_T (x0 : List Int) : Tree Int :=
  .bnd (.loop (fun v => cmp_Or_int_L3_step 0 x0 (x0.length : Int) v) 0) fun r1 =>
  .sum r1 (fun r2 =>
    .ret r2) (fun r3 =>
    .ret 0)

def cmp_Or_int_g : Sig := ⟨54, (.cons (.val false (.list (.int .i64))) .nil), .vals (.val false (.int .i64)), fun z => cmp_Or_int_T z.1, (0 : Int)⟩

theorem cmp_Or_int_ok : cmp_Or_int_g.ok Try.prog := by
  refine Sig.lift mix tabOk nms _ Try.func54 (c := (bodyOf Try.f54)) (by kernel_rfl) (o := orT [] [cmp_Or_int_L3] noFz) (orT_sound trivial) (allLp_of [nthC (loopsOf (bodyOf Try.f54)) 0] (by kernel_rfl) ⟨cmp_Or_int_L3_ok, trivial⟩ (by kernel_rfl)) ?_
  intro z; kernel_rfl

def register_version_compare_T (x0 : Reg) (x1 : Reg) : Tree Int :=
  .bnd (cmp_Compare_int_T x0.1 x1.1) fun y1 =>
  .bnd (strings_Compare_T x0.2.1 x1.2.1) fun y2 =>
  .bnd (strings_Compare_T x0.2.2 x1.2.2) fun y3 =>
  .bnd (cmp_Or_int_T [y1, y2, y3]) fun y4 =>
  .ret y4

def register_version_compare_g : Sig := ⟨47, (.cons (.val true tReg) (.cons (.val true tReg) .nil)), .vals (.val false (.int .i64)), fun z => register_version_compare_T z.1 z.2.1, (0 : Int)⟩

theorem register_version_compare_ok : register_version_compare_g.ok Try.prog := by
  refine Sig.lift mix tabOk nms _ Try.func47 (c := (bodyOf Try.f47)) (by kernel_rfl) (o := orT [cmp_Compare_int_g, strings_Compare_g, cmp_Or_int_g] [] noFz) (orT_sound ⟨cmp_Compare_int_ok, ⟨strings_Compare_ok, ⟨cmp_Or_int_ok, trivial⟩⟩⟩) (allLp_of [] (by kernel_rfl) trivial rfl) ?_
  intro z; kernel_rfl

def register_Newer_T (x0 : Reg) (x1 : Reg) : Tree Bool :=
  .bnd (register_version_compare_T x0 x1) fun y1 =>
  .ret (decide ((0 : Int) < y1))

def register_Newer_g : Sig := ⟨35, (.cons (.val true tReg) (.cons (.val true tReg) .nil)), .vals (.val false .bool), fun z => register_Newer_T z.1 z.2.1, false⟩

theorem register_Newer_ok : register_Newer_g.ok Try.prog := by
  refine Sig.lift mix tabOk nms _ Try.func35 (c := (bodyOf Try.f35)) (by kernel_rfl) (o := orT [register_version_compare_g] [] noFz) (orT_sound ⟨register_version_compare_ok, trivial⟩) (allLp_of [] (by kernel_rfl) trivial rfl) ?_
  intro z; kernel_rfl

def register_Join_T (x0 : Reg) (x1 : Reg) : Tree Reg :=
  .bnd (register_Newer_T x1 x0) fun y1 =>
  .ite y1 (
    .ret x1) (
    .ret x0)

def register_Join_g : Sig := ⟨41, (.cons (.val true tReg) (.cons (.val true tReg) .nil)), .vals (.val true tReg), fun z => register_Join_T z.1 z.2.1, (dfl tReg : Reg)⟩

theorem register_Join_ok : register_Join_g.ok Try.prog := by
  refine Sig.lift mix tabOk nms _ Try.func41 (c := (bodyOf Try.f41)) (by kernel_rfl) (o := orT [register_Newer_g] [] noFz) (orT_sound ⟨register_Newer_ok, trivial⟩) (allLp_of [] (by kernel_rfl) trivial rfl) ?_
  intro z; kernel_rfl

def slices_Grow_Entry_nil_T (x0 : Int) : Tree (List Entry) :=
  .ite (decide (x0 < 0)) (
    .fail) (
    .ite (decide ((0 : Int) < (w64 (x0 - (w64 ((0 : Int) - 0)))))) (
      ask (inbe 0 0) <|
      ask (decide ((0 : Int) < (w64 (x0 - (w64 ((0 : Int) - 0)))))) <|
      ask (decide ((w64 (x0 - (w64 ((0 : Int) - 0)))).toNat * 56 ≤ roomNat)) <|
      ask (inbe 0 (List.replicate (w64 (x0 - (w64 ((0 : Int) - 0)))).toNat (([], (0, ([], []))) : Entry)).length) <|
      .ret ((List.replicate (w64 (x0 - (w64 ((0 : Int) - 0)))).toNat (([], (0, ([], []))) : Entry)).take ((0 : Int).toNat))) (
      .ret []))

def slices_Grow_Entry_nil_g : Sig := ⟨51, (.cons .nils (.cons (.val false (.int .i64)) .nil)), .fresh 35 tEntry, fun z => slices_Grow_Entry_nil_T z.2.1, ([] : List Entry)⟩

theorem slices_Grow_Entry_nil_ok : slices_Grow_Entry_nil_g.ok Try.prog := by
  refine Sig.lift mix tabOk nms _ Try.func51 (c := (bodyOf Try.f51)) (by kernel_rfl) (o := orT [] [] noFz) (orT_sound trivial) (allLp_of [] (by kernel_rfl) trivial rfl) ?_
  intro z; kernel_rfl

def slices_Grow_Entry_nil_gv : Sig := ⟨51, (.cons .nils (.cons (.val false (.int .i64)) .nil)), .vals (.val false (.list tEntry)), fun z => slices_Grow_Entry_nil_T z.2.1, ([] : List Entry)⟩

theorem slices_Grow_Entry_nil_okv : slices_Grow_Entry_nil_gv.ok Try.prog := fun x y h => acalls_val (slices_Grow_Entry_nil_ok x y h)

def slices_Concat_Entry_L3_step (slices : List (List Entry)) (t : List (List Entry)) (t2 : Int) (size : Int) (t3 : Int) : Tree ((Int × Int) ⊕ Int) :=
  .ite (decide (t3 < t2)) (
    ask (inb t3 t.length) <|
    .ite (decide ((w64 (size + ((t.getD t3.toNat ([] : List Entry)).length : Int))) < 0)) (
      .fail) (
      .ret (.inl ((w64 (size + ((t.getD t3.toNat ([] : List Entry)).length : Int))), (w64 (t3 + 1)))))) (
    .ret (.inr size))

def slices_Concat_Entry_L3 : Lp := ⟨3, [], [], (.cons (.val false (.list (.list tEntry))) (ca2 (.cons (.val false (.int .i64)) (ca (ca4 (.cons (.val false (.list (.list tEntry))) (.cons (.val false (.int .i64)) (.cons (.val false (.int .i64)) (ca8 (ca16 .nil)))))))))), .nil, 0, .one 1 [] (.cons (.val false (.list (.list tEntry))) (ca2 (.cons (.val false (.int .i64)) (ca32 .nil)))) .nil, fun z => .bnd (.loop (fun v => slices_Concat_Entry_L3_step z.1.1 z.1.2.2.2.2.2.2.2.2.2.1 z.1.2.2.2.2.2.2.2.2.2.2.1 v.1 v.2) (z.1.2.2.2.1, z.1.2.2.2.2.2.2.2.2.2.2.2.1)) fun r => .ret ((z.1.1, (cu2 (r, (cu32 ())))), ())⟩

theorem slices_Concat_Entry_L3_ok : slices_Concat_Entry_L3.ok Try.prog (nthC (loopsOf (bodyOf Try.f42)) 0) := by
  refine Lp.lift (π := ((List (List Entry)) × (List (List Entry)) × Int)) (V := (Int × Int)) (ρ := Int) mix tabOk slices_Concat_Entry_L3 (o := orT [slices_Grow_Entry_nil_g] [] noFz) (orT_sound ⟨slices_Grow_Entry_nil_ok, trivial⟩) (allLp_of [] (by kernel_rfl) trivial rfl) (fun x v => ((x.1, (cu2 (v.1, (cu (cu4 (x.2.1, (x.2.2, (v.2, (cu8 (cu16 ())))))))))), ())) (fun x r => ((x.1, (cu2 (r, (cu32 ())))), ())) (fun x v => slices_Concat_Entry_L3_step x.1 x.2.1 x.2.2 v.1 v.2) (fun x r => .ret ((x.1, (cu2 (r, (cu32 ())))), ())) (fun z => (z.1.1, z.1.2.2.2.2.2.2.2.2.2.1, z.1.2.2.2.2.2.2.2.2.2.2.1)) (fun z => (z.1.2.2.2.1, z.1.2.2.2.2.2.2.2.2.2.2.2.1)) (fun _ => rfl) (fun _ => rfl) (fun _ _ _ h => h) ?_
  intro x v; kernel_rfl

def slices_Concat_Entry_L11_step (t : List (List Entry)) (t2 : Int) (t3 : Int) (newslice : List Entry) : Tree ((Int × (List Entry)) ⊕ (List Entry)) :=
  .ite (decide (t3 < t2)) (
    ask (inb t3 t.length) <|
    ask (decide ((newslice ++ (t.getD t3.toNat ([] : List Entry))).length * 56 ≤ roomNat)) <|
    .ret (.inl ((w64 (t3 + 1)), (newslice ++ (t.getD t3.toNat ([] : List Entry)))))) (
    .ret (.inr newslice))

def slices_Concat_Entry_L11 : Lp := ⟨11, [], [], (ca2 (ca4 (.cons (.own 0) (ca2 (ca16 (.cons (.val false (.list (.list tEntry))) (.cons (.val false (.int .i64)) (.cons (.val false (.int .i64)) (ca8 .nil))))))))), (.rows 35 tEntry .nil), 0, .one 3 [] (ca2 (ca4 (.cons (.own 0) (ca (ca4 (ca8 (ca16 .nil))))))) (.rows 35 tEntry .nil), fun z => .bnd (.loop (fun v => slices_Concat_Entry_L11_step z.1.2.2.2.2.2.2.2.2.2.2.2.2.2.2.2.2.2.2.2.2.2.2.2.2.2.1 z.1.2.2.2.2.2.2.2.2.2.2.2.2.2.2.2.2.2.2.2.2.2.2.2.2.2.2.1 v.1 v.2) (z.1.2.2.2.2.2.2.2.2.2.2.2.2.2.2.2.2.2.2.2.2.2.2.2.2.2.2.2.1, z.2.1)) fun r => .ret ((cu2 (cu4 ((), (cu (cu4 (cu8 (cu16 ()))))))), (r, ()))⟩

theorem slices_Concat_Entry_L11_ok : slices_Concat_Entry_L11.ok Try.prog (nthC (loopsOf (bodyOf Try.f42)) 1) := by
  refine Lp.lift (π := ((List (List Entry)) × Int)) (V := (Int × (List Entry))) (ρ := List Entry) mix tabOk slices_Concat_Entry_L11 (o := orT [slices_Grow_Entry_nil_g] [] noFz) (orT_sound ⟨slices_Grow_Entry_nil_ok, trivial⟩) (allLp_of [] (by kernel_rfl) trivial rfl) (fun x v => ((cu2 (cu4 ((), (cu2 (cu16 (x.1, (x.2, (v.1, (cu8 ()))))))))), (v.2, ()))) (fun x r => ((cu2 (cu4 ((), (cu (cu4 (cu8 (cu16 ()))))))), (r, ()))) (fun x v => slices_Concat_Entry_L11_step x.1 x.2 v.1 v.2) (fun x r => .ret ((cu2 (cu4 ((), (cu (cu4 (cu8 (cu16 ()))))))), (r, ()))) (fun z => (z.1.2.2.2.2.2.2.2.2.2.2.2.2.2.2.2.2.2.2.2.2.2.2.2.2.2.1, z.1.2.2.2.2.2.2.2.2.2.2.2.2.2.2.2.2.2.2.2.2.2.2.2.2.2.2.1)) (fun z => (z.1.2.2.2.2.2.2.2.2.2.2.2.2.2.2.2.2.2.2.2.2.2.2.2.2.2.2.2.1, z.2.1)) (fun _ => rfl) (fun _ => rfl) (fun _ _ _ h => h) ?_
  intro x v; kernel_rfl

def slices_Concat_Entry_T (x0 : List (List Entry)) : Tree (List Entry) :=
  .bnd (.loop (fun v => slices_Concat_Entry_L3_step x0 x0 (x0.length : Int) v.1 v.2) (0, 0)) fun r1 =>
  .bnd (slices_Grow_Entry_nil_T r1) fun y2 =>
  .bnd (.loop (fun v => slices_Concat_Entry_L11_step x0 (x0.length : Int) v.1 v.2) (0, y2)) fun r3 =>
  .ret r3

def slices_Concat_Entry_g : Sig := ⟨42, (.cons (.val false (.list (.list tEntry))) .nil), .fresh 35 tEntry, fun z => slices_Concat_Entry_T z.1, ([] : List Entry)⟩

theorem slices_Concat_Entry_ok : slices_Concat_Entry_g.ok Try.prog := by
  refine Sig.lift mix tabOk nms _ Try.func42 (c := (bodyOf Try.f42)) (by kernel_rfl) (o := orT [slices_Grow_Entry_nil_g] [slices_Concat_Entry_L3, slices_Concat_Entry_L11] noFz) (orT_sound ⟨slices_Grow_Entry_nil_ok, trivial⟩) (allLp_of [nthC (loopsOf (bodyOf Try.f42)) 0, nthC (loopsOf (bodyOf Try.f42)) 1] (by kernel_rfl) ⟨slices_Concat_Entry_L3_ok, ⟨slices_Concat_Entry_L11_ok, trivial⟩⟩ (by kernel_rfl)) ?_
  intro z; kernel_rfl

def slices_Concat_Entry_gv : Sig := ⟨42, (.cons (.val false (.list (.list tEntry))) .nil), .vals (.val false (.list tEntry)), fun z => slices_Concat_Entry_T z.1, ([] : List Entry)⟩

theorem slices_Concat_Entry_okv : slices_Concat_Entry_gv.ok Try.prog := fun x y h => acalls_val (slices_Concat_Entry_ok x y h)

def registry_Join_fz : Nat → List Pre
  | 12 => [.frz 0]
  | _ => []

def registry_Join_L4_step (a : List Entry) (b : List Entry) (out : List Entry) : Tree (((List Entry) × (List Entry) × (List Entry)) ⊕ ((List Entry) × (List Entry) × (List Entry))) :=
  .ite ((decide ((0 : Int) < (a.length : Int))) && (decide ((0 : Int) < (b.length : Int)))) (
    ask (inb 0 a.length) <|
    ask (inb 0 b.length) <|
    .bnd (strings_Compare_T (a.getD ((0 : Int).toNat) (dfl tEntry : Entry)).1 (b.getD ((0 : Int).toNat) (dfl tEntry : Entry)).1) fun y1 =>
    .ite (decide (y1 = (-1))) (
      ask (inb 0 a.length) <|
      ask (inbe 1 a.length) <|
      ask (decide ((out ++ [(a.getD ((0 : Int).toNat) (dfl tEntry : Entry))]).length * 56 ≤ roomNat)) <|
      .ret (.inl ((a.drop (1 : Int).toNat), b, (out ++ [(a.getD ((0 : Int).toNat) (dfl tEntry : Entry))])))) (
      .ite (decide (y1 = 1)) (
        ask (inb 0 b.length) <|
        ask (inbe 1 b.length) <|
        ask (decide ((out ++ [(b.getD ((0 : Int).toNat) (dfl tEntry : Entry))]).length * 56 ≤ roomNat)) <|
        .ret (.inl (a, (b.drop (1 : Int).toNat), (out ++ [(b.getD ((0 : Int).toNat) (dfl tEntry : Entry))])))) (
        ask (inb 0 a.length) <|
        ask (inb 0 a.length) <|
        ask (inb 0 b.length) <|
        .bnd (register_Join_T (a.getD ((0 : Int).toNat) (dfl tEntry : Entry)).2 (b.getD ((0 : Int).toNat) (dfl tEntry : Entry)).2) fun y2 =>
        ask (decide ((out ++ [((a.getD ((0 : Int).toNat) (dfl tEntry : Entry)).1, y2)]).length * 56 ≤ roomNat)) <|
        ask (inbe 1 a.length) <|
        ask (inbe 1 b.length) <|
        .ret (.inl ((a.drop (1 : Int).toNat), (b.drop (1 : Int).toNat), (out ++ [((a.getD ((0 : Int).toNat) (dfl tEntry : Entry)).1, y2)])))))) (
    .ret (.inr (a, b, out)))

def registry_Join_L4 : Lp := ⟨4, [.own 6 35 tEntry], [], (.cons (.val false (.list tEntry)) (.cons (.val false (.list tEntry)) (ca4 (.cons (.own 0) (ca (ca2 (ca8 (ca32 (ca32 .nil))))))))), (.rows 35 tEntry .nil), 0, .one 1 [] (.cons (.val false (.list tEntry)) (.cons (.val false (.list tEntry)) (ca4 (.cons (.own 0) (ca (ca2 (ca8 (ca32 (ca32 .nil))))))))) (.rows 35 tEntry .nil), fun z => .bnd (.loop (fun v => registry_Join_L4_step v.1 v.2.1 v.2.2) (z.1.1, z.1.2.1, z.2.1)) fun r => .ret ((r.1, (r.2.1, (cu4 ((), (cu (cu2 (cu8 (cu32 (cu32 ()))))))))), (r.2.2, ()))⟩

theorem registry_Join_L4_ok : registry_Join_L4.ok Try.prog (nthC (loopsOf (bodyOf Try.f21)) 0) := by
  refine Lp.lift (π := Unit) (V := ((List Entry) × (List Entry) × (List Entry))) (ρ := ((List Entry) × (List Entry) × (List Entry))) mix tabOk registry_Join_L4 (o := orT [registry_Check_g, strings_Compare_g, register_Join_g, slices_Concat_Entry_g] [] registry_Join_fz) (orT_sound ⟨registry_Check_ok, ⟨strings_Compare_ok, ⟨register_Join_ok, ⟨slices_Concat_Entry_ok, trivial⟩⟩⟩⟩) (allLp_of [] (by kernel_rfl) trivial rfl) (fun x v => ((v.1, (v.2.1, (cu4 ((), (cu (cu2 (cu8 (cu32 (cu32 ()))))))))), (v.2.2, ()))) (fun x r => ((r.1, (r.2.1, (cu4 ((), (cu (cu2 (cu8 (cu32 (cu32 ()))))))))), (r.2.2, ()))) (fun x v => registry_Join_L4_step v.1 v.2.1 v.2.2) (fun x r => .ret ((r.1, (r.2.1, (cu4 ((), (cu (cu2 (cu8 (cu32 (cu32 ()))))))))), (r.2.2, ()))) (fun z => ()) (fun z => (z.1.1, z.1.2.1, z.2.1)) (fun _ => rfl) (fun _ => rfl) (fun _ _ _ h => h) ?_
  intro x v; kernel_rfl

def registry_Join_T (x0 : List Entry) (x1 : List Entry) : Tree ((List Entry) × Int × Unit) :=
  .bnd (registry_Check_T x0) fun y1 =>
  .grd (!(!decide (y1 = 0))) (registry_Check_T x1) (0 : Int) fun y2 =>
  .ite ((!decide (y1 = 0)) || (!decide (y2 = 0))) (
    .ret ([], 1, ())) (
    .bnd (.loop (fun v => registry_Join_L4_step v.1 v.2.1 v.2.2) (x0, x1, ([] : List Entry))) fun r3 =>
    .bnd (slices_Concat_Entry_T [r3.2.2, r3.1, r3.2.1]) fun y4 =>
    .ite (decide ((4096 : Int) < (y4.length : Int))) (
      .ret ([], 4, ())) (
      .ret (y4, 0, ())))

def registry_Join_g : Sig := ⟨21, (.cons (.val false (.list tEntry)) (.cons (.val false (.list tEntry)) .nil)), .vals (.cons (.val false (.list tEntry)) (.cons (.val false (.int .i64)) .nil)), fun z => registry_Join_T z.1 z.2.1, (([] : List Entry), (0 : Int), ())⟩

theorem registry_Join_ok : registry_Join_g.ok Try.prog := by
  refine Sig.lift mix tabOk nms _ Try.func21 (c := (bodyOf Try.f21)) (by kernel_rfl) (o := orT [registry_Check_g, strings_Compare_g, register_Join_g, slices_Concat_Entry_g] [registry_Join_L4] registry_Join_fz) (orT_sound ⟨registry_Check_ok, ⟨strings_Compare_ok, ⟨register_Join_ok, ⟨slices_Concat_Entry_ok, trivial⟩⟩⟩⟩) (allLp_of [nthC (loopsOf (bodyOf Try.f21)) 0] (by kernel_rfl) ⟨registry_Join_L4_ok, trivial⟩ (by kernel_rfl)) ?_
  intro z; kernel_rfl

def registry_Put_T (x0 : List Entry) (x1 : Entry) : Tree ((List Entry) × Int × Unit) :=
  .bnd (registry_isEntry_T x1) fun y1 =>
  .ite (!y1) (
    .ret ([], 1, ())) (
    .bnd (registry_Join_T x0 [x1]) fun y2 =>
    .ret (y2.1, y2.2.1, ()))

def registry_Put_g : Sig := ⟨19, (.cons (.val false (.list tEntry)) (.cons (.val true tEntry) .nil)), .vals (.cons (.val false (.list tEntry)) (.cons (.val false (.int .i64)) .nil)), fun z => registry_Put_T z.1 z.2.1, (([] : List Entry), (0 : Int), ())⟩

theorem registry_Put_ok : registry_Put_g.ok Try.prog := by
  refine Sig.lift mix tabOk nms _ Try.func19 (c := (bodyOf Try.f19)) (by kernel_rfl) (o := orT [registry_isEntry_g, registry_Join_g] [] noFz) (orT_sound ⟨registry_isEntry_ok, ⟨registry_Join_ok, trivial⟩⟩) (allLp_of [] (by kernel_rfl) trivial rfl) ?_
  intro z; kernel_rfl

def slices_Clone_Entry_T (x0 : List Entry) : Tree (List Entry) :=
  .ite (Nat.beq x0.length 0) (
    .both (
      .ret []) (
      ask (decide (x0.length * 56 ≤ roomNat)) <|
      .ret x0)) (
    ask (decide (x0.length * 56 ≤ roomNat)) <|
    .ret x0)

def slices_Clone_Entry_g : Sig := ⟨31, (.cons (.val false (.list tEntry)) .nil), .fresh 35 tEntry, fun z => slices_Clone_Entry_T z.1, ([] : List Entry)⟩

theorem slices_Clone_Entry_ok : slices_Clone_Entry_g.ok Try.prog := by
  refine Sig.lift mix tabOk nms _ Try.func31 (c := (bodyOf Try.f31)) (by kernel_rfl) (o := orT [] [] noFz) (orT_sound trivial) (allLp_of [] (by kernel_rfl) trivial rfl) ?_
  intro z; kernel_rfl

def slices_Clone_Entry_gv : Sig := ⟨31, (.cons (.val false (.list tEntry)) .nil), .vals (.val false (.list tEntry)), fun z => slices_Clone_Entry_T z.1, ([] : List Entry)⟩

theorem slices_Clone_Entry_okv : slices_Clone_Entry_gv.ok Try.prog := fun x y h => acalls_val (slices_Clone_Entry_ok x y h)

def stringslite_HasPrefix_T (x0 : Str) (x1 : Str) : Tree Bool :=
  ask ((!(decide ((x1.length : Int) ≤ (x0.length : Int)))) || inbe (x1.length : Int) x0.length) <|
  .ret ((decide ((x1.length : Int) ≤ (x0.length : Int))) && ((subS x0 0 (x1.length : Int).toNat) == x1))

def stringslite_HasPrefix_g : Sig := ⟨46, (.cons (.val false .str) (.cons (.val false .str) .nil)), .vals (.val false .bool), fun z => stringslite_HasPrefix_T z.1 z.2.1, false⟩

theorem stringslite_HasPrefix_ok : stringslite_HasPrefix_g.ok Try.prog := by
  refine Sig.lift mix tabOk nms _ Try.func46 (c := (bodyOf Try.f46)) (by kernel_rfl) (o := orT [] [] noFz) (orT_sound trivial) (allLp_of [] (by kernel_rfl) trivial rfl) ?_
  intro z; kernel_rfl

def strings_HasPrefix_T (x0 : Str) (x1 : Str) : Tree Bool :=
  .bnd (stringslite_HasPrefix_T x0 x1) fun y1 =>
  .ret y1

def strings_HasPrefix_g : Sig := ⟨33, (.cons (.val false .str) (.cons (.val false .str) .nil)), .vals (.val false .bool), fun z => strings_HasPrefix_T z.1 z.2.1, false⟩

theorem strings_HasPrefix_ok : strings_HasPrefix_g.ok Try.prog := by
  refine Sig.lift mix tabOk nms _ Try.func33 (c := (bodyOf Try.f33)) (by kernel_rfl) (o := orT [stringslite_HasPrefix_g] [] noFz) (orT_sound ⟨stringslite_HasPrefix_ok, trivial⟩) (allLp_of [] (by kernel_rfl) trivial rfl) ?_
  intro z; kernel_rfl

def registry_Under_1_T (x0 : Entry) (x1 : Str) : Tree Bool :=
  ask (decide (x1.length + ([47] : Str).length ≤ 9223372036854775807)) <|
  .bnd (strings_HasPrefix_T x0.1 (x1 ++ ([47] : Str))) fun y1 =>
  .ret (!y1)

def registry_Under_1_g : Sig := ⟨32, (.cons (.val true tEntry) (.cons (.ptr .str) .nil)), .vals (.val false .bool), fun z => registry_Under_1_T z.1 z.2.1, false⟩

theorem registry_Under_1_ok : registry_Under_1_g.ok Try.prog := by
  refine Sig.lift mix tabOk nms _ Try.func32 (c := (bodyOf Try.f32)) (by kernel_rfl) (o := orT [strings_HasPrefix_g] [] noFz) (orT_sound ⟨strings_HasPrefix_ok, trivial⟩) (allLp_of [] (by kernel_rfl) trivial rfl) ?_
  intro z; kernel_rfl

def slices_IndexFunc_Entry_registry_Under_1_L2_step (s_ : List Entry) (f : Str) (t : Int) (t2 : Int) : Tree (Int ⊕ (Int ⊕ Unit)) :=
  .ite (decide (t2 < t)) (
    ask (inb t2 s_.length) <|
    .bnd (registry_Under_1_T (s_.getD t2.toNat (dfl tEntry : Entry)) f) fun y1 =>
    .ite y1 (
      .ret (.inr (.inl t2))) (
      .ret (.inl (w64 (t2 + 1))))) (
    .ret (.inr (.inr ())))

def slices_IndexFunc_Entry_registry_Under_1_L2 : Lp := ⟨2, [], [], (.cons (.val false (.list tEntry)) (.cons (.fn 32 .nil (.cons (.ptr .str) .nil)) (ca (ca4 (.cons (.val false (.int .i64)) (.cons (.val false (.int .i64)) (ca2 (ca8 .nil)))))))), .nil, 0, .more 0 [] (ca4 (.cons (.val false (.int .i64)) (ca2 (ca4 (ca8 .nil))))) .nil (.one 1 [] (ca (ca2 (ca16 .nil))) .nil), fun z => .bnd (.loop (fun v => slices_IndexFunc_Entry_registry_Under_1_L2_step z.1.1 z.1.2.1.2.1 z.1.2.2.2.2.2.2.2.1 v) z.1.2.2.2.2.2.2.2.2.1) fun r => .sum r (fun a0 => .ret (.inl ((cu4 (a0, (cu2 (cu4 (cu8 ()))))), ()))) (fun b0 => .ret (.inr ((cu (cu2 (cu16 ()))), ())))⟩

theorem slices_IndexFunc_Entry_registry_Under_1_L2_ok : slices_IndexFunc_Entry_registry_Under_1_L2.ok Try.prog (nthC (loopsOf (bodyOf Try.f28)) 0) := by
  refine Lp.lift (π := ((List Entry) × Str × Int)) (V := Int) (ρ := (Int ⊕ Unit)) mix tabOk slices_IndexFunc_Entry_registry_Under_1_L2 (o := orT [registry_Under_1_g] [] noFz) (orT_sound ⟨registry_Under_1_ok, trivial⟩) (allLp_of [] (by kernel_rfl) trivial rfl) (fun x v => ((x.1, (((), (x.2.1, ())), (cu (cu4 (x.2.2, (v, (cu2 (cu8 ())))))))), ())) (fun x r => match r with | .inl a0 => .inl ((cu4 (a0, (cu2 (cu4 (cu8 ()))))), ()) | .inr b0 => (.inr ((cu (cu2 (cu16 ()))), ()))) (fun x v => slices_IndexFunc_Entry_registry_Under_1_L2_step x.1 x.2.1 x.2.2 v) (fun x r => .sum r (fun a0 => .ret (.inl ((cu4 (a0, (cu2 (cu4 (cu8 ()))))), ()))) (fun b0 => .ret (.inr ((cu (cu2 (cu16 ()))), ())))) (fun z => (z.1.1, z.1.2.1.2.1, z.1.2.2.2.2.2.2.2.1)) (fun z => z.1.2.2.2.2.2.2.2.2.1) (fun _ => rfl) (fun _ => rfl) (fun x r Q h => match r, h with | .inl _, h => h | .inr b0, h => (h)) ?_
  intro x v; kernel_rfl

def slices_IndexFunc_Entry_registry_Under_1_T (x0 : List Entry) (x1 : Str) : Tree Int :=
  .bnd (.loop (fun v => slices_IndexFunc_Entry_registry_Under_1_L2_step x0 x1 (x0.length : Int) v) 0) fun r1 =>
  .sum r1 (fun r2 =>
    .ret r2) (fun r3 =>
    .ret (-1))

def slices_IndexFunc_Entry_registry_Under_1_g : Sig := ⟨28, (.cons (.val false (.list tEntry)) (.cons (.fn 32 .nil (.cons (.ptr .str) .nil)) .nil)), .vals (.val false (.int .i64)), fun z => slices_IndexFunc_Entry_registry_Under_1_T z.1 z.2.1.2.1, (0 : Int)⟩

theorem slices_IndexFunc_Entry_registry_Under_1_ok : slices_IndexFunc_Entry_registry_Under_1_g.ok Try.prog := by
  refine Sig.lift mix tabOk nms _ Try.func28 (c := (bodyOf Try.f28)) (by kernel_rfl) (o := orT [registry_Under_1_g] [slices_IndexFunc_Entry_registry_Under_1_L2] noFz) (orT_sound ⟨registry_Under_1_ok, trivial⟩) (allLp_of [nthC (loopsOf (bodyOf Try.f28)) 0] (by kernel_rfl) ⟨slices_IndexFunc_Entry_registry_Under_1_L2_ok, trivial⟩ (by kernel_rfl)) ?_
  intro z; kernel_rfl

def slices_DeleteFunc_Entry_registry_Under_1_L5_step (c : Str) (i : Int) (j : Int) (s_ : List Entry) : Tree ((Int × Int × (List Entry)) ⊕ (Int × (List Entry))) :=
  .ite (decide (j < (s_.length : Int))) (
    ask (inb j s_.length) <|
    .bnd (registry_Under_1_T (s_.getD j.toNat (dfl tEntry : Entry)) c) fun y1 =>
    .ite (!y1) (
      ask (inb i s_.length) <|
      .ret (.inl ((w64 (i + 1)), (w64 (j + 1)), (s_.set i.toNat (s_.getD j.toNat (dfl tEntry : Entry)))))) (
      .ret (.inl (i, (w64 (j + 1)), s_)))) (
    .ret (.inr (i, s_)))

def slices_DeleteFunc_Entry_registry_Under_1_L5 : Lp := ⟨5, [], [], (.cons (.own 0) (.cons (.fn 32 .nil (.cons (.ref 1 0) .nil)) (ca (ca2 (.cons (.val false (.int .i64)) (.cons (.val false (.int .i64)) (ca (ca2 (ca32 .nil))))))))), (.rows 35 tEntry (.cells 9 (.cons (.val false .str) .nil) .nil)), 2, .one 1 [] (.cons (.own 0) (ca4 (.cons (.val false (.int .i64)) (ca4 (ca32 .nil))))) (.rows 35 tEntry (.cells 9 (.cons (.val false .str) .nil) .nil)), fun z => .bnd (.loop (fun v => slices_DeleteFunc_Entry_registry_Under_1_L5_step z.2.2.1.1 v.1 v.2.1 v.2.2) (z.1.2.2.2.2.2.1, z.1.2.2.2.2.2.2.1, z.2.1)) fun r => .ret (((), (cu4 (r.1, (cu4 (cu32 ()))))), (r.2, ((z.2.2.1.1, ()), ())))⟩

theorem slices_DeleteFunc_Entry_registry_Under_1_L5_ok : slices_DeleteFunc_Entry_registry_Under_1_L5.ok Try.prog (nthC (loopsOf (bodyOf Try.f30)) 0) := by
  refine Lp.lift (π := Str) (V := (Int × Int × (List Entry))) (ρ := (Int × (List Entry))) mix tabOk slices_DeleteFunc_Entry_registry_Under_1_L5 (o := orT [slices_IndexFunc_Entry_registry_Under_1_g, registry_Under_1_g] [] noFz) (orT_sound ⟨slices_IndexFunc_Entry_registry_Under_1_ok, ⟨registry_Under_1_ok, trivial⟩⟩) (allLp_of [] (by kernel_rfl) trivial rfl) (fun x v => (((), (((), ((), ())), (cu (cu2 (v.1, (v.2.1, (cu (cu2 (cu32 ()))))))))), (v.2.2, ((x, ()), ())))) (fun x r => (((), (cu4 (r.1, (cu4 (cu32 ()))))), (r.2, ((x, ()), ())))) (fun x v => slices_DeleteFunc_Entry_registry_Under_1_L5_step x v.1 v.2.1 v.2.2) (fun x r => .ret (((), (cu4 (r.1, (cu4 (cu32 ()))))), (r.2, ((x, ()), ())))) (fun z => z.2.2.1.1) (fun z => (z.1.2.2.2.2.2.1, z.1.2.2.2.2.2.2.1, z.2.1)) (fun _ => rfl) (fun _ => rfl) (fun _ _ _ h => h) ?_
  intro x v; kernel_rfl

def slices_DeleteFunc_Entry_registry_Under_1_T (x0 : List Entry) (x1 : Str) : Tree (List Entry × ((Str × Unit) × Unit)) :=
  .bnd (slices_IndexFunc_Entry_registry_Under_1_T x0 x1) fun y1 =>
  .ite (decide (y1 = (-1))) (
    .ret (x0, ((x1, ()), ()))) (
    .bnd (.loop (fun v => slices_DeleteFunc_Entry_registry_Under_1_L5_step x1 v.1 v.2.1 v.2.2) (y1, (w64 (y1 + 1)), x0)) fun r2 =>
    ask (inbe r2.1 r2.2.length) <|
    ask (inbe r2.1 (clearL r2.1.toNat (r2.2.length - r2.1.toNat) ([], (0, ([], []))) r2.2).length) <|
    .ret (((clearL r2.1.toNat (r2.2.length - r2.1.toNat) ([], (0, ([], []))) r2.2).take r2.1.toNat), ((x1, ()), ())))

def slices_DeleteFunc_Entry_registry_Under_1_g : MSig := ⟨30, (.cons (.own 0) (.cons (.fn 32 .nil (.cons (.ref 1 0) .nil)) .nil)), (.rows 35 tEntry (.cells 9 (.cons (.val false .str) .nil) .nil)), [.frz 0], (.val false (.list tEntry)), (.dead (.cells 9 (.cons (.val false .str) .nil) .nil)), some 0, fun z => slices_DeleteFunc_Entry_registry_Under_1_T z.2.1 z.2.2.1.1⟩

theorem slices_DeleteFunc_Entry_registry_Under_1_ok : slices_DeleteFunc_Entry_registry_Under_1_g.ok Try.prog := by
  refine MSig.lift mix tabOk nms _ Try.func30 (c := (bodyOf Try.f30)) (by kernel_rfl) (o := orT [slices_IndexFunc_Entry_registry_Under_1_g, registry_Under_1_g] [slices_DeleteFunc_Entry_registry_Under_1_L5] noFz) (orT_sound ⟨slices_IndexFunc_Entry_registry_Under_1_ok, ⟨registry_Under_1_ok, trivial⟩⟩) (allLp_of [nthC (loopsOf (bodyOf Try.f30)) 0] (by kernel_rfl) ⟨slices_DeleteFunc_Entry_registry_Under_1_L5_ok, trivial⟩ (by kernel_rfl)) (fun _ => rfl) ?_
  intro z; kernel_rfl

def registry_Under_T (x0 : List Entry) (x1 : Str) : Tree (List Entry) :=
  .bnd (slices_Clone_Entry_T x0) fun y1 =>
  .bnd (slices_DeleteFunc_Entry_registry_Under_1_T y1 x1) fun y2 =>
  .ret y2.1

def registry_Under_g : Sig := ⟨14, (.cons (.val false (.list tEntry)) (.cons (.val false .str) .nil)), .vals (.val false (.list tEntry)), fun z => registry_Under_T z.1 z.2.1, ([] : List Entry)⟩

theorem registry_Under_ok : registry_Under_g.ok Try.prog := by
  refine Sig.lift mix tabOk nms _ Try.func14 (c := (bodyOf Try.f14)) (by kernel_rfl) (o := orM [slices_Clone_Entry_g] [slices_DeleteFunc_Entry_registry_Under_1_g] [] noFz) (orM_sound ⟨slices_Clone_Entry_ok, trivial⟩ ⟨slices_DeleteFunc_Entry_registry_Under_1_ok, trivial⟩) (allLp_ofM [] (by kernel_rfl) trivial rfl) ?_
  intro z; kernel_rfl

def registry_News_1_T (x0 : Entry) (x1 : List Entry) : Tree Bool :=
  .bnd (registry_Get_T x1 x0.1) fun y1 =>
  .bnd (register_Newer_T x0.2 y1) fun y2 =>
  .ret (!y2)

def registry_News_1_g : Sig := ⟨34, (.cons (.val true tEntry) (.cons (.ptr (.list tEntry)) .nil)), .vals (.val false .bool), fun z => registry_News_1_T z.1 z.2.1, false⟩

theorem registry_News_1_ok : registry_News_1_g.ok Try.prog := by
  refine Sig.lift mix tabOk nms _ Try.func34 (c := (bodyOf Try.f34)) (by kernel_rfl) (o := orT [registry_Get_g, register_Newer_g] [] noFz) (orT_sound ⟨registry_Get_ok, ⟨register_Newer_ok, trivial⟩⟩) (allLp_of [] (by kernel_rfl) trivial rfl) ?_
  intro z; kernel_rfl

def slices_IndexFunc_Entry_registry_News_1_L2_step (s_ : List Entry) (f : List Entry) (t : Int) (t2 : Int) : Tree (Int ⊕ (Int ⊕ Unit)) :=
  .ite (decide (t2 < t)) (
    ask (inb t2 s_.length) <|
    .bnd (registry_News_1_T (s_.getD t2.toNat (dfl tEntry : Entry)) f) fun y1 =>
    .ite y1 (
      .ret (.inr (.inl t2))) (
      .ret (.inl (w64 (t2 + 1))))) (
    .ret (.inr (.inr ())))

def slices_IndexFunc_Entry_registry_News_1_L2 : Lp := ⟨2, [], [], (.cons (.val false (.list tEntry)) (.cons (.fn 34 .nil (.cons (.ptr (.list tEntry)) .nil)) (ca (ca4 (.cons (.val false (.int .i64)) (.cons (.val false (.int .i64)) (ca2 (ca8 .nil)))))))), .nil, 0, .more 0 [] (ca4 (.cons (.val false (.int .i64)) (ca2 (ca4 (ca8 .nil))))) .nil (.one 1 [] (ca (ca2 (ca16 .nil))) .nil), fun z => .bnd (.loop (fun v => slices_IndexFunc_Entry_registry_News_1_L2_step z.1.1 z.1.2.1.2.1 z.1.2.2.2.2.2.2.2.1 v) z.1.2.2.2.2.2.2.2.2.1) fun r => .sum r (fun a0 => .ret (.inl ((cu4 (a0, (cu2 (cu4 (cu8 ()))))), ()))) (fun b0 => .ret (.inr ((cu (cu2 (cu16 ()))), ())))⟩

theorem slices_IndexFunc_Entry_registry_News_1_L2_ok : slices_IndexFunc_Entry_registry_News_1_L2.ok Try.prog (nthC (loopsOf (bodyOf Try.f28)) 0) := by
  refine Lp.lift (π := ((List Entry) × (List Entry) × Int)) (V := Int) (ρ := (Int ⊕ Unit)) mix tabOk slices_IndexFunc_Entry_registry_News_1_L2 (o := orT [registry_News_1_g] [] noFz) (orT_sound ⟨registry_News_1_ok, trivial⟩) (allLp_of [] (by kernel_rfl) trivial rfl) (fun x v => ((x.1, (((), (x.2.1, ())), (cu (cu4 (x.2.2, (v, (cu2 (cu8 ())))))))), ())) (fun x r => match r with | .inl a0 => .inl ((cu4 (a0, (cu2 (cu4 (cu8 ()))))), ()) | .inr b0 => (.inr ((cu (cu2 (cu16 ()))), ()))) (fun x v => slices_IndexFunc_Entry_registry_News_1_L2_step x.1 x.2.1 x.2.2 v) (fun x r => .sum r (fun a0 => .ret (.inl ((cu4 (a0, (cu2 (cu4 (cu8 ()))))), ()))) (fun b0 => .ret (.inr ((cu (cu2 (cu16 ()))), ())))) (fun z => (z.1.1, z.1.2.1.2.1, z.1.2.2.2.2.2.2.2.1)) (fun z => z.1.2.2.2.2.2.2.2.2.1) (fun _ => rfl) (fun _ => rfl) (fun x r Q h => match r, h with | .inl _, h => h | .inr b0, h => (h)) ?_
  intro x v; kernel_rfl

def slices_IndexFunc_Entry_registry_News_1_T (x0 : List Entry) (x1 : List Entry) : Tree Int :=
  .bnd (.loop (fun v => slices_IndexFunc_Entry_registry_News_1_L2_step x0 x1 (x0.length : Int) v) 0) fun r1 =>
  .sum r1 (fun r2 =>
    .ret r2) (fun r3 =>
    .ret (-1))

def slices_IndexFunc_Entry_registry_News_1_g : Sig := ⟨28, (.cons (.val false (.list tEntry)) (.cons (.fn 34 .nil (.cons (.ptr (.list tEntry)) .nil)) .nil)), .vals (.val false (.int .i64)), fun z => slices_IndexFunc_Entry_registry_News_1_T z.1 z.2.1.2.1, (0 : Int)⟩

theorem slices_IndexFunc_Entry_registry_News_1_ok : slices_IndexFunc_Entry_registry_News_1_g.ok Try.prog := by
  refine Sig.lift mix tabOk nms _ Try.func28 (c := (bodyOf Try.f28)) (by kernel_rfl) (o := orT [registry_News_1_g] [slices_IndexFunc_Entry_registry_News_1_L2] noFz) (orT_sound ⟨registry_News_1_ok, trivial⟩) (allLp_of [nthC (loopsOf (bodyOf Try.f28)) 0] (by kernel_rfl) ⟨slices_IndexFunc_Entry_registry_News_1_L2_ok, trivial⟩ (by kernel_rfl)) ?_
  intro z; kernel_rfl

def slices_DeleteFunc_Entry_registry_News_1_L5_step (c : List Entry) (i : Int) (j : Int) (s_ : List Entry) : Tree ((Int × Int × (List Entry)) ⊕ (Int × (List Entry))) :=
  .ite (decide (j < (s_.length : Int))) (
    ask (inb j s_.length) <|
    .bnd (registry_News_1_T (s_.getD j.toNat (dfl tEntry : Entry)) c) fun y1 =>
    .ite (!y1) (
      ask (inb i s_.length) <|
      .ret (.inl ((w64 (i + 1)), (w64 (j + 1)), (s_.set i.toNat (s_.getD j.toNat (dfl tEntry : Entry)))))) (
      .ret (.inl (i, (w64 (j + 1)), s_)))) (
    .ret (.inr (i, s_)))

def slices_DeleteFunc_Entry_registry_News_1_L5 : Lp := ⟨5, [], [], (.cons (.own 0) (.cons (.fn 34 .nil (.cons (.ref 1 0) .nil)) (ca (ca2 (.cons (.val false (.int .i64)) (.cons (.val false (.int .i64)) (ca (ca2 (ca32 .nil))))))))), (.rows 35 tEntry (.cells 22 (.cons (.val false (.list tEntry)) .nil) .nil)), 2, .one 1 [] (.cons (.own 0) (ca4 (.cons (.val false (.int .i64)) (ca4 (ca32 .nil))))) (.rows 35 tEntry (.cells 22 (.cons (.val false (.list tEntry)) .nil) .nil)), fun z => .bnd (.loop (fun v => slices_DeleteFunc_Entry_registry_News_1_L5_step z.2.2.1.1 v.1 v.2.1 v.2.2) (z.1.2.2.2.2.2.1, z.1.2.2.2.2.2.2.1, z.2.1)) fun r => .ret (((), (cu4 (r.1, (cu4 (cu32 ()))))), (r.2, ((z.2.2.1.1, ()), ())))⟩

theorem slices_DeleteFunc_Entry_registry_News_1_L5_ok : slices_DeleteFunc_Entry_registry_News_1_L5.ok Try.prog (nthC (loopsOf (bodyOf Try.f30)) 0) := by
  refine Lp.lift (π := List Entry) (V := (Int × Int × (List Entry))) (ρ := (Int × (List Entry))) mix tabOk slices_DeleteFunc_Entry_registry_News_1_L5 (o := orT [slices_IndexFunc_Entry_registry_News_1_g, registry_News_1_g] [] noFz) (orT_sound ⟨slices_IndexFunc_Entry_registry_News_1_ok, ⟨registry_News_1_ok, trivial⟩⟩) (allLp_of [] (by kernel_rfl) trivial rfl) (fun x v => (((), (((), ((), ())), (cu (cu2 (v.1, (v.2.1, (cu (cu2 (cu32 ()))))))))), (v.2.2, ((x, ()), ())))) (fun x r => (((), (cu4 (r.1, (cu4 (cu32 ()))))), (r.2, ((x, ()), ())))) (fun x v => slices_DeleteFunc_Entry_registry_News_1_L5_step x v.1 v.2.1 v.2.2) (fun x r => .ret (((), (cu4 (r.1, (cu4 (cu32 ()))))), (r.2, ((x, ()), ())))) (fun z => z.2.2.1.1) (fun z => (z.1.2.2.2.2.2.1, z.1.2.2.2.2.2.2.1, z.2.1)) (fun _ => rfl) (fun _ => rfl) (fun _ _ _ h => h) ?_
  intro x v; kernel_rfl

def slices_DeleteFunc_Entry_registry_News_1_T (x0 : List Entry) (x1 : List Entry) : Tree (List Entry × (((List Entry) × Unit) × Unit)) :=
  .bnd (slices_IndexFunc_Entry_registry_News_1_T x0 x1) fun y1 =>
  .ite (decide (y1 = (-1))) (
    .ret (x0, ((x1, ()), ()))) (
    .bnd (.loop (fun v => slices_DeleteFunc_Entry_registry_News_1_L5_step x1 v.1 v.2.1 v.2.2) (y1, (w64 (y1 + 1)), x0)) fun r2 =>
    ask (inbe r2.1 r2.2.length) <|
    ask (inbe r2.1 (clearL r2.1.toNat (r2.2.length - r2.1.toNat) ([], (0, ([], []))) r2.2).length) <|
    .ret (((clearL r2.1.toNat (r2.2.length - r2.1.toNat) ([], (0, ([], []))) r2.2).take r2.1.toNat), ((x1, ()), ())))

def slices_DeleteFunc_Entry_registry_News_1_g : MSig := ⟨30, (.cons (.own 0) (.cons (.fn 34 .nil (.cons (.ref 1 0) .nil)) .nil)), (.rows 35 tEntry (.cells 22 (.cons (.val false (.list tEntry)) .nil) .nil)), [.frz 0], (.val false (.list tEntry)), (.dead (.cells 22 (.cons (.val false (.list tEntry)) .nil) .nil)), some 0, fun z => slices_DeleteFunc_Entry_registry_News_1_T z.2.1 z.2.2.1.1⟩

theorem slices_DeleteFunc_Entry_registry_News_1_ok : slices_DeleteFunc_Entry_registry_News_1_g.ok Try.prog := by
  refine MSig.lift mix tabOk nms _ Try.func30 (c := (bodyOf Try.f30)) (by kernel_rfl) (o := orT [slices_IndexFunc_Entry_registry_News_1_g, registry_News_1_g] [slices_DeleteFunc_Entry_registry_News_1_L5] noFz) (orT_sound ⟨slices_IndexFunc_Entry_registry_News_1_ok, ⟨registry_News_1_ok, trivial⟩⟩) (allLp_of [nthC (loopsOf (bodyOf Try.f30)) 0] (by kernel_rfl) ⟨slices_DeleteFunc_Entry_registry_News_1_L5_ok, trivial⟩ (by kernel_rfl)) (fun _ => rfl) ?_
  intro z; kernel_rfl

def registry_News_T (x0 : List Entry) (x1 : List Entry) : Tree (List Entry) :=
  .bnd (slices_Clone_Entry_T x0) fun y1 =>
  .bnd (slices_DeleteFunc_Entry_registry_News_1_T y1 x1) fun y2 =>
  .ret y2.1

def registry_News_g : Sig := ⟨16, (.cons (.val false (.list tEntry)) (.cons (.val false (.list tEntry)) .nil)), .vals (.val false (.list tEntry)), fun z => registry_News_T z.1 z.2.1, ([] : List Entry)⟩

theorem registry_News_ok : registry_News_g.ok Try.prog := by
  refine Sig.lift mix tabOk nms _ Try.func16 (c := (bodyOf Try.f16)) (by kernel_rfl) (o := orM [slices_Clone_Entry_g] [slices_DeleteFunc_Entry_registry_News_1_g] [] noFz) (orM_sound ⟨slices_Clone_Entry_ok, trivial⟩ ⟨slices_DeleteFunc_Entry_registry_News_1_ok, trivial⟩) (allLp_ofM [] (by kernel_rfl) trivial rfl) ?_
  intro z; kernel_rfl

def slices_Equal_Entry_L4_step (s1 : List Entry) (s2 : List Entry) (t : Int) (t2 : Int) : Tree (Int ⊕ (Bool ⊕ Unit)) :=
  .ite (decide (t2 < t)) (
    ask (inb t2 s1.length) <|
    ask (inb t2 s2.length) <|
    .ite (!(((s1.getD t2.toNat (dfl tEntry : Entry)).1 == (s2.getD t2.toNat (dfl tEntry : Entry)).1) && (((decide ((s1.getD t2.toNat (dfl tEntry : Entry)).2.1 = (s2.getD t2.toNat (dfl tEntry : Entry)).2.1)) && (((s1.getD t2.toNat (dfl tEntry : Entry)).2.2.1 == (s2.getD t2.toNat (dfl tEntry : Entry)).2.2.1) && (((s1.getD t2.toNat (dfl tEntry : Entry)).2.2.2 == (s2.getD t2.toNat (dfl tEntry : Entry)).2.2.2) && true))) && true))) (
      .ret (.inr (.inl false))) (
      .ret (.inl (w64 (t2 + 1))))) (
    .ret (.inr (.inr ())))

def slices_Equal_Entry_L4 : Lp := ⟨4, [], [], (.cons (.val false (.list tEntry)) (.cons (.val false (.list tEntry)) (ca2 (ca8 (.cons (.val false (.int .i64)) (.cons (.val false (.int .i64)) (ca4 (ca8 .nil)))))))), .nil, 0, .more 0 [] (ca4 (.cons (.val false .bool) (ca (ca4 (ca16 .nil))))) .nil (.one 1 [] (ca2 (ca8 (ca16 .nil))) .nil), fun z => .bnd (.loop (fun v => slices_Equal_Entry_L4_step z.1.1 z.1.2.1 z.1.2.2.2.2.2.2.2.2.2.2.2.2.1 v) z.1.2.2.2.2.2.2.2.2.2.2.2.2.2.1) fun r => .sum r (fun a0 => .ret (.inl ((cu4 (a0, (cu (cu4 (cu16 ()))))), ()))) (fun b0 => .ret (.inr ((cu2 (cu8 (cu16 ()))), ())))⟩

theorem slices_Equal_Entry_L4_ok : slices_Equal_Entry_L4.ok Try.prog (nthC (loopsOf (bodyOf Try.f37)) 0) := by
  refine Lp.lift (π := ((List Entry) × (List Entry) × Int)) (V := Int) (ρ := (Bool ⊕ Unit)) mix tabOk slices_Equal_Entry_L4 (o := orT [] [] noFz) (orT_sound trivial) (allLp_of [] (by kernel_rfl) trivial rfl) (fun x v => ((x.1, (x.2.1, (cu2 (cu8 (x.2.2, (v, (cu4 (cu8 ())))))))), ())) (fun x r => match r with | .inl a0 => .inl ((cu4 (a0, (cu (cu4 (cu16 ()))))), ()) | .inr b0 => (.inr ((cu2 (cu8 (cu16 ()))), ()))) (fun x v => slices_Equal_Entry_L4_step x.1 x.2.1 x.2.2 v) (fun x r => .sum r (fun a0 => .ret (.inl ((cu4 (a0, (cu (cu4 (cu16 ()))))), ()))) (fun b0 => .ret (.inr ((cu2 (cu8 (cu16 ()))), ())))) (fun z => (z.1.1, z.1.2.1, z.1.2.2.2.2.2.2.2.2.2.2.2.2.1)) (fun z => z.1.2.2.2.2.2.2.2.2.2.2.2.2.2.1) (fun _ => rfl) (fun _ => rfl) (fun x r Q h => match r, h with | .inl _, h => h | .inr b0, h => (h)) ?_
  intro x v; kernel_rfl

def slices_Equal_Entry_T (x0 : List Entry) (x1 : List Entry) : Tree Bool :=
  .ite (!decide ((x0.length : Int) = (x1.length : Int))) (
    .ret false) (
    .bnd (.loop (fun v => slices_Equal_Entry_L4_step x0 x1 (x0.length : Int) v) 0) fun r1 =>
    .sum r1 (fun r2 =>
      .ret r2) (fun r3 =>
      .ret true))

def slices_Equal_Entry_g : Sig := ⟨37, (.cons (.val false (.list tEntry)) (.cons (.val false (.list tEntry)) .nil)), .vals (.val false .bool), fun z => slices_Equal_Entry_T z.1 z.2.1, false⟩

theorem slices_Equal_Entry_ok : slices_Equal_Entry_g.ok Try.prog := by
  refine Sig.lift mix tabOk nms _ Try.func37 (c := (bodyOf Try.f37)) (by kernel_rfl) (o := orT [] [slices_Equal_Entry_L4] noFz) (orT_sound trivial) (allLp_of [nthC (loopsOf (bodyOf Try.f37)) 0] (by kernel_rfl) ⟨slices_Equal_Entry_L4_ok, trivial⟩ (by kernel_rfl)) ?_
  intro z; kernel_rfl

def registry_Same_T (x0 : List Entry) (x1 : List Entry) : Tree Bool :=
  .bnd (slices_Equal_Entry_T x0 x1) fun y1 =>
  .ret y1

def registry_Same_g : Sig := ⟨18, (.cons (.val false (.list tEntry)) (.cons (.val false (.list tEntry)) .nil)), .vals (.val false .bool), fun z => registry_Same_T z.1 z.2.1, false⟩

theorem registry_Same_ok : registry_Same_g.ok Try.prog := by
  refine Sig.lift mix tabOk nms _ Try.func18 (c := (bodyOf Try.f18)) (by kernel_rfl) (o := orT [slices_Equal_Entry_g] [] noFz) (orT_sound ⟨slices_Equal_Entry_ok, trivial⟩) (allLp_of [] (by kernel_rfl) trivial rfl) ?_
  intro z; kernel_rfl

def l10_awake_T  : Tree Bool :=
  .bnd (registry_Set_T [] ([110, 49] : Str) ([97, 47, 98] : Str) ([118] : Str)) fun y1 =>
  .bnd (registry_Put_T [] y1.1) fun y2 =>
  .bnd (registry_Set_T y2.1 ([110, 50] : Str) ([97, 47, 98] : Str) ([119] : Str)) fun y3 =>
  .bnd (registry_Join_T y2.1 [y3.1, (([99] : Str), (1, ([], [])))]) fun y4 =>
  .grd ((((((decide (y1.2.1 = 0)) && (decide (y2.2.1 = 0))) && (decide (y3.2.1 = 0))) && (decide (y4.2.1 = 0))) && (decide (y3.1.2.1 = 2))) && (decide ((y4.1.length : Int) = 2))) (registry_Get_T y4.1 ([97, 47, 98] : Str)) (dfl tReg : Reg) fun y5 =>
  .grd (((((((decide (y1.2.1 = 0)) && (decide (y2.2.1 = 0))) && (decide (y3.2.1 = 0))) && (decide (y4.2.1 = 0))) && (decide (y3.1.2.1 = 2))) && (decide ((y4.1.length : Int) = 2))) && (y5.2.2 == ([119] : Str))) (registry_Under_T y4.1 ([97] : Str)) ([] : List Entry) fun y6 =>
  .grd ((((((((decide (y1.2.1 = 0)) && (decide (y2.2.1 = 0))) && (decide (y3.2.1 = 0))) && (decide (y4.2.1 = 0))) && (decide (y3.1.2.1 = 2))) && (decide ((y4.1.length : Int) = 2))) && (y5.2.2 == ([119] : Str))) && (decide ((y6.length : Int) = 1))) (registry_News_T y4.1 y2.1) ([] : List Entry) fun y7 =>
  .grd (((((((((decide (y1.2.1 = 0)) && (decide (y2.2.1 = 0))) && (decide (y3.2.1 = 0))) && (decide (y4.2.1 = 0))) && (decide (y3.1.2.1 = 2))) && (decide ((y4.1.length : Int) = 2))) && (y5.2.2 == ([119] : Str))) && (decide ((y6.length : Int) = 1))) && (decide ((y7.length : Int) = 2))) (registry_News_T y2.1 y4.1) ([] : List Entry) fun y8 =>
  .grd ((((((((((decide (y1.2.1 = 0)) && (decide (y2.2.1 = 0))) && (decide (y3.2.1 = 0))) && (decide (y4.2.1 = 0))) && (decide (y3.1.2.1 = 2))) && (decide ((y4.1.length : Int) = 2))) && (y5.2.2 == ([119] : Str))) && (decide ((y6.length : Int) = 1))) && (decide ((y7.length : Int) = 2))) && (decide ((y8.length : Int) = 0))) (registry_Check_T y4.1) (0 : Int) fun y9 =>
  .grd (((((((((((decide (y1.2.1 = 0)) && (decide (y2.2.1 = 0))) && (decide (y3.2.1 = 0))) && (decide (y4.2.1 = 0))) && (decide (y3.1.2.1 = 2))) && (decide ((y4.1.length : Int) = 2))) && (y5.2.2 == ([119] : Str))) && (decide ((y6.length : Int) = 1))) && (decide ((y7.length : Int) = 2))) && (decide ((y8.length : Int) = 0))) && (decide (y9 = 0))) (registry_Same_T y4.1 y4.1) false fun y10 =>
  .grd ((((((((((((decide (y1.2.1 = 0)) && (decide (y2.2.1 = 0))) && (decide (y3.2.1 = 0))) && (decide (y4.2.1 = 0))) && (decide (y3.1.2.1 = 2))) && (decide ((y4.1.length : Int) = 2))) && (y5.2.2 == ([119] : Str))) && (decide ((y6.length : Int) = 1))) && (decide ((y7.length : Int) = 2))) && (decide ((y8.length : Int) = 0))) && (decide (y9 = 0))) && y10) (registry_Same_T y2.1 y4.1) false fun y11 =>
  .ret (((((((((((((decide (y1.2.1 = 0)) && (decide (y2.2.1 = 0))) && (decide (y3.2.1 = 0))) && (decide (y4.2.1 = 0))) && (decide (y3.1.2.1 = 2))) && (decide ((y4.1.length : Int) = 2))) && (y5.2.2 == ([119] : Str))) && (decide ((y6.length : Int) = 1))) && (decide ((y7.length : Int) = 2))) && (decide ((y8.length : Int) = 0))) && (decide (y9 = 0))) && y10) && (!y11))

def l10_awake_g : Sig := ⟨8, .nil, .vals (.val false .bool), fun z => l10_awake_T, false⟩

theorem l10_awake_ok : l10_awake_g.ok Try.prog := by
  refine Sig.lift mix tabOk nms _ Try.func8 (c := (bodyOf Try.f8)) (by kernel_rfl) (o := orT [registry_Set_g, registry_Put_g, registry_Join_g, registry_Get_g, registry_Under_g, registry_News_g, registry_Check_g, registry_Same_g] [] noFz) (orT_sound ⟨registry_Set_ok, ⟨registry_Put_ok, ⟨registry_Join_ok, ⟨registry_Get_ok, ⟨registry_Under_ok, ⟨registry_News_ok, ⟨registry_Check_ok, ⟨registry_Same_ok, trivial⟩⟩⟩⟩⟩⟩⟩⟩) (allLp_of [] (by kernel_rfl) trivial rfl) ?_
  intro z; kernel_rfl

def r05_Is_L2_step (s_ : Str) (i : Int) : Tree (Int ⊕ (Bool ⊕ Unit)) :=
  .ite (decide (i < (s_.length : Int))) (
    ask (inb i s_.length) <|
    ask ((!(!(decide ((sgetI s_ i) < 97)))) || inb i s_.length) <|
    ask ((!((decide ((sgetI s_ i) < 97)) || (decide ((122 : Int) < (sgetI s_ i))))) || inb i s_.length) <|
    ask ((!(((decide ((sgetI s_ i) < 97)) || (decide ((122 : Int) < (sgetI s_ i)))) && (!(decide ((sgetI s_ i) < 48))))) || inb i s_.length) <|
    ask ((!(((decide ((sgetI s_ i) < 97)) || (decide ((122 : Int) < (sgetI s_ i)))) && ((decide ((sgetI s_ i) < 48)) || (decide ((57 : Int) < (sgetI s_ i)))))) || inb i s_.length) <|
    .ite ((((decide ((sgetI s_ i) < 97)) || (decide ((122 : Int) < (sgetI s_ i)))) && ((decide ((sgetI s_ i) < 48)) || (decide ((57 : Int) < (sgetI s_ i))))) && (!decide ((sgetI s_ i) = 45))) (
      .ret (.inr (.inl false))) (
      .ret (.inl (w64 (i + 1))))) (
    .ret (.inr (.inr ())))

def r05_Is_L2 : Lp := ⟨2, [], [], (.cons (.val false .str) (ca2 (.cons (.val false (.int .i64)) (ca2 (ca8 (ca32 .nil)))))), .nil, 0, .more 0 [] (ca2 (.cons (.val false .bool) (ca (ca2 (ca8 (ca32 .nil)))))) .nil (.one 1 [] (.cons (.val false .str) (ca (ca4 (ca8 (ca32 .nil))))) .nil), fun z => .bnd (.loop (fun v => r05_Is_L2_step z.1.1 v) z.1.2.2.2.1) fun r => .sum r (fun a0 => .ret (.inl ((cu2 (a0, (cu (cu2 (cu8 (cu32 ())))))), ()))) (fun b0 => .ret (.inr ((z.1.1, (cu (cu4 (cu8 (cu32 ()))))), ())))⟩

theorem r05_Is_L2_ok : r05_Is_L2.ok Try.prog (nthC (loopsOf (bodyOf Try.f53)) 0) := by
  refine Lp.lift (π := Str) (V := Int) (ρ := (Bool ⊕ Unit)) mix tabOk r05_Is_L2 (o := orT [] [] noFz) (orT_sound trivial) (allLp_of [] (by kernel_rfl) trivial rfl) (fun x v => ((x, (cu2 (v, (cu2 (cu8 (cu32 ())))))), ())) (fun x r => match r with | .inl a0 => .inl ((cu2 (a0, (cu (cu2 (cu8 (cu32 ())))))), ()) | .inr b0 => (.inr ((x, (cu (cu4 (cu8 (cu32 ()))))), ()))) (fun x v => r05_Is_L2_step x v) (fun x r => .sum r (fun a0 => .ret (.inl ((cu2 (a0, (cu (cu2 (cu8 (cu32 ())))))), ()))) (fun b0 => .ret (.inr ((x, (cu (cu4 (cu8 (cu32 ()))))), ())))) (fun z => z.1.1) (fun z => z.1.2.2.2.1) (fun _ => rfl) (fun _ => rfl) (fun x r Q h => match r, h with | .inl _, h => h | .inr b0, h => (h)) ?_
  intro x v; kernel_rfl

def r05_Is_T (x0 : Str) : Tree Bool :=
  .bnd (.loop (fun v => r05_Is_L2_step x0 v) 0) fun r1 =>
  .sum r1 (fun r2 =>
    .ret r2) (fun r3 =>
    .ret ((decide ((1 : Int) ≤ (x0.length : Int))) && (decide ((x0.length : Int) ≤ 16))))

def r05_Is_g : Sig := ⟨53, (.cons (.val false .str) .nil), .vals (.val false .bool), fun z => r05_Is_T z.1, false⟩

theorem r05_Is_ok : r05_Is_g.ok Try.prog := by
  refine Sig.lift mix tabOk nms _ Try.func53 (c := (bodyOf Try.f53)) (by kernel_rfl) (o := orT [] [r05_Is_L2] noFz) (orT_sound trivial) (allLp_of [nthC (loopsOf (bodyOf Try.f53)) 0] (by kernel_rfl) ⟨r05_Is_L2_ok, trivial⟩ (by kernel_rfl)) ?_
  intro z; kernel_rfl

def r09_May_T (x0 : Reg) : Tree Bool :=
  .grd (((decide ((1 : Int) ≤ x0.1)) && (decide (x0.1 ≤ 9007199254740992))) && (!(x0.2.1 == ([] : Str)))) (r05_Is_T x0.2.1) false fun y1 =>
  .ret ((((decide ((1 : Int) ≤ x0.1)) && (decide (x0.1 ≤ 9007199254740992))) && ((x0.2.1 == ([] : Str)) || y1)) && (decide ((x0.2.2.length : Int) ≤ 256)))

def r09_May_g : Sig := ⟨48, (.cons (.val true tReg) .nil), .vals (.val false .bool), fun z => r09_May_T z.1, false⟩

theorem r09_May_ok : r09_May_g.ok Try.prog := by
  refine Sig.lift mix tabOk nms _ Try.func48 (c := (bodyOf Try.f48)) (by kernel_rfl) (o := orT [r05_Is_g] [] noFz) (orT_sound ⟨r05_Is_ok, trivial⟩) (allLp_of [] (by kernel_rfl) trivial rfl) ?_
  intro z; kernel_rfl

def r10_isEntry_T (x0 : Entry) : Tree Bool :=
  .grd ((decide ((1 : Int) ≤ (x0.1.length : Int))) && (decide ((x0.1.length : Int) ≤ 128))) (r09_May_T x0.2) false fun y1 =>
  .ret (((decide ((1 : Int) ≤ (x0.1.length : Int))) && (decide ((x0.1.length : Int) ≤ 128))) && y1)

def r10_isEntry_g : Sig := ⟨38, (.cons (.val true tEntry) .nil), .vals (.val false .bool), fun z => r10_isEntry_T z.1, false⟩

theorem r10_isEntry_ok : r10_isEntry_g.ok Try.prog := by
  refine Sig.lift mix tabOk nms _ Try.func38 (c := (bodyOf Try.f38)) (by kernel_rfl) (o := orT [r09_May_g] [] noFz) (orT_sound ⟨r09_May_ok, trivial⟩) (allLp_of [] (by kernel_rfl) trivial rfl) ?_
  intro z; kernel_rfl

def r10_May_L4_step (l : List Entry) (i : Int) : Tree (Int ⊕ (Bool ⊕ Unit)) :=
  .ite (decide (i < (l.length : Int))) (
    ask (inb i l.length) <|
    .bnd (r10_isEntry_T (l.getD i.toNat (dfl tEntry : Entry))) fun y1 =>
    ask ((!((!(!y1)) && (decide ((0 : Int) < i)))) || inb (w64 (i - 1)) l.length) <|
    ask ((!((!(!y1)) && (decide ((0 : Int) < i)))) || inb i l.length) <|
    .ite ((!y1) || ((decide ((0 : Int) < i)) && (!ltS (l.getD ((w64 (i - 1)).toNat) (dfl tEntry : Entry)).1 (l.getD i.toNat (dfl tEntry : Entry)).1))) (
      .ret (.inr (.inl false))) (
      .ret (.inl (w64 (i + 1))))) (
    .ret (.inr (.inr ())))

def r10_May_L4 : Lp := ⟨4, [], [], (.cons (.val false (.list tEntry)) (ca2 (.cons (.val false (.int .i64)) (ca (ca32 .nil))))), .nil, 0, .more 0 [] (ca2 (.cons (.val false .bool) (ca2 (ca32 .nil)))) .nil (.one 1 [] (ca (ca4 (ca32 .nil))) .nil), fun z => .bnd (.loop (fun v => r10_May_L4_step z.1.1 v) z.1.2.2.2.1) fun r => .sum r (fun a0 => .ret (.inl ((cu2 (a0, (cu2 (cu32 ())))), ()))) (fun b0 => .ret (.inr ((cu (cu4 (cu32 ()))), ())))⟩

theorem r10_May_L4_ok : r10_May_L4.ok Try.prog (nthC (loopsOf (bodyOf Try.f25)) 0) := by
  refine Lp.lift (π := List Entry) (V := Int) (ρ := (Bool ⊕ Unit)) mix tabOk r10_May_L4 (o := orT [r10_isEntry_g] [] noFz) (orT_sound ⟨r10_isEntry_ok, trivial⟩) (allLp_of [] (by kernel_rfl) trivial rfl) (fun x v => ((x, (cu2 (v, (cu (cu32 ()))))), ())) (fun x r => match r with | .inl a0 => .inl ((cu2 (a0, (cu2 (cu32 ())))), ()) | .inr b0 => (.inr ((cu (cu4 (cu32 ()))), ()))) (fun x v => r10_May_L4_step x v) (fun x r => .sum r (fun a0 => .ret (.inl ((cu2 (a0, (cu2 (cu32 ())))), ()))) (fun b0 => .ret (.inr ((cu (cu4 (cu32 ()))), ())))) (fun z => z.1.1) (fun z => z.1.2.2.2.1) (fun _ => rfl) (fun _ => rfl) (fun x r Q h => match r, h with | .inl _, h => h | .inr b0, h => (h)) ?_
  intro x v; kernel_rfl

def r10_May_T (x0 : List Entry) : Tree Bool :=
  .ite (decide ((4096 : Int) < (x0.length : Int))) (
    .ret false) (
    .bnd (.loop (fun v => r10_May_L4_step x0 v) 0) fun r1 =>
    .sum r1 (fun r2 =>
      .ret r2) (fun r3 =>
      .ret true))

def r10_May_g : Sig := ⟨25, (.cons (.val false (.list tEntry)) .nil), .vals (.val false .bool), fun z => r10_May_T z.1, false⟩

theorem r10_May_ok : r10_May_g.ok Try.prog := by
  refine Sig.lift mix tabOk nms _ Try.func25 (c := (bodyOf Try.f25)) (by kernel_rfl) (o := orT [r10_isEntry_g] [r10_May_L4] noFz) (orT_sound ⟨r10_isEntry_ok, trivial⟩) (allLp_of [nthC (loopsOf (bodyOf Try.f25)) 0] (by kernel_rfl) ⟨r10_May_L4_ok, trivial⟩ (by kernel_rfl)) ?_
  intro z; kernel_rfl

def r10_Check_T (x0 : List Entry) : Tree Int :=
  .bnd (r10_May_T x0) fun y1 =>
  .ite (!y1) (
    .ret 1) (
    .ret 0)

def r10_Check_g : Sig := ⟨10, (.cons (.val false (.list tEntry)) .nil), .vals (.val false (.int .i64)), fun z => r10_Check_T z.1, (0 : Int)⟩

theorem r10_Check_ok : r10_Check_g.ok Try.prog := by
  refine Sig.lift mix tabOk nms _ Try.func10 (c := (bodyOf Try.f10)) (by kernel_rfl) (o := orT [r10_May_g] [] noFz) (orT_sound ⟨r10_May_ok, trivial⟩) (allLp_of [] (by kernel_rfl) trivial rfl) ?_
  intro z; kernel_rfl

def r10_Get_L2_step (l : List Entry) (key : Str) (c : Reg) (i : Int) : Tree (Int ⊕ (Reg ⊕ Unit)) :=
  .ite (decide (i < (l.length : Int))) (
    ask (inb i l.length) <|
    .ite ((l.getD i.toNat (dfl tEntry : Entry)).1 == key) (
      ask (inb i l.length) <|
      .ret (.inr (.inl (l.getD i.toNat (dfl tEntry : Entry)).2))) (
      .ret (.inl (w64 (i + 1))))) (
    .ret (.inr (.inr ())))

def r10_Get_L2 : Lp := ⟨2, [], [], (.cons (.val false (.list tEntry)) (.cons (.val false .str) (ca2 (.cons (.ref 0 0) (.cons (.val false (.int .i64)) (ca (ca2 (ca16 .nil)))))))), (.cells 28 (.cons (.flat tReg) .nil) .nil), 0, .more 0 [] (ca4 (.cons (.ref 0 0) (ca4 (ca16 .nil)))) (.cells 28 (.cons (.flat tReg) .nil) .nil) (.one 1 [] (ca4 (.cons (.ref 0 0) (ca4 (ca16 .nil)))) (.cells 28 (.cons (.flat tReg) .nil) .nil)), fun z => .bnd (.loop (fun v => r10_Get_L2_step z.1.1 z.1.2.1 z.2.1.1 v) z.1.2.2.2.2.2.1) fun r => .sum r (fun a0 => .ret (.inl ((cu4 ((), (cu4 (cu16 ())))), ((a0, ()), ())))) (fun b0 => .ret (.inr ((cu4 ((), (cu4 (cu16 ())))), ((z.2.1.1, ()), ()))))⟩

theorem r10_Get_L2_ok : r10_Get_L2.ok Try.prog (nthC (loopsOf (bodyOf Try.f12)) 0) := by
  refine Lp.lift (π := ((List Entry) × Str × Reg)) (V := Int) (ρ := (Reg ⊕ Unit)) mix tabOk r10_Get_L2 (o := orT [] [] noFz) (orT_sound trivial) (allLp_of [] (by kernel_rfl) trivial rfl) (fun x v => ((x.1, (x.2.1, (cu2 ((), (v, (cu (cu2 (cu16 ())))))))), ((x.2.2, ()), ()))) (fun x r => match r with | .inl a0 => .inl ((cu4 ((), (cu4 (cu16 ())))), ((a0, ()), ())) | .inr b0 => (.inr ((cu4 ((), (cu4 (cu16 ())))), ((x.2.2, ()), ())))) (fun x v => r10_Get_L2_step x.1 x.2.1 x.2.2 v) (fun x r => .sum r (fun a0 => .ret (.inl ((cu4 ((), (cu4 (cu16 ())))), ((a0, ()), ())))) (fun b0 => .ret (.inr ((cu4 ((), (cu4 (cu16 ())))), ((x.2.2, ()), ()))))) (fun z => (z.1.1, z.1.2.1, z.2.1.1)) (fun z => z.1.2.2.2.2.2.1) (fun _ => rfl) (fun _ => rfl) (fun x r Q h => match r, h with | .inl _, h => h | .inr b0, h => (h)) ?_
  intro x v; kernel_rfl

def r10_Get_T (x0 : List Entry) (x1 : Str) : Tree Reg :=
  .bnd (.loop (fun v => r10_Get_L2_step x0 x1 (0, ([], [])) v) 0) fun r1 =>
  .sum r1 (fun r2 =>
    .ret r2) (fun r3 =>
    .ret (0, ([], [])))

def r10_Get_g : Sig := ⟨12, (.cons (.val false (.list tEntry)) (.cons (.val false .str) .nil)), .vals (.val true tReg), fun z => r10_Get_T z.1 z.2.1, (dfl tReg : Reg)⟩

theorem r10_Get_ok : r10_Get_g.ok Try.prog := by
  refine Sig.lift mix tabOk nms _ Try.func12 (c := (bodyOf Try.f12)) (by kernel_rfl) (o := orT [] [r10_Get_L2] noFz) (orT_sound trivial) (allLp_of [nthC (loopsOf (bodyOf Try.f12)) 0] (by kernel_rfl) ⟨r10_Get_L2_ok, trivial⟩ (by kernel_rfl)) ?_
  intro z; kernel_rfl

def r10_Under_L3_step (l : List Entry) (path : Str) (i : Int) (out : List Entry) : Tree ((Int × (List Entry)) ⊕ (List Entry)) :=
  .ite (decide (i < (l.length : Int))) (
    ask (inb i l.length) <|
    ask ((!(decide ((path.length : Int) < ((l.getD i.toNat (dfl tEntry : Entry)).1.length : Int)))) || inbe (path.length : Int) (l.getD i.toNat (dfl tEntry : Entry)).1.length) <|
    ask ((!((decide ((path.length : Int) < ((l.getD i.toNat (dfl tEntry : Entry)).1.length : Int))) && ((subS (l.getD i.toNat (dfl tEntry : Entry)).1 0 (path.length : Int).toNat) == path))) || inb (path.length : Int) (l.getD i.toNat (dfl tEntry : Entry)).1.length) <|
    .ite (((decide ((path.length : Int) < ((l.getD i.toNat (dfl tEntry : Entry)).1.length : Int))) && ((subS (l.getD i.toNat (dfl tEntry : Entry)).1 0 (path.length : Int).toNat) == path)) && (decide ((sgetI (l.getD i.toNat (dfl tEntry : Entry)).1 (path.length : Int)) = 47))) (
      ask (inb i l.length) <|
      ask (decide ((out ++ [(l.getD i.toNat (dfl tEntry : Entry))]).length * 56 ≤ roomNat)) <|
      .ret (.inl ((w64 (i + 1)), (out ++ [(l.getD i.toNat (dfl tEntry : Entry))])))) (
      .ret (.inl ((w64 (i + 1)), out)))) (
    .ret (.inr out))

def r10_Under_L3 : Lp := ⟨3, [.own 5 35 tEntry], [], (.cons (.val false (.list tEntry)) (.cons (.val false .str) (ca (ca2 (.cons (.own 0) (.cons (.val false (.int .i64)) (ca8 (ca32 .nil)))))))), (.rows 35 tEntry .nil), 0, .one 1 [] (ca (ca4 (.cons (.own 0) (ca (ca8 (ca32 .nil)))))) (.rows 35 tEntry .nil), fun z => .bnd (.loop (fun v => r10_Under_L3_step z.1.1 z.1.2.1 v.1 v.2) (z.1.2.2.2.2.2.2.1, z.2.1)) fun r => .ret ((cu (cu4 ((), (cu (cu8 (cu32 ())))))), (r, ()))⟩

theorem r10_Under_L3_ok : r10_Under_L3.ok Try.prog (nthC (loopsOf (bodyOf Try.f15)) 0) := by
  refine Lp.lift (π := ((List Entry) × Str)) (V := (Int × (List Entry))) (ρ := List Entry) mix tabOk r10_Under_L3 (o := orT [] [] noFz) (orT_sound trivial) (allLp_of [] (by kernel_rfl) trivial rfl) (fun x v => ((x.1, (x.2, (cu (cu2 ((), (v.1, (cu8 (cu32 ())))))))), (v.2, ()))) (fun x r => ((cu (cu4 ((), (cu (cu8 (cu32 ())))))), (r, ()))) (fun x v => r10_Under_L3_step x.1 x.2 v.1 v.2) (fun x r => .ret ((cu (cu4 ((), (cu (cu8 (cu32 ())))))), (r, ()))) (fun z => (z.1.1, z.1.2.1)) (fun z => (z.1.2.2.2.2.2.2.1, z.2.1)) (fun _ => rfl) (fun _ => rfl) (fun _ _ _ h => h) ?_
  intro x v; kernel_rfl

def r10_Under_T (x0 : List Entry) (x1 : Str) : Tree (List Entry) :=
  .bnd (.loop (fun v => r10_Under_L3_step x0 x1 v.1 v.2) (0, ([] : List Entry))) fun r1 =>
  .ret r1

def r10_Under_g : Sig := ⟨15, (.cons (.val false (.list tEntry)) (.cons (.val false .str) .nil)), .fresh 35 tEntry, fun z => r10_Under_T z.1 z.2.1, ([] : List Entry)⟩

theorem r10_Under_ok : r10_Under_g.ok Try.prog := by
  refine Sig.lift mix tabOk nms _ Try.func15 (c := (bodyOf Try.f15)) (by kernel_rfl) (o := orT [] [r10_Under_L3] noFz) (orT_sound trivial) (allLp_of [nthC (loopsOf (bodyOf Try.f15)) 0] (by kernel_rfl) ⟨r10_Under_L3_ok, trivial⟩ (by kernel_rfl)) ?_
  intro z; kernel_rfl

def r10_Under_gv : Sig := ⟨15, (.cons (.val false (.list tEntry)) (.cons (.val false .str) .nil)), .vals (.val false (.list tEntry)), fun z => r10_Under_T z.1 z.2.1, ([] : List Entry)⟩

theorem r10_Under_okv : r10_Under_gv.ok Try.prog := fun x y h => acalls_val (r10_Under_ok x y h)

def r10_Same_L4_step (a : List Entry) (b : List Entry) (i : Int) : Tree (Int ⊕ (Bool ⊕ Unit)) :=
  .ite ((decide (i < (a.length : Int))) && (decide (i < (b.length : Int)))) (
    ask (inb i a.length) <|
    ask (inb i b.length) <|
    .ite (!(((a.getD i.toNat (dfl tEntry : Entry)).1 == (b.getD i.toNat (dfl tEntry : Entry)).1) && (((decide ((a.getD i.toNat (dfl tEntry : Entry)).2.1 = (b.getD i.toNat (dfl tEntry : Entry)).2.1)) && (((a.getD i.toNat (dfl tEntry : Entry)).2.2.1 == (b.getD i.toNat (dfl tEntry : Entry)).2.2.1) && (((a.getD i.toNat (dfl tEntry : Entry)).2.2.2 == (b.getD i.toNat (dfl tEntry : Entry)).2.2.2) && true))) && true))) (
      .ret (.inr (.inl false))) (
      .ret (.inl (w64 (i + 1))))) (
    .ret (.inr (.inr ())))

def r10_Same_L4 : Lp := ⟨4, [], [], (.cons (.val false (.list tEntry)) (.cons (.val false (.list tEntry)) (ca (ca2 (.cons (.val false (.int .i64)) (ca2 (ca8 (ca16 .nil)))))))), .nil, 0, .more 0 [] (ca4 (.cons (.val false .bool) (ca (ca2 (ca8 (ca16 .nil)))))) .nil (.one 1 [] (ca32 .nil) .nil), fun z => .bnd (.loop (fun v => r10_Same_L4_step z.1.1 z.1.2.1 v) z.1.2.2.2.2.2.1) fun r => .sum r (fun a0 => .ret (.inl ((cu4 (a0, (cu (cu2 (cu8 (cu16 ())))))), ()))) (fun b0 => .ret (.inr ((cu32 ()), ())))⟩

theorem r10_Same_L4_ok : r10_Same_L4.ok Try.prog (nthC (loopsOf (bodyOf Try.f13)) 0) := by
  refine Lp.lift (π := ((List Entry) × (List Entry))) (V := Int) (ρ := (Bool ⊕ Unit)) mix tabOk r10_Same_L4 (o := orT [] [] noFz) (orT_sound trivial) (allLp_of [] (by kernel_rfl) trivial rfl) (fun x v => ((x.1, (x.2, (cu (cu2 (v, (cu2 (cu8 (cu16 ())))))))), ())) (fun x r => match r with | .inl a0 => .inl ((cu4 (a0, (cu (cu2 (cu8 (cu16 ())))))), ()) | .inr b0 => (.inr ((cu32 ()), ()))) (fun x v => r10_Same_L4_step x.1 x.2 v) (fun x r => .sum r (fun a0 => .ret (.inl ((cu4 (a0, (cu (cu2 (cu8 (cu16 ())))))), ()))) (fun b0 => .ret (.inr ((cu32 ()), ())))) (fun z => (z.1.1, z.1.2.1)) (fun z => z.1.2.2.2.2.2.1) (fun _ => rfl) (fun _ => rfl) (fun x r Q h => match r, h with | .inl _, h => h | .inr b0, h => (h)) ?_
  intro x v; kernel_rfl

def r10_Same_T (x0 : List Entry) (x1 : List Entry) : Tree Bool :=
  .ite (!decide ((x0.length : Int) = (x1.length : Int))) (
    .ret false) (
    .bnd (.loop (fun v => r10_Same_L4_step x0 x1 v) 0) fun r1 =>
    .sum r1 (fun r2 =>
      .ret r2) (fun r3 =>
      .ret true))

def r10_Same_g : Sig := ⟨13, (.cons (.val false (.list tEntry)) (.cons (.val false (.list tEntry)) .nil)), .vals (.val false .bool), fun z => r10_Same_T z.1 z.2.1, false⟩

theorem r10_Same_ok : r10_Same_g.ok Try.prog := by
  refine Sig.lift mix tabOk nms _ Try.func13 (c := (bodyOf Try.f13)) (by kernel_rfl) (o := orT [] [r10_Same_L4] noFz) (orT_sound trivial) (allLp_of [nthC (loopsOf (bodyOf Try.f13)) 0] (by kernel_rfl) ⟨r10_Same_L4_ok, trivial⟩ (by kernel_rfl)) ?_
  intro z; kernel_rfl

def r09_Newer_T (x0 : Reg) (x1 : Reg) : Tree Bool :=
  .ite (!decide (x0.1 = x1.1)) (
    .ret (decide (x1.1 < x0.1))) (
    .ite (!(x0.2.1 == x1.2.1)) (
      .ret (!(ltS x0.2.1 x1.2.1 || x0.2.1 == x1.2.1))) (
      .ret (!(ltS x0.2.2 x1.2.2 || x0.2.2 == x1.2.2))))

def r09_Newer_g : Sig := ⟨36, (.cons (.val true tReg) (.cons (.val true tReg) .nil)), .vals (.val false .bool), fun z => r09_Newer_T z.1 z.2.1, false⟩

theorem r09_Newer_ok : r09_Newer_g.ok Try.prog := by
  refine Sig.lift mix tabOk nms _ Try.func36 (c := (bodyOf Try.f36)) (by kernel_rfl) (o := orT [] [] noFz) (orT_sound trivial) (allLp_of [] (by kernel_rfl) trivial rfl) ?_
  intro z; kernel_rfl

def r10_News_L3_step (a : List Entry) (b : List Entry) (i : Int) (out : List Entry) : Tree ((Int × (List Entry)) ⊕ (List Entry)) :=
  .ite (decide (i < (a.length : Int))) (
    ask (inb i a.length) <|
    ask (inb i a.length) <|
    .bnd (r10_Get_T b (a.getD i.toNat (dfl tEntry : Entry)).1) fun y1 =>
    .bnd (r09_Newer_T (a.getD i.toNat (dfl tEntry : Entry)).2 y1) fun y2 =>
    .ite y2 (
      ask (inb i a.length) <|
      ask (decide ((out ++ [(a.getD i.toNat (dfl tEntry : Entry))]).length * 56 ≤ roomNat)) <|
      .ret (.inl ((w64 (i + 1)), (out ++ [(a.getD i.toNat (dfl tEntry : Entry))])))) (
      .ret (.inl ((w64 (i + 1)), out)))) (
    .ret (.inr out))

def r10_News_L3 : Lp := ⟨3, [.own 5 35 tEntry], [], (.cons (.val false (.list tEntry)) (.cons (.val false (.list tEntry)) (ca (ca2 (.cons (.own 0) (.cons (.val false (.int .i64)) (ca (ca2 (ca8 (ca16 .nil)))))))))), (.rows 35 tEntry .nil), 0, .one 1 [] (ca (ca4 (.cons (.own 0) (ca4 (ca8 (ca16 .nil)))))) (.rows 35 tEntry .nil), fun z => .bnd (.loop (fun v => r10_News_L3_step z.1.1 z.1.2.1 v.1 v.2) (z.1.2.2.2.2.2.2.1, z.2.1)) fun r => .ret ((cu (cu4 ((), (cu4 (cu8 (cu16 ())))))), (r, ()))⟩

theorem r10_News_L3_ok : r10_News_L3.ok Try.prog (nthC (loopsOf (bodyOf Try.f17)) 0) := by
  refine Lp.lift (π := ((List Entry) × (List Entry))) (V := (Int × (List Entry))) (ρ := List Entry) mix tabOk r10_News_L3 (o := orT [r10_Get_g, r09_Newer_g] [] noFz) (orT_sound ⟨r10_Get_ok, ⟨r09_Newer_ok, trivial⟩⟩) (allLp_of [] (by kernel_rfl) trivial rfl) (fun x v => ((x.1, (x.2, (cu (cu2 ((), (v.1, (cu (cu2 (cu8 (cu16 ())))))))))), (v.2, ()))) (fun x r => ((cu (cu4 ((), (cu4 (cu8 (cu16 ())))))), (r, ()))) (fun x v => r10_News_L3_step x.1 x.2 v.1 v.2) (fun x r => .ret ((cu (cu4 ((), (cu4 (cu8 (cu16 ())))))), (r, ()))) (fun z => (z.1.1, z.1.2.1)) (fun z => (z.1.2.2.2.2.2.2.1, z.2.1)) (fun _ => rfl) (fun _ => rfl) (fun _ _ _ h => h) ?_
  intro x v; kernel_rfl

def r10_News_T (x0 : List Entry) (x1 : List Entry) : Tree (List Entry) :=
  .bnd (.loop (fun v => r10_News_L3_step x0 x1 v.1 v.2) (0, ([] : List Entry))) fun r1 =>
  .ret r1

def r10_News_g : Sig := ⟨17, (.cons (.val false (.list tEntry)) (.cons (.val false (.list tEntry)) .nil)), .fresh 35 tEntry, fun z => r10_News_T z.1 z.2.1, ([] : List Entry)⟩

theorem r10_News_ok : r10_News_g.ok Try.prog := by
  refine Sig.lift mix tabOk nms _ Try.func17 (c := (bodyOf Try.f17)) (by kernel_rfl) (o := orT [r10_Get_g, r09_Newer_g] [r10_News_L3] noFz) (orT_sound ⟨r10_Get_ok, ⟨r09_Newer_ok, trivial⟩⟩) (allLp_of [nthC (loopsOf (bodyOf Try.f17)) 0] (by kernel_rfl) ⟨r10_News_L3_ok, trivial⟩ (by kernel_rfl)) ?_
  intro z; kernel_rfl

def r10_News_gv : Sig := ⟨17, (.cons (.val false (.list tEntry)) (.cons (.val false (.list tEntry)) .nil)), .vals (.val false (.list tEntry)), fun z => r10_News_T z.1 z.2.1, ([] : List Entry)⟩

theorem r10_News_okv : r10_News_gv.ok Try.prog := fun x y h => acalls_val (r10_News_ok x y h)

def l10_RegistryIs_T (x0 : List Entry) (x1 : List Entry) (x2 : Str) : Tree Bool :=
  .bnd (r10_Few_T x0 30) fun y1 =>
  .grd (!(!y1)) (r10_Few_T x1 30) false fun y2 =>
  .ite (((!y1) || (!y2)) || (decide ((200 : Int) < (x2.length : Int)))) (
    .bnd l10_awake_T fun y3 =>
    .ret y3) (
    .bnd (registry_Check_T x0) fun y4 =>
    .bnd (r10_Check_T x0) fun y5 =>
    .grd (decide (y4 = y5)) (registry_Get_T x0 x2) (dfl tReg : Reg) fun y6 =>
    .grd (decide (y4 = y5)) (r10_Get_T x0 x2) (dfl tReg : Reg) fun y7 =>
    .grd ((decide (y4 = y5)) && ((decide (y6.1 = y7.1)) && ((y6.2.1 == y7.2.1) && ((y6.2.2 == y7.2.2) && true)))) (registry_Under_T x0 x2) ([] : List Entry) fun y8 =>
    .grd ((decide (y4 = y5)) && ((decide (y6.1 = y7.1)) && ((y6.2.1 == y7.2.1) && ((y6.2.2 == y7.2.2) && true)))) (r10_Under_T x0 x2) ([] : List Entry) fun y9 =>
    .grd ((decide (y4 = y5)) && ((decide (y6.1 = y7.1)) && ((y6.2.1 == y7.2.1) && ((y6.2.2 == y7.2.2) && true)))) (r10_Same_T y8 y9) false fun y10 =>
    .grd (((decide (y4 = y5)) && ((decide (y6.1 = y7.1)) && ((y6.2.1 == y7.2.1) && ((y6.2.2 == y7.2.2) && true)))) && y10) (registry_News_T x0 x1) ([] : List Entry) fun y11 =>
    .grd (((decide (y4 = y5)) && ((decide (y6.1 = y7.1)) && ((y6.2.1 == y7.2.1) && ((y6.2.2 == y7.2.2) && true)))) && y10) (r10_News_T x0 x1) ([] : List Entry) fun y12 =>
    .grd (((decide (y4 = y5)) && ((decide (y6.1 = y7.1)) && ((y6.2.1 == y7.2.1) && ((y6.2.2 == y7.2.2) && true)))) && y10) (r10_Same_T y11 y12) false fun y13 =>
    .grd ((((decide (y4 = y5)) && ((decide (y6.1 = y7.1)) && ((y6.2.1 == y7.2.1) && ((y6.2.2 == y7.2.2) && true)))) && y10) && y13) (registry_Same_T x0 x1) false fun y14 =>
    .grd ((((decide (y4 = y5)) && ((decide (y6.1 = y7.1)) && ((y6.2.1 == y7.2.1) && ((y6.2.2 == y7.2.2) && true)))) && y10) && y13) (r10_Same_T x0 x1) false fun y15 =>
    .grd (((((decide (y4 = y5)) && ((decide (y6.1 = y7.1)) && ((y6.2.1 == y7.2.1) && ((y6.2.2 == y7.2.2) && true)))) && y10) && y13) && (y14 == y15)) l10_awake_T false fun y16 =>
    .ret ((((((decide (y4 = y5)) && ((decide (y6.1 = y7.1)) && ((y6.2.1 == y7.2.1) && ((y6.2.2 == y7.2.2) && true)))) && y10) && y13) && (y14 == y15)) && y16))

def l10_RegistryIs_g : Sig := ⟨3, (.cons (.val false (.list tEntry)) (.cons (.val false (.list tEntry)) (.cons (.val false .str) .nil))), .vals (.val false .bool), fun z => l10_RegistryIs_T z.1 z.2.1 z.2.2.1, false⟩

theorem l10_RegistryIs_ok : l10_RegistryIs_g.ok Try.prog := by
  refine Sig.lift mix tabOk nms _ Try.func3 (c := (bodyOf Try.f3)) (by kernel_rfl) (o := orT [r10_Few_g, l10_awake_g, registry_Check_g, r10_Check_g, registry_Get_g, r10_Get_g, registry_Under_g, r10_Under_gv, r10_Same_g, registry_News_g, r10_News_gv, registry_Same_g] [] noFz) (orT_sound ⟨r10_Few_ok, ⟨l10_awake_ok, ⟨registry_Check_ok, ⟨r10_Check_ok, ⟨registry_Get_ok, ⟨r10_Get_ok, ⟨registry_Under_ok, ⟨r10_Under_okv, ⟨r10_Same_ok, ⟨registry_News_ok, ⟨r10_News_okv, ⟨registry_Same_ok, trivial⟩⟩⟩⟩⟩⟩⟩⟩⟩⟩⟩⟩) (allLp_of [] (by kernel_rfl) trivial rfl) ?_
  intro z; kernel_rfl

def r09_Join_T (x0 : Reg) (x1 : Reg) : Tree Reg :=
  .bnd (r09_Newer_T x1 x0) fun y1 =>
  .ite y1 (
    .ret x1) (
    .ret x0)

def r09_Join_g : Sig := ⟨49, (.cons (.val true tReg) (.cons (.val true tReg) .nil)), .vals (.val true tReg), fun z => r09_Join_T z.1 z.2.1, (dfl tReg : Reg)⟩

theorem r09_Join_ok : r09_Join_g.ok Try.prog := by
  refine Sig.lift mix tabOk nms _ Try.func49 (c := (bodyOf Try.f49)) (by kernel_rfl) (o := orT [r09_Newer_g] [] noFz) (orT_sound ⟨r09_Newer_ok, trivial⟩) (allLp_of [] (by kernel_rfl) trivial rfl) ?_
  intro z; kernel_rfl

def r10_put_fz : Nat → List Pre
  | 7 => [.frz 0]
  | _ => []

def r10_put_L2_step (l : List Entry) (x_ : Entry) (k : Int) : Tree (Int ⊕ Int) :=
  ask ((!(decide (k < (l.length : Int)))) || inb k l.length) <|
  .ite ((decide (k < (l.length : Int))) && (ltS (l.getD k.toNat (dfl tEntry : Entry)).1 x_.1)) (
    .ret (.inl (w64 (k + 1)))) (
    .ret (.inr k))

def r10_put_L2 : Lp := ⟨2, [], [], (.cons (.val false (.list tEntry)) (ca2 (.cons (.ref 0 0) (ca (.cons (.val false (.int .i64)) (ca (ca2 (ca32 (ca32 .nil))))))))), (.cells 35 (.cons (.flat tEntry) .nil) .nil), 0, .one 1 [] (.cons (.val false (.list tEntry)) (ca2 (.cons (.ref 0 0) (ca (.cons (.val false (.int .i64)) (ca (ca2 (ca32 (ca32 .nil))))))))) (.cells 35 (.cons (.flat tEntry) .nil) .nil), fun z => .bnd (.loop (fun v => r10_put_L2_step z.1.1 z.2.1.1 v) z.1.2.2.2.2.2.1) fun r => .ret ((z.1.1, (cu2 ((), (cu (r, (cu (cu2 (cu32 (cu32 ()))))))))), ((z.2.1.1, ()), ()))⟩

theorem r10_put_L2_ok : r10_put_L2.ok Try.prog (nthC (loopsOf (bodyOf Try.f39)) 0) := by
  refine Lp.lift (π := ((List Entry) × Entry)) (V := Int) (ρ := Int) mix tabOk r10_put_L2 (o := orT [r09_Join_g] [] r10_put_fz) (orT_sound ⟨r09_Join_ok, trivial⟩) (allLp_of [] (by kernel_rfl) trivial rfl) (fun x v => ((x.1, (cu2 ((), (cu (v, (cu (cu2 (cu32 (cu32 ()))))))))), ((x.2, ()), ()))) (fun x r => ((x.1, (cu2 ((), (cu (r, (cu (cu2 (cu32 (cu32 ()))))))))), ((x.2, ()), ()))) (fun x v => r10_put_L2_step x.1 x.2 v) (fun x r => .ret ((x.1, (cu2 ((), (cu (r, (cu (cu2 (cu32 (cu32 ()))))))))), ((x.2, ()), ()))) (fun z => (z.1.1, z.2.1.1)) (fun z => z.1.2.2.2.2.2.1) (fun _ => rfl) (fun _ => rfl) (fun _ _ _ h => h) ?_
  intro x v; kernel_rfl

def r10_put_T (x0 : List Entry) (x1 : Entry) : Tree (List Entry) :=
  .bnd (.loop (fun v => r10_put_L2_step x0 x1 v) 0) fun r1 =>
  ask (inbe r1 x0.length) <|
  ask (decide ((x0.take r1.toNat).length * 56 ≤ roomNat)) <|
  ask ((!(decide (r1 < (x0.length : Int)))) || inb r1 x0.length) <|
  .ite ((decide (r1 < (x0.length : Int))) && ((x0.getD r1.toNat (dfl tEntry : Entry)).1 == x1.1)) (
    ask (inb r1 x0.length) <|
    .bnd (r09_Join_T (x0.getD r1.toNat (dfl tEntry : Entry)).2 x1.2) fun y2 =>
    ask (decide (((x0.take r1.toNat) ++ [(x1.1, y2)]).length * 56 ≤ roomNat)) <|
    ask (inbe (w64 (r1 + 1)) x0.length) <|
    ask (decide ((((x0.take r1.toNat) ++ [(x1.1, y2)]) ++ (x0.drop (w64 (r1 + 1)).toNat)).length * 56 ≤ roomNat)) <|
    .ret (((x0.take r1.toNat) ++ [(x1.1, y2)]) ++ (x0.drop (w64 (r1 + 1)).toNat))) (
    ask (decide (((x0.take r1.toNat) ++ [x1]).length * 56 ≤ roomNat)) <|
    ask (inbe r1 x0.length) <|
    ask (decide ((((x0.take r1.toNat) ++ [x1]) ++ (x0.drop r1.toNat)).length * 56 ≤ roomNat)) <|
    .ret (((x0.take r1.toNat) ++ [x1]) ++ (x0.drop r1.toNat)))

def r10_put_g : Sig := ⟨39, (.cons (.val false (.list tEntry)) (.cons (.val true tEntry) .nil)), .fresh 35 tEntry, fun z => r10_put_T z.1 z.2.1, ([] : List Entry)⟩

theorem r10_put_ok : r10_put_g.ok Try.prog := by
  refine Sig.lift mix tabOk nms _ Try.func39 (c := (bodyOf Try.f39)) (by kernel_rfl) (o := orT [r09_Join_g] [r10_put_L2] r10_put_fz) (orT_sound ⟨r09_Join_ok, trivial⟩) (allLp_of [nthC (loopsOf (bodyOf Try.f39)) 0] (by kernel_rfl) ⟨r10_put_L2_ok, trivial⟩ (by kernel_rfl)) ?_
  intro z; kernel_rfl

def r10_put_gv : Sig := ⟨39, (.cons (.val false (.list tEntry)) (.cons (.val true tEntry) .nil)), .vals (.val false (.list tEntry)), fun z => r10_put_T z.1 z.2.1, ([] : List Entry)⟩

theorem r10_put_okv : r10_put_gv.ok Try.prog := fun x y h => acalls_val (r10_put_ok x y h)

def r10_Put_T (x0 : List Entry) (x1 : Entry) : Tree ((List Entry) × Int × Unit) :=
  .bnd (r10_May_T x0) fun y1 =>
  .grd (!(!y1)) (r10_isEntry_T x1) false fun y2 =>
  .ite ((!y1) || (!y2)) (
    .ret ([], 1, ())) (
    .bnd (r10_put_T x0 x1) fun y3 =>
    .ite (decide ((4096 : Int) < (y3.length : Int))) (
      .ret ([], 4, ())) (
      .ret (y3, 0, ())))

def r10_Put_g : Sig := ⟨20, (.cons (.val false (.list tEntry)) (.cons (.val true tEntry) .nil)), .vals (.cons (.val false (.list tEntry)) (.cons (.val false (.int .i64)) .nil)), fun z => r10_Put_T z.1 z.2.1, (([] : List Entry), (0 : Int), ())⟩

theorem r10_Put_ok : r10_Put_g.ok Try.prog := by
  refine Sig.lift mix tabOk nms _ Try.func20 (c := (bodyOf Try.f20)) (by kernel_rfl) (o := orT [r10_May_g, r10_isEntry_g, r10_put_g] [] noFz) (orT_sound ⟨r10_May_ok, ⟨r10_isEntry_ok, ⟨r10_put_ok, trivial⟩⟩⟩) (allLp_of [] (by kernel_rfl) trivial rfl) ?_
  intro z; kernel_rfl

def r10_Join_L6_step (b : List Entry) (out : List Entry) (i : Int) : Tree (((List Entry) × Int) ⊕ (List Entry)) :=
  .ite (decide (i < (b.length : Int))) (
    ask (inb i b.length) <|
    .bnd (r10_put_T out (b.getD i.toNat (dfl tEntry : Entry))) fun y1 =>
    .ret (.inl (y1, (w64 (i + 1))))) (
    .ret (.inr out))

def r10_Join_L6 : Lp := ⟨6, [.frz 0], [.frz 0], (ca (.cons (.val false (.list tEntry)) (ca4 (.cons (.val false (.list tEntry)) (.cons (.val false (.int .i64)) (ca (ca2 (ca8 (ca16 .nil))))))))), .nil, 0, .one 1 [] (ca2 (ca4 (.cons (.val false (.list tEntry)) (ca4 (ca8 (ca16 .nil)))))) .nil, fun z => .bnd (.loop (fun v => r10_Join_L6_step z.1.2.1 v.1 v.2) (z.1.2.2.2.2.2.2.1, z.1.2.2.2.2.2.2.2.1)) fun r => .ret ((cu2 (cu4 (r, (cu4 (cu8 (cu16 ())))))), ())⟩

theorem r10_Join_L6_ok : r10_Join_L6.ok Try.prog (nthC (loopsOf (bodyOf Try.f22)) 0) := by
  refine Lp.lift (π := List Entry) (V := ((List Entry) × Int)) (ρ := List Entry) mix tabOk r10_Join_L6 (o := orT [r10_May_g, r10_put_g] [] noFz) (orT_sound ⟨r10_May_ok, ⟨r10_put_ok, trivial⟩⟩) (allLp_of [] (by kernel_rfl) trivial rfl) (fun x v => ((cu (x, (cu4 (v.1, (v.2, (cu (cu2 (cu8 (cu16 ()))))))))), ())) (fun x r => ((cu2 (cu4 (r, (cu4 (cu8 (cu16 ())))))), ())) (fun x v => r10_Join_L6_step x v.1 v.2) (fun x r => .ret ((cu2 (cu4 (r, (cu4 (cu8 (cu16 ())))))), ())) (fun z => z.1.2.1) (fun z => (z.1.2.2.2.2.2.2.1, z.1.2.2.2.2.2.2.2.1)) (fun _ => rfl) (fun _ => rfl) (fun _ _ _ h => h) ?_
  intro x v; kernel_rfl

def r10_Join_T (x0 : List Entry) (x1 : List Entry) : Tree ((List Entry) × Int × Unit) :=
  .bnd (r10_May_T x0) fun y1 =>
  .grd (!(!y1)) (r10_May_T x1) false fun y2 =>
  .ite ((!y1) || (!y2)) (
    .ret ([], 1, ())) (
    ask (decide (x0.length * 56 ≤ roomNat)) <|
    .bnd (.loop (fun v => r10_Join_L6_step x1 v.1 v.2) (x0, 0)) fun r3 =>
    .ite (decide ((4096 : Int) < (r3.length : Int))) (
      .ret ([], 4, ())) (
      .ret (r3, 0, ())))

def r10_Join_g : Sig := ⟨22, (.cons (.val false (.list tEntry)) (.cons (.val false (.list tEntry)) .nil)), .vals (.cons (.val false (.list tEntry)) (.cons (.val false (.int .i64)) .nil)), fun z => r10_Join_T z.1 z.2.1, (([] : List Entry), (0 : Int), ())⟩

theorem r10_Join_ok : r10_Join_g.ok Try.prog := by
  refine Sig.lift mix tabOk nms _ Try.func22 (c := (bodyOf Try.f22)) (by kernel_rfl) (o := orT [r10_May_g, r10_put_g] [r10_Join_L6] noFz) (orT_sound ⟨r10_May_ok, ⟨r10_put_ok, trivial⟩⟩) (allLp_of [nthC (loopsOf (bodyOf Try.f22)) 0] (by kernel_rfl) ⟨r10_Join_L6_ok, trivial⟩ (by kernel_rfl)) ?_
  intro z; kernel_rfl

def l10_RegistryPuts_T (x0 : List Entry) (x1 : List Entry) (x2 : Entry) : Tree Bool :=
  .bnd (r10_Few_T x0 30) fun y1 =>
  .grd (!(!y1)) (r10_Few_T x1 30) false fun y2 =>
  .grd (!((!y1) || (!y2))) (r10_Few_T [x2] 1) false fun y3 =>
  .ite (((!y1) || (!y2)) || (!y3)) (
    .bnd l10_awake_T fun y4 =>
    .ret y4) (
    .bnd (registry_Put_T x0 x2) fun y5 =>
    .bnd (r10_Put_T x0 x2) fun y6 =>
    .bnd (registry_Join_T x0 x1) fun y7 =>
    .bnd (r10_Join_T x0 x1) fun y8 =>
    .bnd (r10_Same_T y5.1 y6.1) fun y9 =>
    .grd (y9 && (decide (y5.2.1 = y6.2.1))) (r10_Same_T y7.1 y8.1) false fun y10 =>
    .grd (((y9 && (decide (y5.2.1 = y6.2.1))) && y10) && (decide (y7.2.1 = y8.2.1))) l10_awake_T false fun y11 =>
    .ret ((((y9 && (decide (y5.2.1 = y6.2.1))) && y10) && (decide (y7.2.1 = y8.2.1))) && y11))

def l10_RegistryPuts_g : Sig := ⟨4, (.cons (.val false (.list tEntry)) (.cons (.val false (.list tEntry)) (.cons (.val true tEntry) .nil))), .vals (.val false .bool), fun z => l10_RegistryPuts_T z.1 z.2.1 z.2.2.1, false⟩

theorem l10_RegistryPuts_ok : l10_RegistryPuts_g.ok Try.prog := by
  refine Sig.lift mix tabOk nms _ Try.func4 (c := (bodyOf Try.f4)) (by kernel_rfl) (o := orT [r10_Few_g, l10_awake_g, registry_Put_g, r10_Put_g, registry_Join_g, r10_Join_g, r10_Same_g] [] noFz) (orT_sound ⟨r10_Few_ok, ⟨l10_awake_ok, ⟨registry_Put_ok, ⟨r10_Put_ok, ⟨registry_Join_ok, ⟨r10_Join_ok, ⟨r10_Same_ok, trivial⟩⟩⟩⟩⟩⟩⟩) (allLp_of [] (by kernel_rfl) trivial rfl) ?_
  intro z; kernel_rfl

def r09_Next_T (x0 : Reg) (x1 : Str) (x2 : Str) : Tree (Reg × Int × Unit) :=
  .grd (!((decide (x0.1 = 0)) && ((x0.2.1 == []) && ((x0.2.2 == []) && true)))) (r09_May_T x0) false fun y1 =>
  .grd (!((!((decide (x0.1 = 0)) && ((x0.2.1 == []) && ((x0.2.2 == []) && true)))) && (!y1))) (r05_Is_T x1) false fun y2 =>
  .ite ((((!((decide (x0.1 = 0)) && ((x0.2.1 == []) && ((x0.2.2 == []) && true)))) && (!y1)) || (!y2)) || (decide ((256 : Int) < (x2.length : Int)))) (
    .ret ((0, ([], [])), 1, ())) (
    .ite (decide ((9007199254740992 : Int) ≤ x0.1)) (
      .ret ((0, ([], [])), 4, ())) (
      .ret (((w64 (x0.1 + 1)), (x1, x2)), 0, ())))

def r09_Next_g : Sig := ⟨44, (.cons (.val true tReg) (.cons (.val false .str) (.cons (.val false .str) .nil))), .vals (.cons (.val true tReg) (.cons (.val false (.int .i64)) .nil)), fun z => r09_Next_T z.1 z.2.1 z.2.2.1, ((dfl tReg : Reg), (0 : Int), ())⟩

theorem r09_Next_ok : r09_Next_g.ok Try.prog := by
  refine Sig.lift mix tabOk nms _ Try.func44 (c := (bodyOf Try.f44)) (by kernel_rfl) (o := orT [r09_May_g, r05_Is_g] [] noFz) (orT_sound ⟨r09_May_ok, ⟨r05_Is_ok, trivial⟩⟩) (allLp_of [] (by kernel_rfl) trivial rfl) ?_
  intro z; kernel_rfl

def r10_Set_T (x0 : List Entry) (x1 : Str) (x2 : Str) (x3 : Str) : Tree (Entry × Int × Unit) :=
  .bnd (r10_May_T x0) fun y1 =>
  .ite (((!y1) || (decide ((x2.length : Int) < 1))) || (decide ((128 : Int) < (x2.length : Int)))) (
    .ret (([], (0, ([], []))), 1, ())) (
    .bnd (r10_Get_T x0 x2) fun y2 =>
    .bnd (r09_Next_T y2 x1 x3) fun y3 =>
    .ite (!decide (y3.2.1 = 0)) (
      .ret (([], (0, ([], []))), y3.2.1, ())) (
      .ret ((x2, y3.1), 0, ())))

def r10_Set_g : Sig := ⟨24, (.cons (.val false (.list tEntry)) (.cons (.val false .str) (.cons (.val false .str) (.cons (.val false .str) .nil)))), .vals (.cons (.val true tEntry) (.cons (.val false (.int .i64)) .nil)), fun z => r10_Set_T z.1 z.2.1 z.2.2.1 z.2.2.2.1, ((dfl tEntry : Entry), (0 : Int), ())⟩

theorem r10_Set_ok : r10_Set_g.ok Try.prog := by
  refine Sig.lift mix tabOk nms _ Try.func24 (c := (bodyOf Try.f24)) (by kernel_rfl) (o := orT [r10_May_g, r10_Get_g, r09_Next_g] [] noFz) (orT_sound ⟨r10_May_ok, ⟨r10_Get_ok, ⟨r09_Next_ok, trivial⟩⟩⟩) (allLp_of [] (by kernel_rfl) trivial rfl) ?_
  intro z; kernel_rfl

def l10_RegistrySets_T (x0 : List Entry) (x1 : (Str × (Str × Str))) : Tree Bool :=
  .bnd (r10_Few_T x0 30) fun y1 =>
  ask ((!(!(!y1))) || inb 0 3) <|
  ask ((!(!((!y1) || (decide ((100 : Int) < (x1.1.length : Int)))))) || inb 1 3) <|
  ask ((!(!(((!y1) || (decide ((100 : Int) < (x1.1.length : Int)))) || (decide ((200 : Int) < (x1.2.1.length : Int)))))) || inb 2 3) <|
  .ite ((((!y1) || (decide ((100 : Int) < (x1.1.length : Int)))) || (decide ((200 : Int) < (x1.2.1.length : Int)))) || (decide ((300 : Int) < (x1.2.2.length : Int)))) (
    .bnd l10_awake_T fun y2 =>
    .ret y2) (
    ask (inb 0 3) <|
    ask (inb 1 3) <|
    ask (inb 2 3) <|
    .bnd (registry_Set_T x0 x1.1 x1.2.1 x1.2.2) fun y3 =>
    ask (inb 0 3) <|
    ask (inb 1 3) <|
    ask (inb 2 3) <|
    .bnd (r10_Set_T x0 x1.1 x1.2.1 x1.2.2) fun y4 =>
    .ite ((!((y3.1.1 == y4.1.1) && (((decide (y3.1.2.1 = y4.1.2.1)) && ((y3.1.2.2.1 == y4.1.2.2.1) && ((y3.1.2.2.2 == y4.1.2.2.2) && true))) && true))) || (!decide (y3.2.1 = y4.2.1))) (
      .ret false) (
      .ite (!decide (y3.2.1 = 0)) (
        .bnd l10_awake_T fun y5 =>
        .ret y5) (
        .bnd (registry_Put_T x0 y3.1) fun y6 =>
        ask ((!(decide (y6.2.1 = 0))) || inb 1 3) <|
        .grd (decide (y6.2.1 = 0)) (registry_Get_T y6.1 x1.2.1) (dfl tReg : Reg) fun y7 =>
        ask ((!((decide (y6.2.1 = 0)) && ((decide (y7.1 = y3.1.2.1)) && ((y7.2.1 == y3.1.2.2.1) && ((y7.2.2 == y3.1.2.2.2) && true))))) || inb 2 3) <|
        .grd (((decide (y6.2.1 = 0)) && ((decide (y7.1 = y3.1.2.1)) && ((y7.2.1 == y3.1.2.2.1) && ((y7.2.2 == y3.1.2.2.2) && true)))) && (y3.1.2.2.2 == x1.2.2)) l10_awake_T false fun y8 =>
        .ret ((((decide (y6.2.1 = 0)) && ((decide (y7.1 = y3.1.2.1)) && ((y7.2.1 == y3.1.2.2.1) && ((y7.2.2 == y3.1.2.2.2) && true)))) && (y3.1.2.2.2 == x1.2.2)) && y8))))

def l10_RegistrySets_g : Sig := ⟨5, (.cons (.val false (.list tEntry)) (.cons (.val true (.pair .str (.pair .str .str))) .nil)), .vals (.val false .bool), fun z => l10_RegistrySets_T z.1 z.2.1, false⟩

theorem l10_RegistrySets_ok : l10_RegistrySets_g.ok Try.prog := by
  refine Sig.lift mix tabOk nms _ Try.func5 (c := (bodyOf Try.f5)) (by kernel_rfl) (o := orT [r10_Few_g, l10_awake_g, registry_Set_g, r10_Set_g, registry_Put_g, registry_Get_g] [] noFz) (orT_sound ⟨r10_Few_ok, ⟨l10_awake_ok, ⟨registry_Set_ok, ⟨r10_Set_ok, ⟨registry_Put_ok, ⟨registry_Get_ok, trivial⟩⟩⟩⟩⟩⟩) (allLp_of [] (by kernel_rfl) trivial rfl) ?_
  intro z; kernel_rfl

def l10_RegistryOrder_T (x0 : List Entry) (x1 : List Entry) (x2 : List Entry) : Tree Bool :=
  .bnd (r10_Few_T x0 30) fun y1 =>
  .grd (!(!y1)) (r10_Few_T x1 30) false fun y2 =>
  .grd (!((!y1) || (!y2))) (r10_Few_T x2 30) false fun y3 =>
  .grd (!(((!y1) || (!y2)) || (!y3))) (r10_May_T x0) false fun y4 =>
  .grd (!((((!y1) || (!y2)) || (!y3)) || (!y4))) (r10_May_T x1) false fun y5 =>
  .grd (!(((((!y1) || (!y2)) || (!y3)) || (!y4)) || (!y5))) (r10_May_T x2) false fun y6 =>
  .ite ((((((!y1) || (!y2)) || (!y3)) || (!y4)) || (!y5)) || (!y6)) (
    .bnd l10_awake_T fun y7 =>
    .ret y7) (
    .bnd (registry_Join_T x0 x1) fun y8 =>
    .bnd (registry_Join_T x1 x0) fun y9 =>
    .bnd (registry_Join_T x0 x0) fun y10 =>
    .bnd (registry_Join_T x1 x2) fun y11 =>
    .bnd (registry_Join_T y8.1 x2) fun y12 =>
    .bnd (registry_Join_T x0 y11.1) fun y13 =>
    .grd (!((((((!decide (y8.2.1 = 0)) || (!decide (y9.2.1 = 0))) || (!decide (y10.2.1 = 0))) || (!decide (y11.2.1 = 0))) || (!decide (y12.2.1 = 0))) || (!decide (y13.2.1 = 0)))) (r10_Same_T y8.1 y9.1) false fun y14 =>
    .grd (!(((((((!decide (y8.2.1 = 0)) || (!decide (y9.2.1 = 0))) || (!decide (y10.2.1 = 0))) || (!decide (y11.2.1 = 0))) || (!decide (y12.2.1 = 0))) || (!decide (y13.2.1 = 0))) || (!y14))) (r10_Same_T y10.1 x0) false fun y15 =>
    .grd (!((((((((!decide (y8.2.1 = 0)) || (!decide (y9.2.1 = 0))) || (!decide (y10.2.1 = 0))) || (!decide (y11.2.1 = 0))) || (!decide (y12.2.1 = 0))) || (!decide (y13.2.1 = 0))) || (!y14)) || (!y15))) (r10_Same_T y12.1 y13.1) false fun y16 =>
    .ite (((((((((!decide (y8.2.1 = 0)) || (!decide (y9.2.1 = 0))) || (!decide (y10.2.1 = 0))) || (!decide (y11.2.1 = 0))) || (!decide (y12.2.1 = 0))) || (!decide (y13.2.1 = 0))) || (!y14)) || (!y15)) || (!y16)) (
      .ret false) (
      .bnd (registry_News_T x0 x1) fun y17 =>
      .bnd (registry_Join_T x1 y17) fun y18 =>
      .grd (decide (y18.2.1 = 0)) (r10_Same_T y18.1 y8.1) false fun y19 =>
      .grd ((decide (y18.2.1 = 0)) && y19) (registry_News_T x0 y8.1) ([] : List Entry) fun y20 =>
      .grd (((decide (y18.2.1 = 0)) && y19) && (decide ((y20.length : Int) = 0))) l10_awake_T false fun y21 =>
      .ret ((((decide (y18.2.1 = 0)) && y19) && (decide ((y20.length : Int) = 0))) && y21)))

def l10_RegistryOrder_g : Sig := ⟨6, (.cons (.val false (.list tEntry)) (.cons (.val false (.list tEntry)) (.cons (.val false (.list tEntry)) .nil))), .vals (.val false .bool), fun z => l10_RegistryOrder_T z.1 z.2.1 z.2.2.1, false⟩

theorem l10_RegistryOrder_ok : l10_RegistryOrder_g.ok Try.prog := by
  refine Sig.lift mix tabOk nms _ Try.func6 (c := (bodyOf Try.f6)) (by kernel_rfl) (o := orT [r10_Few_g, r10_May_g, l10_awake_g, registry_Join_g, r10_Same_g, registry_News_g] [] noFz) (orT_sound ⟨r10_Few_ok, ⟨r10_May_ok, ⟨l10_awake_ok, ⟨registry_Join_ok, ⟨r10_Same_ok, ⟨registry_News_ok, trivial⟩⟩⟩⟩⟩⟩) (allLp_of [] (by kernel_rfl) trivial rfl) ?_
  intro z; kernel_rfl

end Go.Eng
