/- Lifted: 53 functions, part 1. -/
import Derived.Test.YtgghplnoelkhlaaDoorTrG
import Derived.Test.YtgghplnoelkhlaaDoorTrF
import Derived.Test.YtgghplnoelkhlaaDoorEngT
import Derived.Test.YtgghplnoelkhlaaDoorGlb
import Derived.Test.YtgghplnoelkhlaaDoorShf
import Derived.Test.YtgghplnoelkhlaaDoorTrL
namespace Go.Eng
open Go Go.Proofs
set_option maxRecDepth 100000
abbrev Props : Type := (Int × (Int × (Int × (Int × (Int × (Bool × (Bool × Bool)))))))
abbrev tProps : Ty := (.pair (.int .i64) (.pair (.int .i64) (.pair (.int .i64) (.pair (.int .i64) (.pair (.int .i64) (.pair .bool (.pair .bool .bool)))))))

abbrev Reg : Type := (Int × (Str × Str))
abbrev tReg : Ty := (.pair (.int .i64) (.pair .str .str))

abbrev Entry : Type := (Str × Reg)
abbrev tEntry : Ty := (.pair .str tReg)

def r09_Few_T (x0 : Reg) : Tree Bool :=
  .ret ((decide ((x0.2.1.length : Int) ≤ 100)) && (decide ((x0.2.2.length : Int) ≤ 300)))

def r09_Few_g : Sig := ⟨21, (.cons (.val true tReg) .nil), .vals (.val false .bool), fun z => r09_Few_T z.1, false⟩

theorem r09_Few_ok : r09_Few_g.ok Tryd.prog := by
  refine Sig.lift mix tabOk nms _ Tryd.func21 (c := (bodyOf Tryd.f21)) (by kernel_rfl) (o := orT [] [] noFz) (orT_sound trivial) (allLp_of [] (by kernel_rfl) trivial rfl) ?_
  intro z; kernel_rfl

def r10_Few_L2_step (l : List Entry) (most : Int) (i : Int) : Tree (Int ⊕ (Bool ⊕ Unit)) :=
  .ite ((decide (i < (l.length : Int))) && (decide (i < most))) (
    ask (inb i l.length) <|
    ask ((!(!(decide ((200 : Int) < ((l.getD i.toNat (dfl tEntry : Entry)).1.length : Int))))) || inb i l.length) <|
    .grd (!(decide ((200 : Int) < ((l.getD i.toNat (dfl tEntry : Entry)).1.length : Int)))) (r09_Few_T (l.getD i.toNat (dfl tEntry : Entry)).2) false fun y1 =>
    .ite ((decide ((200 : Int) < ((l.getD i.toNat (dfl tEntry : Entry)).1.length : Int))) || (!y1)) (
      .ret (.inr (.inl false))) (
      .ret (.inl (w64 (i + 1))))) (
    .ret (.inr (.inr ())))

def r10_Few_L2 : Lp := ⟨2, [], [], (.cons (.val false (.list tEntry)) (.cons (.val false (.int .i64)) (ca (ca2 (.cons (.val false (.int .i64)) (ca (ca2 (ca4 (ca8 (ca16 .nil)))))))))), .nil, 0, .more 0 [] (ca4 (.cons (.val false .bool) (ca32 .nil))) .nil (.one 1 [] (.cons (.val false (.list tEntry)) (.cons (.val false (.int .i64)) (ca (ca2 (ca32 .nil))))) .nil), fun z => .bnd (.loop (fun v => r10_Few_L2_step z.1.1 z.1.2.1 v) z.1.2.2.2.2.2.1) fun r => .sum r (fun a0 => .ret (.inl ((cu4 (a0, (cu32 ()))), ()))) (fun b0 => .ret (.inr ((z.1.1, (z.1.2.1, (cu (cu2 (cu32 ()))))), ())))⟩

theorem r10_Few_L2_ok : r10_Few_L2.ok Tryd.prog (nthC (loopsOf (bodyOf Tryd.f7)) 0) := by
  refine Lp.lift (π := ((List Entry) × Int)) (V := Int) (ρ := (Bool ⊕ Unit)) mix tabOk r10_Few_L2 (o := orT [r09_Few_g] [] noFz) (orT_sound ⟨r09_Few_ok, trivial⟩) (allLp_of [] (by kernel_rfl) trivial rfl) (fun x v => ((x.1, (x.2, (cu (cu2 (v, (cu (cu2 (cu4 (cu8 (cu16 ())))))))))), ())) (fun x r => match r with | .inl a0 => .inl ((cu4 (a0, (cu32 ()))), ()) | .inr b0 => (.inr ((x.1, (x.2, (cu (cu2 (cu32 ()))))), ()))) (fun x v => r10_Few_L2_step x.1 x.2 v) (fun x r => .sum r (fun a0 => .ret (.inl ((cu4 (a0, (cu32 ()))), ()))) (fun b0 => .ret (.inr ((x.1, (x.2, (cu (cu2 (cu32 ()))))), ())))) (fun z => (z.1.1, z.1.2.1)) (fun z => z.1.2.2.2.2.2.1) (fun _ => rfl) (fun _ => rfl) (fun x r Q h => match r, h with | .inl _, h => h | .inr b0, h => (h)) ?_
  intro x v; kernel_rfl

def r10_Few_T (x0 : List Entry) (x1 : Int) : Tree Bool :=
  .bnd (.loop (fun v => r10_Few_L2_step x0 x1 v) 0) fun r1 =>
  .sum r1 (fun r2 =>
    .ret r2) (fun r3 =>
    .ret (decide ((x0.length : Int) ≤ x1)))

def r10_Few_g : Sig := ⟨7, (.cons (.val false (.list tEntry)) (.cons (.val false (.int .i64)) .nil)), .vals (.val false .bool), fun z => r10_Few_T z.1 z.2.1, false⟩

theorem r10_Few_ok : r10_Few_g.ok Tryd.prog := by
  refine Sig.lift mix tabOk nms _ Tryd.func7 (c := (bodyOf Tryd.f7)) (by kernel_rfl) (o := orT [r09_Few_g] [r10_Few_L2] noFz) (orT_sound ⟨r09_Few_ok, trivial⟩) (allLp_of [nthC (loopsOf (bodyOf Tryd.f7)) 0] (by kernel_rfl) ⟨r10_Few_L2_ok, trivial⟩ (by kernel_rfl)) ?_
  intro z; kernel_rfl

def name_isLetter_T (x0 : Int) : Tree Bool :=
  .ret ((((decide ((97 : Int) ≤ x0)) && (decide (x0 ≤ 122))) || ((decide ((48 : Int) ≤ x0)) && (decide (x0 ≤ 57)))) || (decide (x0 = 45)))

def name_isLetter_g : Sig := ⟨48, (.cons (.val false (.int .i32)) .nil), .vals (.val false .bool), fun z => name_isLetter_T z.1, false⟩

theorem name_isLetter_ok : name_isLetter_g.ok Tryd.prog := by
  refine Sig.lift mix tabOk nms _ Tryd.func48 (c := (bodyOf Tryd.f48)) (by kernel_rfl) (o := orT [] [] noFz) (orT_sound trivial) (allLp_of [] (by kernel_rfl) trivial rfl) ?_
  intro z; kernel_rfl

def name_Is_L4_step (str : Str) (pos : Nat) : Tree (Nat ⊕ (Bool ⊕ Unit)) :=
  .ite (decide ((pos : Int) < (str.length : Int))) (
    ask (decide ((pos : Int) < (str.length : Int))) <|
    .bnd (name_isLetter_T (std.rune str pos)) fun y1 =>
    .ite (!y1) (
      .ret (.inr (.inl false))) (
      .ret (.inl (std.npos str pos)))) (
    .ret (.inr (.inr ())))

def name_Is_L4 : Lp := ⟨4, [], [], (ca (ca4 (ca8 (.cons (.ref 0 0) (ca2 (ca4 .nil)))))), (.siter .nil), 0, .more 0 [] (ca2 (.cons (.val false .bool) (ca (ca16 .nil)))) .nil (.one 1 [] (ca4 (ca16 .nil)) .nil), fun z => .bnd (.loop (fun v => name_Is_L4_step z.2.1.1 v) z.2.1.2) fun r => .sum r (fun a0 => .ret (.inl ((cu2 (a0, (cu (cu16 ())))), ()))) (fun b0 => .ret (.inr ((cu4 (cu16 ())), ())))⟩

theorem name_Is_L4_ok : name_Is_L4.ok Tryd.prog (nthC (loopsOf (bodyOf Tryd.f31)) 0) := by
  refine Lp.lift (π := Str) (V := Nat) (ρ := (Bool ⊕ Unit)) mix tabOk name_Is_L4 (o := orT [name_isLetter_g] [] noFz) (orT_sound ⟨name_isLetter_ok, trivial⟩) (allLp_of [] (by kernel_rfl) trivial rfl) (fun x v => ((cu (cu4 (cu8 ((), (cu2 (cu4 ())))))), ((x, v), ()))) (fun x r => match r with | .inl a0 => .inl ((cu2 (a0, (cu (cu16 ())))), ()) | .inr b0 => (.inr ((cu4 (cu16 ())), ()))) (fun x v => name_Is_L4_step x v) (fun x r => .sum r (fun a0 => .ret (.inl ((cu2 (a0, (cu (cu16 ())))), ()))) (fun b0 => .ret (.inr ((cu4 (cu16 ())), ())))) (fun z => z.2.1.1) (fun z => z.2.1.2) (fun _ => rfl) (fun _ => rfl) (fun x r Q h => match r, h with | .inl _, h => h | .inr b0, h => (h)) ?_
  intro x v; kernel_rfl

def name_Is_T (x0 : Str) : Tree Bool :=
  .ite ((x0 == ([] : Str)) || (decide ((16 : Int) < (x0.length : Int)))) (
    .ret false) (
    .bnd (.loop (fun v => name_Is_L4_step x0 v) 0) fun r1 =>
    .sum r1 (fun r2 =>
      .ret r2) (fun r3 =>
      .ret true))

def name_Is_g : Sig := ⟨31, (.cons (.val false .str) .nil), .vals (.val false .bool), fun z => name_Is_T z.1, false⟩

theorem name_Is_ok : name_Is_g.ok Tryd.prog := by
  refine Sig.lift mix tabOk nms _ Tryd.func31 (c := (bodyOf Tryd.f31)) (by kernel_rfl) (o := orT [name_isLetter_g] [name_Is_L4] noFz) (orT_sound ⟨name_isLetter_ok, trivial⟩) (allLp_of [nthC (loopsOf (bodyOf Tryd.f31)) 0] (by kernel_rfl) ⟨name_Is_L4_ok, trivial⟩ (by kernel_rfl)) ?_
  intro z; kernel_rfl

def props_bounds_T (x0 : Str) : Tree (Int × Int × Bool × Unit) :=
  .ite (x0 == ([110] : Str)) (
    .ite (x0 == ([110] : Str)) (
      .ret (1, 16, true, ())) (
      .ite (x0 == ([112, 114] : Str)) (
        .ite (x0 == ([112, 114] : Str)) (
          .ret (0, 16, true, ())) (
          .ite (x0 == ([115, 101, 118, 101, 114, 97, 108] : Str)) (
            .ite (x0 == ([115, 101, 118, 101, 114, 97, 108] : Str)) (
              .ret (0, 1, true, ())) (
              .ret (0, 0, false, ()))) (
            .ite (x0 == ([109, 105, 115, 115, 105, 110, 103] : Str)) (
              .ite (x0 == ([109, 105, 115, 115, 105, 110, 103] : Str)) (
                .ret (0, 1, true, ())) (
                .ret (0, 0, false, ()))) (
              .ite (x0 == ([98, 97, 115, 105, 99] : Str)) (
                .ret (0, 1, true, ())) (
                .ret (0, 0, false, ())))))) (
        .ite (x0 == ([112, 119] : Str)) (
          .ret (0, 16, true, ())) (
          .ite (x0 == ([115, 101, 118, 101, 114, 97, 108] : Str)) (
            .ite (x0 == ([115, 101, 118, 101, 114, 97, 108] : Str)) (
              .ret (0, 1, true, ())) (
              .ret (0, 0, false, ()))) (
            .ite (x0 == ([109, 105, 115, 115, 105, 110, 103] : Str)) (
              .ite (x0 == ([109, 105, 115, 115, 105, 110, 103] : Str)) (
                .ret (0, 1, true, ())) (
                .ret (0, 0, false, ()))) (
              .ite (x0 == ([98, 97, 115, 105, 99] : Str)) (
                .ret (0, 1, true, ())) (
                .ret (0, 0, false, ())))))))) (
    .ite (x0 == ([114] : Str)) (
      .ite (x0 == ([114] : Str)) (
        .ret (1, 16, true, ())) (
        .ite (x0 == ([112, 114] : Str)) (
          .ite (x0 == ([112, 114] : Str)) (
            .ret (0, 16, true, ())) (
            .ite (x0 == ([115, 101, 118, 101, 114, 97, 108] : Str)) (
              .ite (x0 == ([115, 101, 118, 101, 114, 97, 108] : Str)) (
                .ret (0, 1, true, ())) (
                .ret (0, 0, false, ()))) (
              .ite (x0 == ([109, 105, 115, 115, 105, 110, 103] : Str)) (
                .ite (x0 == ([109, 105, 115, 115, 105, 110, 103] : Str)) (
                  .ret (0, 1, true, ())) (
                  .ret (0, 0, false, ()))) (
                .ite (x0 == ([98, 97, 115, 105, 99] : Str)) (
                  .ret (0, 1, true, ())) (
                  .ret (0, 0, false, ())))))) (
          .ite (x0 == ([112, 119] : Str)) (
            .ret (0, 16, true, ())) (
            .ite (x0 == ([115, 101, 118, 101, 114, 97, 108] : Str)) (
              .ite (x0 == ([115, 101, 118, 101, 114, 97, 108] : Str)) (
                .ret (0, 1, true, ())) (
                .ret (0, 0, false, ()))) (
              .ite (x0 == ([109, 105, 115, 115, 105, 110, 103] : Str)) (
                .ite (x0 == ([109, 105, 115, 115, 105, 110, 103] : Str)) (
                  .ret (0, 1, true, ())) (
                  .ret (0, 0, false, ()))) (
                .ite (x0 == ([98, 97, 115, 105, 99] : Str)) (
                  .ret (0, 1, true, ())) (
                  .ret (0, 0, false, ())))))))) (
      .ite (x0 == ([119] : Str)) (
        .ret (1, 16, true, ())) (
        .ite (x0 == ([112, 114] : Str)) (
          .ite (x0 == ([112, 114] : Str)) (
            .ret (0, 16, true, ())) (
            .ite (x0 == ([115, 101, 118, 101, 114, 97, 108] : Str)) (
              .ite (x0 == ([115, 101, 118, 101, 114, 97, 108] : Str)) (
                .ret (0, 1, true, ())) (
                .ret (0, 0, false, ()))) (
              .ite (x0 == ([109, 105, 115, 115, 105, 110, 103] : Str)) (
                .ite (x0 == ([109, 105, 115, 115, 105, 110, 103] : Str)) (
                  .ret (0, 1, true, ())) (
                  .ret (0, 0, false, ()))) (
                .ite (x0 == ([98, 97, 115, 105, 99] : Str)) (
                  .ret (0, 1, true, ())) (
                  .ret (0, 0, false, ())))))) (
          .ite (x0 == ([112, 119] : Str)) (
            .ret (0, 16, true, ())) (
            .ite (x0 == ([115, 101, 118, 101, 114, 97, 108] : Str)) (
              .ite (x0 == ([115, 101, 118, 101, 114, 97, 108] : Str)) (
                .ret (0, 1, true, ())) (
                .ret (0, 0, false, ()))) (
              .ite (x0 == ([109, 105, 115, 115, 105, 110, 103] : Str)) (
                .ite (x0 == ([109, 105, 115, 115, 105, 110, 103] : Str)) (
                  .ret (0, 1, true, ())) (
                  .ret (0, 0, false, ()))) (
                .ite (x0 == ([98, 97, 115, 105, 99] : Str)) (
                  .ret (0, 1, true, ())) (
                  .ret (0, 0, false, ())))))))))

def props_bounds_g : Sig := ⟨44, (.cons (.val false .str) .nil), .vals (.cons (.val false (.int .i64)) (.cons (.val false (.int .i64)) (.cons (.val false .bool) .nil))), fun z => props_bounds_T z.1, ((0 : Int), (0 : Int), false, ())⟩

theorem props_bounds_ok : props_bounds_g.ok Tryd.prog := by
  refine Sig.lift mix tabOk nms _ Tryd.func44 (c := (bodyOf Tryd.f44)) (by kernel_rfl) (o := orT [] [] noFz) (orT_sound trivial) (allLp_of [] (by kernel_rfl) trivial rfl) ?_
  intro z; kernel_rfl

def props_may_T (x0 : Str) (x1 : Int) : Tree Bool :=
  .bnd (props_bounds_T x0) fun y1 =>
  .ret ((y1.2.2.1 && (decide (y1.1 ≤ x1))) && (decide (x1 ≤ y1.2.1)))

def props_may_g : Sig := ⟨27, (.cons (.val false .str) (.cons (.val false (.int .i64)) .nil)), .vals (.val false .bool), fun z => props_may_T z.1 z.2.1, false⟩

theorem props_may_ok : props_may_g.ok Tryd.prog := by
  refine Sig.lift mix tabOk nms _ Tryd.func27 (c := (bodyOf Tryd.f27)) (by kernel_rfl) (o := orT [props_bounds_g] [] noFz) (orT_sound ⟨props_bounds_ok, trivial⟩) (allLp_of [] (by kernel_rfl) trivial rfl) ?_
  intro z; kernel_rfl

def strings_Join_T (x0 : List Str) (x1 : Str) : Tree Str :=
  joinT x0 x1

def strings_Join_g : Sig := ⟨47, (.cons (.val false (.list .str)) (.cons (.val false .str) .nil)), .vals (.val false .str), fun z => strings_Join_T z.1 z.2.1, ([] : Str)⟩

theorem strings_Join_ok : strings_Join_g.ok Tryd.prog :=
  strings_Join_sig (enters_of Tryd.func47 (by kernel_rfl) rfl) (fun a c sep w => Tryd.strings_Join_none a c sep w) (fun bk o c xs sep w h1 h2 h3 h4 h5 => Tryd.strings_Join bk o c xs sep w h1 h2 h3 h4 h5)

def name_Path_T (x0 : List Str) : Tree Str :=
  .bnd (strings_Join_T x0 ([47] : Str)) fun y1 =>
  .ret y1

def name_Path_g : Sig := ⟨30, (.cons (.val false (.list .str)) .nil), .vals (.val false .str), fun z => name_Path_T z.1, ([] : Str)⟩

theorem name_Path_ok : name_Path_g.ok Tryd.prog := by
  refine Sig.lift mix tabOk nms _ Tryd.func30 (c := (bodyOf Tryd.f30)) (by kernel_rfl) (o := orT [strings_Join_g] [] noFz) (orT_sound ⟨strings_Join_ok, trivial⟩) (allLp_of [] (by kernel_rfl) trivial rfl) ?_
  intro z; kernel_rfl

def props_Key_T (x0 : Str) (x1 : Str) (x2 : Str) : Tree Str :=
  .bnd (name_Path_T [([112, 114, 111, 112] : Str), x0, x1, x2]) fun y1 =>
  .ret y1

def props_Key_g : Sig := ⟨11, (.cons (.val false .str) (.cons (.val false .str) (.cons (.val false .str) .nil))), .vals (.val false .str), fun z => props_Key_T z.1 z.2.1 z.2.2.1, ([] : Str)⟩

theorem props_Key_ok : props_Key_g.ok Tryd.prog := by
  refine Sig.lift mix tabOk nms _ Tryd.func11 (c := (bodyOf Tryd.f11)) (by kernel_rfl) (o := orT [name_Path_g] [] noFz) (orT_sound ⟨name_Path_ok, trivial⟩) (allLp_of [] (by kernel_rfl) trivial rfl) ?_
  intro z; kernel_rfl

def strconv_Itoa_T (x0 : Int) : Tree Str :=
  .ret (decS x0)

def strconv_Itoa_g : Sig := ⟨41, (.cons (.val false (.int .i64)) .nil), .vals (.val false .str), fun z => strconv_Itoa_T z.1, ([] : Str)⟩

theorem strconv_Itoa_ok : strconv_Itoa_g.ok Tryd.prog :=
  strconv_Itoa_sig (enters_of Tryd.func41 (by kernel_rfl) rfl) (fun n w h0 h1 hg => Tryd.strconv_Itoa n h0 h1 w (gl_pow10 hg))

def name_Dec_T (x0 : Int) : Tree Str :=
  .bnd (strconv_Itoa_T x0) fun y1 =>
  .ret y1

def name_Dec_g : Sig := ⟨33, (.cons (.val false (.int .i64)) .nil), .vals (.val false .str), fun z => name_Dec_T z.1, ([] : Str)⟩

theorem name_Dec_ok : name_Dec_g.ok Tryd.prog := by
  refine Sig.lift mix tabOk nms _ Tryd.func33 (c := (bodyOf Tryd.f33)) (by kernel_rfl) (o := orT [strconv_Itoa_g] [] noFz) (orT_sound ⟨strconv_Itoa_ok, trivial⟩) (allLp_of [] (by kernel_rfl) trivial rfl) ?_
  intro z; kernel_rfl

def register_Check_T (x0 : Reg) : Tree Int :=
  .grd ((!((decide (x0.1 < 1)) || (decide ((9007199254740992 : Int) < x0.1)))) && (!(x0.2.1 == ([] : Str)))) (name_Is_T x0.2.1) false fun y1 =>
  .ite ((((decide (x0.1 < 1)) || (decide ((9007199254740992 : Int) < x0.1))) || ((!(x0.2.1 == ([] : Str))) && (!y1))) || (decide ((256 : Int) < (x0.2.2.length : Int)))) (
    .ret 1) (
    .ret 0)

def register_Check_g : Sig := ⟨61, (.cons (.val true tReg) .nil), .vals (.val false (.int .i64)), fun z => register_Check_T z.1, (0 : Int)⟩

theorem register_Check_ok : register_Check_g.ok Tryd.prog := by
  refine Sig.lift mix tabOk nms _ Tryd.func61 (c := (bodyOf Tryd.f61)) (by kernel_rfl) (o := orT [name_Is_g] [] noFz) (orT_sound ⟨name_Is_ok, trivial⟩) (allLp_of [] (by kernel_rfl) trivial rfl) ?_
  intro z; kernel_rfl

def registry_isEntry_T (x0 : Entry) : Tree Bool :=
  .grd ((!(x0.1 == ([] : Str))) && (decide ((x0.1.length : Int) ≤ 128))) (register_Check_T x0.2) (0 : Int) fun y1 =>
  .ret (((!(x0.1 == ([] : Str))) && (decide ((x0.1.length : Int) ≤ 128))) && (decide (y1 = 0)))

def registry_isEntry_g : Sig := ⟨60, (.cons (.val true tEntry) .nil), .vals (.val false .bool), fun z => registry_isEntry_T z.1, false⟩

theorem registry_isEntry_ok : registry_isEntry_g.ok Tryd.prog := by
  refine Sig.lift mix tabOk nms _ Tryd.func60 (c := (bodyOf Tryd.f60)) (by kernel_rfl) (o := orT [register_Check_g] [] noFz) (orT_sound ⟨register_Check_ok, trivial⟩) (allLp_of [] (by kernel_rfl) trivial rfl) ?_
  intro z; kernel_rfl

def registry_Check_L4_step (l : List Entry) (t : List Entry) (t2 : Int) (t3 : Int) : Tree (Int ⊕ (Int ⊕ Unit)) :=
  .ite (decide (t3 < t2)) (
    ask (inb t3 t.length) <|
    .bnd (registry_isEntry_T (t.getD t3.toNat (dfl tEntry : Entry))) fun y1 =>
    ask ((!((!(!y1)) && (decide ((0 : Int) < t3)))) || inb (w64 (t3 - 1)) l.length) <|
    .ite ((!y1) || ((decide ((0 : Int) < t3)) && (!ltS (l.getD ((w64 (t3 - 1)).toNat) (dfl tEntry : Entry)).1 (t.getD t3.toNat (dfl tEntry : Entry)).1))) (
      .ret (.inr (.inl 1))) (
      .ret (.inl (w64 (t3 + 1))))) (
    .ret (.inr (.inr ())))

def registry_Check_L4 : Lp := ⟨4, [], [], (.cons (.val false (.list tEntry)) (ca (ca2 (ca4 (.cons (.val false (.list tEntry)) (.cons (.val false (.int .i64)) (.cons (.val false (.int .i64)) (ca (ca2 (ca4 (ca16 .nil))))))))))), .nil, 0, .more 0 [] (ca2 (.cons (.val false (.int .i64)) (ca (ca2 (ca4 (ca8 (ca16 .nil))))))) .nil (.one 1 [] (ca2 (ca32 .nil)) .nil), fun z => .bnd (.loop (fun v => registry_Check_L4_step z.1.1 z.1.2.2.2.2.2.2.2.2.1 z.1.2.2.2.2.2.2.2.2.2.1 v) z.1.2.2.2.2.2.2.2.2.2.2.1) fun r => .sum r (fun a0 => .ret (.inl ((cu2 (a0, (cu (cu2 (cu4 (cu8 (cu16 ()))))))), ()))) (fun b0 => .ret (.inr ((cu2 (cu32 ())), ())))⟩

theorem registry_Check_L4_ok : registry_Check_L4.ok Tryd.prog (nthC (loopsOf (bodyOf Tryd.f49)) 0) := by
  refine Lp.lift (π := ((List Entry) × (List Entry) × Int)) (V := Int) (ρ := (Int ⊕ Unit)) mix tabOk registry_Check_L4 (o := orT [registry_isEntry_g] [] noFz) (orT_sound ⟨registry_isEntry_ok, trivial⟩) (allLp_of [] (by kernel_rfl) trivial rfl) (fun x v => ((x.1, (cu (cu2 (cu4 (x.2.1, (x.2.2, (v, (cu (cu2 (cu4 (cu16 ()))))))))))), ())) (fun x r => match r with | .inl a0 => .inl ((cu2 (a0, (cu (cu2 (cu4 (cu8 (cu16 ()))))))), ()) | .inr b0 => (.inr ((cu2 (cu32 ())), ()))) (fun x v => registry_Check_L4_step x.1 x.2.1 x.2.2 v) (fun x r => .sum r (fun a0 => .ret (.inl ((cu2 (a0, (cu (cu2 (cu4 (cu8 (cu16 ()))))))), ()))) (fun b0 => .ret (.inr ((cu2 (cu32 ())), ())))) (fun z => (z.1.1, z.1.2.2.2.2.2.2.2.2.1, z.1.2.2.2.2.2.2.2.2.2.1)) (fun z => z.1.2.2.2.2.2.2.2.2.2.2.1) (fun _ => rfl) (fun _ => rfl) (fun x r Q h => match r, h with | .inl _, h => h | .inr b0, h => (h)) ?_
  intro x v; kernel_rfl

def registry_Check_T (x0 : List Entry) : Tree Int :=
  .ite (decide ((4096 : Int) < (x0.length : Int))) (
    .ret 1) (
    .bnd (.loop (fun v => registry_Check_L4_step x0 x0 (x0.length : Int) v) 0) fun r1 =>
    .sum r1 (fun r2 =>
      .ret r2) (fun r3 =>
      .ret 0))

def registry_Check_g : Sig := ⟨49, (.cons (.val false (.list tEntry)) .nil), .vals (.val false (.int .i64)), fun z => registry_Check_T z.1, (0 : Int)⟩

theorem registry_Check_ok : registry_Check_g.ok Tryd.prog := by
  refine Sig.lift mix tabOk nms _ Tryd.func49 (c := (bodyOf Tryd.f49)) (by kernel_rfl) (o := orT [registry_isEntry_g] [registry_Check_L4] noFz) (orT_sound ⟨registry_isEntry_ok, trivial⟩) (allLp_of [nthC (loopsOf (bodyOf Tryd.f49)) 0] (by kernel_rfl) ⟨registry_Check_L4_ok, trivial⟩ (by kernel_rfl)) ?_
  intro z; kernel_rfl

def registry_Get_1_T (x0 : Entry) (x1 : Str) : Tree Bool :=
  .ret (x0.1 == x1)

def registry_Get_1_g : Sig := ⟨43, (.cons (.val true tEntry) (.cons (.ptr .str) .nil)), .vals (.val false .bool), fun z => registry_Get_1_T z.1 z.2.1, false⟩

theorem registry_Get_1_ok : registry_Get_1_g.ok Tryd.prog := by
  refine Sig.lift mix tabOk nms _ Tryd.func43 (c := (bodyOf Tryd.f43)) (by kernel_rfl) (o := orT [] [] noFz) (orT_sound trivial) (allLp_of [] (by kernel_rfl) trivial rfl) ?_
  intro z; kernel_rfl

def slices_IndexFunc_Entry_registry_Get_1_L2_step (s_ : List Entry) (f : Str) (t : Int) (t2 : Int) : Tree (Int ⊕ (Int ⊕ Unit)) :=
  .ite (decide (t2 < t)) (
    ask (inb t2 s_.length) <|
    .bnd (registry_Get_1_T (s_.getD t2.toNat (dfl tEntry : Entry)) f) fun y1 =>
    .ite y1 (
      .ret (.inr (.inl t2))) (
      .ret (.inl (w64 (t2 + 1))))) (
    .ret (.inr (.inr ())))

def slices_IndexFunc_Entry_registry_Get_1_L2 : Lp := ⟨2, [], [], (.cons (.val false (.list tEntry)) (.cons (.fn 43 .nil (.cons (.ptr .str) .nil)) (ca (ca4 (.cons (.val false (.int .i64)) (.cons (.val false (.int .i64)) (ca2 (ca8 .nil)))))))), .nil, 0, .more 0 [] (ca4 (.cons (.val false (.int .i64)) (ca2 (ca4 (ca8 .nil))))) .nil (.one 1 [] (ca (ca2 (ca16 .nil))) .nil), fun z => .bnd (.loop (fun v => slices_IndexFunc_Entry_registry_Get_1_L2_step z.1.1 z.1.2.1.2.1 z.1.2.2.2.2.2.2.2.1 v) z.1.2.2.2.2.2.2.2.2.1) fun r => .sum r (fun a0 => .ret (.inl ((cu4 (a0, (cu2 (cu4 (cu8 ()))))), ()))) (fun b0 => .ret (.inr ((cu (cu2 (cu16 ()))), ())))⟩

theorem slices_IndexFunc_Entry_registry_Get_1_L2_ok : slices_IndexFunc_Entry_registry_Get_1_L2.ok Tryd.prog (nthC (loopsOf (bodyOf Tryd.f42)) 0) := by
  refine Lp.lift (π := ((List Entry) × Str × Int)) (V := Int) (ρ := (Int ⊕ Unit)) mix tabOk slices_IndexFunc_Entry_registry_Get_1_L2 (o := orT [registry_Get_1_g] [] noFz) (orT_sound ⟨registry_Get_1_ok, trivial⟩) (allLp_of [] (by kernel_rfl) trivial rfl) (fun x v => ((x.1, (((), (x.2.1, ())), (cu (cu4 (x.2.2, (v, (cu2 (cu8 ())))))))), ())) (fun x r => match r with | .inl a0 => .inl ((cu4 (a0, (cu2 (cu4 (cu8 ()))))), ()) | .inr b0 => (.inr ((cu (cu2 (cu16 ()))), ()))) (fun x v => slices_IndexFunc_Entry_registry_Get_1_L2_step x.1 x.2.1 x.2.2 v) (fun x r => .sum r (fun a0 => .ret (.inl ((cu4 (a0, (cu2 (cu4 (cu8 ()))))), ()))) (fun b0 => .ret (.inr ((cu (cu2 (cu16 ()))), ())))) (fun z => (z.1.1, z.1.2.1.2.1, z.1.2.2.2.2.2.2.2.1)) (fun z => z.1.2.2.2.2.2.2.2.2.1) (fun _ => rfl) (fun _ => rfl) (fun x r Q h => match r, h with | .inl _, h => h | .inr b0, h => (h)) ?_
  intro x v; kernel_rfl

def slices_IndexFunc_Entry_registry_Get_1_T (x0 : List Entry) (x1 : Str) : Tree Int :=
  .bnd (.loop (fun v => slices_IndexFunc_Entry_registry_Get_1_L2_step x0 x1 (x0.length : Int) v) 0) fun r1 =>
  .sum r1 (fun r2 =>
    .ret r2) (fun r3 =>
    .ret (-1))

def slices_IndexFunc_Entry_registry_Get_1_g : Sig := ⟨42, (.cons (.val false (.list tEntry)) (.cons (.fn 43 .nil (.cons (.ptr .str) .nil)) .nil)), .vals (.val false (.int .i64)), fun z => slices_IndexFunc_Entry_registry_Get_1_T z.1 z.2.1.2.1, (0 : Int)⟩

theorem slices_IndexFunc_Entry_registry_Get_1_ok : slices_IndexFunc_Entry_registry_Get_1_g.ok Tryd.prog := by
  refine Sig.lift mix tabOk nms _ Tryd.func42 (c := (bodyOf Tryd.f42)) (by kernel_rfl) (o := orT [registry_Get_1_g] [slices_IndexFunc_Entry_registry_Get_1_L2] noFz) (orT_sound ⟨registry_Get_1_ok, trivial⟩) (allLp_of [nthC (loopsOf (bodyOf Tryd.f42)) 0] (by kernel_rfl) ⟨slices_IndexFunc_Entry_registry_Get_1_L2_ok, trivial⟩ (by kernel_rfl)) ?_
  intro z; kernel_rfl

def registry_Get_T (x0 : List Entry) (x1 : Str) : Tree Reg :=
  .bnd (slices_IndexFunc_Entry_registry_Get_1_T x0 x1) fun y1 =>
  .ite (decide (y1 < 0)) (
    .ret (0, ([], []))) (
    ask (inb y1 x0.length) <|
    .ret (x0.getD y1.toNat (dfl tEntry : Entry)).2)

def registry_Get_g : Sig := ⟨26, (.cons (.val false (.list tEntry)) (.cons (.val false .str) .nil)), .vals (.val true tReg), fun z => registry_Get_T z.1 z.2.1, (dfl tReg : Reg)⟩

theorem registry_Get_ok : registry_Get_g.ok Tryd.prog := by
  refine Sig.lift mix tabOk nms _ Tryd.func26 (c := (bodyOf Tryd.f26)) (by kernel_rfl) (o := orT [slices_IndexFunc_Entry_registry_Get_1_g] [] noFz) (orT_sound ⟨slices_IndexFunc_Entry_registry_Get_1_ok, trivial⟩) (allLp_of [] (by kernel_rfl) trivial rfl) ?_
  intro z; kernel_rfl

def register_Next_T (x0 : Reg) (x1 : Str) (x2 : Str) : Tree (Reg × Int × Unit) :=
  .grd (!((decide (x0.1 = 0)) && ((x0.2.1 == []) && ((x0.2.2 == []) && true)))) (register_Check_T x0) (0 : Int) fun y1 =>
  .grd (!((!((decide (x0.1 = 0)) && ((x0.2.1 == []) && ((x0.2.2 == []) && true)))) && (!decide (y1 = 0)))) (name_Is_T x1) false fun y2 =>
  .ite ((((!((decide (x0.1 = 0)) && ((x0.2.1 == []) && ((x0.2.2 == []) && true)))) && (!decide (y1 = 0))) || (!y2)) || (decide ((256 : Int) < (x2.length : Int)))) (
    .ret ((0, ([], [])), 1, ())) (
    .ite (decide ((9007199254740992 : Int) ≤ x0.1)) (
      .ret ((0, ([], [])), 4, ())) (
      .ret (((w64 (x0.1 + 1)), (x1, x2)), 0, ())))

def register_Next_g : Sig := ⟨50, (.cons (.val true tReg) (.cons (.val false .str) (.cons (.val false .str) .nil))), .vals (.cons (.val true tReg) (.cons (.val false (.int .i64)) .nil)), fun z => register_Next_T z.1 z.2.1 z.2.2.1, ((dfl tReg : Reg), (0 : Int), ())⟩

theorem register_Next_ok : register_Next_g.ok Tryd.prog := by
  refine Sig.lift mix tabOk nms _ Tryd.func50 (c := (bodyOf Tryd.f50)) (by kernel_rfl) (o := orT [register_Check_g, name_Is_g] [] noFz) (orT_sound ⟨register_Check_ok, ⟨name_Is_ok, trivial⟩⟩) (allLp_of [] (by kernel_rfl) trivial rfl) ?_
  intro z; kernel_rfl

def registry_Set_T (x0 : List Entry) (x1 : Str) (x2 : Str) (x3 : Str) : Tree (Entry × Int × Unit) :=
  .bnd (registry_Check_T x0) fun y1 =>
  .ite (((!decide (y1 = 0)) || (x2 == ([] : Str))) || (decide ((128 : Int) < (x2.length : Int)))) (
    .ret (([], (0, ([], []))), 1, ())) (
    .bnd (registry_Get_T x0 x2) fun y2 =>
    .bnd (register_Next_T y2 x1 x3) fun y3 =>
    .ite (!decide (y3.2.1 = 0)) (
      .ret (([], (0, ([], []))), y3.2.1, ())) (
      .ret ((x2, y3.1), 0, ())))

def registry_Set_g : Sig := ⟨32, (.cons (.val false (.list tEntry)) (.cons (.val false .str) (.cons (.val false .str) (.cons (.val false .str) .nil)))), .vals (.cons (.val true tEntry) (.cons (.val false (.int .i64)) .nil)), fun z => registry_Set_T z.1 z.2.1 z.2.2.1 z.2.2.2.1, ((dfl tEntry : Entry), (0 : Int), ())⟩

theorem registry_Set_ok : registry_Set_g.ok Tryd.prog := by
  refine Sig.lift mix tabOk nms _ Tryd.func32 (c := (bodyOf Tryd.f32)) (by kernel_rfl) (o := orT [registry_Check_g, registry_Get_g, register_Next_g] [] noFz) (orT_sound ⟨registry_Check_ok, ⟨registry_Get_ok, ⟨register_Next_ok, trivial⟩⟩⟩) (allLp_of [] (by kernel_rfl) trivial rfl) ?_
  intro z; kernel_rfl

def props_Set_T (x0 : List Entry) (x1 : Str) (x2 : Str) (x3 : Str) (x4 : Str) (x5 : Int) : Tree (Entry × Int × Unit) :=
  .bnd (name_Is_T x2) fun y1 =>
  .grd (!(!y1)) (name_Is_T x3) false fun y2 =>
  .grd (!((!y1) || (!y2))) (props_may_T x4 x5) false fun y3 =>
  .ite (((!y1) || (!y2)) || (!y3)) (
    .ret (([], (0, ([], []))), 1, ())) (
    .bnd (props_Key_T x2 x3 x4) fun y4 =>
    .bnd (name_Dec_T x5) fun y5 =>
    .bnd (registry_Set_T x0 x1 y4 y5) fun y6 =>
    .ret (y6.1, y6.2.1, ()))

def props_Set_g : Sig := ⟨13, (.cons (.val false (.list tEntry)) (.cons (.val false .str) (.cons (.val false .str) (.cons (.val false .str) (.cons (.val false .str) (.cons (.val false (.int .i64)) .nil)))))), .vals (.cons (.val true tEntry) (.cons (.val false (.int .i64)) .nil)), fun z => props_Set_T z.1 z.2.1 z.2.2.1 z.2.2.2.1 z.2.2.2.2.1 z.2.2.2.2.2.1, ((dfl tEntry : Entry), (0 : Int), ())⟩

theorem props_Set_ok : props_Set_g.ok Tryd.prog := by
  refine Sig.lift mix tabOk nms _ Tryd.func13 (c := (bodyOf Tryd.f13)) (by kernel_rfl) (o := orT [name_Is_g, props_may_g, props_Key_g, name_Dec_g, registry_Set_g] [] noFz) (orT_sound ⟨name_Is_ok, ⟨props_may_ok, ⟨props_Key_ok, ⟨name_Dec_ok, ⟨registry_Set_ok, trivial⟩⟩⟩⟩⟩) (allLp_of [] (by kernel_rfl) trivial rfl) ?_
  intro z; kernel_rfl

def name_Num_T (x0 : Str) : Tree (Int × Bool × Unit) :=
  numT x0

def name_Num_g : Sig := ⟨25, (.cons (.val false .str) .nil), .vals (.cons (.val false (.int .i64)) (.cons (.val false .bool) .nil)), fun z => name_Num_T z.1, ((0 : Int), false, ())⟩

theorem name_Num_ok : name_Num_g.ok Tryd.prog :=
  name_Num_sig (enters_of Tryd.func25 (by kernel_rfl) rfl) name_Num_walk

def props_Of_1_T (x0 : Str) (x1 : Int) (x2 : List Entry) (x3 : Str) (x4 : Str) : Tree Int :=
  .bnd (props_Key_T x3 x4 x0) fun y1 =>
  .bnd (registry_Get_T x2 y1) fun y2 =>
  .bnd (name_Num_T y2.2.2) fun y3 =>
  .grd (!(!y3.2.1)) (props_may_T x0 y3.1) false fun y4 =>
  .ite ((!y3.2.1) || (!y4)) (
    .ret x1) (
    .ret y3.1)

def props_Of_1_g : Sig := ⟨24, (.cons (.val false .str) (.cons (.val false (.int .i64)) (.cons (.ptr (.list tEntry)) (.cons (.ptr .str) (.cons (.ptr .str) .nil))))), .vals (.val false (.int .i64)), fun z => props_Of_1_T z.1 z.2.1 z.2.2.1 z.2.2.2.1 z.2.2.2.2.1, (0 : Int)⟩

theorem props_Of_1_ok : props_Of_1_g.ok Tryd.prog := by
  refine Sig.lift mix tabOk nms _ Tryd.func24 (c := (bodyOf Tryd.f24)) (by kernel_rfl) (o := orT [props_Key_g, registry_Get_g, name_Num_g, props_may_g] [] noFz) (orT_sound ⟨props_Key_ok, ⟨registry_Get_ok, ⟨name_Num_ok, ⟨props_may_ok, trivial⟩⟩⟩⟩) (allLp_of [] (by kernel_rfl) trivial rfl) ?_
  intro z; kernel_rfl

def props_Of_2_T (x0 : Str) (x1 : Int) (x2 : Props) (x3 : List Entry) (x4 : Str) (x5 : Str) : Tree Int :=
  .bnd (props_Of_1_T x0 x1 x3 x4 x5) fun y1 =>
  .ret (std.imin x2.1 y1)

def props_Of_2_g : Sig := ⟨28, (.cons (.val false .str) (.cons (.val false (.int .i64)) (.cons (.ptr tProps) (.cons (.cp (.cons (.fn 24 .nil (.cons (.ptr (.list tEntry)) (.cons (.ptr .str) (.cons (.ptr .str) .nil)))) .nil)) .nil)))), .vals (.val false (.int .i64)), fun z => props_Of_2_T z.1 z.2.1 z.2.2.1 z.2.2.2.1.1.2.1 z.2.2.2.1.1.2.2.1 z.2.2.2.1.1.2.2.2.1, (0 : Int)⟩

theorem props_Of_2_ok : props_Of_2_g.ok Tryd.prog := by
  refine Sig.lift mix tabOk nms _ Tryd.func28 (c := (bodyOf Tryd.f28)) (by kernel_rfl) (o := orT [props_Of_1_g] [] noFz) (orT_sound ⟨props_Of_1_ok, trivial⟩) (allLp_of [] (by kernel_rfl) trivial rfl) ?_
  intro z; kernel_rfl

def props_Of_T (x0 : List Entry) (x1 : Str) (x2 : Str) : Tree Props :=
  .bnd (props_Of_1_T ([110] : Str) 3 x0 x1 x2) fun y1 =>
  .bnd (props_Of_2_T ([114] : Str) 2 (y1, (0, (0, (0, (0, (false, (false, false))))))) x0 x1 x2) fun y2 =>
  .bnd (props_Of_2_T ([119] : Str) 2 (y1, (0, (0, (0, (0, (false, (false, false))))))) x0 x1 x2) fun y3 =>
  .bnd (props_Of_2_T ([112, 114] : Str) 0 (y1, (y2, (y3, (0, (0, (false, (false, false))))))) x0 x1 x2) fun y4 =>
  .bnd (props_Of_2_T ([112, 119] : Str) 0 (y1, (y2, (y3, (0, (0, (false, (false, false))))))) x0 x1 x2) fun y5 =>
  .both (
    .both (
      .bnd (props_Of_1_T ([115, 101, 118, 101, 114, 97, 108] : Str) 1 x0 x1 x2) fun y40 =>
      .both (
        .both (
          .bnd (props_Of_1_T ([109, 105, 115, 115, 105, 110, 103] : Str) 1 x0 x1 x2) fun y45 =>
          .bnd (props_Of_1_T ([98, 97, 115, 105, 99] : Str) 0 x0 x1 x2) fun y46 =>
          .ret (y1, (y2, (y3, (y4, (y5, ((decide (y40 = 1)), ((decide (y45 = 1)), (decide (y46 = 1)))))))))) (
          .bnd (props_Of_1_T ([109, 105, 115, 115, 105, 110, 103] : Str) 1 x0 x1 x2) fun y43 =>
          .bnd (props_Of_1_T ([98, 97, 115, 105, 99] : Str) 0 x0 x1 x2) fun y44 =>
          .ret (y1, (y2, (y3, (y4, (y5, ((decide (y40 = 1)), ((decide (y43 = 1)), (decide (y44 = 1))))))))))) (
        .bnd (props_Of_1_T ([109, 105, 115, 115, 105, 110, 103] : Str) 1 x0 x1 x2) fun y41 =>
        .bnd (props_Of_1_T ([98, 97, 115, 105, 99] : Str) 0 x0 x1 x2) fun y42 =>
        .ret (y1, (y2, (y3, (y4, (y5, ((decide (y40 = 1)), ((decide (y41 = 1)), (decide (y42 = 1))))))))))) (
      .both (
        .both (
          .bnd (props_Of_1_T ([115, 101, 118, 101, 114, 97, 108] : Str) 1 x0 x1 x2) fun y35 =>
          .both (
            .bnd (props_Of_1_T ([109, 105, 115, 115, 105, 110, 103] : Str) 1 x0 x1 x2) fun y38 =>
            .bnd (props_Of_1_T ([98, 97, 115, 105, 99] : Str) 0 x0 x1 x2) fun y39 =>
            .ret (y1, (y2, (y3, (y4, (y5, ((decide (y35 = 1)), ((decide (y38 = 1)), (decide (y39 = 1)))))))))) (
            .bnd (props_Of_1_T ([109, 105, 115, 115, 105, 110, 103] : Str) 1 x0 x1 x2) fun y36 =>
            .bnd (props_Of_1_T ([98, 97, 115, 105, 99] : Str) 0 x0 x1 x2) fun y37 =>
            .ret (y1, (y2, (y3, (y4, (y5, ((decide (y35 = 1)), ((decide (y36 = 1)), (decide (y37 = 1))))))))))) (
          .bnd (props_Of_1_T ([115, 101, 118, 101, 114, 97, 108] : Str) 1 x0 x1 x2) fun y32 =>
          .bnd (props_Of_1_T ([109, 105, 115, 115, 105, 110, 103] : Str) 1 x0 x1 x2) fun y33 =>
          .bnd (props_Of_1_T ([98, 97, 115, 105, 99] : Str) 0 x0 x1 x2) fun y34 =>
          .ret (y1, (y2, (y3, (y4, (y5, ((decide (y32 = 1)), ((decide (y33 = 1)), (decide (y34 = 1))))))))))) (
        .both (
          .bnd (props_Of_1_T ([115, 101, 118, 101, 114, 97, 108] : Str) 1 x0 x1 x2) fun y29 =>
          .bnd (props_Of_1_T ([109, 105, 115, 115, 105, 110, 103] : Str) 1 x0 x1 x2) fun y30 =>
          .bnd (props_Of_1_T ([98, 97, 115, 105, 99] : Str) 0 x0 x1 x2) fun y31 =>
          .ret (y1, (y2, (y3, (y4, (y5, ((decide (y29 = 1)), ((decide (y30 = 1)), (decide (y31 = 1)))))))))) (
          .bnd (props_Of_1_T ([115, 101, 118, 101, 114, 97, 108] : Str) 1 x0 x1 x2) fun y26 =>
          .bnd (props_Of_1_T ([109, 105, 115, 115, 105, 110, 103] : Str) 1 x0 x1 x2) fun y27 =>
          .bnd (props_Of_1_T ([98, 97, 115, 105, 99] : Str) 0 x0 x1 x2) fun y28 =>
          .ret (y1, (y2, (y3, (y4, (y5, ((decide (y26 = 1)), ((decide (y27 = 1)), (decide (y28 = 1))))))))))))) (
    .both (
      .both (
        .both (
          .bnd (props_Of_1_T ([115, 101, 118, 101, 114, 97, 108] : Str) 1 x0 x1 x2) fun y21 =>
          .both (
            .bnd (props_Of_1_T ([109, 105, 115, 115, 105, 110, 103] : Str) 1 x0 x1 x2) fun y24 =>
            .bnd (props_Of_1_T ([98, 97, 115, 105, 99] : Str) 0 x0 x1 x2) fun y25 =>
            .ret (y1, (y2, (y3, (y4, (y5, ((decide (y21 = 1)), ((decide (y24 = 1)), (decide (y25 = 1)))))))))) (
            .bnd (props_Of_1_T ([109, 105, 115, 115, 105, 110, 103] : Str) 1 x0 x1 x2) fun y22 =>
            .bnd (props_Of_1_T ([98, 97, 115, 105, 99] : Str) 0 x0 x1 x2) fun y23 =>
            .ret (y1, (y2, (y3, (y4, (y5, ((decide (y21 = 1)), ((decide (y22 = 1)), (decide (y23 = 1))))))))))) (
          .bnd (props_Of_1_T ([115, 101, 118, 101, 114, 97, 108] : Str) 1 x0 x1 x2) fun y18 =>
          .bnd (props_Of_1_T ([109, 105, 115, 115, 105, 110, 103] : Str) 1 x0 x1 x2) fun y19 =>
          .bnd (props_Of_1_T ([98, 97, 115, 105, 99] : Str) 0 x0 x1 x2) fun y20 =>
          .ret (y1, (y2, (y3, (y4, (y5, ((decide (y18 = 1)), ((decide (y19 = 1)), (decide (y20 = 1))))))))))) (
        .bnd (props_Of_1_T ([115, 101, 118, 101, 114, 97, 108] : Str) 1 x0 x1 x2) fun y15 =>
        .bnd (props_Of_1_T ([109, 105, 115, 115, 105, 110, 103] : Str) 1 x0 x1 x2) fun y16 =>
        .bnd (props_Of_1_T ([98, 97, 115, 105, 99] : Str) 0 x0 x1 x2) fun y17 =>
        .ret (y1, (y2, (y3, (y4, (y5, ((decide (y15 = 1)), ((decide (y16 = 1)), (decide (y17 = 1))))))))))) (
      .both (
        .both (
          .bnd (props_Of_1_T ([115, 101, 118, 101, 114, 97, 108] : Str) 1 x0 x1 x2) fun y12 =>
          .bnd (props_Of_1_T ([109, 105, 115, 115, 105, 110, 103] : Str) 1 x0 x1 x2) fun y13 =>
          .bnd (props_Of_1_T ([98, 97, 115, 105, 99] : Str) 0 x0 x1 x2) fun y14 =>
          .ret (y1, (y2, (y3, (y4, (y5, ((decide (y12 = 1)), ((decide (y13 = 1)), (decide (y14 = 1)))))))))) (
          .bnd (props_Of_1_T ([115, 101, 118, 101, 114, 97, 108] : Str) 1 x0 x1 x2) fun y9 =>
          .bnd (props_Of_1_T ([109, 105, 115, 115, 105, 110, 103] : Str) 1 x0 x1 x2) fun y10 =>
          .bnd (props_Of_1_T ([98, 97, 115, 105, 99] : Str) 0 x0 x1 x2) fun y11 =>
          .ret (y1, (y2, (y3, (y4, (y5, ((decide (y9 = 1)), ((decide (y10 = 1)), (decide (y11 = 1))))))))))) (
        .bnd (props_Of_1_T ([115, 101, 118, 101, 114, 97, 108] : Str) 1 x0 x1 x2) fun y6 =>
        .bnd (props_Of_1_T ([109, 105, 115, 115, 105, 110, 103] : Str) 1 x0 x1 x2) fun y7 =>
        .bnd (props_Of_1_T ([98, 97, 115, 105, 99] : Str) 0 x0 x1 x2) fun y8 =>
        .ret (y1, (y2, (y3, (y4, (y5, ((decide (y6 = 1)), ((decide (y7 = 1)), (decide (y8 = 1))))))))))))

def props_Of_g : Sig := ⟨9, (.cons (.val false (.list tEntry)) (.cons (.val false .str) (.cons (.val false .str) .nil))), .vals (.val true tProps), fun z => props_Of_T z.1 z.2.1 z.2.2.1, (dfl tProps : Props)⟩

theorem props_Of_ok : props_Of_g.ok Tryd.prog := by
  refine Sig.lift mix tabOk nms _ Tryd.func9 (c := (bodyOf Tryd.f9)) (by kernel_rfl) (o := orT [props_Of_1_g, props_Of_2_g] [] noFz) (orT_sound ⟨props_Of_1_ok, ⟨props_Of_2_ok, trivial⟩⟩) (allLp_of [] (by kernel_rfl) trivial rfl) ?_
  intro z; kernel_rfl

def props_Check_T (x0 : Props) : Tree Int :=
  .bnd (props_may_T ([114] : Str) x0.2.1) fun y1 =>
  .grd y1 (props_may_T ([119] : Str) x0.2.2.1) false fun y2 =>
  .grd (y1 && y2) (props_may_T ([112, 114] : Str) x0.2.2.2.1) false fun y3 =>
  .grd ((y1 && y2) && y3) (props_may_T ([112, 119] : Str) x0.2.2.2.2.1) false fun y4 =>
  .bnd (props_may_T ([110] : Str) x0.1) fun y5 =>
  .ite (((!y5) || (!(((y1 && y2) && y3) && y4))) || (decide (x0.1 < (std.imax (std.imax (std.imax x0.2.1 x0.2.2.1) x0.2.2.2.1) x0.2.2.2.2.1)))) (
    .ret 1) (
    .ret 0)

def props_Check_g : Sig := ⟨15, (.cons (.val true tProps) .nil), .vals (.val false (.int .i64)), fun z => props_Check_T z.1, (0 : Int)⟩

theorem props_Check_ok : props_Check_g.ok Tryd.prog := by
  refine Sig.lift mix tabOk nms _ Tryd.func15 (c := (bodyOf Tryd.f15)) (by kernel_rfl) (o := orT [props_may_g] [] noFz) (orT_sound ⟨props_may_ok, trivial⟩) (allLp_of [] (by kernel_rfl) trivial rfl) ?_
  intro z; kernel_rfl

def props_Strict_T (x0 : Props) : Tree Bool :=
  .bnd (props_Check_T x0) fun y1 =>
  .ret ((decide (y1 = 0)) && (decide (x0.1 < (w64 (x0.2.2.2.1 + x0.2.2.2.2.1)))))

def props_Strict_g : Sig := ⟨17, (.cons (.val true tProps) .nil), .vals (.val false .bool), fun z => props_Strict_T z.1, false⟩

theorem props_Strict_ok : props_Strict_g.ok Tryd.prog := by
  refine Sig.lift mix tabOk nms _ Tryd.func17 (c := (bodyOf Tryd.f17)) (by kernel_rfl) (o := orT [props_Check_g] [] noFz) (orT_sound ⟨props_Check_ok, trivial⟩) (allLp_of [] (by kernel_rfl) trivial rfl) ?_
  intro z; kernel_rfl

def props_Default_T  : Tree Props :=
  .bnd (props_Of_T [] ([] : Str) ([] : Str)) fun y1 =>
  .ret y1

def props_Default_g : Sig := ⟨22, .nil, .vals (.val true tProps), fun z => props_Default_T, (dfl tProps : Props)⟩

theorem props_Default_ok : props_Default_g.ok Tryd.prog := by
  refine Sig.lift mix tabOk nms _ Tryd.func22 (c := (bodyOf Tryd.f22)) (by kernel_rfl) (o := orT [props_Of_g] [] noFz) (orT_sound ⟨props_Of_ok, trivial⟩) (allLp_of [] (by kernel_rfl) trivial rfl) ?_
  intro z; kernel_rfl

def r21_Default_T  : Tree Props :=
  .ret (3, (2, (2, (0, (0, (true, (true, false)))))))

def r21_Default_g : Sig := ⟨23, .nil, .vals (.val true tProps), fun z => r21_Default_T, (dfl tProps : Props)⟩

theorem r21_Default_ok : r21_Default_g.ok Tryd.prog := by
  refine Sig.lift mix tabOk nms _ Tryd.func23 (c := (bodyOf Tryd.f23)) (by kernel_rfl) (o := orT [] [] noFz) (orT_sound trivial) (allLp_of [] (by kernel_rfl) trivial rfl) ?_
  intro z; kernel_rfl

def l21_awake_T  : Tree Bool :=
  .bnd (props_Set_T [] ([110, 49] : Str) ([116] : Str) ([98] : Str) ([110] : Str) 2) fun y1 =>
  .bnd (props_Of_T [y1.1] ([116] : Str) ([98] : Str)) fun y2 =>
  .bnd (props_Set_T [] ([110, 49] : Str) ([116] : Str) ([98] : Str) ([110] : Str) 17) fun y3 =>
  .grd (((((decide (y1.2.1 = 0)) && (y1.1.1 == ([112, 114, 111, 112, 47, 116, 47, 98, 47, 110] : Str))) && (y1.1.2.2.2 == ([50] : Str))) && ((decide (y2.1 = 2)) && ((decide (y2.2.1 = 2)) && ((decide (y2.2.2.1 = 2)) && ((decide (y2.2.2.2.1 = 0)) && ((decide (y2.2.2.2.2.1 = 0)) && ((y2.2.2.2.2.2.1 == true) && ((y2.2.2.2.2.2.2.1 == true) && ((y2.2.2.2.2.2.2.2 == false) && true))))))))) && (decide (y3.2.1 = 1))) (props_Check_T y2) (0 : Int) fun y4 =>
  .grd ((((((decide (y1.2.1 = 0)) && (y1.1.1 == ([112, 114, 111, 112, 47, 116, 47, 98, 47, 110] : Str))) && (y1.1.2.2.2 == ([50] : Str))) && ((decide (y2.1 = 2)) && ((decide (y2.2.1 = 2)) && ((decide (y2.2.2.1 = 2)) && ((decide (y2.2.2.2.1 = 0)) && ((decide (y2.2.2.2.2.1 = 0)) && ((y2.2.2.2.2.2.1 == true) && ((y2.2.2.2.2.2.2.1 == true) && ((y2.2.2.2.2.2.2.2 == false) && true))))))))) && (decide (y3.2.1 = 1))) && (decide (y4 = 0))) (props_Strict_T y2) false fun y5 =>
  .grd (((((((decide (y1.2.1 = 0)) && (y1.1.1 == ([112, 114, 111, 112, 47, 116, 47, 98, 47, 110] : Str))) && (y1.1.2.2.2 == ([50] : Str))) && ((decide (y2.1 = 2)) && ((decide (y2.2.1 = 2)) && ((decide (y2.2.2.1 = 2)) && ((decide (y2.2.2.2.1 = 0)) && ((decide (y2.2.2.2.2.1 = 0)) && ((y2.2.2.2.2.2.1 == true) && ((y2.2.2.2.2.2.2.1 == true) && ((y2.2.2.2.2.2.2.2 == false) && true))))))))) && (decide (y3.2.1 = 1))) && (decide (y4 = 0))) && (!y5)) (props_Strict_T (3, (1, (1, (2, (2, (false, (false, false)))))))) false fun y6 =>
  .grd ((((((((decide (y1.2.1 = 0)) && (y1.1.1 == ([112, 114, 111, 112, 47, 116, 47, 98, 47, 110] : Str))) && (y1.1.2.2.2 == ([50] : Str))) && ((decide (y2.1 = 2)) && ((decide (y2.2.1 = 2)) && ((decide (y2.2.2.1 = 2)) && ((decide (y2.2.2.2.1 = 0)) && ((decide (y2.2.2.2.2.1 = 0)) && ((y2.2.2.2.2.2.1 == true) && ((y2.2.2.2.2.2.2.1 == true) && ((y2.2.2.2.2.2.2.2 == false) && true))))))))) && (decide (y3.2.1 = 1))) && (decide (y4 = 0))) && (!y5)) && y6) props_Default_T (dfl tProps : Props) fun y7 =>
  .grd ((((((((decide (y1.2.1 = 0)) && (y1.1.1 == ([112, 114, 111, 112, 47, 116, 47, 98, 47, 110] : Str))) && (y1.1.2.2.2 == ([50] : Str))) && ((decide (y2.1 = 2)) && ((decide (y2.2.1 = 2)) && ((decide (y2.2.2.1 = 2)) && ((decide (y2.2.2.2.1 = 0)) && ((decide (y2.2.2.2.2.1 = 0)) && ((y2.2.2.2.2.2.1 == true) && ((y2.2.2.2.2.2.2.1 == true) && ((y2.2.2.2.2.2.2.2 == false) && true))))))))) && (decide (y3.2.1 = 1))) && (decide (y4 = 0))) && (!y5)) && y6) r21_Default_T (dfl tProps : Props) fun y8 =>
  .ret (((((((((decide (y1.2.1 = 0)) && (y1.1.1 == ([112, 114, 111, 112, 47, 116, 47, 98, 47, 110] : Str))) && (y1.1.2.2.2 == ([50] : Str))) && ((decide (y2.1 = 2)) && ((decide (y2.2.1 = 2)) && ((decide (y2.2.2.1 = 2)) && ((decide (y2.2.2.2.1 = 0)) && ((decide (y2.2.2.2.2.1 = 0)) && ((y2.2.2.2.2.2.1 == true) && ((y2.2.2.2.2.2.2.1 == true) && ((y2.2.2.2.2.2.2.2 == false) && true))))))))) && (decide (y3.2.1 = 1))) && (decide (y4 = 0))) && (!y5)) && y6) && ((decide (y7.1 = y8.1)) && ((decide (y7.2.1 = y8.2.1)) && ((decide (y7.2.2.1 = y8.2.2.1)) && ((decide (y7.2.2.2.1 = y8.2.2.2.1)) && ((decide (y7.2.2.2.2.1 = y8.2.2.2.2.1)) && ((y7.2.2.2.2.2.1 == y8.2.2.2.2.2.1) && ((y7.2.2.2.2.2.2.1 == y8.2.2.2.2.2.2.1) && ((y7.2.2.2.2.2.2.2 == y8.2.2.2.2.2.2.2) && true)))))))))

def l21_awake_g : Sig := ⟨8, .nil, .vals (.val false .bool), fun z => l21_awake_T, false⟩

theorem l21_awake_ok : l21_awake_g.ok Tryd.prog := by
  refine Sig.lift mix tabOk nms _ Tryd.func8 (c := (bodyOf Tryd.f8)) (by kernel_rfl) (o := orT [props_Set_g, props_Of_g, props_Check_g, props_Strict_g, props_Default_g, r21_Default_g] [] noFz) (orT_sound ⟨props_Set_ok, ⟨props_Of_ok, ⟨props_Check_ok, ⟨props_Strict_ok, ⟨props_Default_ok, ⟨r21_Default_ok, trivial⟩⟩⟩⟩⟩⟩) (allLp_of [] (by kernel_rfl) trivial rfl) ?_
  intro z; kernel_rfl

def r21_Key_T (x0 : Str) (x1 : Str) (x2 : Str) : Tree Str :=
  ask (decide (([112, 114, 111, 112, 47] : Str).length + x0.length ≤ 9223372036854775807)) <|
  ask (decide ((([112, 114, 111, 112, 47] : Str) ++ x0).length + ([47] : Str).length ≤ 9223372036854775807)) <|
  ask (decide (((([112, 114, 111, 112, 47] : Str) ++ x0) ++ ([47] : Str)).length + x1.length ≤ 9223372036854775807)) <|
  ask (decide ((((([112, 114, 111, 112, 47] : Str) ++ x0) ++ ([47] : Str)) ++ x1).length + ([47] : Str).length ≤ 9223372036854775807)) <|
  ask (decide (((((([112, 114, 111, 112, 47] : Str) ++ x0) ++ ([47] : Str)) ++ x1) ++ ([47] : Str)).length + x2.length ≤ 9223372036854775807)) <|
  .ret (((((([112, 114, 111, 112, 47] : Str) ++ x0) ++ ([47] : Str)) ++ x1) ++ ([47] : Str)) ++ x2)

def r21_Key_g : Sig := ⟨12, (.cons (.val false .str) (.cons (.val false .str) (.cons (.val false .str) .nil))), .vals (.val false .str), fun z => r21_Key_T z.1 z.2.1 z.2.2.1, ([] : Str)⟩

theorem r21_Key_ok : r21_Key_g.ok Tryd.prog := by
  refine Sig.lift mix tabOk nms _ Tryd.func12 (c := (bodyOf Tryd.f12)) (by kernel_rfl) (o := orT [] [] noFz) (orT_sound trivial) (allLp_of [] (by kernel_rfl) trivial rfl) ?_
  intro z; kernel_rfl

def r10_Get_L2_step (l : List Entry) (key : Str) (c : Reg) (i : Int) : Tree (Int ⊕ (Reg ⊕ Unit)) :=
  .ite (decide (i < (l.length : Int))) (
    ask (inb i l.length) <|
    .ite ((l.getD i.toNat (dfl tEntry : Entry)).1 == key) (
      ask (inb i l.length) <|
      .ret (.inr (.inl (l.getD i.toNat (dfl tEntry : Entry)).2))) (
      .ret (.inl (w64 (i + 1))))) (
    .ret (.inr (.inr ())))

def r10_Get_L2 : Lp := ⟨2, [], [], (.cons (.val false (.list tEntry)) (.cons (.val false .str) (ca2 (.cons (.ref 0 0) (.cons (.val false (.int .i64)) (ca (ca2 (ca16 .nil)))))))), (.cells 32 (.cons (.flat tReg) .nil) .nil), 0, .more 0 [] (ca4 (.cons (.ref 0 0) (ca4 (ca16 .nil)))) (.cells 32 (.cons (.flat tReg) .nil) .nil) (.one 1 [] (ca4 (.cons (.ref 0 0) (ca4 (ca16 .nil)))) (.cells 32 (.cons (.flat tReg) .nil) .nil)), fun z => .bnd (.loop (fun v => r10_Get_L2_step z.1.1 z.1.2.1 z.2.1.1 v) z.1.2.2.2.2.2.1) fun r => .sum r (fun a0 => .ret (.inl ((cu4 ((), (cu4 (cu16 ())))), ((a0, ()), ())))) (fun b0 => .ret (.inr ((cu4 ((), (cu4 (cu16 ())))), ((z.2.1.1, ()), ()))))⟩

theorem r10_Get_L2_ok : r10_Get_L2.ok Tryd.prog (nthC (loopsOf (bodyOf Tryd.f46)) 0) := by
  refine Lp.lift (π := ((List Entry) × Str × Reg)) (V := Int) (ρ := (Reg ⊕ Unit)) mix tabOk r10_Get_L2 (o := orT [] [] noFz) (orT_sound trivial) (allLp_of [] (by kernel_rfl) trivial rfl) (fun x v => ((x.1, (x.2.1, (cu2 ((), (v, (cu (cu2 (cu16 ())))))))), ((x.2.2, ()), ()))) (fun x r => match r with | .inl a0 => .inl ((cu4 ((), (cu4 (cu16 ())))), ((a0, ()), ())) | .inr b0 => (.inr ((cu4 ((), (cu4 (cu16 ())))), ((x.2.2, ()), ())))) (fun x v => r10_Get_L2_step x.1 x.2.1 x.2.2 v) (fun x r => .sum r (fun a0 => .ret (.inl ((cu4 ((), (cu4 (cu16 ())))), ((a0, ()), ())))) (fun b0 => .ret (.inr ((cu4 ((), (cu4 (cu16 ())))), ((x.2.2, ()), ()))))) (fun z => (z.1.1, z.1.2.1, z.2.1.1)) (fun z => z.1.2.2.2.2.2.1) (fun _ => rfl) (fun _ => rfl) (fun x r Q h => match r, h with | .inl _, h => h | .inr b0, h => (h)) ?_
  intro x v; kernel_rfl

def r10_Get_T (x0 : List Entry) (x1 : Str) : Tree Reg :=
  .bnd (.loop (fun v => r10_Get_L2_step x0 x1 (0, ([], [])) v) 0) fun r1 =>
  .sum r1 (fun r2 =>
    .ret r2) (fun r3 =>
    .ret (0, ([], [])))

def r10_Get_g : Sig := ⟨46, (.cons (.val false (.list tEntry)) (.cons (.val false .str) .nil)), .vals (.val true tReg), fun z => r10_Get_T z.1 z.2.1, (dfl tReg : Reg)⟩

theorem r10_Get_ok : r10_Get_g.ok Tryd.prog := by
  refine Sig.lift mix tabOk nms _ Tryd.func46 (c := (bodyOf Tryd.f46)) (by kernel_rfl) (o := orT [] [r10_Get_L2] noFz) (orT_sound trivial) (allLp_of [nthC (loopsOf (bodyOf Tryd.f46)) 0] (by kernel_rfl) ⟨r10_Get_L2_ok, trivial⟩ (by kernel_rfl)) ?_
  intro z; kernel_rfl

def r05_Dec_L5_step (n : Int) (s_ : Str) (k : Int) : Tree ((Str × Int) ⊕ Str) :=
  .ite (!decide (k = 0)) (
    ask (!decide ((10 : Int) = 0)) <|
    .ite (decide ((k.tmod 10) < 0)) (
      ask (inbe (w64 ((w64 ((0 : Int) - (k.tmod 10))) + 1)) ([48, 49, 50, 51, 52, 53, 54, 55, 56, 57] : Str).length) <|
      ask (inbe (w64 ((0 : Int) - (k.tmod 10))) (w64 ((w64 ((0 : Int) - (k.tmod 10))) + 1)).toNat) <|
      ask (decide ((subS ([48, 49, 50, 51, 52, 53, 54, 55, 56, 57] : Str) (w64 ((0 : Int) - (k.tmod 10))).toNat (w64 ((w64 ((0 : Int) - (k.tmod 10))) + 1)).toNat).length + s_.length ≤ 9223372036854775807)) <|
      ask (!decide ((10 : Int) = 0)) <|
      .ret (.inl (((subS ([48, 49, 50, 51, 52, 53, 54, 55, 56, 57] : Str) (w64 ((0 : Int) - (k.tmod 10))).toNat (w64 ((w64 ((0 : Int) - (k.tmod 10))) + 1)).toNat) ++ s_), (w64 (k.tdiv 10))))) (
      ask (inbe (w64 ((k.tmod 10) + 1)) ([48, 49, 50, 51, 52, 53, 54, 55, 56, 57] : Str).length) <|
      ask (inbe (k.tmod 10) (w64 ((k.tmod 10) + 1)).toNat) <|
      ask (decide ((subS ([48, 49, 50, 51, 52, 53, 54, 55, 56, 57] : Str) (k.tmod 10).toNat (w64 ((k.tmod 10) + 1)).toNat).length + s_.length ≤ 9223372036854775807)) <|
      ask (!decide ((10 : Int) = 0)) <|
      .ret (.inl (((subS ([48, 49, 50, 51, 52, 53, 54, 55, 56, 57] : Str) (k.tmod 10).toNat (w64 ((k.tmod 10) + 1)).toNat) ++ s_), (w64 (k.tdiv 10)))))) (
    .ret (.inr s_))

def r05_Dec_L5 : Lp := ⟨5, [], [], (.cons (.val false (.int .i64)) (ca2 (.cons (.val false .str) (.cons (.val false (.int .i64)) (ca (ca8 (ca16 .nil))))))), .nil, 0, .one 1 [] (.cons (.val false (.int .i64)) (ca2 (.cons (.val false .str) (ca2 (ca8 (ca16 .nil)))))) .nil, fun z => .bnd (.loop (fun v => r05_Dec_L5_step z.1.1 v.1 v.2) (z.1.2.2.2.1, z.1.2.2.2.2.1)) fun r => .ret ((z.1.1, (cu2 (r, (cu2 (cu8 (cu16 ())))))), ())⟩

theorem r05_Dec_L5_ok : r05_Dec_L5.ok Tryd.prog (nthC (loopsOf (bodyOf Tryd.f37)) 0) := by
  refine Lp.lift (π := Int) (V := (Str × Int)) (ρ := Str) mix tabOk r05_Dec_L5 (o := orT [] [] noFz) (orT_sound trivial) (allLp_of [] (by kernel_rfl) trivial rfl) (fun x v => ((x, (cu2 (v.1, (v.2, (cu (cu8 (cu16 ()))))))), ())) (fun x r => ((x, (cu2 (r, (cu2 (cu8 (cu16 ())))))), ())) (fun x v => r05_Dec_L5_step x v.1 v.2) (fun x r => .ret ((x, (cu2 (r, (cu2 (cu8 (cu16 ())))))), ())) (fun z => z.1.1) (fun z => (z.1.2.2.2.1, z.1.2.2.2.2.1)) (fun _ => rfl) (fun _ => rfl) (fun _ _ _ h => h) ?_
  intro x v; kernel_rfl

def r05_Dec_T (x0 : Int) : Tree Str :=
  .ite (decide (x0 = 0)) (
    .ret ([48] : Str)) (
    .bnd (.loop (fun v => r05_Dec_L5_step x0 v.1 v.2) (([] : Str), x0)) fun r1 =>
    .ite (decide (x0 < 0)) (
      ask (decide (([45] : Str).length + r1.length ≤ 9223372036854775807)) <|
      .ret (([45] : Str) ++ r1)) (
      .ret r1))

def r05_Dec_g : Sig := ⟨37, (.cons (.val false (.int .i64)) .nil), .vals (.val false .str), fun z => r05_Dec_T z.1, ([] : Str)⟩

theorem r05_Dec_ok : r05_Dec_g.ok Tryd.prog := by
  refine Sig.lift mix tabOk nms _ Tryd.func37 (c := (bodyOf Tryd.f37)) (by kernel_rfl) (o := orT [] [r05_Dec_L5] noFz) (orT_sound trivial) (allLp_of [nthC (loopsOf (bodyOf Tryd.f37)) 0] (by kernel_rfl) ⟨r05_Dec_L5_ok, trivial⟩ (by kernel_rfl)) ?_
  intro z; kernel_rfl

def r05_Num_L7_step (s_ : Str) (from_ : Int) (n : Int) (i : Int) : Tree ((Int × Int) ⊕ ((Int × Bool) ⊕ Int)) :=
  .ite (decide (i < (s_.length : Int))) (
    ask (inb i s_.length) <|
    ask ((!(!(decide ((sgetI s_ i) < 48)))) || inb i s_.length) <|
    .ite ((decide ((sgetI s_ i) < 48)) || (decide ((57 : Int) < (sgetI s_ i)))) (
      .ret (.inr (.inl (0, false)))) (
      ask (inb i s_.length) <|
      .ret (.inl ((w64 ((w64 (n * 10)) - (w64 ((IntKind.wrap .u8 ((sgetI s_ i) - 48)))))), (w64 (i + 1)))))) (
    .ret (.inr (.inr n)))

def r05_Num_L7 : Lp := ⟨7, [], [], (.cons (.val false .str) (ca (ca2 (.cons (.val false (.int .i64)) (.cons (.val false (.int .i64)) (.cons (.val false (.int .i64)) (ca4 (ca8 (ca32 .nil))))))))), .nil, 0, .more 0 [] (ca2 (.cons (.val false (.int .i64)) (.cons (.val false .bool) (ca (ca2 (ca4 (ca8 (ca32 .nil)))))))) .nil (.one 1 [] (.cons (.val false .str) (ca (ca2 (.cons (.val false (.int .i64)) (.cons (.val false (.int .i64)) (ca (ca4 (ca8 (ca32 .nil))))))))) .nil), fun z => .bnd (.loop (fun v => r05_Num_L7_step z.1.1 z.1.2.2.2.2.2.1 v.1 v.2) (z.1.2.2.2.2.1, z.1.2.2.2.2.2.2.1)) fun r => .sum r (fun a0 => .ret (.inl ((cu2 (a0.1, (a0.2, (cu (cu2 (cu4 (cu8 (cu32 ())))))))), ()))) (fun b0 => .ret (.inr ((z.1.1, (cu (cu2 (b0, (z.1.2.2.2.2.2.1, (cu (cu4 (cu8 (cu32 ()))))))))), ())))⟩

theorem r05_Num_L7_ok : r05_Num_L7.ok Tryd.prog (nthC (loopsOf (bodyOf Tryd.f45)) 0) := by
  refine Lp.lift (π := (Str × Int)) (V := (Int × Int)) (ρ := ((Int × Bool) ⊕ Int)) mix tabOk r05_Num_L7 (o := orT [r05_Dec_g] [] noFz) (orT_sound ⟨r05_Dec_ok, trivial⟩) (allLp_of [] (by kernel_rfl) trivial rfl) (fun x v => ((x.1, (cu (cu2 (v.1, (x.2, (v.2, (cu4 (cu8 (cu32 ()))))))))), ())) (fun x r => match r with | .inl a0 => .inl ((cu2 (a0.1, (a0.2, (cu (cu2 (cu4 (cu8 (cu32 ())))))))), ()) | .inr b0 => (.inr ((x.1, (cu (cu2 (b0, (x.2, (cu (cu4 (cu8 (cu32 ()))))))))), ()))) (fun x v => r05_Num_L7_step x.1 x.2 v.1 v.2) (fun x r => .sum r (fun a0 => .ret (.inl ((cu2 (a0.1, (a0.2, (cu (cu2 (cu4 (cu8 (cu32 ())))))))), ()))) (fun b0 => .ret (.inr ((x.1, (cu (cu2 (b0, (x.2, (cu (cu4 (cu8 (cu32 ()))))))))), ())))) (fun z => (z.1.1, z.1.2.2.2.2.2.1)) (fun z => (z.1.2.2.2.2.1, z.1.2.2.2.2.2.2.1)) (fun _ => rfl) (fun _ => rfl) (fun x r Q h => match r, h with | .inl _, h => h | .inr b0, h => (h)) ?_
  intro x v; kernel_rfl

def r05_Num_T (x0 : Str) : Tree (Int × Bool × Unit) :=
  .ite ((decide ((20 : Int) < (x0.length : Int))) || (x0 == ([] : Str))) (
    .ret (0, false, ())) (
    ask (inb 0 x0.length) <|
    .ite (decide ((sgetI x0 0) = 45)) (
      .bnd (.loop (fun v => r05_Num_L7_step x0 1 v.1 v.2) (0, 1)) fun r1 =>
      .sum r1 (fun r2 =>
        .ret (r2.1, r2.2, ())) (fun r3 =>
        .ite (decide ((1 : Int) = 0)) (
          .bnd (r05_Dec_T (w64 ((0 : Int) - r3))) fun y4 =>
          .ite (!(y4 == x0)) (
            .ret (0, false, ())) (
            .ret ((w64 ((0 : Int) - r3)), true, ()))) (
          .bnd (r05_Dec_T r3) fun y5 =>
          .ite (!(y5 == x0)) (
            .ret (0, false, ())) (
            .ret (r3, true, ()))))) (
      .bnd (.loop (fun v => r05_Num_L7_step x0 0 v.1 v.2) (0, 0)) fun r6 =>
      .sum r6 (fun r7 =>
        .ret (r7.1, r7.2, ())) (fun r8 =>
        .ite (decide ((0 : Int) = 0)) (
          .bnd (r05_Dec_T (w64 ((0 : Int) - r8))) fun y9 =>
          .ite (!(y9 == x0)) (
            .ret (0, false, ())) (
            .ret ((w64 ((0 : Int) - r8)), true, ()))) (
          .bnd (r05_Dec_T r8) fun y10 =>
          .ite (!(y10 == x0)) (
            .ret (0, false, ())) (
            .ret (r8, true, ()))))))

def r05_Num_g : Sig := ⟨45, (.cons (.val false .str) .nil), .vals (.cons (.val false (.int .i64)) (.cons (.val false .bool) .nil)), fun z => r05_Num_T z.1, ((0 : Int), false, ())⟩

theorem r05_Num_ok : r05_Num_g.ok Tryd.prog := by
  refine Sig.lift mix tabOk nms _ Tryd.func45 (c := (bodyOf Tryd.f45)) (by kernel_rfl) (o := orT [r05_Dec_g] [r05_Num_L7] noFz) (orT_sound ⟨r05_Dec_ok, trivial⟩) (allLp_of [nthC (loopsOf (bodyOf Tryd.f45)) 0] (by kernel_rfl) ⟨r05_Num_L7_ok, trivial⟩ (by kernel_rfl)) ?_
  intro z; kernel_rfl

def r21_may_T (x0 : Str) (x1 : Int) : Tree Bool :=
  .ite (x0 == ([110] : Str)) (
    .ite (x0 == ([110] : Str)) (
      .ret ((decide ((1 : Int) ≤ x1)) && (decide (x1 ≤ 16)))) (
      .ite (x0 == ([112, 114] : Str)) (
        .ite (x0 == ([112, 114] : Str)) (
          .ret ((decide ((0 : Int) ≤ x1)) && (decide (x1 ≤ 16)))) (
          .ite (x0 == ([115, 101, 118, 101, 114, 97, 108] : Str)) (
            .ite (x0 == ([115, 101, 118, 101, 114, 97, 108] : Str)) (
              .ret ((decide (x1 = 0)) || (decide (x1 = 1)))) (
              .ret false)) (
            .ite (x0 == ([109, 105, 115, 115, 105, 110, 103] : Str)) (
              .ite (x0 == ([109, 105, 115, 115, 105, 110, 103] : Str)) (
                .ret ((decide (x1 = 0)) || (decide (x1 = 1)))) (
                .ret false)) (
              .ite (x0 == ([98, 97, 115, 105, 99] : Str)) (
                .ret ((decide (x1 = 0)) || (decide (x1 = 1)))) (
                .ret false))))) (
        .ite (x0 == ([112, 119] : Str)) (
          .ret ((decide ((0 : Int) ≤ x1)) && (decide (x1 ≤ 16)))) (
          .ite (x0 == ([115, 101, 118, 101, 114, 97, 108] : Str)) (
            .ite (x0 == ([115, 101, 118, 101, 114, 97, 108] : Str)) (
              .ret ((decide (x1 = 0)) || (decide (x1 = 1)))) (
              .ret false)) (
            .ite (x0 == ([109, 105, 115, 115, 105, 110, 103] : Str)) (
              .ite (x0 == ([109, 105, 115, 115, 105, 110, 103] : Str)) (
                .ret ((decide (x1 = 0)) || (decide (x1 = 1)))) (
                .ret false)) (
              .ite (x0 == ([98, 97, 115, 105, 99] : Str)) (
                .ret ((decide (x1 = 0)) || (decide (x1 = 1)))) (
                .ret false))))))) (
    .ite (x0 == ([114] : Str)) (
      .ite (x0 == ([114] : Str)) (
        .ret ((decide ((1 : Int) ≤ x1)) && (decide (x1 ≤ 16)))) (
        .ite (x0 == ([112, 114] : Str)) (
          .ite (x0 == ([112, 114] : Str)) (
            .ret ((decide ((0 : Int) ≤ x1)) && (decide (x1 ≤ 16)))) (
            .ite (x0 == ([115, 101, 118, 101, 114, 97, 108] : Str)) (
              .ite (x0 == ([115, 101, 118, 101, 114, 97, 108] : Str)) (
                .ret ((decide (x1 = 0)) || (decide (x1 = 1)))) (
                .ret false)) (
              .ite (x0 == ([109, 105, 115, 115, 105, 110, 103] : Str)) (
                .ite (x0 == ([109, 105, 115, 115, 105, 110, 103] : Str)) (
                  .ret ((decide (x1 = 0)) || (decide (x1 = 1)))) (
                  .ret false)) (
                .ite (x0 == ([98, 97, 115, 105, 99] : Str)) (
                  .ret ((decide (x1 = 0)) || (decide (x1 = 1)))) (
                  .ret false))))) (
          .ite (x0 == ([112, 119] : Str)) (
            .ret ((decide ((0 : Int) ≤ x1)) && (decide (x1 ≤ 16)))) (
            .ite (x0 == ([115, 101, 118, 101, 114, 97, 108] : Str)) (
              .ite (x0 == ([115, 101, 118, 101, 114, 97, 108] : Str)) (
                .ret ((decide (x1 = 0)) || (decide (x1 = 1)))) (
                .ret false)) (
              .ite (x0 == ([109, 105, 115, 115, 105, 110, 103] : Str)) (
                .ite (x0 == ([109, 105, 115, 115, 105, 110, 103] : Str)) (
                  .ret ((decide (x1 = 0)) || (decide (x1 = 1)))) (
                  .ret false)) (
                .ite (x0 == ([98, 97, 115, 105, 99] : Str)) (
                  .ret ((decide (x1 = 0)) || (decide (x1 = 1)))) (
                  .ret false))))))) (
      .ite (x0 == ([119] : Str)) (
        .ret ((decide ((1 : Int) ≤ x1)) && (decide (x1 ≤ 16)))) (
        .ite (x0 == ([112, 114] : Str)) (
          .ite (x0 == ([112, 114] : Str)) (
            .ret ((decide ((0 : Int) ≤ x1)) && (decide (x1 ≤ 16)))) (
            .ite (x0 == ([115, 101, 118, 101, 114, 97, 108] : Str)) (
              .ite (x0 == ([115, 101, 118, 101, 114, 97, 108] : Str)) (
                .ret ((decide (x1 = 0)) || (decide (x1 = 1)))) (
                .ret false)) (
              .ite (x0 == ([109, 105, 115, 115, 105, 110, 103] : Str)) (
                .ite (x0 == ([109, 105, 115, 115, 105, 110, 103] : Str)) (
                  .ret ((decide (x1 = 0)) || (decide (x1 = 1)))) (
                  .ret false)) (
                .ite (x0 == ([98, 97, 115, 105, 99] : Str)) (
                  .ret ((decide (x1 = 0)) || (decide (x1 = 1)))) (
                  .ret false))))) (
          .ite (x0 == ([112, 119] : Str)) (
            .ret ((decide ((0 : Int) ≤ x1)) && (decide (x1 ≤ 16)))) (
            .ite (x0 == ([115, 101, 118, 101, 114, 97, 108] : Str)) (
              .ite (x0 == ([115, 101, 118, 101, 114, 97, 108] : Str)) (
                .ret ((decide (x1 = 0)) || (decide (x1 = 1)))) (
                .ret false)) (
              .ite (x0 == ([109, 105, 115, 115, 105, 110, 103] : Str)) (
                .ite (x0 == ([109, 105, 115, 115, 105, 110, 103] : Str)) (
                  .ret ((decide (x1 = 0)) || (decide (x1 = 1)))) (
                  .ret false)) (
                .ite (x0 == ([98, 97, 115, 105, 99] : Str)) (
                  .ret ((decide (x1 = 0)) || (decide (x1 = 1)))) (
                  .ret false))))))))

def r21_may_g : Sig := ⟨35, (.cons (.val false .str) (.cons (.val false (.int .i64)) .nil)), .vals (.val false .bool), fun z => r21_may_T z.1 z.2.1, false⟩

theorem r21_may_ok : r21_may_g.ok Tryd.prog := by
  refine Sig.lift mix tabOk nms _ Tryd.func35 (c := (bodyOf Tryd.f35)) (by kernel_rfl) (o := orT [] [] noFz) (orT_sound trivial) (allLp_of [] (by kernel_rfl) trivial rfl) ?_
  intro z; kernel_rfl

def r21_field_T (x0 : List Entry) (x1 : Str) (x2 : Str) (x3 : Str) (x4 : Int) : Tree Int :=
  .bnd (r21_Key_T x1 x2 x3) fun y1 =>
  .bnd (r10_Get_T x0 y1) fun y2 =>
  .bnd (r05_Num_T y2.2.2) fun y3 =>
  .grd (!(!y3.2.1)) (r21_may_T x3 y3.1) false fun y4 =>
  .ite ((!y3.2.1) || (!y4)) (
    .ret x4) (
    .ret y3.1)

def r21_field_g : Sig := ⟨29, (.cons (.val false (.list tEntry)) (.cons (.val false .str) (.cons (.val false .str) (.cons (.val false .str) (.cons (.val false (.int .i64)) .nil))))), .vals (.val false (.int .i64)), fun z => r21_field_T z.1 z.2.1 z.2.2.1 z.2.2.2.1 z.2.2.2.2.1, (0 : Int)⟩

theorem r21_field_ok : r21_field_g.ok Tryd.prog := by
  refine Sig.lift mix tabOk nms _ Tryd.func29 (c := (bodyOf Tryd.f29)) (by kernel_rfl) (o := orT [r21_Key_g, r10_Get_g, r05_Num_g, r21_may_g] [] noFz) (orT_sound ⟨r21_Key_ok, ⟨r10_Get_ok, ⟨r05_Num_ok, ⟨r21_may_ok, trivial⟩⟩⟩⟩) (allLp_of [] (by kernel_rfl) trivial rfl) ?_
  intro z; kernel_rfl

def r21_Of_T (x0 : List Entry) (x1 : Str) (x2 : Str) : Tree Props :=
  .bnd (r21_field_T x0 x1 x2 ([110] : Str) 3) fun y1 =>
  .bnd (r21_field_T x0 x1 x2 ([114] : Str) 2) fun y2 =>
  .bnd (r21_field_T x0 x1 x2 ([119] : Str) 2) fun y3 =>
  .bnd (r21_field_T x0 x1 x2 ([112, 114] : Str) 0) fun y4 =>
  .bnd (r21_field_T x0 x1 x2 ([112, 119] : Str) 0) fun y5 =>
  .bnd (r21_field_T x0 x1 x2 ([115, 101, 118, 101, 114, 97, 108] : Str) 1) fun y6 =>
  .bnd (r21_field_T x0 x1 x2 ([109, 105, 115, 115, 105, 110, 103] : Str) 1) fun y7 =>
  .bnd (r21_field_T x0 x1 x2 ([98, 97, 115, 105, 99] : Str) 0) fun y8 =>
  .ret (y1, ((std.imin y1 y2), ((std.imin y1 y3), ((std.imin y1 y4), ((std.imin y1 y5), ((decide (y6 = 1)), ((decide (y7 = 1)), (decide (y8 = 1)))))))))

def r21_Of_g : Sig := ⟨10, (.cons (.val false (.list tEntry)) (.cons (.val false .str) (.cons (.val false .str) .nil))), .vals (.val true tProps), fun z => r21_Of_T z.1 z.2.1 z.2.2.1, (dfl tProps : Props)⟩

theorem r21_Of_ok : r21_Of_g.ok Tryd.prog := by
  refine Sig.lift mix tabOk nms _ Tryd.func10 (c := (bodyOf Tryd.f10)) (by kernel_rfl) (o := orT [r21_field_g] [] noFz) (orT_sound ⟨r21_field_ok, trivial⟩) (allLp_of [] (by kernel_rfl) trivial rfl) ?_
  intro z; kernel_rfl

def l21_PropsOf_T (x0 : List Entry) (x1 : Str) (x2 : Str) : Tree Bool :=
  .bnd (r10_Few_T x0 30) fun y1 =>
  .ite (((!y1) || (decide ((100 : Int) < (x1.length : Int)))) || (decide ((100 : Int) < (x2.length : Int)))) (
    .bnd l21_awake_T fun y2 =>
    .ret y2) (
    .bnd (props_Of_T x0 x1 x2) fun y3 =>
    .bnd (r21_Of_T x0 x1 x2) fun y4 =>
    .grd ((decide (y3.1 = y4.1)) && ((decide (y3.2.1 = y4.2.1)) && ((decide (y3.2.2.1 = y4.2.2.1)) && ((decide (y3.2.2.2.1 = y4.2.2.2.1)) && ((decide (y3.2.2.2.2.1 = y4.2.2.2.2.1)) && ((y3.2.2.2.2.2.1 == y4.2.2.2.2.2.1) && ((y3.2.2.2.2.2.2.1 == y4.2.2.2.2.2.2.1) && ((y3.2.2.2.2.2.2.2 == y4.2.2.2.2.2.2.2) && true)))))))) (props_Key_T x1 x2 ([110] : Str)) ([] : Str) fun y5 =>
    .grd ((decide (y3.1 = y4.1)) && ((decide (y3.2.1 = y4.2.1)) && ((decide (y3.2.2.1 = y4.2.2.1)) && ((decide (y3.2.2.2.1 = y4.2.2.2.1)) && ((decide (y3.2.2.2.2.1 = y4.2.2.2.2.1)) && ((y3.2.2.2.2.2.1 == y4.2.2.2.2.2.1) && ((y3.2.2.2.2.2.2.1 == y4.2.2.2.2.2.2.1) && ((y3.2.2.2.2.2.2.2 == y4.2.2.2.2.2.2.2) && true)))))))) (r21_Key_T x1 x2 ([110] : Str)) ([] : Str) fun y6 =>
    .grd (((decide (y3.1 = y4.1)) && ((decide (y3.2.1 = y4.2.1)) && ((decide (y3.2.2.1 = y4.2.2.1)) && ((decide (y3.2.2.2.1 = y4.2.2.2.1)) && ((decide (y3.2.2.2.2.1 = y4.2.2.2.2.1)) && ((y3.2.2.2.2.2.1 == y4.2.2.2.2.2.1) && ((y3.2.2.2.2.2.2.1 == y4.2.2.2.2.2.2.1) && ((y3.2.2.2.2.2.2.2 == y4.2.2.2.2.2.2.2) && true)))))))) && (y5 == y6)) l21_awake_T false fun y7 =>
    .ret ((((decide (y3.1 = y4.1)) && ((decide (y3.2.1 = y4.2.1)) && ((decide (y3.2.2.1 = y4.2.2.1)) && ((decide (y3.2.2.2.1 = y4.2.2.2.1)) && ((decide (y3.2.2.2.2.1 = y4.2.2.2.2.1)) && ((y3.2.2.2.2.2.1 == y4.2.2.2.2.2.1) && ((y3.2.2.2.2.2.2.1 == y4.2.2.2.2.2.2.1) && ((y3.2.2.2.2.2.2.2 == y4.2.2.2.2.2.2.2) && true)))))))) && (y5 == y6)) && y7))

def l21_PropsOf_g : Sig := ⟨3, (.cons (.val false (.list tEntry)) (.cons (.val false .str) (.cons (.val false .str) .nil))), .vals (.val false .bool), fun z => l21_PropsOf_T z.1 z.2.1 z.2.2.1, false⟩

theorem l21_PropsOf_ok : l21_PropsOf_g.ok Tryd.prog := by
  refine Sig.lift mix tabOk nms _ Tryd.func3 (c := (bodyOf Tryd.f3)) (by kernel_rfl) (o := orT [r10_Few_g, l21_awake_g, props_Of_g, r21_Of_g, props_Key_g, r21_Key_g] [] noFz) (orT_sound ⟨r10_Few_ok, ⟨l21_awake_ok, ⟨props_Of_ok, ⟨r21_Of_ok, ⟨props_Key_ok, ⟨r21_Key_ok, trivial⟩⟩⟩⟩⟩⟩) (allLp_of [] (by kernel_rfl) trivial rfl) ?_
  intro z; kernel_rfl

def r05_Is_L2_step (s_ : Str) (i : Int) : Tree (Int ⊕ (Bool ⊕ Unit)) :=
  .ite (decide (i < (s_.length : Int))) (
    ask (inb i s_.length) <|
    ask ((!(!(decide ((sgetI s_ i) < 97)))) || inb i s_.length) <|
    ask ((!((decide ((sgetI s_ i) < 97)) || (decide ((122 : Int) < (sgetI s_ i))))) || inb i s_.length) <|
    ask ((!(((decide ((sgetI s_ i) < 97)) || (decide ((122 : Int) < (sgetI s_ i)))) && (!(decide ((sgetI s_ i) < 48))))) || inb i s_.length) <|
    ask ((!(((decide ((sgetI s_ i) < 97)) || (decide ((122 : Int) < (sgetI s_ i)))) && ((decide ((sgetI s_ i) < 48)) || (decide ((57 : Int) < (sgetI s_ i)))))) || inb i s_.length) <|
    .ite ((((decide ((sgetI s_ i) < 97)) || (decide ((122 : Int) < (sgetI s_ i)))) && ((decide ((sgetI s_ i) < 48)) || (decide ((57 : Int) < (sgetI s_ i))))) && (!decide ((sgetI s_ i) = 45))) (
      .ret (.inr (.inl false))) (
      .ret (.inl (w64 (i + 1))))) (
    .ret (.inr (.inr ())))

def r05_Is_L2 : Lp := ⟨2, [], [], (.cons (.val false .str) (ca2 (.cons (.val false (.int .i64)) (ca2 (ca8 (ca32 .nil)))))), .nil, 0, .more 0 [] (ca2 (.cons (.val false .bool) (ca (ca2 (ca8 (ca32 .nil)))))) .nil (.one 1 [] (.cons (.val false .str) (ca (ca4 (ca8 (ca32 .nil))))) .nil), fun z => .bnd (.loop (fun v => r05_Is_L2_step z.1.1 v) z.1.2.2.2.1) fun r => .sum r (fun a0 => .ret (.inl ((cu2 (a0, (cu (cu2 (cu8 (cu32 ())))))), ()))) (fun b0 => .ret (.inr ((z.1.1, (cu (cu4 (cu8 (cu32 ()))))), ())))⟩

theorem r05_Is_L2_ok : r05_Is_L2.ok Tryd.prog (nthC (loopsOf (bodyOf Tryd.f34)) 0) := by
  refine Lp.lift (π := Str) (V := Int) (ρ := (Bool ⊕ Unit)) mix tabOk r05_Is_L2 (o := orT [] [] noFz) (orT_sound trivial) (allLp_of [] (by kernel_rfl) trivial rfl) (fun x v => ((x, (cu2 (v, (cu2 (cu8 (cu32 ())))))), ())) (fun x r => match r with | .inl a0 => .inl ((cu2 (a0, (cu (cu2 (cu8 (cu32 ())))))), ()) | .inr b0 => (.inr ((x, (cu (cu4 (cu8 (cu32 ()))))), ()))) (fun x v => r05_Is_L2_step x v) (fun x r => .sum r (fun a0 => .ret (.inl ((cu2 (a0, (cu (cu2 (cu8 (cu32 ())))))), ()))) (fun b0 => .ret (.inr ((x, (cu (cu4 (cu8 (cu32 ()))))), ())))) (fun z => z.1.1) (fun z => z.1.2.2.2.1) (fun _ => rfl) (fun _ => rfl) (fun x r Q h => match r, h with | .inl _, h => h | .inr b0, h => (h)) ?_
  intro x v; kernel_rfl

def r05_Is_T (x0 : Str) : Tree Bool :=
  .bnd (.loop (fun v => r05_Is_L2_step x0 v) 0) fun r1 =>
  .sum r1 (fun r2 =>
    .ret r2) (fun r3 =>
    .ret ((decide ((1 : Int) ≤ (x0.length : Int))) && (decide ((x0.length : Int) ≤ 16))))

def r05_Is_g : Sig := ⟨34, (.cons (.val false .str) .nil), .vals (.val false .bool), fun z => r05_Is_T z.1, false⟩

theorem r05_Is_ok : r05_Is_g.ok Tryd.prog := by
  refine Sig.lift mix tabOk nms _ Tryd.func34 (c := (bodyOf Tryd.f34)) (by kernel_rfl) (o := orT [] [r05_Is_L2] noFz) (orT_sound trivial) (allLp_of [nthC (loopsOf (bodyOf Tryd.f34)) 0] (by kernel_rfl) ⟨r05_Is_L2_ok, trivial⟩ (by kernel_rfl)) ?_
  intro z; kernel_rfl

def r09_May_T (x0 : Reg) : Tree Bool :=
  .grd (((decide ((1 : Int) ≤ x0.1)) && (decide (x0.1 ≤ 9007199254740992))) && (!(x0.2.1 == ([] : Str)))) (r05_Is_T x0.2.1) false fun y1 =>
  .ret ((((decide ((1 : Int) ≤ x0.1)) && (decide (x0.1 ≤ 9007199254740992))) && ((x0.2.1 == ([] : Str)) || y1)) && (decide ((x0.2.2.length : Int) ≤ 256)))

def r09_May_g : Sig := ⟨52, (.cons (.val true tReg) .nil), .vals (.val false .bool), fun z => r09_May_T z.1, false⟩

theorem r09_May_ok : r09_May_g.ok Tryd.prog := by
  refine Sig.lift mix tabOk nms _ Tryd.func52 (c := (bodyOf Tryd.f52)) (by kernel_rfl) (o := orT [r05_Is_g] [] noFz) (orT_sound ⟨r05_Is_ok, trivial⟩) (allLp_of [] (by kernel_rfl) trivial rfl) ?_
  intro z; kernel_rfl

def r10_isEntry_T (x0 : Entry) : Tree Bool :=
  .grd ((decide ((1 : Int) ≤ (x0.1.length : Int))) && (decide ((x0.1.length : Int) ≤ 128))) (r09_May_T x0.2) false fun y1 =>
  .ret (((decide ((1 : Int) ≤ (x0.1.length : Int))) && (decide ((x0.1.length : Int) ≤ 128))) && y1)

def r10_isEntry_g : Sig := ⟨38, (.cons (.val true tEntry) .nil), .vals (.val false .bool), fun z => r10_isEntry_T z.1, false⟩

theorem r10_isEntry_ok : r10_isEntry_g.ok Tryd.prog := by
  refine Sig.lift mix tabOk nms _ Tryd.func38 (c := (bodyOf Tryd.f38)) (by kernel_rfl) (o := orT [r09_May_g] [] noFz) (orT_sound ⟨r09_May_ok, trivial⟩) (allLp_of [] (by kernel_rfl) trivial rfl) ?_
  intro z; kernel_rfl

def r10_May_L4_step (l : List Entry) (i : Int) : Tree (Int ⊕ (Bool ⊕ Unit)) :=
  .ite (decide (i < (l.length : Int))) (
    ask (inb i l.length) <|
    .bnd (r10_isEntry_T (l.getD i.toNat (dfl tEntry : Entry))) fun y1 =>
    ask ((!((!(!y1)) && (decide ((0 : Int) < i)))) || inb (w64 (i - 1)) l.length) <|
    ask ((!((!(!y1)) && (decide ((0 : Int) < i)))) || inb i l.length) <|
    .ite ((!y1) || ((decide ((0 : Int) < i)) && (!ltS (l.getD ((w64 (i - 1)).toNat) (dfl tEntry : Entry)).1 (l.getD i.toNat (dfl tEntry : Entry)).1))) (
      .ret (.inr (.inl false))) (
      .ret (.inl (w64 (i + 1))))) (
    .ret (.inr (.inr ())))

def r10_May_L4 : Lp := ⟨4, [], [], (.cons (.val false (.list tEntry)) (ca2 (.cons (.val false (.int .i64)) (ca (ca32 .nil))))), .nil, 0, .more 0 [] (ca2 (.cons (.val false .bool) (ca2 (ca32 .nil)))) .nil (.one 1 [] (ca (ca4 (ca32 .nil))) .nil), fun z => .bnd (.loop (fun v => r10_May_L4_step z.1.1 v) z.1.2.2.2.1) fun r => .sum r (fun a0 => .ret (.inl ((cu2 (a0, (cu2 (cu32 ())))), ()))) (fun b0 => .ret (.inr ((cu (cu4 (cu32 ()))), ())))⟩

theorem r10_May_L4_ok : r10_May_L4.ok Tryd.prog (nthC (loopsOf (bodyOf Tryd.f19)) 0) := by
  refine Lp.lift (π := List Entry) (V := Int) (ρ := (Bool ⊕ Unit)) mix tabOk r10_May_L4 (o := orT [r10_isEntry_g] [] noFz) (orT_sound ⟨r10_isEntry_ok, trivial⟩) (allLp_of [] (by kernel_rfl) trivial rfl) (fun x v => ((x, (cu2 (v, (cu (cu32 ()))))), ())) (fun x r => match r with | .inl a0 => .inl ((cu2 (a0, (cu2 (cu32 ())))), ()) | .inr b0 => (.inr ((cu (cu4 (cu32 ()))), ()))) (fun x v => r10_May_L4_step x v) (fun x r => .sum r (fun a0 => .ret (.inl ((cu2 (a0, (cu2 (cu32 ())))), ()))) (fun b0 => .ret (.inr ((cu (cu4 (cu32 ()))), ())))) (fun z => z.1.1) (fun z => z.1.2.2.2.1) (fun _ => rfl) (fun _ => rfl) (fun x r Q h => match r, h with | .inl _, h => h | .inr b0, h => (h)) ?_
  intro x v; kernel_rfl

def r10_May_T (x0 : List Entry) : Tree Bool :=
  .ite (decide ((4096 : Int) < (x0.length : Int))) (
    .ret false) (
    .bnd (.loop (fun v => r10_May_L4_step x0 v) 0) fun r1 =>
    .sum r1 (fun r2 =>
      .ret r2) (fun r3 =>
      .ret true))

def r10_May_g : Sig := ⟨19, (.cons (.val false (.list tEntry)) .nil), .vals (.val false .bool), fun z => r10_May_T z.1, false⟩

theorem r10_May_ok : r10_May_g.ok Tryd.prog := by
  refine Sig.lift mix tabOk nms _ Tryd.func19 (c := (bodyOf Tryd.f19)) (by kernel_rfl) (o := orT [r10_isEntry_g] [r10_May_L4] noFz) (orT_sound ⟨r10_isEntry_ok, trivial⟩) (allLp_of [nthC (loopsOf (bodyOf Tryd.f19)) 0] (by kernel_rfl) ⟨r10_May_L4_ok, trivial⟩ (by kernel_rfl)) ?_
  intro z; kernel_rfl

def r09_Next_T (x0 : Reg) (x1 : Str) (x2 : Str) : Tree (Reg × Int × Unit) :=
  .grd (!((decide (x0.1 = 0)) && ((x0.2.1 == []) && ((x0.2.2 == []) && true)))) (r09_May_T x0) false fun y1 =>
  .grd (!((!((decide (x0.1 = 0)) && ((x0.2.1 == []) && ((x0.2.2 == []) && true)))) && (!y1))) (r05_Is_T x1) false fun y2 =>
  .ite ((((!((decide (x0.1 = 0)) && ((x0.2.1 == []) && ((x0.2.2 == []) && true)))) && (!y1)) || (!y2)) || (decide ((256 : Int) < (x2.length : Int)))) (
    .ret ((0, ([], [])), 1, ())) (
    .ite (decide ((9007199254740992 : Int) ≤ x0.1)) (
      .ret ((0, ([], [])), 4, ())) (
      .ret (((w64 (x0.1 + 1)), (x1, x2)), 0, ())))

def r09_Next_g : Sig := ⟨51, (.cons (.val true tReg) (.cons (.val false .str) (.cons (.val false .str) .nil))), .vals (.cons (.val true tReg) (.cons (.val false (.int .i64)) .nil)), fun z => r09_Next_T z.1 z.2.1 z.2.2.1, ((dfl tReg : Reg), (0 : Int), ())⟩

theorem r09_Next_ok : r09_Next_g.ok Tryd.prog := by
  refine Sig.lift mix tabOk nms _ Tryd.func51 (c := (bodyOf Tryd.f51)) (by kernel_rfl) (o := orT [r09_May_g, r05_Is_g] [] noFz) (orT_sound ⟨r09_May_ok, ⟨r05_Is_ok, trivial⟩⟩) (allLp_of [] (by kernel_rfl) trivial rfl) ?_
  intro z; kernel_rfl

def r10_Set_T (x0 : List Entry) (x1 : Str) (x2 : Str) (x3 : Str) : Tree (Entry × Int × Unit) :=
  .bnd (r10_May_T x0) fun y1 =>
  .ite (((!y1) || (decide ((x2.length : Int) < 1))) || (decide ((128 : Int) < (x2.length : Int)))) (
    .ret (([], (0, ([], []))), 1, ())) (
    .bnd (r10_Get_T x0 x2) fun y2 =>
    .bnd (r09_Next_T y2 x1 x3) fun y3 =>
    .ite (!decide (y3.2.1 = 0)) (
      .ret (([], (0, ([], []))), y3.2.1, ())) (
      .ret ((x2, y3.1), 0, ())))

def r10_Set_g : Sig := ⟨36, (.cons (.val false (.list tEntry)) (.cons (.val false .str) (.cons (.val false .str) (.cons (.val false .str) .nil)))), .vals (.cons (.val true tEntry) (.cons (.val false (.int .i64)) .nil)), fun z => r10_Set_T z.1 z.2.1 z.2.2.1 z.2.2.2.1, ((dfl tEntry : Entry), (0 : Int), ())⟩

theorem r10_Set_ok : r10_Set_g.ok Tryd.prog := by
  refine Sig.lift mix tabOk nms _ Tryd.func36 (c := (bodyOf Tryd.f36)) (by kernel_rfl) (o := orT [r10_May_g, r10_Get_g, r09_Next_g] [] noFz) (orT_sound ⟨r10_May_ok, ⟨r10_Get_ok, ⟨r09_Next_ok, trivial⟩⟩⟩) (allLp_of [] (by kernel_rfl) trivial rfl) ?_
  intro z; kernel_rfl

def r21_Set_T (x0 : List Entry) (x1 : Str) (x2 : Str) (x3 : Str) (x4 : Str) (x5 : Int) : Tree (Entry × Int × Unit) :=
  .bnd (r05_Is_T x2) fun y1 =>
  .grd (!(!y1)) (r05_Is_T x3) false fun y2 =>
  .grd (!((!y1) || (!y2))) (r21_may_T x4 x5) false fun y3 =>
  .ite (((!y1) || (!y2)) || (!y3)) (
    .ret (([], (0, ([], []))), 1, ())) (
    .bnd (r21_Key_T x2 x3 x4) fun y4 =>
    .bnd (r05_Dec_T x5) fun y5 =>
    .bnd (r10_Set_T x0 x1 y4 y5) fun y6 =>
    .ret (y6.1, y6.2.1, ()))

def r21_Set_g : Sig := ⟨14, (.cons (.val false (.list tEntry)) (.cons (.val false .str) (.cons (.val false .str) (.cons (.val false .str) (.cons (.val false .str) (.cons (.val false (.int .i64)) .nil)))))), .vals (.cons (.val true tEntry) (.cons (.val false (.int .i64)) .nil)), fun z => r21_Set_T z.1 z.2.1 z.2.2.1 z.2.2.2.1 z.2.2.2.2.1 z.2.2.2.2.2.1, ((dfl tEntry : Entry), (0 : Int), ())⟩

theorem r21_Set_ok : r21_Set_g.ok Tryd.prog := by
  refine Sig.lift mix tabOk nms _ Tryd.func14 (c := (bodyOf Tryd.f14)) (by kernel_rfl) (o := orT [r05_Is_g, r21_may_g, r21_Key_g, r05_Dec_g, r10_Set_g] [] noFz) (orT_sound ⟨r05_Is_ok, ⟨r21_may_ok, ⟨r21_Key_ok, ⟨r05_Dec_ok, ⟨r10_Set_ok, trivial⟩⟩⟩⟩⟩) (allLp_of [] (by kernel_rfl) trivial rfl) ?_
  intro z; kernel_rfl

def l21_PropsSet_fz : Nat → List Pre
  | 6 => [.spl 7 4]
  | _ => []

def l21_PropsSet_L4_step (l : List Entry) (n : Int) (x_ : (Str × (Str × (Str × Str)))) (i : Int) : Tree (Int ⊕ (Bool ⊕ Unit)) :=
  .ite (decide (i < 4)) (
    .ite (decide (i = 0)) (
      ask (inb 0 4) <|
      .ite (decide ((100 : Int) < (x_.1.length : Int))) (
        .bnd l21_awake_T fun y4 =>
        .ret (.inr (.inl y4))) (
        .ret (.inl (w64 ((0 : Int) + 1))))) (
      .ite (decide (i = 1)) (
        ask (inb 1 4) <|
        .ite (decide ((100 : Int) < (x_.2.1.length : Int))) (
          .bnd l21_awake_T fun y3 =>
          .ret (.inr (.inl y3))) (
          .ret (.inl (w64 ((1 : Int) + 1))))) (
        .ite (decide (i = 2)) (
          ask (inb 2 4) <|
          .ite (decide ((100 : Int) < (x_.2.2.1.length : Int))) (
            .bnd l21_awake_T fun y2 =>
            .ret (.inr (.inl y2))) (
            .ret (.inl (w64 ((2 : Int) + 1))))) (
          .ite (decide (i = 3)) (
            ask (inb 3 4) <|
            .ite (decide ((100 : Int) < (x_.2.2.2.length : Int))) (
              .bnd l21_awake_T fun y1 =>
              .ret (.inr (.inl y1))) (
              .ret (.inl (w64 ((3 : Int) + 1))))) (
            .fail))))) (
    .ret (.inr (.inr ())))

def l21_PropsSet_L4 : Lp := ⟨4, [], [], (.cons (.val false (.list tEntry)) (ca (.cons (.val false (.int .i64)) (ca (.cons (.ref 0 0) (ca2 (.cons (.val false (.int .i64)) (ca (ca8 (ca16 (ca32 .nil))))))))))), (.cells 30 (.cons (.flat (.pair .str (.pair .str (.pair .str .str)))) .nil) .nil), 0, .more 0 [] (ca2 (ca4 (.cons (.val false .bool) (ca2 (ca8 (ca16 (ca32 .nil))))))) .nil (.one 1 [] (.cons (.val false (.list tEntry)) (ca (.cons (.val false (.int .i64)) (ca (.cons (.ref 0 0) (ca4 (ca8 (ca16 (ca32 .nil))))))))) (.cells 30 (.cons (.flat (.pair .str (.pair .str (.pair .str .str)))) .nil) .nil)), fun z => .bnd (.loop (fun v => l21_PropsSet_L4_step z.1.1 z.1.2.2.1 z.2.1.1 v) z.1.2.2.2.2.2.2.2.1) fun r => .sum r (fun a0 => .ret (.inl ((cu2 (cu4 (a0, (cu2 (cu8 (cu16 (cu32 ()))))))), ()))) (fun b0 => .ret (.inr ((z.1.1, (cu (z.1.2.2.1, (cu ((), (cu4 (cu8 (cu16 (cu32 ()))))))))), ((z.2.1.1, ()), ()))))⟩

theorem l21_PropsSet_L4_ok : l21_PropsSet_L4.ok Tryd.prog (nthC (loopsOf (bodyOf Tryd.f4)) 0) := by
  refine Lp.lift (π := ((List Entry) × Int × (Str × (Str × (Str × Str))))) (V := Int) (ρ := (Bool ⊕ Unit)) mix tabOk l21_PropsSet_L4 (o := orT [r10_Few_g, l21_awake_g, props_Set_g, r21_Set_g] [] l21_PropsSet_fz) (orT_sound ⟨r10_Few_ok, ⟨l21_awake_ok, ⟨props_Set_ok, ⟨r21_Set_ok, trivial⟩⟩⟩⟩) (allLp_of [] (by kernel_rfl) trivial rfl) (fun x v => ((x.1, (cu (x.2.1, (cu ((), (cu2 (v, (cu (cu8 (cu16 (cu32 ()))))))))))), ((x.2.2, ()), ()))) (fun x r => match r with | .inl a0 => .inl ((cu2 (cu4 (a0, (cu2 (cu8 (cu16 (cu32 ()))))))), ()) | .inr b0 => (.inr ((x.1, (cu (x.2.1, (cu ((), (cu4 (cu8 (cu16 (cu32 ()))))))))), ((x.2.2, ()), ())))) (fun x v => l21_PropsSet_L4_step x.1 x.2.1 x.2.2 v) (fun x r => .sum r (fun a0 => .ret (.inl ((cu2 (cu4 (a0, (cu2 (cu8 (cu16 (cu32 ()))))))), ()))) (fun b0 => .ret (.inr ((x.1, (cu (x.2.1, (cu ((), (cu4 (cu8 (cu16 (cu32 ()))))))))), ((x.2.2, ()), ()))))) (fun z => (z.1.1, z.1.2.2.1, z.2.1.1)) (fun z => z.1.2.2.2.2.2.2.2.1) (fun _ => rfl) (fun _ => rfl) (fun x r Q h => match r, h with | .inl _, h => h | .inr b0, h => (h)) ?_
  intro x v; kernel_rfl

def l21_PropsSet_T (x0 : List Entry) (x1 : (Str × (Str × (Str × Str)))) (x2 : Int) : Tree Bool :=
  .bnd (r10_Few_T x0 30) fun y1 =>
  .ite (!y1) (
    .bnd l21_awake_T fun y2 =>
    .ret y2) (
    .bnd (.loop (fun v => l21_PropsSet_L4_step x0 x2 x1 v) 0) fun r3 =>
    .sum r3 (fun r4 =>
      .ret r4) (fun r5 =>
      ask (inb 0 4) <|
      ask (inb 1 4) <|
      ask (inb 2 4) <|
      ask (inb 3 4) <|
      .bnd (props_Set_T x0 x1.1 x1.2.1 x1.2.2.1 x1.2.2.2 x2) fun y6 =>
      ask (inb 0 4) <|
      ask (inb 1 4) <|
      ask (inb 2 4) <|
      ask (inb 3 4) <|
      .bnd (r21_Set_T x0 x1.1 x1.2.1 x1.2.2.1 x1.2.2.2 x2) fun y7 =>
      .grd (((y6.1.1 == y7.1.1) && (((decide (y6.1.2.1 = y7.1.2.1)) && ((y6.1.2.2.1 == y7.1.2.2.1) && ((y6.1.2.2.2 == y7.1.2.2.2) && true))) && true)) && (decide (y6.2.1 = y7.2.1))) l21_awake_T false fun y8 =>
      .ret ((((y6.1.1 == y7.1.1) && (((decide (y6.1.2.1 = y7.1.2.1)) && ((y6.1.2.2.1 == y7.1.2.2.1) && ((y6.1.2.2.2 == y7.1.2.2.2) && true))) && true)) && (decide (y6.2.1 = y7.2.1))) && y8)))

def l21_PropsSet_g : Sig := ⟨4, (.cons (.val false (.list tEntry)) (.cons (.val true (.pair .str (.pair .str (.pair .str .str)))) (.cons (.val false (.int .i64)) .nil))), .vals (.val false .bool), fun z => l21_PropsSet_T z.1 z.2.1 z.2.2.1, false⟩

theorem l21_PropsSet_ok : l21_PropsSet_g.ok Tryd.prog := by
  refine Sig.lift mix tabOk nms _ Tryd.func4 (c := (bodyOf Tryd.f4)) (by kernel_rfl) (o := orT [r10_Few_g, l21_awake_g, props_Set_g, r21_Set_g] [l21_PropsSet_L4] l21_PropsSet_fz) (orT_sound ⟨r10_Few_ok, ⟨l21_awake_ok, ⟨props_Set_ok, ⟨r21_Set_ok, trivial⟩⟩⟩⟩) (allLp_of [nthC (loopsOf (bodyOf Tryd.f4)) 0] (by kernel_rfl) ⟨l21_PropsSet_L4_ok, trivial⟩ (by kernel_rfl)) ?_
  intro z; kernel_rfl

def r21_Check_T (x0 : Props) : Tree Int :=
  .bnd (r21_may_T ([110] : Str) x0.1) fun y1 =>
  .grd (!(!y1)) (r21_may_T ([114] : Str) x0.2.1) false fun y2 =>
  .grd (!((!y1) || (!y2))) (r21_may_T ([119] : Str) x0.2.2.1) false fun y3 =>
  .grd (!(((!y1) || (!y2)) || (!y3))) (r21_may_T ([112, 114] : Str) x0.2.2.2.1) false fun y4 =>
  .grd (!((((!y1) || (!y2)) || (!y3)) || (!y4))) (r21_may_T ([112, 119] : Str) x0.2.2.2.2.1) false fun y5 =>
  .ite (((((((((!y1) || (!y2)) || (!y3)) || (!y4)) || (!y5)) || (decide (x0.1 < x0.2.1))) || (decide (x0.1 < x0.2.2.1))) || (decide (x0.1 < x0.2.2.2.1))) || (decide (x0.1 < x0.2.2.2.2.1))) (
    .ret 1) (
    .ret 0)

def r21_Check_g : Sig := ⟨16, (.cons (.val true tProps) .nil), .vals (.val false (.int .i64)), fun z => r21_Check_T z.1, (0 : Int)⟩

theorem r21_Check_ok : r21_Check_g.ok Tryd.prog := by
  refine Sig.lift mix tabOk nms _ Tryd.func16 (c := (bodyOf Tryd.f16)) (by kernel_rfl) (o := orT [r21_may_g] [] noFz) (orT_sound ⟨r21_may_ok, trivial⟩) (allLp_of [] (by kernel_rfl) trivial rfl) ?_
  intro z; kernel_rfl

def r21_Strict_T (x0 : Props) : Tree Bool :=
  .bnd (r21_Check_T x0) fun y1 =>
  .ret ((decide (y1 = 0)) && (decide (x0.1 < (w64 (x0.2.2.2.1 + x0.2.2.2.2.1)))))

def r21_Strict_g : Sig := ⟨18, (.cons (.val true tProps) .nil), .vals (.val false .bool), fun z => r21_Strict_T z.1, false⟩

theorem r21_Strict_ok : r21_Strict_g.ok Tryd.prog := by
  refine Sig.lift mix tabOk nms _ Tryd.func18 (c := (bodyOf Tryd.f18)) (by kernel_rfl) (o := orT [r21_Check_g] [] noFz) (orT_sound ⟨r21_Check_ok, trivial⟩) (allLp_of [] (by kernel_rfl) trivial rfl) ?_
  intro z; kernel_rfl

def l21_PropsMay_T (x0 : Props) : Tree Bool :=
  .bnd (props_Check_T x0) fun y1 =>
  .bnd (r21_Check_T x0) fun y2 =>
  .grd (decide (y1 = y2)) (props_Strict_T x0) false fun y3 =>
  .grd (decide (y1 = y2)) (r21_Strict_T x0) false fun y4 =>
  .grd ((decide (y1 = y2)) && (y3 == y4)) l21_awake_T false fun y5 =>
  .ret (((decide (y1 = y2)) && (y3 == y4)) && y5)

def l21_PropsMay_g : Sig := ⟨5, (.cons (.val true tProps) .nil), .vals (.val false .bool), fun z => l21_PropsMay_T z.1, false⟩

theorem l21_PropsMay_ok : l21_PropsMay_g.ok Tryd.prog := by
  refine Sig.lift mix tabOk nms _ Tryd.func5 (c := (bodyOf Tryd.f5)) (by kernel_rfl) (o := orT [props_Check_g, r21_Check_g, props_Strict_g, r21_Strict_g, l21_awake_g] [] noFz) (orT_sound ⟨props_Check_ok, ⟨r21_Check_ok, ⟨props_Strict_ok, ⟨r21_Strict_ok, ⟨l21_awake_ok, trivial⟩⟩⟩⟩⟩) (allLp_of [] (by kernel_rfl) trivial rfl) ?_
  intro z; kernel_rfl

def r09_Newer_T (x0 : Reg) (x1 : Reg) : Tree Bool :=
  .ite (!decide (x0.1 = x1.1)) (
    .ret (decide (x1.1 < x0.1))) (
    .ite (!(x0.2.1 == x1.2.1)) (
      .ret (!(ltS x0.2.1 x1.2.1 || x0.2.1 == x1.2.1))) (
      .ret (!(ltS x0.2.2 x1.2.2 || x0.2.2 == x1.2.2))))

def r09_Newer_g : Sig := ⟨62, (.cons (.val true tReg) (.cons (.val true tReg) .nil)), .vals (.val false .bool), fun z => r09_Newer_T z.1 z.2.1, false⟩

theorem r09_Newer_ok : r09_Newer_g.ok Tryd.prog := by
  refine Sig.lift mix tabOk nms _ Tryd.func62 (c := (bodyOf Tryd.f62)) (by kernel_rfl) (o := orT [] [] noFz) (orT_sound trivial) (allLp_of [] (by kernel_rfl) trivial rfl) ?_
  intro z; kernel_rfl

def r09_Join_T (x0 : Reg) (x1 : Reg) : Tree Reg :=
  .bnd (r09_Newer_T x1 x0) fun y1 =>
  .ite y1 (
    .ret x1) (
    .ret x0)

def r09_Join_g : Sig := ⟨53, (.cons (.val true tReg) (.cons (.val true tReg) .nil)), .vals (.val true tReg), fun z => r09_Join_T z.1 z.2.1, (dfl tReg : Reg)⟩

theorem r09_Join_ok : r09_Join_g.ok Tryd.prog := by
  refine Sig.lift mix tabOk nms _ Tryd.func53 (c := (bodyOf Tryd.f53)) (by kernel_rfl) (o := orT [r09_Newer_g] [] noFz) (orT_sound ⟨r09_Newer_ok, trivial⟩) (allLp_of [] (by kernel_rfl) trivial rfl) ?_
  intro z; kernel_rfl

def r10_put_fz : Nat → List Pre
  | 7 => [.frz 0]
  | _ => []

def r10_put_L2_step (l : List Entry) (x_ : Entry) (k : Int) : Tree (Int ⊕ Int) :=
  ask ((!(decide (k < (l.length : Int)))) || inb k l.length) <|
  .ite ((decide (k < (l.length : Int))) && (ltS (l.getD k.toNat (dfl tEntry : Entry)).1 x_.1)) (
    .ret (.inl (w64 (k + 1)))) (
    .ret (.inr k))

def r10_put_L2 : Lp := ⟨2, [], [], (.cons (.val false (.list tEntry)) (ca2 (.cons (.ref 0 0) (ca (.cons (.val false (.int .i64)) (ca (ca2 (ca32 (ca32 .nil))))))))), (.cells 34 (.cons (.flat tEntry) .nil) .nil), 0, .one 1 [] (.cons (.val false (.list tEntry)) (ca2 (.cons (.ref 0 0) (ca (.cons (.val false (.int .i64)) (ca (ca2 (ca32 (ca32 .nil))))))))) (.cells 34 (.cons (.flat tEntry) .nil) .nil), fun z => .bnd (.loop (fun v => r10_put_L2_step z.1.1 z.2.1.1 v) z.1.2.2.2.2.2.1) fun r => .ret ((z.1.1, (cu2 ((), (cu (r, (cu (cu2 (cu32 (cu32 ()))))))))), ((z.2.1.1, ()), ()))⟩

theorem r10_put_L2_ok : r10_put_L2.ok Tryd.prog (nthC (loopsOf (bodyOf Tryd.f39)) 0) := by
  refine Lp.lift (π := ((List Entry) × Entry)) (V := Int) (ρ := Int) mix tabOk r10_put_L2 (o := orT [r09_Join_g] [] r10_put_fz) (orT_sound ⟨r09_Join_ok, trivial⟩) (allLp_of [] (by kernel_rfl) trivial rfl) (fun x v => ((x.1, (cu2 ((), (cu (v, (cu (cu2 (cu32 (cu32 ()))))))))), ((x.2, ()), ()))) (fun x r => ((x.1, (cu2 ((), (cu (r, (cu (cu2 (cu32 (cu32 ()))))))))), ((x.2, ()), ()))) (fun x v => r10_put_L2_step x.1 x.2 v) (fun x r => .ret ((x.1, (cu2 ((), (cu (r, (cu (cu2 (cu32 (cu32 ()))))))))), ((x.2, ()), ()))) (fun z => (z.1.1, z.2.1.1)) (fun z => z.1.2.2.2.2.2.1) (fun _ => rfl) (fun _ => rfl) (fun _ _ _ h => h) ?_
  intro x v; kernel_rfl

def r10_put_T (x0 : List Entry) (x1 : Entry) : Tree (List Entry) :=
  .bnd (.loop (fun v => r10_put_L2_step x0 x1 v) 0) fun r1 =>
  ask (inbe r1 x0.length) <|
  ask (decide ((x0.take r1.toNat).length * 56 ≤ roomNat)) <|
  ask ((!(decide (r1 < (x0.length : Int)))) || inb r1 x0.length) <|
  .ite ((decide (r1 < (x0.length : Int))) && ((x0.getD r1.toNat (dfl tEntry : Entry)).1 == x1.1)) (
    ask (inb r1 x0.length) <|
    .bnd (r09_Join_T (x0.getD r1.toNat (dfl tEntry : Entry)).2 x1.2) fun y2 =>
    ask (decide (((x0.take r1.toNat) ++ [(x1.1, y2)]).length * 56 ≤ roomNat)) <|
    ask (inbe (w64 (r1 + 1)) x0.length) <|
    ask (decide ((((x0.take r1.toNat) ++ [(x1.1, y2)]) ++ (x0.drop (w64 (r1 + 1)).toNat)).length * 56 ≤ roomNat)) <|
    .ret (((x0.take r1.toNat) ++ [(x1.1, y2)]) ++ (x0.drop (w64 (r1 + 1)).toNat))) (
    ask (decide (((x0.take r1.toNat) ++ [x1]).length * 56 ≤ roomNat)) <|
    ask (inbe r1 x0.length) <|
    ask (decide ((((x0.take r1.toNat) ++ [x1]) ++ (x0.drop r1.toNat)).length * 56 ≤ roomNat)) <|
    .ret (((x0.take r1.toNat) ++ [x1]) ++ (x0.drop r1.toNat)))

def r10_put_g : Sig := ⟨39, (.cons (.val false (.list tEntry)) (.cons (.val true tEntry) .nil)), .fresh 34 tEntry, fun z => r10_put_T z.1 z.2.1, ([] : List Entry)⟩

theorem r10_put_ok : r10_put_g.ok Tryd.prog := by
  refine Sig.lift mix tabOk nms _ Tryd.func39 (c := (bodyOf Tryd.f39)) (by kernel_rfl) (o := orT [r09_Join_g] [r10_put_L2] r10_put_fz) (orT_sound ⟨r09_Join_ok, trivial⟩) (allLp_of [nthC (loopsOf (bodyOf Tryd.f39)) 0] (by kernel_rfl) ⟨r10_put_L2_ok, trivial⟩ (by kernel_rfl)) ?_
  intro z; kernel_rfl

def r10_put_gv : Sig := ⟨39, (.cons (.val false (.list tEntry)) (.cons (.val true tEntry) .nil)), .vals (.val false (.list tEntry)), fun z => r10_put_T z.1 z.2.1, ([] : List Entry)⟩

theorem r10_put_okv : r10_put_gv.ok Tryd.prog := fun x y h => acalls_val (r10_put_ok x y h)

def r10_Put_T (x0 : List Entry) (x1 : Entry) : Tree ((List Entry) × Int × Unit) :=
  .bnd (r10_May_T x0) fun y1 =>
  .grd (!(!y1)) (r10_isEntry_T x1) false fun y2 =>
  .ite ((!y1) || (!y2)) (
    .ret ([], 1, ())) (
    .bnd (r10_put_T x0 x1) fun y3 =>
    .ite (decide ((4096 : Int) < (y3.length : Int))) (
      .ret ([], 4, ())) (
      .ret (y3, 0, ())))

def r10_Put_g : Sig := ⟨20, (.cons (.val false (.list tEntry)) (.cons (.val true tEntry) .nil)), .vals (.cons (.val false (.list tEntry)) (.cons (.val false (.int .i64)) .nil)), fun z => r10_Put_T z.1 z.2.1, (([] : List Entry), (0 : Int), ())⟩

theorem r10_Put_ok : r10_Put_g.ok Tryd.prog := by
  refine Sig.lift mix tabOk nms _ Tryd.func20 (c := (bodyOf Tryd.f20)) (by kernel_rfl) (o := orT [r10_May_g, r10_isEntry_g, r10_put_g] [] noFz) (orT_sound ⟨r10_May_ok, ⟨r10_isEntry_ok, ⟨r10_put_ok, trivial⟩⟩⟩) (allLp_of [] (by kernel_rfl) trivial rfl) ?_
  intro z; kernel_rfl

def l21_PropsSound_T (x0 : List Entry) (x1 : (Str × (Str × Str))) (x2 : Entry) : Tree Bool :=
  .bnd (r10_Few_T x0 30) fun y1 =>
  .grd (!(!y1)) (r10_May_T x0) false fun y2 =>
  .grd (!((!y1) || (!y2))) (r10_Few_T [x2] 1) false fun y3 =>
  ask ((!(!(((!y1) || (!y2)) || (!y3)))) || inb 0 3) <|
  ask ((!(!((((!y1) || (!y2)) || (!y3)) || (decide ((100 : Int) < (x1.1.length : Int)))))) || inb 1 3) <|
  .ite (((((!y1) || (!y2)) || (!y3)) || (decide ((100 : Int) < (x1.1.length : Int)))) || (decide ((100 : Int) < (x1.2.1.length : Int)))) (
    .bnd l21_awake_T fun y4 =>
    .ret y4) (
    ask (inb 0 3) <|
    ask (inb 1 3) <|
    .bnd (props_Of_T x0 x1.1 x1.2.1) fun y5 =>
    .bnd (props_Check_T y5) fun y6 =>
    .ite (!decide (y6 = 0)) (
      .ret false) (
      ask (inb 0 3) <|
      ask (inb 1 3) <|
      .bnd (r21_Key_T x1.1 x1.2.1 ([] : Str)) fun y7 =>
      ask ((!(decide ((y7.length : Int) ≤ (x2.1.length : Int)))) || inbe (y7.length : Int) x2.1.length) <|
      .ite ((decide ((y7.length : Int) ≤ (x2.1.length : Int))) && ((subS x2.1 0 (y7.length : Int).toNat) == y7)) (
        .bnd l21_awake_T fun y8 =>
        .ret y8) (
        .bnd (r10_Put_T x0 x2) fun y9 =>
        ask ((!(!(!decide (y9.2.1 = 0)))) || inb 0 3) <|
        ask ((!(!(!decide (y9.2.1 = 0)))) || inb 1 3) <|
        .grd (!(!decide (y9.2.1 = 0))) (props_Of_T y9.1 x1.1 x1.2.1) (dfl tProps : Props) fun y10 =>
        .grd ((!decide (y9.2.1 = 0)) || ((decide (y10.1 = y5.1)) && ((decide (y10.2.1 = y5.2.1)) && ((decide (y10.2.2.1 = y5.2.2.1)) && ((decide (y10.2.2.2.1 = y5.2.2.2.1)) && ((decide (y10.2.2.2.2.1 = y5.2.2.2.2.1)) && ((y10.2.2.2.2.2.1 == y5.2.2.2.2.2.1) && ((y10.2.2.2.2.2.2.1 == y5.2.2.2.2.2.2.1) && ((y10.2.2.2.2.2.2.2 == y5.2.2.2.2.2.2.2) && true))))))))) l21_awake_T false fun y11 =>
        .ret (((!decide (y9.2.1 = 0)) || ((decide (y10.1 = y5.1)) && ((decide (y10.2.1 = y5.2.1)) && ((decide (y10.2.2.1 = y5.2.2.1)) && ((decide (y10.2.2.2.1 = y5.2.2.2.1)) && ((decide (y10.2.2.2.2.1 = y5.2.2.2.2.1)) && ((y10.2.2.2.2.2.1 == y5.2.2.2.2.2.1) && ((y10.2.2.2.2.2.2.1 == y5.2.2.2.2.2.2.1) && ((y10.2.2.2.2.2.2.2 == y5.2.2.2.2.2.2.2) && true))))))))) && y11))))

def l21_PropsSound_g : Sig := ⟨6, (.cons (.val false (.list tEntry)) (.cons (.val true (.pair .str (.pair .str .str))) (.cons (.val true tEntry) .nil))), .vals (.val false .bool), fun z => l21_PropsSound_T z.1 z.2.1 z.2.2.1, false⟩

theorem l21_PropsSound_ok : l21_PropsSound_g.ok Tryd.prog := by
  refine Sig.lift mix tabOk nms _ Tryd.func6 (c := (bodyOf Tryd.f6)) (by kernel_rfl) (o := orT [r10_Few_g, r10_May_g, l21_awake_g, props_Of_g, props_Check_g, r21_Key_g, r10_Put_g] [] noFz) (orT_sound ⟨r10_Few_ok, ⟨r10_May_ok, ⟨l21_awake_ok, ⟨props_Of_ok, ⟨props_Check_ok, ⟨r21_Key_ok, ⟨r10_Put_ok, trivial⟩⟩⟩⟩⟩⟩⟩) (allLp_of [] (by kernel_rfl) trivial rfl) ?_
  intro z; kernel_rfl

end Go.Eng
