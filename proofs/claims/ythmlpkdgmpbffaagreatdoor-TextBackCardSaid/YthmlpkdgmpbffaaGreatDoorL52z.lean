/- Lifted: 74 functions, part 1. -/
import Derived.Test.YthmlpkdgmpbffaaGreatDoorTrG
import Derived.Test.YthmlpkdgmpbffaaGreatDoorTrF
import Derived.Test.YthmlpkdgmpbffaaGreatDoorEngT
import Derived.Test.YthmlpkdgmpbffaaGreatDoorGlb
import Derived.Test.YthmlpkdgmpbffaaGreatDoorGlp
import Derived.Test.YthmlpkdgmpbffaaGreatDoorShf
import Derived.Test.YthmlpkdgmpbffaaGreatDoorTrL
import Derived.Test.YthmlpkdgmpbffaaGreatDoorTrM
import Derived.Test.YthmlpkdgmpbffaaGreatDoorTrW
import Derived.Test.YthmlpkdgmpbffaaGreatDoorTrX
namespace Go.Eng
open Go Go.Proofs
set_option maxRecDepth 100000
abbrev Seen : Type := (Str × (Int × List Int))
abbrev tSeen : Ty := (.pair .str (.pair (.int .i64) (.list (.int .i64))))

abbrev Call : Type := (Int × (Str × (Str × (Str × (Str × (List Seen × Int))))))
abbrev tCall : Ty := (.pair (.int .i64) (.pair .str (.pair .str (.pair .str (.pair .str (.pair (.list tSeen) (.int .i64)))))))

abbrev Member : Type := (Str × (Str × (Str × Bool)))
abbrev tMember : Ty := (.pair .str (.pair .str (.pair .str .bool)))

abbrev Admin : Type := (Int × (Str × (Str × (Str × (Str × (Int × Member))))))
abbrev tAdmin : Ty := (.pair (.int .i64) (.pair .str (.pair .str (.pair .str (.pair .str (.pair (.int .i64) tMember))))))

abbrev Event : Type := (Int × (Str × (Str × (Str × (Int × (Call × Admin))))))
abbrev tEvent : Ty := (.pair (.int .i64) (.pair .str (.pair .str (.pair .str (.pair (.int .i64) (.pair tCall tAdmin))))))

abbrev Text_reader : Type := (List Str × Bool)
abbrev tText_reader : Ty := (.pair (.list .str) .bool)

abbrev Dot : Type := (Str × Int)
abbrev tDot : Ty := (.pair .str (.int .i64))

abbrev Sib : Type := (Dot × (Str × (Bool × Int)))
abbrev tSib : Ty := (.pair tDot (.pair .str (.pair .bool (.int .i64))))

abbrev Obj : Type := (List Seen × List Sib)
abbrev tObj : Ty := (.pair (.list tSeen) (.list tSib))

abbrev A14Str : Type := (Str × (Str × (Str × (Str × (Str × (Str × (Str × (Str × (Str × (Str × (Str × (Str × (Str × Str)))))))))))))
abbrev tA14Str : Ty := (.pair .str (.pair .str (.pair .str (.pair .str (.pair .str (.pair .str (.pair .str (.pair .str (.pair .str (.pair .str (.pair .str (.pair .str (.pair .str .str)))))))))))))

abbrev A15Str : Type := (Str × A14Str)
abbrev tA15Str : Ty := (.pair .str tA14Str)

def text_kinds_T  : Tree A14Str :=
 .ret (([99, 97, 108, 108] : Str), (([100, 101, 108, 105, 118, 101, 114] : Str), (([108, 111, 115, 101] : Str), (([116, 119, 105, 99, 101] : Str), (([102, 108, 117, 115, 104] : Str), (([116, 105, 99, 107] : Str), (([99, 114, 97, 115, 104] : Str), (([115, 116, 97, 114, 116] : Str), (([103, 111, 115, 115, 105, 112] : Str), (([101, 120, 99, 104, 97, 110, 103, 101] : Str), (([104, 97, 110, 100] : Str), (([114, 101, 97, 112] : Str), (([99, 111, 109, 112, 97, 99, 116] : Str), ([97, 100, 109, 105, 110] : Str))))))))))))))

def text_kinds_g : Sig := ⟨56, .nil, .vals (.val true tA14Str), fun z => text_kinds_T, (dfl tA14Str : A14Str)⟩

theorem text_kinds_ok : text_kinds_g.ok Tryz.prog := by
  refine Sig.lift mix tabOk nms _ Tryz.func56 (c := (bodyOf Tryz.f56)) (by kernel_rfl) (o := orT [] [] noFz) (orT_sound trivial) (allLp_of [] (by kernel_rfl) trivial rfl) ?_
  intro z; kernel_rfl

def strconv_Itoa_T (x0 : Int) : Tree Str :=
 .ret (decS x0)

def strconv_Itoa_g : Sig := ⟨57, (.cons (.val false (.int .i64)) .nil), .vals (.val false .str), fun z => strconv_Itoa_T z.1, ([] : Str)⟩

theorem strconv_Itoa_ok : strconv_Itoa_g.ok Tryz.prog :=
  strconv_Itoa_sig (enters_of Tryz.func57 (by kernel_rfl) rfl) (fun n w h0 h1 hg => Tryz.strconv_Itoa n h0 h1 w (gl_pow10 hg))

def name_Dec_T (x0 : Int) : Tree Str :=
 .bnd (strconv_Itoa_T x0) fun y1 =>
 .ret y1

def name_Dec_g : Sig := ⟨32, (.cons (.val false (.int .i64)) .nil), .vals (.val false .str), fun z => name_Dec_T z.1, ([] : Str)⟩

theorem name_Dec_ok : name_Dec_g.ok Tryz.prog := by
  refine Sig.lift mix tabOk nms _ Tryz.func32 (c := (bodyOf Tryz.f32)) (by kernel_rfl) (o := orT [strconv_Itoa_g] [] noFz) (orT_sound ⟨strconv_Itoa_ok, trivial⟩) (allLp_of [] (by kernel_rfl) trivial rfl) ?_
  intro z; kernel_rfl

def text_kind_fz : Nat → List Pre
  | 3 => [.arr 0 .str]
  | _ => []

def text_kind_T (x0 : Int) : Tree Str :=
 .bnd text_kinds_T fun y1 =>
 .ite ((decide ((1 : Int) ≤ x0)) && (decide (x0 ≤ 14))) (
 ask (inb (w64 (x0 - 1)) 14) <|
 ask (Nat.ble ((w64 (x0 - 1)).toNat + 1) [y1.1, y1.2.1, y1.2.2.1, y1.2.2.2.1, y1.2.2.2.2.1, y1.2.2.2.2.2.1, y1.2.2.2.2.2.2.1, y1.2.2.2.2.2.2.2.1, y1.2.2.2.2.2.2.2.2.1, y1.2.2.2.2.2.2.2.2.2.1, y1.2.2.2.2.2.2.2.2.2.2.1, y1.2.2.2.2.2.2.2.2.2.2.2.1, y1.2.2.2.2.2.2.2.2.2.2.2.2.1, y1.2.2.2.2.2.2.2.2.2.2.2.2.2].length) <|
 .ret ([y1.1, y1.2.1, y1.2.2.1, y1.2.2.2.1, y1.2.2.2.2.1, y1.2.2.2.2.2.1, y1.2.2.2.2.2.2.1, y1.2.2.2.2.2.2.2.1, y1.2.2.2.2.2.2.2.2.1, y1.2.2.2.2.2.2.2.2.2.1, y1.2.2.2.2.2.2.2.2.2.2.1, y1.2.2.2.2.2.2.2.2.2.2.2.1, y1.2.2.2.2.2.2.2.2.2.2.2.2.1, y1.2.2.2.2.2.2.2.2.2.2.2.2.2].getD ((w64 (x0 - 1)).toNat) ([] : Str))) (
 .bnd (name_Dec_T x0) fun y2 =>
 ask (decide (([107, 105, 110, 100] : Str).length + y2.length ≤ 9223372036854775807)) <|
 .ret (([107, 105, 110, 100] : Str) ++ y2))

def text_kind_g : Sig := ⟨31, (.cons (.val false (.int .i64)) .nil), .vals (.val false .str), fun z => text_kind_T z.1, ([] : Str)⟩

theorem text_kind_ok : text_kind_g.ok Tryz.prog := by
  refine Sig.lift mix tabOk nms _ Tryz.func31 (c := (bodyOf Tryz.f31)) (by kernel_rfl) (o := orT [text_kinds_g, name_Dec_g] [] text_kind_fz) (orT_sound ⟨text_kinds_ok, ⟨name_Dec_ok, trivial⟩⟩) (allLp_of [] (by kernel_rfl) trivial rfl) ?_
  intro z; kernel_rfl

def indexByteS_T (x0 : Str) (x1 : Int) : Tree Int :=
 .ret (Lib.indexByte x0 x1.toNat.toUInt8)

def indexByteS_g : Sig := ⟨76, (.cons (.val false .str) (.cons (.val false (.int .u8)) .nil)), .vals (.val false (.int .i64)), fun z => indexByteS_T z.1 z.2.1, (0 : Int)⟩

theorem indexByteS_ok : indexByteS_g.ok Tryz.prog := by
  intro x y h
  cases h
  exact ACalls.indexByteS Tryz.func76 (by decide) rfl rfl rfl _ _

def stringslite_IndexByte_T (x0 : Str) (x1 : Int) : Tree Int :=
 .bnd (indexByteS_T x0 x1) fun y1 =>
 .ret y1

def stringslite_IndexByte_g : Sig := ⟨59, (.cons (.val false .str) (.cons (.val false (.int .u8)) .nil)), .vals (.val false (.int .i64)), fun z => stringslite_IndexByte_T z.1 z.2.1, (0 : Int)⟩

theorem stringslite_IndexByte_ok : stringslite_IndexByte_g.ok Tryz.prog := by
  refine Sig.lift mix tabOk nms _ Tryz.func59 (c := (bodyOf Tryz.f59)) (by kernel_rfl) (o := orT [indexByteS_g] [] noFz) (orT_sound ⟨indexByteS_ok, trivial⟩) (allLp_of [] (by kernel_rfl) trivial rfl) ?_
  intro z; kernel_rfl

def strings_IndexByte_T (x0 : Str) (x1 : Int) : Tree Int :=
 .bnd (stringslite_IndexByte_T x0 x1) fun y1 =>
 .ret y1

def strings_IndexByte_g : Sig := ⟨36, (.cons (.val false .str) (.cons (.val false (.int .u8)) .nil)), .vals (.val false (.int .i64)), fun z => strings_IndexByte_T z.1 z.2.1, (0 : Int)⟩

theorem strings_IndexByte_ok : strings_IndexByte_g.ok Tryz.prog := by
  refine Sig.lift mix tabOk nms _ Tryz.func36 (c := (bodyOf Tryz.f36)) (by kernel_rfl) (o := orT [stringslite_IndexByte_g] [] noFz) (orT_sound ⟨stringslite_IndexByte_ok, trivial⟩) (allLp_of [] (by kernel_rfl) trivial rfl) ?_
  intro z; kernel_rfl

def text_isPlain_T (x0 : Int) : Tree Bool :=
 .grd (!((((decide ((97 : Int) ≤ x0)) && (decide (x0 ≤ 122))) || ((decide ((65 : Int) ≤ x0)) && (decide (x0 ≤ 90)))) || ((decide ((48 : Int) ≤ x0)) && (decide (x0 ≤ 57))))) (strings_IndexByte_T ([45, 46, 47] : Str) x0) (0 : Int) fun y1 =>
 .ret (((((decide ((97 : Int) ≤ x0)) && (decide (x0 ≤ 122))) || ((decide ((65 : Int) ≤ x0)) && (decide (x0 ≤ 90)))) || ((decide ((48 : Int) ≤ x0)) && (decide (x0 ≤ 57)))) || (decide ((0 : Int) ≤ y1)))

def text_isPlain_g : Sig := ⟨37, (.cons (.val false (.int .u8)) .nil), .vals (.val false .bool), fun z => text_isPlain_T z.1, false⟩

theorem text_isPlain_ok : text_isPlain_g.ok Tryz.prog := by
  refine Sig.lift mix tabOk nms _ Tryz.func37 (c := (bodyOf Tryz.f37)) (by kernel_rfl) (o := orT [strings_IndexByte_g] [] noFz) (orT_sound ⟨strings_IndexByte_ok, trivial⟩) (allLp_of [] (by kernel_rfl) trivial rfl) ?_
  intro z; kernel_rfl

def text_Word_fz : Nat → List Pre
  | 9 => [.two]
  | _ => []

def text_Word_L5_step (t : Int) (rows : List Int) (t2 : Int) (out : List Int) : Tree ((Int × (List Int)) ⊕ (List Int)) :=
 .ite (decide (t2 < t)) (
 ask (inb t2 rows.length) <|
 .bnd (text_isPlain_T (rows.getD t2.toNat (0 : Int))) fun y1 =>
 .ite y1 (
 ask (decide ((out ++ [(rows.getD t2.toNat (0 : Int))]).length * 1 ≤ roomNat)) <|
 .ret (.inl ((w64 (t2 + 1)), (out ++ [(rows.getD t2.toNat (0 : Int))])))) (
 ask (decide ((0 : Int) ≤ 4)) <|
 ask (inb (stdShift .shr .u8 (rows.getD t2.toNat (0 : Int)) 4) ([48, 49, 50, 51, 52, 53, 54, 55, 56, 57, 97, 98, 99, 100, 101, 102] : Str).length) <|
 ask (inb (stdArith .and .u8 (rows.getD t2.toNat (0 : Int)) 15) ([48, 49, 50, 51, 52, 53, 54, 55, 56, 57, 97, 98, 99, 100, 101, 102] : Str).length) <|
 ask (decide ((out ++ [37, (sgetI ([48, 49, 50, 51, 52, 53, 54, 55, 56, 57, 97, 98, 99, 100, 101, 102] : Str) (stdShift .shr .u8 (rows.getD t2.toNat (0 : Int)) 4)), (sgetI ([48, 49, 50, 51, 52, 53, 54, 55, 56, 57, 97, 98, 99, 100, 101, 102] : Str) (stdArith .and .u8 (rows.getD t2.toNat (0 : Int)) 15))]).length * 1 ≤ roomNat)) <|
 .ret (.inl ((w64 (t2 + 1)), (out ++ [37, (sgetI ([48, 49, 50, 51, 52, 53, 54, 55, 56, 57, 97, 98, 99, 100, 101, 102] : Str) (stdShift .shr .u8 (rows.getD t2.toNat (0 : Int)) 4)), (sgetI ([48, 49, 50, 51, 52, 53, 54, 55, 56, 57, 97, 98, 99, 100, 101, 102] : Str) (stdArith .and .u8 (rows.getD t2.toNat (0 : Int)) 15))]))))) (
 .ret (.inr out))

def text_Word_L5 : Lp := ⟨5, [.own 3 5 (.int .u8)], [], (ca (ca2 (.cons (.own 1) (ca (ca4 (.cons (.own 0) (.cons (.val false (.int .i64)) (.cons (.val false (.int .i64)) (ca (ca4 (ca16 .nil))))))))))), (.rows 5 (.int .u8) (.rows 5 (.int .u8) .nil)), 0, .one 1 [] (ca (ca2 (.cons (.own 1) (ca (ca4 (ca8 (ca16 .nil))))))) (.dead (.rows 5 (.int .u8) .nil)), fun z => .bnd (.loop (fun v => text_Word_L5_step z.1.2.2.2.2.2.2.2.2.2.2.1 z.2.1 v.1 v.2) (z.1.2.2.2.2.2.2.2.2.2.2.2.1, z.2.2.1)) fun r => .ret ((cu (cu2 ((), (cu (cu4 (cu8 (cu16 ()))))))), (r, ()))⟩

theorem text_Word_L5_ok : text_Word_L5.ok Tryz.prog (nthC (loopsOf (bodyOf Tryz.f17)) 0) := by
  refine Lp.lift (π := (Int × (List Int))) (V := (Int × (List Int))) (ρ := List Int) mix tabOk text_Word_L5 (o := orT [text_isPlain_g] [] text_Word_fz) (orT_sound ⟨text_isPlain_ok, trivial⟩) (allLp_of [] (by kernel_rfl) trivial rfl) (fun x v => ((cu (cu2 ((), (cu (cu4 ((), (x.1, (v.1, (cu (cu4 (cu16 ()))))))))))), (x.2, (v.2, ())))) (fun x r => ((cu (cu2 ((), (cu (cu4 (cu8 (cu16 ()))))))), (r, ()))) (fun x v => text_Word_L5_step x.1 x.2 v.1 v.2) (fun x r => .ret ((cu (cu2 ((), (cu (cu4 (cu8 (cu16 ()))))))), (r, ()))) (fun z => (z.1.2.2.2.2.2.2.2.2.2.2.1, z.2.1)) (fun z => (z.1.2.2.2.2.2.2.2.2.2.2.2.1, z.2.2.1)) (fun _ => rfl) (fun _ => rfl) (fun _ _ _ h => h) ?_
  intro x v; kernel_rfl

def text_Word_T (x0 : Str) : Tree Str :=
 .ite (x0 == ([] : Str)) (
 .ret ([95] : Str)) (
 .bnd (.loop (fun v => text_Word_L5_step ((strI x0).length : Int) (strI x0) v.1 v.2) (0, ([] : List Int))) fun r1 =>
 .ret (strB r1))

def text_Word_g : Sig := ⟨17, (.cons (.val false .str) .nil), .vals (.val false .str), fun z => text_Word_T z.1, ([] : Str)⟩

theorem text_Word_ok : text_Word_g.ok Tryz.prog := by
  refine Sig.lift mix tabOk nms _ Tryz.func17 (c := (bodyOf Tryz.f17)) (by kernel_rfl) (o := orT [text_isPlain_g] [text_Word_L5] text_Word_fz) (orT_sound ⟨text_isPlain_ok, trivial⟩) (allLp_of [nthC (loopsOf (bodyOf Tryz.f17)) 0] (by kernel_rfl) ⟨text_Word_L5_ok, trivial⟩ (by kernel_rfl)) ?_
  intro z; kernel_rfl

def strings_Join_T (x0 : List Str) (x1 : Str) : Tree Str :=
 joinT x0 x1

def strings_Join_g : Sig := ⟨35, (.cons (.val false (.list .str)) (.cons (.val false .str) .nil)), .vals (.val false .str), fun z => strings_Join_T z.1 z.2.1, ([] : Str)⟩

theorem strings_Join_ok : strings_Join_g.ok Tryz.prog :=
  strings_Join_sig (enters_of Tryz.func35 (by kernel_rfl) rfl) (fun a c sep w => Tryz.strings_Join_none a c sep w) (fun bk o c xs sep w h1 h2 h3 h4 h5 => Tryz.strings_Join bk o c xs sep w h1 h2 h3 h4 h5)

def text_ctx_L9_step (t : List Seen) (t2 : Int) (t3 : Int) (t4 : List Int) (t5 : Int) (seens : List Str) (s_ : Str) (t6 : Int) : Tree ((Str × Int) ⊕ Str) :=
 .ite (decide (t6 < t5)) (
 ask (inb t6 t4.length) <|
 .bnd (name_Dec_T (t4.getD t6.toNat (0 : Int))) fun y1 =>
 ask (decide (([43] : Str).length + y1.length ≤ 9223372036854775807)) <|
 ask (decide (s_.length + (([43] : Str) ++ y1).length ≤ 9223372036854775807)) <|
 .ret (.inl ((s_ ++ (([43] : Str) ++ y1)), (w64 (t6 + 1))))) (
 .ret (.inr s_))

def text_ctx_L9 : Lp := ⟨9, [], [], (ca (ca2 (.cons (.own 0) (ca2 (.cons (.val false .str) (ca (ca4 (.cons (.val false (.list tSeen)) (.cons (.val false (.int .i64)) (.cons (.val false (.int .i64)) (ca4 (ca8 (.cons (.val false (.list (.int .i64))) (.cons (.val false (.int .i64)) (.cons (.val false (.int .i64)) (ca16 .nil)))))))))))))))), (.rows 9 .str .nil), 0, .one 3 [] (ca (ca2 (.cons (.own 0) (ca2 (.cons (.val false .str) (ca (ca4 (.cons (.val false (.list tSeen)) (.cons (.val false (.int .i64)) (.cons (.val false (.int .i64)) (ca (ca2 (ca4 (ca8 (ca16 .nil))))))))))))))) (.rows 9 .str .nil), fun z => .bnd (.loop (fun v => text_ctx_L9_step z.1.2.2.2.2.2.2.2.2.2.2.2.2.1 z.1.2.2.2.2.2.2.2.2.2.2.2.2.2.1 z.1.2.2.2.2.2.2.2.2.2.2.2.2.2.2.1 z.1.2.2.2.2.2.2.2.2.2.2.2.2.2.2.2.2.2.2.2.2.2.2.2.2.2.2.2.1 z.1.2.2.2.2.2.2.2.2.2.2.2.2.2.2.2.2.2.2.2.2.2.2.2.2.2.2.2.2.1 z.2.1 v.1 v.2) (z.1.2.2.2.2.2.2.1, z.1.2.2.2.2.2.2.2.2.2.2.2.2.2.2.2.2.2.2.2.2.2.2.2.2.2.2.2.2.2.1)) fun r => .ret ((cu (cu2 ((), (cu2 (r, (cu (cu4 (z.1.2.2.2.2.2.2.2.2.2.2.2.2.1, (z.1.2.2.2.2.2.2.2.2.2.2.2.2.2.1, (z.1.2.2.2.2.2.2.2.2.2.2.2.2.2.2.1, (cu (cu2 (cu4 (cu8 (cu16 ()))))))))))))))), (z.2.1, ()))⟩

theorem text_ctx_L9_ok : text_ctx_L9.ok Tryz.prog (nthC (loopsOf (nthC (loopsOf (bodyOf Tryz.f33)) 0)) 0) := by
  refine Lp.lift (π := ((List Seen) × Int × Int × (List Int) × Int × (List Str))) (V := (Str × Int)) (ρ := Str) mix tabOk text_ctx_L9 (o := orT [text_Word_g, name_Dec_g, strings_Join_g] [] noFz) (orT_sound ⟨text_Word_ok, ⟨name_Dec_ok, ⟨strings_Join_ok, trivial⟩⟩⟩) (allLp_of [] (by kernel_rfl) trivial rfl) (fun x v => ((cu (cu2 ((), (cu2 (v.1, (cu (cu4 (x.1, (x.2.1, (x.2.2.1, (cu4 (cu8 (x.2.2.2.1, (x.2.2.2.2.1, (v.2, (cu16 ())))))))))))))))), (x.2.2.2.2.2, ()))) (fun x r => ((cu (cu2 ((), (cu2 (r, (cu (cu4 (x.1, (x.2.1, (x.2.2.1, (cu (cu2 (cu4 (cu8 (cu16 ()))))))))))))))), (x.2.2.2.2.2, ()))) (fun x v => text_ctx_L9_step x.1 x.2.1 x.2.2.1 x.2.2.2.1 x.2.2.2.2.1 x.2.2.2.2.2 v.1 v.2) (fun x r => .ret ((cu (cu2 ((), (cu2 (r, (cu (cu4 (x.1, (x.2.1, (x.2.2.1, (cu (cu2 (cu4 (cu8 (cu16 ()))))))))))))))), (x.2.2.2.2.2, ()))) (fun z => (z.1.2.2.2.2.2.2.2.2.2.2.2.2.1, z.1.2.2.2.2.2.2.2.2.2.2.2.2.2.1, z.1.2.2.2.2.2.2.2.2.2.2.2.2.2.2.1, z.1.2.2.2.2.2.2.2.2.2.2.2.2.2.2.2.2.2.2.2.2.2.2.2.2.2.2.2.1, z.1.2.2.2.2.2.2.2.2.2.2.2.2.2.2.2.2.2.2.2.2.2.2.2.2.2.2.2.2.1, z.2.1)) (fun z => (z.1.2.2.2.2.2.2.1, z.1.2.2.2.2.2.2.2.2.2.2.2.2.2.2.2.2.2.2.2.2.2.2.2.2.2.2.2.2.2.1)) (fun _ => rfl) (fun _ => rfl) (fun _ _ _ h => h) ?_
  intro x v; kernel_rfl

def text_ctx_L5_step (t : List Seen) (t2 : Int) (t3 : Int) (seens : List Str) : Tree ((Int × (List Str)) ⊕ (List Str)) :=
 .ite (decide (t3 < t2)) (
 ask (inb t3 t.length) <|
 .bnd (text_Word_T (t.getD t3.toNat (dfl tSeen : Seen)).1) fun y1 =>
 ask (decide (y1.length + ([58] : Str).length ≤ 9223372036854775807)) <|
 .bnd (name_Dec_T (t.getD t3.toNat (dfl tSeen : Seen)).2.1) fun y2 =>
 ask (decide ((y1 ++ ([58] : Str)).length + y2.length ≤ 9223372036854775807)) <|
 .bnd (.loop (fun v => text_ctx_L9_step t t2 t3 (t.getD t3.toNat (dfl tSeen : Seen)).2.2 ((t.getD t3.toNat (dfl tSeen : Seen)).2.2.length : Int) seens v.1 v.2) (((y1 ++ ([58] : Str)) ++ y2), 0)) fun r3 =>
 ask (decide ((seens ++ [r3]).length * 16 ≤ roomNat)) <|
 .ret (.inl ((w64 (t3 + 1)), (seens ++ [r3])))) (
 .ret (.inr seens))

def text_ctx_L5 : Lp := ⟨5, [.own 3 9 .str], [], (ca (ca2 (.cons (.own 0) (ca8 (.cons (.val false (.list tSeen)) (.cons (.val false (.int .i64)) (.cons (.val false (.int .i64)) (ca (ca2 (ca4 (ca8 (ca16 .nil)))))))))))), (.rows 9 .str .nil), 0, .one 1 [] (ca (ca2 (.cons (.own 0) (ca2 (ca8 (ca32 .nil)))))) (.rows 9 .str .nil), fun z => .bnd (.loop (fun v => text_ctx_L5_step z.1.2.2.2.2.2.2.2.2.2.2.2.2.1 z.1.2.2.2.2.2.2.2.2.2.2.2.2.2.1 v.1 v.2) (z.1.2.2.2.2.2.2.2.2.2.2.2.2.2.2.1, z.2.1)) fun r => .ret ((cu (cu2 ((), (cu2 (cu8 (cu32 ())))))), (r, ()))⟩

theorem text_ctx_L5_ok : text_ctx_L5.ok Tryz.prog (nthC (loopsOf (bodyOf Tryz.f33)) 0) := by
  refine Lp.lift (π := ((List Seen) × Int)) (V := (Int × (List Str))) (ρ := List Str) mix tabOk text_ctx_L5 (o := orT [text_Word_g, name_Dec_g, strings_Join_g] [text_ctx_L9] noFz) (orT_sound ⟨text_Word_ok, ⟨name_Dec_ok, ⟨strings_Join_ok, trivial⟩⟩⟩) (allLp_of [nthC (loopsOf (nthC (loopsOf (bodyOf Tryz.f33)) 0)) 0] (by kernel_rfl) ⟨text_ctx_L9_ok, trivial⟩ (by kernel_rfl)) (fun x v => ((cu (cu2 ((), (cu8 (x.1, (x.2, (v.1, (cu (cu2 (cu4 (cu8 (cu16 ())))))))))))), (v.2, ()))) (fun x r => ((cu (cu2 ((), (cu2 (cu8 (cu32 ())))))), (r, ()))) (fun x v => text_ctx_L5_step x.1 x.2 v.1 v.2) (fun x r => .ret ((cu (cu2 ((), (cu2 (cu8 (cu32 ())))))), (r, ()))) (fun z => (z.1.2.2.2.2.2.2.2.2.2.2.2.2.1, z.1.2.2.2.2.2.2.2.2.2.2.2.2.2.1)) (fun z => (z.1.2.2.2.2.2.2.2.2.2.2.2.2.2.2.1, z.2.1)) (fun _ => rfl) (fun _ => rfl) (fun _ _ _ h => h) ?_
  intro x v; kernel_rfl

def text_ctx_T (x0 : List Seen) : Tree Str :=
 .ite (decide ((x0.length : Int) = 0)) (
 .ret ([95] : Str)) (
 .bnd (.loop (fun v => text_ctx_L5_step x0 (x0.length : Int) v.1 v.2) (0, ([] : List Str))) fun r1 =>
 .bnd (strings_Join_T r1 ([44] : Str)) fun y2 =>
 .ret y2)

def text_ctx_g : Sig := ⟨33, (.cons (.val false (.list tSeen)) .nil), .vals (.val false .str), fun z => text_ctx_T z.1, ([] : Str)⟩

theorem text_ctx_ok : text_ctx_g.ok Tryz.prog := by
  refine Sig.lift mix tabOk nms _ Tryz.func33 (c := (bodyOf Tryz.f33)) (by kernel_rfl) (o := orT [text_Word_g, name_Dec_g, strings_Join_g] [text_ctx_L5] noFz) (orT_sound ⟨text_Word_ok, ⟨name_Dec_ok, ⟨strings_Join_ok, trivial⟩⟩⟩) (allLp_of [nthC (loopsOf (bodyOf Tryz.f33)) 0] (by kernel_rfl) ⟨text_ctx_L5_ok, trivial⟩ (by kernel_rfl)) ?_
  intro z; kernel_rfl

def text_state_T (x0 : Bool) : Tree Str :=
 .ite x0 (
 .ret ([117, 112] : Str)) (
 .ret ([100, 111, 119, 110] : Str))

def text_state_g : Sig := ⟨34, (.cons (.val false .bool) .nil), .vals (.val false .str), fun z => text_state_T z.1, ([] : Str)⟩

theorem text_state_ok : text_state_g.ok Tryz.prog := by
  refine Sig.lift mix tabOk nms _ Tryz.func34 (c := (bodyOf Tryz.f34)) (by kernel_rfl) (o := orT [] [] noFz) (orT_sound trivial) (allLp_of [] (by kernel_rfl) trivial rfl) ?_
  intro z; kernel_rfl

def text_Line_fz : Nat → List Pre
  | 5 => [.two]
  | 7 => [.frz 0]
  | 8 => [.two]
  | _ => []

def text_Line_T (x0 : Event) : Tree Str :=
 .bnd (text_kind_T x0.1) fun y1 =>
 .bnd (text_Word_T x0.2.1) fun y2 =>
 .bnd (text_Word_T x0.2.2.1) fun y3 =>
 .bnd (text_Word_T x0.2.2.2.1) fun y4 =>
 .bnd (name_Dec_T x0.2.2.2.2.1) fun y5 =>
 .ite (decide (x0.1 = 1)) (
 .bnd (name_Dec_T x0.2.2.2.2.2.1.1) fun y6 =>
 .bnd (text_Word_T x0.2.2.2.2.2.1.2.1) fun y7 =>
 .bnd (text_Word_T x0.2.2.2.2.2.1.2.2.1) fun y8 =>
 .bnd (text_Word_T x0.2.2.2.2.2.1.2.2.2.1) fun y9 =>
 .bnd (text_Word_T x0.2.2.2.2.2.1.2.2.2.2.1) fun y10 =>
 .bnd (text_ctx_T x0.2.2.2.2.2.1.2.2.2.2.2.1) fun y11 =>
 .bnd (name_Dec_T x0.2.2.2.2.2.1.2.2.2.2.2.2) fun y12 =>
 ask (decide (([y1, y2, y3, y4, y5] ++ [y6, y7, y8, y9, y10, y11, y12]).length * 16 ≤ roomNat)) <|
 .bnd (strings_Join_T ([y1, y2, y3, y4, y5] ++ [y6, y7, y8, y9, y10, y11, y12]) ([32] : Str)) fun y13 =>
 .ret y13) (
 .ite (decide (x0.1 = 14)) (
 .both (
 .bnd (name_Dec_T x0.2.2.2.2.2.2.1) fun y25 =>
 .bnd (text_Word_T x0.2.2.2.2.2.2.2.1) fun y26 =>
 .bnd (text_Word_T x0.2.2.2.2.2.2.2.2.1) fun y27 =>
 .bnd (text_Word_T x0.2.2.2.2.2.2.2.2.2.1) fun y28 =>
 .bnd (text_Word_T x0.2.2.2.2.2.2.2.2.2.2.1) fun y29 =>
 .bnd (name_Dec_T x0.2.2.2.2.2.2.2.2.2.2.2.1) fun y30 =>
 .bnd (text_Word_T x0.2.2.2.2.2.2.2.2.2.2.2.2.1) fun y31 =>
 .bnd (text_Word_T x0.2.2.2.2.2.2.2.2.2.2.2.2.2.1) fun y32 =>
 .bnd (text_Word_T x0.2.2.2.2.2.2.2.2.2.2.2.2.2.2.1) fun y33 =>
 .bnd (text_state_T x0.2.2.2.2.2.2.2.2.2.2.2.2.2.2.2) fun y34 =>
 ask (decide (([y1, y2, y3, y4, y5] ++ [y25, y26, y27, y28, y29, y30, y31, y32, y33, y34]).length * 16 ≤ roomNat)) <|
 .bnd (strings_Join_T ([y1, y2, y3, y4, y5] ++ [y25, y26, y27, y28, y29, y30, y31, y32, y33, y34]) ([32] : Str)) fun y35 =>
 .ret y35) (
 .bnd (name_Dec_T x0.2.2.2.2.2.2.1) fun y14 =>
 .bnd (text_Word_T x0.2.2.2.2.2.2.2.1) fun y15 =>
 .bnd (text_Word_T x0.2.2.2.2.2.2.2.2.1) fun y16 =>
 .bnd (text_Word_T x0.2.2.2.2.2.2.2.2.2.1) fun y17 =>
 .bnd (text_Word_T x0.2.2.2.2.2.2.2.2.2.2.1) fun y18 =>
 .bnd (name_Dec_T x0.2.2.2.2.2.2.2.2.2.2.2.1) fun y19 =>
 .bnd (text_Word_T x0.2.2.2.2.2.2.2.2.2.2.2.2.1) fun y20 =>
 .bnd (text_Word_T x0.2.2.2.2.2.2.2.2.2.2.2.2.2.1) fun y21 =>
 .bnd (text_Word_T x0.2.2.2.2.2.2.2.2.2.2.2.2.2.2.1) fun y22 =>
 .bnd (text_state_T x0.2.2.2.2.2.2.2.2.2.2.2.2.2.2.2) fun y23 =>
 ask (decide (([y1, y2, y3, y4, y5] ++ [y14, y15, y16, y17, y18, y19, y20, y21, y22, y23]).length * 16 ≤ roomNat)) <|
 .bnd (strings_Join_T ([y1, y2, y3, y4, y5] ++ [y14, y15, y16, y17, y18, y19, y20, y21, y22, y23]) ([32] : Str)) fun y24 =>
 .ret y24)) (
 .bnd (strings_Join_T [y1, y2, y3, y4, y5] ([32] : Str)) fun y36 =>
 .ret y36))

def text_Line_g : Sig := ⟨15, (.cons (.val true tEvent) .nil), .vals (.val false .str), fun z => text_Line_T z.1, ([] : Str)⟩

theorem text_Line_ok : text_Line_g.ok Tryz.prog := by
  refine Sig.lift mix tabOk nms _ Tryz.func15 (c := (bodyOf Tryz.f15)) (by kernel_rfl) (o := orT [text_kind_g, text_Word_g, name_Dec_g, text_ctx_g, strings_Join_g, text_state_g] [] text_Line_fz) (orT_sound ⟨text_kind_ok, ⟨text_Word_ok, ⟨name_Dec_ok, ⟨text_ctx_ok, ⟨strings_Join_ok, ⟨text_state_ok, trivial⟩⟩⟩⟩⟩⟩) (allLp_of [] (by kernel_rfl) trivial rfl) ?_
  intro z; kernel_rfl

def strings_Split_T (x0 : Str) (x1 : Str) : Tree (List Str) :=
 splitT x0 x1

def strings_Split_g : Sig := ⟨18, (.cons (.val false .str) (.cons (.val false .str) .nil)), .fresh 9 .str, fun z => strings_Split_T z.1 z.2.1, ([] : List Str)⟩

theorem strings_Split_ok : strings_Split_g.ok Tryz.prog :=
  strings_Split_sig (enters_of Tryz.func18 (by kernel_rfl) rfl) (fun s p w hg hs h1 => let ⟨m, hm⟩ := hg.mlen; Tryz.strings_Split s p m w hs hm h1)

def text_reader_word_T (x0 : Text_reader) : Tree (Str × ((Text_reader × Unit) × Unit)) :=
 .ite (decide ((x0.1.length : Int) = 0)) (
 .ret (([] : Str), (((x0.1, true), ()), ()))) (
 ask (inb 0 x0.1.length) <|
 ask (inbe 1 x0.1.length) <|
 .ret ((x0.1.getD ((0 : Int).toNat) ([] : Str)), ((((x0.1.drop (1 : Int).toNat), x0.2), ()), ())))

def text_reader_word_g : MSig := ⟨43, (.cons (.ref 0 0) .nil), (.cells 52 (.cons (.flat tText_reader) .nil) .nil), [], (.val false .str), (.cells 52 (.cons (.flat tText_reader) .nil) .nil), none, fun z => text_reader_word_T z.2.1.1⟩

theorem text_reader_word_ok : text_reader_word_g.ok Tryz.prog := by
  refine MSig.lift mix tabOk nms _ Tryz.func43 (c := (bodyOf Tryz.f43)) (by kernel_rfl) (o := orT [] [] noFz) (orT_sound trivial) (allLp_of [] (by kernel_rfl) trivial rfl) (fun _ => rfl) ?_
  intro z; kernel_rfl

def slices_Index_string_L2_step (s_ : List Str) (v : Str) (t : Int) (t2 : Int) : Tree (Int ⊕ (Int ⊕ Unit)) :=
 .ite (decide (t2 < t)) (
 ask (inb t2 s_.length) <|
 .ite (v == (s_.getD t2.toNat ([] : Str))) (
 .ret (.inr (.inl t2))) (
 .ret (.inl (w64 (t2 + 1))))) (
 .ret (.inr (.inr ())))

def slices_Index_string_L2 : Lp := ⟨2, [], [], (.cons (.val false (.list .str)) (.cons (.val false .str) (ca (ca4 (.cons (.val false (.int .i64)) (.cons (.val false (.int .i64)) (ca2 (ca8 .nil)))))))), .nil, 0, .more 0 [] (ca4 (.cons (.val false (.int .i64)) (ca2 (ca4 (ca8 .nil))))) .nil (.one 1 [] (ca (ca2 (ca16 .nil))) .nil), fun z => .bnd (.loop (fun v => slices_Index_string_L2_step z.1.1 z.1.2.1 z.1.2.2.2.2.2.2.2.1 v) z.1.2.2.2.2.2.2.2.2.1) fun r => .sum r (fun a0 => .ret (.inl ((cu4 (a0, (cu2 (cu4 (cu8 ()))))), ()))) (fun b0 => .ret (.inr ((cu (cu2 (cu16 ()))), ())))⟩

theorem slices_Index_string_L2_ok : slices_Index_string_L2.ok Tryz.prog (nthC (loopsOf (bodyOf Tryz.f63)) 0) := by
  refine Lp.lift (π := ((List Str) × Str × Int)) (V := Int) (ρ := (Int ⊕ Unit)) mix tabOk slices_Index_string_L2 (o := orT [] [] noFz) (orT_sound trivial) (allLp_of [] (by kernel_rfl) trivial rfl) (fun x v => ((x.1, (x.2.1, (cu (cu4 (x.2.2, (v, (cu2 (cu8 ())))))))), ())) (fun x r => match r with | .inl a0 => .inl ((cu4 (a0, (cu2 (cu4 (cu8 ()))))), ()) | .inr b0 => (.inr ((cu (cu2 (cu16 ()))), ()))) (fun x v => slices_Index_string_L2_step x.1 x.2.1 x.2.2 v) (fun x r => .sum r (fun a0 => .ret (.inl ((cu4 (a0, (cu2 (cu4 (cu8 ()))))), ()))) (fun b0 => .ret (.inr ((cu (cu2 (cu16 ()))), ())))) (fun z => (z.1.1, z.1.2.1, z.1.2.2.2.2.2.2.2.1)) (fun z => z.1.2.2.2.2.2.2.2.2.1) (fun _ => rfl) (fun _ => rfl) (fun x r Q h => match r, h with | .inl _, h => h | .inr b0, h => (h)) ?_
  intro x v; kernel_rfl

def slices_Index_string_T (x0 : List Str) (x1 : Str) : Tree Int :=
 .bnd (.loop (fun v => slices_Index_string_L2_step x0 x1 (x0.length : Int) v) 0) fun r1 =>
 .sum r1 (fun r2 =>
 .ret r2) (fun r3 =>
 .ret (-1))

def slices_Index_string_g : Sig := ⟨63, (.cons (.val false (.list .str)) (.cons (.val false .str) .nil)), .vals (.val false (.int .i64)), fun z => slices_Index_string_T z.1 z.2.1, (0 : Int)⟩

theorem slices_Index_string_ok : slices_Index_string_g.ok Tryz.prog := by
  refine Sig.lift mix tabOk nms _ Tryz.func63 (c := (bodyOf Tryz.f63)) (by kernel_rfl) (o := orT [] [slices_Index_string_L2] noFz) (orT_sound trivial) (allLp_of [nthC (loopsOf (bodyOf Tryz.f63)) 0] (by kernel_rfl) ⟨slices_Index_string_L2_ok, trivial⟩ (by kernel_rfl)) ?_
  intro z; kernel_rfl

def stringslite_HasPrefix_T (x0 : Str) (x1 : Str) : Tree Bool :=
 ask ((!(decide ((x1.length : Int) ≤ (x0.length : Int)))) || inbe (x1.length : Int) x0.length) <|
 .ret ((decide ((x1.length : Int) ≤ (x0.length : Int))) && ((subS x0 0 (x1.length : Int).toNat) == x1))

def stringslite_HasPrefix_g : Sig := ⟨91, (.cons (.val false .str) (.cons (.val false .str) .nil)), .vals (.val false .bool), fun z => stringslite_HasPrefix_T z.1 z.2.1, false⟩

theorem stringslite_HasPrefix_ok : stringslite_HasPrefix_g.ok Tryz.prog := by
  refine Sig.lift mix tabOk nms _ Tryz.func91 (c := (bodyOf Tryz.f91)) (by kernel_rfl) (o := orT [] [] noFz) (orT_sound trivial) (allLp_of [] (by kernel_rfl) trivial rfl) ?_
  intro z; kernel_rfl

def stringslite_CutPrefix_T (x0 : Str) (x1 : Str) : Tree (Str × Bool × Unit) :=
 .bnd (stringslite_HasPrefix_T x0 x1) fun y1 =>
 .ite (!y1) (
 .ret (x0, false, ())) (
 ask (inbe (x1.length : Int) x0.length) <|
 .ret ((subS x0 (x1.length : Int).toNat x0.length), true, ()))

def stringslite_CutPrefix_g : Sig := ⟨81, (.cons (.val false .str) (.cons (.val false .str) .nil)), .vals (.cons (.val false .str) (.cons (.val false .bool) .nil)), fun z => stringslite_CutPrefix_T z.1 z.2.1, (([] : Str), false, ())⟩

theorem stringslite_CutPrefix_ok : stringslite_CutPrefix_g.ok Tryz.prog := by
  refine Sig.lift mix tabOk nms _ Tryz.func81 (c := (bodyOf Tryz.f81)) (by kernel_rfl) (o := orT [stringslite_HasPrefix_g] [] noFz) (orT_sound ⟨stringslite_HasPrefix_ok, trivial⟩) (allLp_of [] (by kernel_rfl) trivial rfl) ?_
  intro z; kernel_rfl

def strings_CutPrefix_T (x0 : Str) (x1 : Str) : Tree (Str × Bool × Unit) :=
 .bnd (stringslite_CutPrefix_T x0 x1) fun y1 =>
 .ret (y1.1, y1.2.1, ())

def strings_CutPrefix_g : Sig := ⟨64, (.cons (.val false .str) (.cons (.val false .str) .nil)), .vals (.cons (.val false .str) (.cons (.val false .bool) .nil)), fun z => strings_CutPrefix_T z.1 z.2.1, (([] : Str), false, ())⟩

theorem strings_CutPrefix_ok : strings_CutPrefix_g.ok Tryz.prog := by
  refine Sig.lift mix tabOk nms _ Tryz.func64 (c := (bodyOf Tryz.f64)) (by kernel_rfl) (o := orT [stringslite_CutPrefix_g] [] noFz) (orT_sound ⟨stringslite_CutPrefix_ok, trivial⟩) (allLp_of [] (by kernel_rfl) trivial rfl) ?_
  intro z; kernel_rfl

def name_Num_T (x0 : Str) : Tree (Int × Bool × Unit) :=
 numT x0

def name_Num_g : Sig := ⟨82, (.cons (.val false .str) .nil), .vals (.cons (.val false (.int .i64)) (.cons (.val false .bool) .nil)), fun z => name_Num_T z.1, ((0 : Int), false, ())⟩

theorem name_Num_ok : name_Num_g.ok Tryz.prog :=
  name_Num_sig (enters_of Tryz.func82 (by kernel_rfl) rfl) name_Num_walk

def text_reader_digits_T (x0 : Str) (x1 : Text_reader) : Tree (Int × ((Text_reader × Unit) × Unit)) :=
 .bnd (name_Num_T x0) fun y1 =>
 .ret (y1.1, (((x1.1, (x1.2 || (!y1.2.1))), ()), ()))

def text_reader_digits_g : MSig := ⟨65, (.cons (.ref 0 0) (.cons (.val false .str) .nil)), (.cells 52 (.cons (.flat tText_reader) .nil) .nil), [], (.val false (.int .i64)), (.cells 52 (.cons (.flat tText_reader) .nil) .nil), none, fun z => text_reader_digits_T z.1.2.1 z.2.1.1⟩

theorem text_reader_digits_ok : text_reader_digits_g.ok Tryz.prog := by
  refine MSig.lift mix tabOk nms _ Tryz.func65 (c := (bodyOf Tryz.f65)) (by kernel_rfl) (o := orT [name_Num_g] [] noFz) (orT_sound ⟨name_Num_ok, trivial⟩) (allLp_of [] (by kernel_rfl) trivial rfl) (fun _ => rfl) ?_
  intro z; kernel_rfl

def text_reader_kind_fz : Nat → List Pre
  | 3 => [.frz 1]
  | _ => []

def text_reader_kind_T (x0 : Text_reader) : Tree (Int × ((Text_reader × Unit) × Unit)) :=
 .bnd (text_reader_word_T x0) fun y1 =>
 .bnd text_kinds_T fun y2 =>
 ask (decide (14 ≤ 9223372036854775807)) <|
 .bnd (slices_Index_string_T [y2.1, y2.2.1, y2.2.2.1, y2.2.2.2.1, y2.2.2.2.2.1, y2.2.2.2.2.2.1, y2.2.2.2.2.2.2.1, y2.2.2.2.2.2.2.2.1, y2.2.2.2.2.2.2.2.2.1, y2.2.2.2.2.2.2.2.2.2.1, y2.2.2.2.2.2.2.2.2.2.2.1, y2.2.2.2.2.2.2.2.2.2.2.2.1, y2.2.2.2.2.2.2.2.2.2.2.2.2.1, y2.2.2.2.2.2.2.2.2.2.2.2.2.2] y1.1) fun y3 =>
 .ite (decide ((0 : Int) ≤ y3)) (
 .ret ((w64 (y3 + 1)), ((y1.2.1.1, ()), ()))) (
 .bnd (strings_CutPrefix_T y1.1 ([107, 105, 110, 100] : Str)) fun y4 =>
 .bnd (text_reader_digits_T y4.1 (y1.2.1.1.1, (y1.2.1.1.2 || (!y4.2.1)))) fun y5 =>
 .ret (y5.1, ((y5.2.1.1, ()), ())))

def text_reader_kind_g : MSig := ⟨39, (.cons (.ref 0 0) .nil), (.cells 52 (.cons (.flat tText_reader) .nil) .nil), [], (.val false (.int .i64)), (.cells 52 (.cons (.flat tText_reader) .nil) .nil), none, fun z => text_reader_kind_T z.2.1.1⟩

theorem text_reader_kind_ok : text_reader_kind_g.ok Tryz.prog := by
  refine MSig.lift mix tabOk nms _ Tryz.func39 (c := (bodyOf Tryz.f39)) (by kernel_rfl) (o := orM [text_kinds_g, slices_Index_string_g, strings_CutPrefix_g] [text_reader_word_g, text_reader_digits_g] [] text_reader_kind_fz) (orM_sound ⟨text_kinds_ok, ⟨slices_Index_string_ok, ⟨strings_CutPrefix_ok, trivial⟩⟩⟩ ⟨text_reader_word_ok, ⟨text_reader_digits_ok, trivial⟩⟩) (allLp_ofM [] (by kernel_rfl) trivial rfl) (fun _ => rfl) ?_
  intro z; kernel_rfl

def text_Read_L5_step (w : Str) (rest : Str) (out : List Int) : Tree ((Str × (List Int)) ⊕ ((Str × Bool) ⊕ List Int)) :=
 .ite (!(rest == ([] : Str))) (
 ask (inb 0 rest.length) <|
 .ite (!decide ((sgetI rest 0) = 37)) (
 ask (inbe 1 rest.length) <|
 ask (inb 0 rest.length) <|
 ask (decide ((out ++ [(sgetI rest 0)]).length * 1 ≤ roomNat)) <|
 .ret (.inl ((subS rest (1 : Int).toNat rest.length), (out ++ [(sgetI rest 0)])))) (
 .ite (decide ((rest.length : Int) < 3)) (
 .ret (.inr (.inl (([] : Str), false)))) (
 ask (inb 1 rest.length) <|
 .bnd (strings_IndexByte_T ([48, 49, 50, 51, 52, 53, 54, 55, 56, 57, 97, 98, 99, 100, 101, 102] : Str) (sgetI rest 1)) fun y1 =>
 ask (inb 2 rest.length) <|
 .bnd (strings_IndexByte_T ([48, 49, 50, 51, 52, 53, 54, 55, 56, 57, 97, 98, 99, 100, 101, 102] : Str) (sgetI rest 2)) fun y2 =>
 .ite ((decide (y1 < 0)) || (decide (y2 < 0))) (
 .ret (.inr (.inl (([] : Str), false)))) (
 ask (inbe 3 rest.length) <|
 ask (decide ((0 : Int) ≤ 4)) <|
 ask (decide ((out ++ [(IntKind.wrap .u8 ((stdArith .or .i64 (stdShift .shl .i64 y1 4) y2)))]).length * 1 ≤ roomNat)) <|
 .ret (.inl ((subS rest (3 : Int).toNat rest.length), (out ++ [(IntKind.wrap .u8 ((stdArith .or .i64 (stdShift .shl .i64 y1 4) y2)))]))))))) (
 .ret (.inr (.inr out)))

def text_Read_L5 : Lp := ⟨5, [.own 4 5 (.int .u8)], [], (.cons (.val false .str) (ca (ca2 (.cons (.own 0) (.cons (.val false .str) (ca2 (ca4 (ca16 (ca32 .nil))))))))), (.rows 5 (.int .u8) .nil), 0, .more 0 [] (ca2 (.cons (.val false .str) (.cons (.val false .bool) (ca8 (ca16 (ca32 .nil)))))) .nil (.one 1 [] (.cons (.val false .str) (ca (ca2 (.cons (.own 0) (ca (ca2 (ca4 (ca16 (ca32 .nil))))))))) (.rows 5 (.int .u8) .nil)), fun z => .bnd (.loop (fun v => text_Read_L5_step z.1.1 v.1 v.2) (z.1.2.2.2.2.2.1, z.2.1)) fun r => .sum r (fun a0 => .ret (.inl ((cu2 (a0.1, (a0.2, (cu8 (cu16 (cu32 ())))))), ()))) (fun b0 => .ret (.inr ((z.1.1, (cu (cu2 ((), (cu (cu2 (cu4 (cu16 (cu32 ()))))))))), (b0, ()))))⟩

theorem text_Read_L5_ok : text_Read_L5.ok Tryz.prog (nthC (loopsOf (bodyOf Tryz.f16)) 0) := by
  refine Lp.lift (π := Str) (V := (Str × (List Int))) (ρ := ((Str × Bool) ⊕ List Int)) mix tabOk text_Read_L5 (o := orT [strings_IndexByte_g, text_Word_g] [] noFz) (orT_sound ⟨strings_IndexByte_ok, ⟨text_Word_ok, trivial⟩⟩) (allLp_of [] (by kernel_rfl) trivial rfl) (fun x v => ((x, (cu (cu2 ((), (v.1, (cu2 (cu4 (cu16 (cu32 ()))))))))), (v.2, ()))) (fun x r => match r with | .inl a0 => .inl ((cu2 (a0.1, (a0.2, (cu8 (cu16 (cu32 ())))))), ()) | .inr b0 => (.inr ((x, (cu (cu2 ((), (cu (cu2 (cu4 (cu16 (cu32 ()))))))))), (b0, ())))) (fun x v => text_Read_L5_step x v.1 v.2) (fun x r => .sum r (fun a0 => .ret (.inl ((cu2 (a0.1, (a0.2, (cu8 (cu16 (cu32 ())))))), ()))) (fun b0 => .ret (.inr ((x, (cu (cu2 ((), (cu (cu2 (cu4 (cu16 (cu32 ()))))))))), (b0, ()))))) (fun z => z.1.1) (fun z => (z.1.2.2.2.2.2.1, z.2.1)) (fun _ => rfl) (fun _ => rfl) (fun x r Q h => match r, h with | .inl _, h => h | .inr b0, h => (h)) ?_
  intro x v; kernel_rfl

def text_Read_T (x0 : Str) : Tree (Str × Bool × Unit) :=
 .ite (x0 == ([95] : Str)) (
 .ret (([] : Str), true, ())) (
 .bnd (.loop (fun v => text_Read_L5_step x0 v.1 v.2) (x0, ([] : List Int))) fun r1 =>
 .sum r1 (fun r2 =>
 .ret (r2.1, r2.2, ())) (fun r3 =>
 .grd (!(x0 == ([] : Str))) (text_Word_T (strB r3)) ([] : Str) fun y4 =>
 .ite ((!(x0 == ([] : Str))) && (y4 == x0)) (
 .ret ((strB r3), true, ())) (
 .ret (([] : Str), false, ()))))

def text_Read_g : Sig := ⟨16, (.cons (.val false .str) .nil), .vals (.cons (.val false .str) (.cons (.val false .bool) .nil)), fun z => text_Read_T z.1, (([] : Str), false, ())⟩

theorem text_Read_ok : text_Read_g.ok Tryz.prog := by
  refine Sig.lift mix tabOk nms _ Tryz.func16 (c := (bodyOf Tryz.f16)) (by kernel_rfl) (o := orT [strings_IndexByte_g, text_Word_g] [text_Read_L5] noFz) (orT_sound ⟨strings_IndexByte_ok, ⟨text_Word_ok, trivial⟩⟩) (allLp_of [nthC (loopsOf (bodyOf Tryz.f16)) 0] (by kernel_rfl) ⟨text_Read_L5_ok, trivial⟩ (by kernel_rfl)) ?_
  intro z; kernel_rfl

def text_reader_text_T (x0 : Text_reader) : Tree (Str × ((Text_reader × Unit) × Unit)) :=
 .bnd (text_reader_word_T x0) fun y1 =>
 .bnd (text_Read_T y1.1) fun y2 =>
 .ret (y2.1, (((y1.2.1.1.1, (y1.2.1.1.2 || (!y2.2.1))), ()), ()))

def text_reader_text_g : MSig := ⟨66, (.cons (.ref 0 0) .nil), (.cells 52 (.cons (.flat tText_reader) .nil) .nil), [], (.val false .str), (.cells 52 (.cons (.flat tText_reader) .nil) .nil), none, fun z => text_reader_text_T z.2.1.1⟩

theorem text_reader_text_ok : text_reader_text_g.ok Tryz.prog := by
  refine MSig.lift mix tabOk nms _ Tryz.func66 (c := (bodyOf Tryz.f66)) (by kernel_rfl) (o := orM [text_Read_g] [text_reader_word_g] [] noFz) (orM_sound ⟨text_Read_ok, trivial⟩ ⟨text_reader_word_ok, trivial⟩) (allLp_ofM [] (by kernel_rfl) trivial rfl) (fun _ => rfl) ?_
  intro z; kernel_rfl

def text_reader_texts_fz : Nat → List Pre
  | 2 => [.unr 4]
  | _ => []

def text_reader_texts_T (x0 : Text_reader) (x1 : Event) : Tree (Unit × ((Text_reader × Unit) × ((Event × Unit) × Unit))) :=
 .ite (decide ((0 : Int) < 3)) (
 .bnd (text_reader_text_T x0) fun y1 =>
 .ite (decide ((w64 ((0 : Int) + 1)) < 3)) (
 .bnd (text_reader_text_T y1.2.1.1) fun y2 =>
 .ite (decide ((w64 ((w64 ((0 : Int) + 1)) + 1)) < 3)) (
 .bnd (text_reader_text_T y2.2.1.1) fun y3 =>
 .ite (decide ((w64 ((w64 ((w64 ((0 : Int) + 1)) + 1)) + 1)) < 3)) (
 ask false <|
 ask false <|
 .bnd (text_reader_text_T y3.2.1.1) fun y4 =>
 ask false <|
 ask false <|
 .fail) (
 .ret ((), ((y3.2.1.1, ()), (((x1.1, (y1.1, (y2.1, (y3.1, x1.2.2.2.2)))), ()), ()))))) (
 .ret ((), ((y2.2.1.1, ()), (((x1.1, (y1.1, (y2.1, x1.2.2.2))), ()), ()))))) (
 .ret ((), ((y1.2.1.1, ()), (((x1.1, (y1.1, x1.2.2)), ()), ()))))) (
 .ret ((), ((x0, ()), ((x1, ()), ()))))

def text_reader_texts_g : MSig := ⟨40, (.cons (.ref 0 0) (.cons (.lst (.cons (.ref 1 1) (.cons (.ref 1 2) (.cons (.ref 1 3) .nil)))) .nil)), (.cells 52 (.cons (.flat tText_reader) .nil) (.cells 31 (.cons (.flat tEvent) .nil) .nil)), [], .nil, (.cells 52 (.cons (.flat tText_reader) .nil) (.cells 31 (.cons (.flat tEvent) .nil) .nil)), none, fun z => text_reader_texts_T z.2.1.1 z.2.2.1.1⟩

theorem text_reader_texts_ok : text_reader_texts_g.ok Tryz.prog := by
  refine MSig.lift mix tabOk nms _ Tryz.func40 (c := (bodyOf Tryz.f40)) (by kernel_rfl) (o := orM [] [text_reader_text_g] [] text_reader_texts_fz) (orM_sound trivial ⟨text_reader_text_ok, trivial⟩) (allLp_ofUM [] (by kernel_rfl) trivial rfl) (fun _ => rfl) ?_
  intro z; kernel_rfl

def text_reader_number_T (x0 : Text_reader) : Tree (Int × ((Text_reader × Unit) × Unit)) :=
 .bnd (text_reader_word_T x0) fun y1 =>
 .bnd (text_reader_digits_T y1.1 y1.2.1.1) fun y2 =>
 .ret (y2.1, ((y2.2.1.1, ()), ()))

def text_reader_number_g : MSig := ⟨41, (.cons (.ref 0 0) .nil), (.cells 52 (.cons (.flat tText_reader) .nil) .nil), [], (.val false (.int .i64)), (.cells 52 (.cons (.flat tText_reader) .nil) .nil), none, fun z => text_reader_number_T z.2.1.1⟩

theorem text_reader_number_ok : text_reader_number_g.ok Tryz.prog := by
  refine MSig.lift mix tabOk nms _ Tryz.func41 (c := (bodyOf Tryz.f41)) (by kernel_rfl) (o := orM [] [text_reader_word_g, text_reader_digits_g] [] noFz) (orM_sound trivial ⟨text_reader_word_ok, ⟨text_reader_digits_ok, trivial⟩⟩) (allLp_ofM [] (by kernel_rfl) trivial rfl) (fun _ => rfl) ?_
  intro z; kernel_rfl

def text_reader_texts__fz : Nat → List Pre
  | 2 => [.unr 5]
  | _ => []

def text_reader_texts__T (x0 : Text_reader) (x1 : Event) : Tree (Unit × ((Text_reader × Unit) × ((Event × Unit) × Unit))) :=
 .ite (decide ((0 : Int) < 4)) (
 .bnd (text_reader_text_T x0) fun y1 =>
 .ite (decide ((w64 ((0 : Int) + 1)) < 4)) (
 .bnd (text_reader_text_T y1.2.1.1) fun y2 =>
 .ite (decide ((w64 ((w64 ((0 : Int) + 1)) + 1)) < 4)) (
 .bnd (text_reader_text_T y2.2.1.1) fun y3 =>
 .ite (decide ((w64 ((w64 ((w64 ((0 : Int) + 1)) + 1)) + 1)) < 4)) (
 .bnd (text_reader_text_T y3.2.1.1) fun y4 =>
 .ite (decide ((w64 ((w64 ((w64 ((w64 ((0 : Int) + 1)) + 1)) + 1)) + 1)) < 4)) (
 ask false <|
 ask false <|
 .bnd (text_reader_text_T y4.2.1.1) fun y5 =>
 ask false <|
 ask false <|
 .fail) (
 .ret ((), ((y4.2.1.1, ()), (((x1.1, (x1.2.1, (x1.2.2.1, (x1.2.2.2.1, (x1.2.2.2.2.1, ((x1.2.2.2.2.2.1.1, (y1.1, (y2.1, (y3.1, (y4.1, x1.2.2.2.2.2.1.2.2.2.2.2))))), x1.2.2.2.2.2.2)))))), ()), ()))))) (
 .ret ((), ((y3.2.1.1, ()), (((x1.1, (x1.2.1, (x1.2.2.1, (x1.2.2.2.1, (x1.2.2.2.2.1, ((x1.2.2.2.2.2.1.1, (y1.1, (y2.1, (y3.1, x1.2.2.2.2.2.1.2.2.2.2)))), x1.2.2.2.2.2.2)))))), ()), ()))))) (
 .ret ((), ((y2.2.1.1, ()), (((x1.1, (x1.2.1, (x1.2.2.1, (x1.2.2.2.1, (x1.2.2.2.2.1, ((x1.2.2.2.2.2.1.1, (y1.1, (y2.1, x1.2.2.2.2.2.1.2.2.2))), x1.2.2.2.2.2.2)))))), ()), ()))))) (
 .ret ((), ((y1.2.1.1, ()), (((x1.1, (x1.2.1, (x1.2.2.1, (x1.2.2.2.1, (x1.2.2.2.2.1, ((x1.2.2.2.2.2.1.1, (y1.1, x1.2.2.2.2.2.1.2.2)), x1.2.2.2.2.2.2)))))), ()), ()))))) (
 .ret ((), ((x0, ()), ((x1, ()), ()))))

def text_reader_texts__g : MSig := ⟨40, (.cons (.ref 0 0) (.cons (.lst (.cons (.ref 1 6) (.cons (.ref 1 7) (.cons (.ref 1 8) (.cons (.ref 1 9) .nil))))) .nil)), (.cells 52 (.cons (.flat tText_reader) .nil) (.cells 31 (.cons (.flat tEvent) .nil) .nil)), [], .nil, (.cells 52 (.cons (.flat tText_reader) .nil) (.cells 31 (.cons (.flat tEvent) .nil) .nil)), none, fun z => text_reader_texts__T z.2.1.1 z.2.2.1.1⟩

theorem text_reader_texts__ok : text_reader_texts__g.ok Tryz.prog := by
  refine MSig.lift mix tabOk nms _ Tryz.func40 (c := (bodyOf Tryz.f40)) (by kernel_rfl) (o := orM [] [text_reader_text_g] [] text_reader_texts__fz) (orM_sound trivial ⟨text_reader_text_ok, trivial⟩) (allLp_ofUM [] (by kernel_rfl) trivial rfl) (fun _ => rfl) ?_
  intro z; kernel_rfl

def strings_Cut_T (x0 : Str) (x1 : Str) : Tree (Str × Str × Bool × Unit) :=
 cutT x0 x1

def strings_Cut_g : Sig := ⟨83, (.cons (.val false .str) (.cons (.val false .str) .nil)), .vals (.cons (.val false .str) (.cons (.val false .str) (.cons (.val false .bool) .nil))), fun z => strings_Cut_T z.1 z.2.1, (([] : Str), ([] : Str), false, ())⟩

theorem strings_Cut_ok : strings_Cut_g.ok Tryz.prog :=
  strings_Cut_sig (enters_of Tryz.func83 (by kernel_rfl) rfl) (fun s p w hg hs => let ⟨m, hm⟩ := hg.mlen; Tryz.strings_Cut s p m w hs hm)

def text_reader_seen_fz : Nat → List Pre
  | 11 => [.frz 2]
  | _ => []

def text_reader_seen_L7_step (t : Int) (c : Seen) (x_ : Str) (rows : List Str) (t2 : Int) (r : Text_reader) (x_2 : Int) (rows2 : List Int) : Tree ((Int × Text_reader × Int × (List Int)) ⊕ (Text_reader × Int × (List Int))) :=
 .ite (decide (t2 < t)) (
 ask (inb t2 rows.length) <|
 .ite (decide (t2 = 0)) (
 .bnd (text_reader_digits_T (rows.getD t2.toNat ([] : Str)) r) fun y1 =>
 .ret (.inl ((w64 (t2 + 1)), y1.2.1.1, y1.1, rows2))) (
 .both (
 .bnd (text_reader_digits_T (rows.getD t2.toNat ([] : Str)) r) fun y3 =>
 ask (decide ((rows2 ++ [y3.1]).length * 8 ≤ roomNat)) <|
 .ret (.inl ((w64 (t2 + 1)), y3.2.1.1, x_2, (rows2 ++ [y3.1])))) (
 .bnd (text_reader_digits_T (rows.getD t2.toNat ([] : Str)) r) fun y2 =>
 .both (
 ask (decide ((rows2 ++ [y2.1]).length * 8 ≤ roomNat)) <|
 .ret (.inl ((w64 (t2 + 1)), y2.2.1.1, x_2, (rows2 ++ [y2.1])))) (
 ask (decide ((rows2 ++ [y2.1]).length * 8 ≤ roomNat)) <|
 .ret (.inl ((w64 (t2 + 1)), y2.2.1.1, x_2, (rows2 ++ [y2.1]))))))) (
 .ret (.inr (r, x_2, rows2)))

def text_reader_seen_L7 : Lp := ⟨7, [.ownC 2 2 3 (.int .i64)], [], (.cons (.ref 0 0) (ca (ca2 (.cons (.ref 1 0) (ca (ca2 (.cons (.ref 2 0) (ca (ca4 (ca32 (.cons (.own 3) (.cons (.val false (.int .i64)) (.cons (.val false (.int .i64)) (ca4 (ca16 .nil))))))))))))))), (.cells 52 (.cons (.flat tText_reader) .nil) (.cells 90 (.cons (.flat tSeen) .nil) (.cells 90 (.cons (.val false .str) (.cons (.val false (.int .i64)) (.cons (.own 4) .nil))) (.rows 9 .str (.rows 3 (.int .i64) .nil))))), 1, .one 1 [] (ca4 (.cons (.ref 1 0) (ca (ca2 (.cons (.ref 2 0) (ca4 (ca8 (ca16 (ca32 .nil))))))))) (.cells 52 (.cons (.flat tText_reader) .nil) (.cells 90 (.cons (.flat tSeen) .nil) (.cells 90 (.cons (.val false .str) (.cons (.val false (.int .i64)) (.cons (.own 4) .nil))) (.dead (.rows 3 (.int .i64) .nil))))), fun z => .bnd (.loop (fun v => text_reader_seen_L7_step z.1.2.2.2.2.2.2.2.2.2.2.2.2.2.2.2.2.2.2.2.2.2.2.2.2.2.2.2.2.2.2.2.2.2.2.2.2.2.2.2.2.2.2.2.2.2.2.2.1 z.2.2.1.1 z.2.2.2.1.1 z.2.2.2.2.1 v.1 v.2.1 v.2.2.1 v.2.2.2) (z.1.2.2.2.2.2.2.2.2.2.2.2.2.2.2.2.2.2.2.2.2.2.2.2.2.2.2.2.2.2.2.2.2.2.2.2.2.2.2.2.2.2.2.2.2.2.2.2.2.1, z.2.1.1, z.2.2.2.1.2.1, z.2.2.2.2.2.1)) fun r => .ret ((cu4 ((), (cu (cu2 ((), (cu4 (cu8 (cu16 (cu32 ()))))))))), ((r.1, ()), ((z.2.2.1.1, ()), ((z.2.2.2.1.1, (r.2.1, ((), ()))), (r.2.2, ())))))⟩

theorem text_reader_seen_L7_ok : text_reader_seen_L7.ok Tryz.prog (nthC (loopsOf (bodyOf Tryz.f67)) 0) := by
  refine Lp.lift (π := (Int × Seen × Str × (List Str))) (V := (Int × Text_reader × Int × (List Int))) (ρ := (Text_reader × Int × (List Int))) mix tabOk text_reader_seen_L7 (o := orM [strings_Cut_g, text_Read_g, strings_Split_g] [text_reader_digits_g] [] text_reader_seen_fz) (orM_sound ⟨strings_Cut_ok, ⟨text_Read_ok, ⟨strings_Split_ok, trivial⟩⟩⟩ ⟨text_reader_digits_ok, trivial⟩) (allLp_ofM [] (by kernel_rfl) trivial rfl) (fun x v => (((), (cu (cu2 ((), (cu (cu2 ((), (cu (cu4 (cu32 ((), (x.1, (v.1, (cu4 (cu16 ()))))))))))))))), ((v.2.1, ()), ((x.2.1, ()), ((x.2.2.1, (v.2.2.1, ((), ()))), (x.2.2.2, (v.2.2.2, ()))))))) (fun x r => ((cu4 ((), (cu (cu2 ((), (cu4 (cu8 (cu16 (cu32 ()))))))))), ((r.1, ()), ((x.2.1, ()), ((x.2.2.1, (r.2.1, ((), ()))), (r.2.2, ())))))) (fun x v => text_reader_seen_L7_step x.1 x.2.1 x.2.2.1 x.2.2.2 v.1 v.2.1 v.2.2.1 v.2.2.2) (fun x r => .ret ((cu4 ((), (cu (cu2 ((), (cu4 (cu8 (cu16 (cu32 ()))))))))), ((r.1, ()), ((x.2.1, ()), ((x.2.2.1, (r.2.1, ((), ()))), (r.2.2, ())))))) (fun z => (z.1.2.2.2.2.2.2.2.2.2.2.2.2.2.2.2.2.2.2.2.2.2.2.2.2.2.2.2.2.2.2.2.2.2.2.2.2.2.2.2.2.2.2.2.2.2.2.2.1, z.2.2.1.1, z.2.2.2.1.1, z.2.2.2.2.1)) (fun z => (z.1.2.2.2.2.2.2.2.2.2.2.2.2.2.2.2.2.2.2.2.2.2.2.2.2.2.2.2.2.2.2.2.2.2.2.2.2.2.2.2.2.2.2.2.2.2.2.2.2.1, z.2.1.1, z.2.2.2.1.2.1, z.2.2.2.2.2.1)) (fun _ => rfl) (fun _ => rfl) (fun _ _ _ h => h) ?_
  intro x v; kernel_rfl

def text_reader_seen_T (x0 : Str) (x1 : Text_reader) : Tree (Seen × ((Text_reader × Unit) × Unit)) :=
 .bnd (strings_Cut_T x0 ([58] : Str)) fun y1 =>
 .bnd (text_Read_T y1.1) fun y2 =>
 .bnd (strings_Split_T y1.2.1 ([43] : Str)) fun y3 =>
 .bnd (.loop (fun v => text_reader_seen_L7_step (y3.length : Int) ([], (0, [])) y2.1 y3 v.1 v.2.1 v.2.2.1 v.2.2.2) (0, (x1.1, ((x1.2 || (!y1.2.2.1)) || (!y2.2.1))), 0, ([] : List Int))) fun r4 =>
 .ret ((y2.1, r4.2), ((r4.1, ()), ()))

def text_reader_seen_g : MSig := ⟨67, (.cons (.ref 0 0) (.cons (.val false .str) .nil)), (.cells 52 (.cons (.flat tText_reader) .nil) .nil), [.frz 4], (.val true tSeen), (.cells 52 (.cons (.flat tText_reader) .nil) .nil), none, fun z => text_reader_seen_T z.1.2.1 z.2.1.1⟩

theorem text_reader_seen_ok : text_reader_seen_g.ok Tryz.prog := by
  refine MSig.lift mix tabOk nms _ Tryz.func67 (c := (bodyOf Tryz.f67)) (by kernel_rfl) (o := orM [strings_Cut_g, text_Read_g, strings_Split_g] [text_reader_digits_g] [text_reader_seen_L7] text_reader_seen_fz) (orM_sound ⟨strings_Cut_ok, ⟨text_Read_ok, ⟨strings_Split_ok, trivial⟩⟩⟩ ⟨text_reader_digits_ok, trivial⟩) (allLp_ofM [nthC (loopsOf (bodyOf Tryz.f67)) 0] (by kernel_rfl) ⟨text_reader_seen_L7_ok, trivial⟩ (by kernel_rfl)) (fun _ => rfl) ?_
  intro z; kernel_rfl

def text_reader_ctx_L6_step (t : Int) (rows : List Str) (t2 : Int) (r : Text_reader) (out : List Seen) : Tree ((Int × Text_reader × (List Seen)) ⊕ (Text_reader × (List Seen))) :=
 .ite (decide (t2 < t)) (
 ask (inb t2 rows.length) <|
 .bnd (text_reader_seen_T (rows.getD t2.toNat ([] : Str)) r) fun y1 =>
 ask (decide ((out ++ [y1.1]).length * 48 ≤ roomNat)) <|
 .ret (.inl ((w64 (t2 + 1)), y1.2.1.1, (out ++ [y1.1])))) (
 .ret (.inr (r, out)))

def text_reader_ctx_L6 : Lp := ⟨6, [.own 4 90 tSeen], [], (.cons (.ref 0 0) (ca (ca2 (.cons (.own 2) (ca (ca2 (ca4 (.cons (.own 1) (.cons (.val false (.int .i64)) (.cons (.val false (.int .i64)) (ca (ca2 (ca8 .nil))))))))))))), (.cells 52 (.cons (.flat tText_reader) .nil) (.rows 9 .str (.rows 90 tSeen .nil))), 1, .one 1 [] (ca4 (.cons (.own 2) (ca (ca4 (ca16 .nil))))) (.cells 52 (.cons (.flat tText_reader) .nil) (.dead (.rows 90 tSeen .nil))), fun z => .bnd (.loop (fun v => text_reader_ctx_L6_step z.1.2.2.2.2.2.2.2.2.2.2.2.2.2.1 z.2.2.1 v.1 v.2.1 v.2.2) (z.1.2.2.2.2.2.2.2.2.2.2.2.2.2.2.1, z.2.1.1, z.2.2.2.1)) fun r => .ret ((cu4 ((), (cu (cu4 (cu16 ()))))), ((r.1, ()), (r.2, ())))⟩

theorem text_reader_ctx_L6_ok : text_reader_ctx_L6.ok Tryz.prog (nthC (loopsOf (bodyOf Tryz.f42)) 0) := by
  refine Lp.lift (π := (Int × (List Str))) (V := (Int × Text_reader × (List Seen))) (ρ := (Text_reader × (List Seen))) mix tabOk text_reader_ctx_L6 (o := orM [strings_Split_g] [text_reader_word_g, text_reader_seen_g] [] noFz) (orM_sound ⟨strings_Split_ok, trivial⟩ ⟨text_reader_word_ok, ⟨text_reader_seen_ok, trivial⟩⟩) (allLp_ofM [] (by kernel_rfl) trivial rfl) (fun x v => (((), (cu (cu2 ((), (cu (cu2 (cu4 ((), (x.1, (v.1, (cu (cu2 (cu8 ()))))))))))))), ((v.2.1, ()), (x.2, (v.2.2, ()))))) (fun x r => ((cu4 ((), (cu (cu4 (cu16 ()))))), ((r.1, ()), (r.2, ())))) (fun x v => text_reader_ctx_L6_step x.1 x.2 v.1 v.2.1 v.2.2) (fun x r => .ret ((cu4 ((), (cu (cu4 (cu16 ()))))), ((r.1, ()), (r.2, ())))) (fun z => (z.1.2.2.2.2.2.2.2.2.2.2.2.2.2.1, z.2.2.1)) (fun z => (z.1.2.2.2.2.2.2.2.2.2.2.2.2.2.2.1, z.2.1.1, z.2.2.2.1)) (fun _ => rfl) (fun _ => rfl) (fun _ _ _ h => h) ?_
  intro x v; kernel_rfl

def text_reader_ctx_T (x0 : Text_reader) : Tree (List Seen × ((Text_reader × Unit) × Unit)) :=
 .bnd (text_reader_word_T x0) fun y1 =>
 .ite (y1.1 == ([95] : Str)) (
 .ret ([], ((y1.2.1.1, ()), ()))) (
 .bnd (strings_Split_T y1.1 ([44] : Str)) fun y2 =>
 .bnd (.loop (fun v => text_reader_ctx_L6_step (y2.length : Int) y2 v.1 v.2.1 v.2.2) (0, y1.2.1.1, ([] : List Seen))) fun r3 =>
 .ret (r3.2, ((r3.1, ()), ())))

def text_reader_ctx_g : MSig := ⟨42, (.cons (.ref 0 0) .nil), (.cells 52 (.cons (.flat tText_reader) .nil) .nil), [.frz 2], (.val false (.list tSeen)), (.cells 52 (.cons (.flat tText_reader) .nil) .nil), none, fun z => text_reader_ctx_T z.2.1.1⟩

theorem text_reader_ctx_ok : text_reader_ctx_g.ok Tryz.prog := by
  refine MSig.lift mix tabOk nms _ Tryz.func42 (c := (bodyOf Tryz.f42)) (by kernel_rfl) (o := orM [strings_Split_g] [text_reader_word_g, text_reader_seen_g] [text_reader_ctx_L6] noFz) (orM_sound ⟨strings_Split_ok, trivial⟩ ⟨text_reader_word_ok, ⟨text_reader_seen_ok, trivial⟩⟩) (allLp_ofM [nthC (loopsOf (bodyOf Tryz.f42)) 0] (by kernel_rfl) ⟨text_reader_ctx_L6_ok, trivial⟩ (by kernel_rfl)) (fun _ => rfl) ?_
  intro z; kernel_rfl

def text_reader_texts___fz : Nat → List Pre
  | 2 => [.unr 5]
  | _ => []

def text_reader_texts___T (x0 : Text_reader) (x1 : Event) : Tree (Unit × ((Text_reader × Unit) × ((Event × Unit) × Unit))) :=
 .ite (decide ((0 : Int) < 4)) (
 .bnd (text_reader_text_T x0) fun y1 =>
 .ite (decide ((w64 ((0 : Int) + 1)) < 4)) (
 .bnd (text_reader_text_T y1.2.1.1) fun y2 =>
 .ite (decide ((w64 ((w64 ((0 : Int) + 1)) + 1)) < 4)) (
 .bnd (text_reader_text_T y2.2.1.1) fun y3 =>
 .ite (decide ((w64 ((w64 ((w64 ((0 : Int) + 1)) + 1)) + 1)) < 4)) (
 .bnd (text_reader_text_T y3.2.1.1) fun y4 =>
 .ite (decide ((w64 ((w64 ((w64 ((w64 ((0 : Int) + 1)) + 1)) + 1)) + 1)) < 4)) (
 ask false <|
 ask false <|
 .bnd (text_reader_text_T y4.2.1.1) fun y5 =>
 ask false <|
 ask false <|
 .fail) (
 .ret ((), ((y4.2.1.1, ()), (((x1.1, (x1.2.1, (x1.2.2.1, (x1.2.2.2.1, (x1.2.2.2.2.1, (x1.2.2.2.2.2.1, (x1.2.2.2.2.2.2.1, (y1.1, (y2.1, (y3.1, (y4.1, x1.2.2.2.2.2.2.2.2.2.2.2))))))))))), ()), ()))))) (
 .ret ((), ((y3.2.1.1, ()), (((x1.1, (x1.2.1, (x1.2.2.1, (x1.2.2.2.1, (x1.2.2.2.2.1, (x1.2.2.2.2.2.1, (x1.2.2.2.2.2.2.1, (y1.1, (y2.1, (y3.1, x1.2.2.2.2.2.2.2.2.2.2)))))))))), ()), ()))))) (
 .ret ((), ((y2.2.1.1, ()), (((x1.1, (x1.2.1, (x1.2.2.1, (x1.2.2.2.1, (x1.2.2.2.2.1, (x1.2.2.2.2.2.1, (x1.2.2.2.2.2.2.1, (y1.1, (y2.1, x1.2.2.2.2.2.2.2.2.2))))))))), ()), ()))))) (
 .ret ((), ((y1.2.1.1, ()), (((x1.1, (x1.2.1, (x1.2.2.1, (x1.2.2.2.1, (x1.2.2.2.2.1, (x1.2.2.2.2.2.1, (x1.2.2.2.2.2.2.1, (y1.1, x1.2.2.2.2.2.2.2.2)))))))), ()), ()))))) (
 .ret ((), ((x0, ()), ((x1, ()), ()))))

def text_reader_texts___g : MSig := ⟨40, (.cons (.ref 0 0) (.cons (.lst (.cons (.ref 1 13) (.cons (.ref 1 14) (.cons (.ref 1 15) (.cons (.ref 1 16) .nil))))) .nil)), (.cells 52 (.cons (.flat tText_reader) .nil) (.cells 31 (.cons (.flat tEvent) .nil) .nil)), [], .nil, (.cells 52 (.cons (.flat tText_reader) .nil) (.cells 31 (.cons (.flat tEvent) .nil) .nil)), none, fun z => text_reader_texts___T z.2.1.1 z.2.2.1.1⟩

theorem text_reader_texts___ok : text_reader_texts___g.ok Tryz.prog := by
  refine MSig.lift mix tabOk nms _ Tryz.func40 (c := (bodyOf Tryz.f40)) (by kernel_rfl) (o := orM [] [text_reader_text_g] [] text_reader_texts___fz) (orM_sound trivial ⟨text_reader_text_ok, trivial⟩) (allLp_ofUM [] (by kernel_rfl) trivial rfl) (fun _ => rfl) ?_
  intro z; kernel_rfl

def text_reader_texts____fz : Nat → List Pre
  | 2 => [.unr 4]
  | _ => []

def text_reader_texts____T (x0 : Text_reader) (x1 : Event) : Tree (Unit × ((Text_reader × Unit) × ((Event × Unit) × Unit))) :=
 .ite (decide ((0 : Int) < 3)) (
 .bnd (text_reader_text_T x0) fun y1 =>
 .ite (decide ((w64 ((0 : Int) + 1)) < 3)) (
 .bnd (text_reader_text_T y1.2.1.1) fun y2 =>
 .ite (decide ((w64 ((w64 ((0 : Int) + 1)) + 1)) < 3)) (
 .bnd (text_reader_text_T y2.2.1.1) fun y3 =>
 .ite (decide ((w64 ((w64 ((w64 ((0 : Int) + 1)) + 1)) + 1)) < 3)) (
 ask false <|
 ask false <|
 .bnd (text_reader_text_T y3.2.1.1) fun y4 =>
 ask false <|
 ask false <|
 .fail) (
 .ret ((), ((y3.2.1.1, ()), (((x1.1, (x1.2.1, (x1.2.2.1, (x1.2.2.2.1, (x1.2.2.2.2.1, (x1.2.2.2.2.2.1, (x1.2.2.2.2.2.2.1, (x1.2.2.2.2.2.2.2.1, (x1.2.2.2.2.2.2.2.2.1, (x1.2.2.2.2.2.2.2.2.2.1, (x1.2.2.2.2.2.2.2.2.2.2.1, (x1.2.2.2.2.2.2.2.2.2.2.2.1, (y1.1, (y2.1, (y3.1, x1.2.2.2.2.2.2.2.2.2.2.2.2.2.2.2))))))))))))))), ()), ()))))) (
 .ret ((), ((y2.2.1.1, ()), (((x1.1, (x1.2.1, (x1.2.2.1, (x1.2.2.2.1, (x1.2.2.2.2.1, (x1.2.2.2.2.2.1, (x1.2.2.2.2.2.2.1, (x1.2.2.2.2.2.2.2.1, (x1.2.2.2.2.2.2.2.2.1, (x1.2.2.2.2.2.2.2.2.2.1, (x1.2.2.2.2.2.2.2.2.2.2.1, (x1.2.2.2.2.2.2.2.2.2.2.2.1, (y1.1, (y2.1, x1.2.2.2.2.2.2.2.2.2.2.2.2.2.2)))))))))))))), ()), ()))))) (
 .ret ((), ((y1.2.1.1, ()), (((x1.1, (x1.2.1, (x1.2.2.1, (x1.2.2.2.1, (x1.2.2.2.2.1, (x1.2.2.2.2.2.1, (x1.2.2.2.2.2.2.1, (x1.2.2.2.2.2.2.2.1, (x1.2.2.2.2.2.2.2.2.1, (x1.2.2.2.2.2.2.2.2.2.1, (x1.2.2.2.2.2.2.2.2.2.2.1, (x1.2.2.2.2.2.2.2.2.2.2.2.1, (y1.1, x1.2.2.2.2.2.2.2.2.2.2.2.2.2))))))))))))), ()), ()))))) (
 .ret ((), ((x0, ()), ((x1, ()), ()))))

def text_reader_texts____g : MSig := ⟨40, (.cons (.ref 0 0) (.cons (.lst (.cons (.ref 1 18) (.cons (.ref 1 19) (.cons (.ref 1 20) .nil)))) .nil)), (.cells 52 (.cons (.flat tText_reader) .nil) (.cells 31 (.cons (.flat tEvent) .nil) .nil)), [], .nil, (.cells 52 (.cons (.flat tText_reader) .nil) (.cells 31 (.cons (.flat tEvent) .nil) .nil)), none, fun z => text_reader_texts____T z.2.1.1 z.2.2.1.1⟩

theorem text_reader_texts____ok : text_reader_texts____g.ok Tryz.prog := by
  refine MSig.lift mix tabOk nms _ Tryz.func40 (c := (bodyOf Tryz.f40)) (by kernel_rfl) (o := orM [] [text_reader_text_g] [] text_reader_texts____fz) (orM_sound trivial ⟨text_reader_text_ok, trivial⟩) (allLp_ofUM [] (by kernel_rfl) trivial rfl) (fun _ => rfl) ?_
  intro z; kernel_rfl

def text_reader_event_fz : Nat → List Pre
  | 8 => [.two]
  | 14 => [.two]
  | 16 => [.two]
  | _ => []

def text_reader_event_T (x0 : Text_reader) : Tree (Event × ((Text_reader × Unit) × Unit)) :=
 .bnd (text_reader_kind_T x0) fun y1 =>
 .bnd (text_reader_texts_T y1.2.1.1 (y1.1, ([], ([], ([], (0, ((0, ([], ([], ([], ([], ([], 0)))))), (0, ([], ([], ([], ([], (0, ([], ([], ([], false)))))))))))))))) fun y2 =>
 .bnd (text_reader_number_T y2.2.1.1) fun y3 =>
 .ite (decide (y2.2.2.1.1.1 = 1)) (
 .bnd (text_reader_number_T y3.2.1.1) fun y4 =>
 .bnd (text_reader_texts__T y4.2.1.1 (y2.2.2.1.1.1, (y2.2.2.1.1.2.1, (y2.2.2.1.1.2.2.1, (y2.2.2.1.1.2.2.2.1, (y3.1, ((y4.1, y2.2.2.1.1.2.2.2.2.2.1.2), y2.2.2.1.1.2.2.2.2.2.2))))))) fun y5 =>
 .bnd (text_reader_ctx_T y5.2.1.1) fun y6 =>
 .bnd (text_reader_number_T y6.2.1.1) fun y7 =>
 .ret ((y5.2.2.1.1.1, (y5.2.2.1.1.2.1, (y5.2.2.1.1.2.2.1, (y5.2.2.1.1.2.2.2.1, (y5.2.2.1.1.2.2.2.2.1, ((y5.2.2.1.1.2.2.2.2.2.1.1, (y5.2.2.1.1.2.2.2.2.2.1.2.1, (y5.2.2.1.1.2.2.2.2.2.1.2.2.1, (y5.2.2.1.1.2.2.2.2.2.1.2.2.2.1, (y5.2.2.1.1.2.2.2.2.2.1.2.2.2.2.1, (y6.1, y7.1)))))), y5.2.2.1.1.2.2.2.2.2.2)))))), ((y7.2.1.1, ()), ()))) (
 .ite (decide (y2.2.2.1.1.1 = 14)) (
 .bnd (text_reader_number_T y3.2.1.1) fun y8 =>
 .bnd (text_reader_texts___T y8.2.1.1 (y2.2.2.1.1.1, (y2.2.2.1.1.2.1, (y2.2.2.1.1.2.2.1, (y2.2.2.1.1.2.2.2.1, (y3.1, (y2.2.2.1.1.2.2.2.2.2.1, (y8.1, y2.2.2.1.1.2.2.2.2.2.2.2)))))))) fun y9 =>
 .bnd (text_reader_number_T y9.2.1.1) fun y10 =>
 .bnd (text_reader_texts____T y10.2.1.1 (y9.2.2.1.1.1, (y9.2.2.1.1.2.1, (y9.2.2.1.1.2.2.1, (y9.2.2.1.1.2.2.2.1, (y9.2.2.1.1.2.2.2.2.1, (y9.2.2.1.1.2.2.2.2.2.1, (y9.2.2.1.1.2.2.2.2.2.2.1, (y9.2.2.1.1.2.2.2.2.2.2.2.1, (y9.2.2.1.1.2.2.2.2.2.2.2.2.1, (y9.2.2.1.1.2.2.2.2.2.2.2.2.2.1, (y9.2.2.1.1.2.2.2.2.2.2.2.2.2.2.1, (y10.1, y9.2.2.1.1.2.2.2.2.2.2.2.2.2.2.2.2))))))))))))) fun y11 =>
 .bnd (text_reader_word_T y11.2.1.1) fun y12 =>
 .ret ((y11.2.2.1.1.1, (y11.2.2.1.1.2.1, (y11.2.2.1.1.2.2.1, (y11.2.2.1.1.2.2.2.1, (y11.2.2.1.1.2.2.2.2.1, (y11.2.2.1.1.2.2.2.2.2.1, (y11.2.2.1.1.2.2.2.2.2.2.1, (y11.2.2.1.1.2.2.2.2.2.2.2.1, (y11.2.2.1.1.2.2.2.2.2.2.2.2.1, (y11.2.2.1.1.2.2.2.2.2.2.2.2.2.1, (y11.2.2.1.1.2.2.2.2.2.2.2.2.2.2.1, (y11.2.2.1.1.2.2.2.2.2.2.2.2.2.2.2.1, (y11.2.2.1.1.2.2.2.2.2.2.2.2.2.2.2.2.1, (y11.2.2.1.1.2.2.2.2.2.2.2.2.2.2.2.2.2.1, (y11.2.2.1.1.2.2.2.2.2.2.2.2.2.2.2.2.2.2.1, (y12.1 == ([117, 112] : Str))))))))))))))))), ((y12.2.1.1, ()), ()))) (
 .ret ((y2.2.2.1.1.1, (y2.2.2.1.1.2.1, (y2.2.2.1.1.2.2.1, (y2.2.2.1.1.2.2.2.1, (y3.1, y2.2.2.1.1.2.2.2.2.2))))), ((y3.2.1.1, ()), ()))))

def text_reader_event_g : MSig := ⟨19, (.cons (.ref 0 0) .nil), (.cells 52 (.cons (.flat tText_reader) .nil) .nil), [], (.val true tEvent), (.cells 52 (.cons (.flat tText_reader) .nil) .nil), none, fun z => text_reader_event_T z.2.1.1⟩

theorem text_reader_event_ok : text_reader_event_g.ok Tryz.prog := by
  refine MSig.lift mix tabOk nms _ Tryz.func19 (c := (bodyOf Tryz.f19)) (by kernel_rfl) (o := orM [] [text_reader_kind_g, text_reader_texts_g, text_reader_number_g, text_reader_texts__g, text_reader_ctx_g, text_reader_texts___g, text_reader_texts____g, text_reader_word_g] [] text_reader_event_fz) (orM_sound trivial ⟨text_reader_kind_ok, ⟨text_reader_texts_ok, ⟨text_reader_number_ok, ⟨text_reader_texts__ok, ⟨text_reader_ctx_ok, ⟨text_reader_texts___ok, ⟨text_reader_texts____ok, ⟨text_reader_word_ok, trivial⟩⟩⟩⟩⟩⟩⟩⟩) (allLp_ofM [] (by kernel_rfl) trivial rfl) (fun _ => rfl) ?_
  intro z; kernel_rfl

def text_Parse_fz : Nat → List Pre
  | 2 => [.frz 1]
  | _ => []

def text_Parse_T (x0 : Str) : Tree (Event × Int × Unit) :=
 .bnd (strings_Split_T x0 ([32] : Str)) fun y1 =>
 .bnd (text_reader_event_T (y1, false)) fun y2 =>
 .grd (!y2.2.1.1.2) (text_Line_T y2.1) ([] : Str) fun y3 =>
 .ite (y2.2.1.1.2 || (!(y3 == x0))) (
 .ret ((0, ([], ([], ([], (0, ((0, ([], ([], ([], ([], ([], 0)))))), (0, ([], ([], ([], ([], (0, ([], ([], ([], false))))))))))))))), 3, ())) (
 .ret (y2.1, 0, ()))

def text_Parse_g : Sig := ⟨6, (.cons (.val false .str) .nil), .vals (.cons (.val true tEvent) (.cons (.val false (.int .i64)) .nil)), fun z => text_Parse_T z.1, ((dfl tEvent : Event), (0 : Int), ())⟩

theorem text_Parse_ok : text_Parse_g.ok Tryz.prog := by
  refine Sig.lift mix tabOk nms _ Tryz.func6 (c := (bodyOf Tryz.f6)) (by kernel_rfl) (o := orM [strings_Split_g, text_Line_g] [text_reader_event_g] [] text_Parse_fz) (orM_sound ⟨strings_Split_ok, ⟨text_Line_ok, trivial⟩⟩ ⟨text_reader_event_ok, trivial⟩) (allLp_ofM [] (by kernel_rfl) trivial rfl) ?_
  intro z; kernel_rfl

def text_ParseAll_L5_step (lines : List Str) (last : Int) (t : List Str) (t2 : Int) (t3 : Int) (out : List Event) : Tree ((Int × (List Event)) ⊕ (((List Event) × Int × Int) ⊕ List Event)) :=
 .ite (decide (t3 < t2)) (
 ask (inb t3 t.length) <|
 .bnd (text_Parse_T (t.getD t3.toNat ([] : Str))) fun y1 =>
 .ite (!decide (y1.2.1 = 0)) (
 .ret (.inr (.inl ([], (w64 (t3 + 1)), 3)))) (
 ask (decide ((out ++ [y1.1]).length * 304 ≤ roomNat)) <|
 .ret (.inl ((w64 (t3 + 1)), (out ++ [y1.1]))))) (
 .ret (.inr (.inr out)))

def text_ParseAll_L5 : Lp := ⟨5, [.own 7 31 tEvent, .frz 0], [], (ca (ca4 (.cons (.val false (.list .str)) (.cons (.val false (.int .i64)) (.cons (.own 1) (ca (ca2 (ca8 (.cons (.val false (.list .str)) (.cons (.val false (.int .i64)) (.cons (.val false (.int .i64)) (ca2 (ca8 (ca16 .nil)))))))))))))), (.dead (.rows 31 tEvent .nil)), 0, .more 0 [] (ca2 (.cons (.val false (.list tEvent)) (.cons (.val false (.int .i64)) (.cons (.val false (.int .i64)) (ca (ca2 (ca8 (ca32 .nil)))))))) .nil (.one 1 [] (ca (ca4 (.cons (.val false (.list .str)) (.cons (.val false (.int .i64)) (.cons (.own 1) (ca8 (ca32 .nil))))))) (.dead (.rows 31 tEvent .nil))), fun z => .bnd (.loop (fun v => text_ParseAll_L5_step z.1.2.2.2.2.2.1 z.1.2.2.2.2.2.2.1 z.1.2.2.2.2.2.2.2.2.2.2.2.2.2.2.2.2.2.2.2.1 z.1.2.2.2.2.2.2.2.2.2.2.2.2.2.2.2.2.2.2.2.2.1 v.1 v.2) (z.1.2.2.2.2.2.2.2.2.2.2.2.2.2.2.2.2.2.2.2.2.2.1, z.2.1)) fun r => .sum r (fun a0 => .ret (.inl ((cu2 (a0.1, (a0.2.1, (a0.2.2, (cu (cu2 (cu8 (cu32 ())))))))), ()))) (fun b0 => .ret (.inr ((cu (cu4 (z.1.2.2.2.2.2.1, (z.1.2.2.2.2.2.2.1, ((), (cu8 (cu32 ()))))))), (b0, ()))))⟩

theorem text_ParseAll_L5_ok : text_ParseAll_L5.ok Tryz.prog (nthC (loopsOf (bodyOf Tryz.f8)) 0) := by
  refine Lp.lift (π := ((List Str) × Int × (List Str) × Int)) (V := (Int × (List Event))) (ρ := (((List Event) × Int × Int) ⊕ List Event)) mix tabOk text_ParseAll_L5 (o := orT [strings_Split_g, text_Parse_g] [] noFz) (orT_sound ⟨strings_Split_ok, ⟨text_Parse_ok, trivial⟩⟩) (allLp_of [] (by kernel_rfl) trivial rfl) (fun x v => ((cu (cu4 (x.1, (x.2.1, ((), (cu (cu2 (cu8 (x.2.2.1, (x.2.2.2, (v.1, (cu2 (cu8 (cu16 ())))))))))))))), (v.2, ()))) (fun x r => match r with | .inl a0 => .inl ((cu2 (a0.1, (a0.2.1, (a0.2.2, (cu (cu2 (cu8 (cu32 ())))))))), ()) | .inr b0 => (.inr ((cu (cu4 (x.1, (x.2.1, ((), (cu8 (cu32 ()))))))), (b0, ())))) (fun x v => text_ParseAll_L5_step x.1 x.2.1 x.2.2.1 x.2.2.2 v.1 v.2) (fun x r => .sum r (fun a0 => .ret (.inl ((cu2 (a0.1, (a0.2.1, (a0.2.2, (cu (cu2 (cu8 (cu32 ())))))))), ()))) (fun b0 => .ret (.inr ((cu (cu4 (x.1, (x.2.1, ((), (cu8 (cu32 ()))))))), (b0, ()))))) (fun z => (z.1.2.2.2.2.2.1, z.1.2.2.2.2.2.2.1, z.1.2.2.2.2.2.2.2.2.2.2.2.2.2.2.2.2.2.2.2.1, z.1.2.2.2.2.2.2.2.2.2.2.2.2.2.2.2.2.2.2.2.2.1)) (fun z => (z.1.2.2.2.2.2.2.2.2.2.2.2.2.2.2.2.2.2.2.2.2.2.1, z.2.1)) (fun _ => rfl) (fun _ => rfl) (fun x r Q h => match r, h with | .inl _, h => h | .inr b0, h => (h)) ?_
  intro x v; kernel_rfl

def text_ParseAll_T (x0 : Str) : Tree ((List Event) × Int × Int × Unit) :=
 .bnd (strings_Split_T x0 ([10] : Str)) fun y1 =>
 ask (inbe (w64 ((y1.length : Int) - 1)) y1.length) <|
 .bnd (.loop (fun v => text_ParseAll_L5_step y1 (w64 ((y1.length : Int) - 1)) (y1.take ((w64 ((y1.length : Int) - 1)).toNat)) (((w64 ((y1.length : Int) - 1)).toNat : Nat) : Int) v.1 v.2) (0, ([] : List Event))) fun r2 =>
 .sum r2 (fun r3 =>
 .ret (r3.1, r3.2.1, r3.2.2, ())) (fun r4 =>
 ask (inb (w64 ((y1.length : Int) - 1)) y1.length) <|
 .ite (!((y1.getD ((w64 ((y1.length : Int) - 1)).toNat) ([] : Str)) == ([] : Str))) (
 .ret ([], (w64 ((w64 ((y1.length : Int) - 1)) + 1)), 3, ())) (
 .ret (r4, 0, 0, ())))

def text_ParseAll_g : Sig := ⟨8, (.cons (.val false .str) .nil), .vals (.cons (.val false (.list tEvent)) (.cons (.val false (.int .i64)) (.cons (.val false (.int .i64)) .nil))), fun z => text_ParseAll_T z.1, (([] : List Event), (0 : Int), (0 : Int), ())⟩

theorem text_ParseAll_ok : text_ParseAll_g.ok Tryz.prog := by
  refine Sig.lift mix tabOk nms _ Tryz.func8 (c := (bodyOf Tryz.f8)) (by kernel_rfl) (o := orT [strings_Split_g, text_Parse_g] [text_ParseAll_L5] noFz) (orT_sound ⟨strings_Split_ok, ⟨text_Parse_ok, trivial⟩⟩) (allLp_of [nthC (loopsOf (bodyOf Tryz.f8)) 0] (by kernel_rfl) ⟨text_ParseAll_L5_ok, trivial⟩ (by kernel_rfl)) ?_
  intro z; kernel_rfl

def r06_SameInts_L4_step (a : List Int) (b : List Int) (i : Int) : Tree (Int ⊕ (Bool ⊕ Unit)) :=
 .ite ((decide (i < (a.length : Int))) && (decide (i < (b.length : Int)))) (
 ask (inb i a.length) <|
 ask (inb i b.length) <|
 .ite (!decide ((a.getD i.toNat (0 : Int)) = (b.getD i.toNat (0 : Int)))) (
 .ret (.inr (.inl false))) (
 .ret (.inl (w64 (i + 1))))) (
 .ret (.inr (.inr ())))

def r06_SameInts_L4 : Lp := ⟨4, [], [], (.cons (.val false (.list (.int .i64))) (.cons (.val false (.list (.int .i64))) (ca (ca2 (.cons (.val false (.int .i64)) (ca2 (ca8 (ca16 .nil)))))))), .nil, 0, .more 0 [] (ca4 (.cons (.val false .bool) (ca (ca2 (ca8 (ca16 .nil)))))) .nil (.one 1 [] (ca32 .nil) .nil), fun z => .bnd (.loop (fun v => r06_SameInts_L4_step z.1.1 z.1.2.1 v) z.1.2.2.2.2.2.1) fun r => .sum r (fun a0 => .ret (.inl ((cu4 (a0, (cu (cu2 (cu8 (cu16 ())))))), ()))) (fun b0 => .ret (.inr ((cu32 ()), ())))⟩

theorem r06_SameInts_L4_ok : r06_SameInts_L4.ok Tryz.prog (nthC (loopsOf (bodyOf Tryz.f84)) 0) := by
  refine Lp.lift (π := ((List Int) × (List Int))) (V := Int) (ρ := (Bool ⊕ Unit)) mix tabOk r06_SameInts_L4 (o := orT [] [] noFz) (orT_sound trivial) (allLp_of [] (by kernel_rfl) trivial rfl) (fun x v => ((x.1, (x.2, (cu (cu2 (v, (cu2 (cu8 (cu16 ())))))))), ())) (fun x r => match r with | .inl a0 => .inl ((cu4 (a0, (cu (cu2 (cu8 (cu16 ())))))), ()) | .inr b0 => (.inr ((cu32 ()), ()))) (fun x v => r06_SameInts_L4_step x.1 x.2 v) (fun x r => .sum r (fun a0 => .ret (.inl ((cu4 (a0, (cu (cu2 (cu8 (cu16 ())))))), ()))) (fun b0 => .ret (.inr ((cu32 ()), ())))) (fun z => (z.1.1, z.1.2.1)) (fun z => z.1.2.2.2.2.2.1) (fun _ => rfl) (fun _ => rfl) (fun x r Q h => match r, h with | .inl _, h => h | .inr b0, h => (h)) ?_
  intro x v; kernel_rfl

def r06_SameInts_T (x0 : List Int) (x1 : List Int) : Tree Bool :=
 .ite (!decide ((x0.length : Int) = (x1.length : Int))) (
 .ret false) (
 .bnd (.loop (fun v => r06_SameInts_L4_step x0 x1 v) 0) fun r1 =>
 .sum r1 (fun r2 =>
 .ret r2) (fun r3 =>
 .ret true))

def r06_SameInts_g : Sig := ⟨84, (.cons (.val false (.list (.int .i64))) (.cons (.val false (.list (.int .i64))) .nil)), .vals (.val false .bool), fun z => r06_SameInts_T z.1 z.2.1, false⟩

theorem r06_SameInts_ok : r06_SameInts_g.ok Tryz.prog := by
  refine Sig.lift mix tabOk nms _ Tryz.func84 (c := (bodyOf Tryz.f84)) (by kernel_rfl) (o := orT [] [r06_SameInts_L4] noFz) (orT_sound trivial) (allLp_of [nthC (loopsOf (bodyOf Tryz.f84)) 0] (by kernel_rfl) ⟨r06_SameInts_L4_ok, trivial⟩ (by kernel_rfl)) ?_
  intro z; kernel_rfl

def r06_Same_L4_step (a : List Seen) (b : List Seen) (i : Int) : Tree (Int ⊕ (Bool ⊕ Unit)) :=
 .ite ((decide (i < (a.length : Int))) && (decide (i < (b.length : Int)))) (
 ask (inb i a.length) <|
 ask (inb i b.length) <|
 ask ((!(!(!((a.getD i.toNat (dfl tSeen : Seen)).1 == (b.getD i.toNat (dfl tSeen : Seen)).1)))) || inb i a.length) <|
 ask ((!(!(!((a.getD i.toNat (dfl tSeen : Seen)).1 == (b.getD i.toNat (dfl tSeen : Seen)).1)))) || inb i b.length) <|
 ask ((!(!((!((a.getD i.toNat (dfl tSeen : Seen)).1 == (b.getD i.toNat (dfl tSeen : Seen)).1)) || (!decide ((a.getD i.toNat (dfl tSeen : Seen)).2.1 = (b.getD i.toNat (dfl tSeen : Seen)).2.1))))) || inb i a.length) <|
 ask ((!(!((!((a.getD i.toNat (dfl tSeen : Seen)).1 == (b.getD i.toNat (dfl tSeen : Seen)).1)) || (!decide ((a.getD i.toNat (dfl tSeen : Seen)).2.1 = (b.getD i.toNat (dfl tSeen : Seen)).2.1))))) || inb i b.length) <|
 .grd (!((!((a.getD i.toNat (dfl tSeen : Seen)).1 == (b.getD i.toNat (dfl tSeen : Seen)).1)) || (!decide ((a.getD i.toNat (dfl tSeen : Seen)).2.1 = (b.getD i.toNat (dfl tSeen : Seen)).2.1)))) (r06_SameInts_T (a.getD i.toNat (dfl tSeen : Seen)).2.2 (b.getD i.toNat (dfl tSeen : Seen)).2.2) false fun y1 =>
 .ite (((!((a.getD i.toNat (dfl tSeen : Seen)).1 == (b.getD i.toNat (dfl tSeen : Seen)).1)) || (!decide ((a.getD i.toNat (dfl tSeen : Seen)).2.1 = (b.getD i.toNat (dfl tSeen : Seen)).2.1))) || (!y1)) (
 .ret (.inr (.inl false))) (
 .ret (.inl (w64 (i + 1))))) (
 .ret (.inr (.inr ())))

def r06_Same_L4 : Lp := ⟨4, [], [], (.cons (.val false (.list tSeen)) (.cons (.val false (.list tSeen)) (ca (ca2 (.cons (.val false (.int .i64)) (ca (ca2 (ca4 (ca16 (ca32 .nil)))))))))), .nil, 0, .more 0 [] (ca4 (.cons (.val false .bool) (ca8 (ca16 (ca32 .nil))))) .nil (.one 1 [] (ca (ca4 (ca8 (ca16 (ca32 .nil))))) .nil), fun z => .bnd (.loop (fun v => r06_Same_L4_step z.1.1 z.1.2.1 v) z.1.2.2.2.2.2.1) fun r => .sum r (fun a0 => .ret (.inl ((cu4 (a0, (cu8 (cu16 (cu32 ()))))), ()))) (fun b0 => .ret (.inr ((cu (cu4 (cu8 (cu16 (cu32 ()))))), ())))⟩

theorem r06_Same_L4_ok : r06_Same_L4.ok Tryz.prog (nthC (loopsOf (bodyOf Tryz.f71)) 0) := by
  refine Lp.lift (π := ((List Seen) × (List Seen))) (V := Int) (ρ := (Bool ⊕ Unit)) mix tabOk r06_Same_L4 (o := orT [r06_SameInts_g] [] noFz) (orT_sound ⟨r06_SameInts_ok, trivial⟩) (allLp_of [] (by kernel_rfl) trivial rfl) (fun x v => ((x.1, (x.2, (cu (cu2 (v, (cu (cu2 (cu4 (cu16 (cu32 ())))))))))), ())) (fun x r => match r with | .inl a0 => .inl ((cu4 (a0, (cu8 (cu16 (cu32 ()))))), ()) | .inr b0 => (.inr ((cu (cu4 (cu8 (cu16 (cu32 ()))))), ()))) (fun x v => r06_Same_L4_step x.1 x.2 v) (fun x r => .sum r (fun a0 => .ret (.inl ((cu4 (a0, (cu8 (cu16 (cu32 ()))))), ()))) (fun b0 => .ret (.inr ((cu (cu4 (cu8 (cu16 (cu32 ()))))), ())))) (fun z => (z.1.1, z.1.2.1)) (fun z => z.1.2.2.2.2.2.1) (fun _ => rfl) (fun _ => rfl) (fun x r Q h => match r, h with | .inl _, h => h | .inr b0, h => (h)) ?_
  intro x v; kernel_rfl

def r06_Same_T (x0 : List Seen) (x1 : List Seen) : Tree Bool :=
 .ite (!decide ((x0.length : Int) = (x1.length : Int))) (
 .ret false) (
 .bnd (.loop (fun v => r06_Same_L4_step x0 x1 v) 0) fun r1 =>
 .sum r1 (fun r2 =>
 .ret r2) (fun r3 =>
 .ret true))

def r06_Same_g : Sig := ⟨71, (.cons (.val false (.list tSeen)) (.cons (.val false (.list tSeen)) .nil)), .vals (.val false .bool), fun z => r06_Same_T z.1 z.2.1, false⟩

theorem r06_Same_ok : r06_Same_g.ok Tryz.prog := by
  refine Sig.lift mix tabOk nms _ Tryz.func71 (c := (bodyOf Tryz.f71)) (by kernel_rfl) (o := orT [r06_SameInts_g] [r06_Same_L4] noFz) (orT_sound ⟨r06_SameInts_ok, trivial⟩) (allLp_of [nthC (loopsOf (bodyOf Tryz.f71)) 0] (by kernel_rfl) ⟨r06_Same_L4_ok, trivial⟩ (by kernel_rfl)) ?_
  intro z; kernel_rfl

def r07_SameSibs_L4_step (a : List Sib) (b : List Sib) (i : Int) : Tree (Int ⊕ (Bool ⊕ Unit)) :=
 .ite ((decide (i < (a.length : Int))) && (decide (i < (b.length : Int)))) (
 ask (inb i a.length) <|
 ask (inb i b.length) <|
 .ite (!((((a.getD i.toNat (dfl tSib : Sib)).1.1 == (b.getD i.toNat (dfl tSib : Sib)).1.1) && ((decide ((a.getD i.toNat (dfl tSib : Sib)).1.2 = (b.getD i.toNat (dfl tSib : Sib)).1.2)) && true)) && (((a.getD i.toNat (dfl tSib : Sib)).2.1 == (b.getD i.toNat (dfl tSib : Sib)).2.1) && (((a.getD i.toNat (dfl tSib : Sib)).2.2.1 == (b.getD i.toNat (dfl tSib : Sib)).2.2.1) && ((decide ((a.getD i.toNat (dfl tSib : Sib)).2.2.2 = (b.getD i.toNat (dfl tSib : Sib)).2.2.2)) && true))))) (
 .ret (.inr (.inl false))) (
 .ret (.inl (w64 (i + 1))))) (
 .ret (.inr (.inr ())))

def r07_SameSibs_L4 : Lp := ⟨4, [], [], (.cons (.val false (.list tSib)) (.cons (.val false (.list tSib)) (ca (ca2 (.cons (.val false (.int .i64)) (ca2 (ca8 (ca16 .nil)))))))), .nil, 0, .more 0 [] (ca4 (.cons (.val false .bool) (ca (ca2 (ca8 (ca16 .nil)))))) .nil (.one 1 [] (ca32 .nil) .nil), fun z => .bnd (.loop (fun v => r07_SameSibs_L4_step z.1.1 z.1.2.1 v) z.1.2.2.2.2.2.1) fun r => .sum r (fun a0 => .ret (.inl ((cu4 (a0, (cu (cu2 (cu8 (cu16 ())))))), ()))) (fun b0 => .ret (.inr ((cu32 ()), ())))⟩

theorem r07_SameSibs_L4_ok : r07_SameSibs_L4.ok Tryz.prog (nthC (loopsOf (bodyOf Tryz.f72)) 0) := by
  refine Lp.lift (π := ((List Sib) × (List Sib))) (V := Int) (ρ := (Bool ⊕ Unit)) mix tabOk r07_SameSibs_L4 (o := orT [] [] noFz) (orT_sound trivial) (allLp_of [] (by kernel_rfl) trivial rfl) (fun x v => ((x.1, (x.2, (cu (cu2 (v, (cu2 (cu8 (cu16 ())))))))), ())) (fun x r => match r with | .inl a0 => .inl ((cu4 (a0, (cu (cu2 (cu8 (cu16 ())))))), ()) | .inr b0 => (.inr ((cu32 ()), ()))) (fun x v => r07_SameSibs_L4_step x.1 x.2 v) (fun x r => .sum r (fun a0 => .ret (.inl ((cu4 (a0, (cu (cu2 (cu8 (cu16 ())))))), ()))) (fun b0 => .ret (.inr ((cu32 ()), ())))) (fun z => (z.1.1, z.1.2.1)) (fun z => z.1.2.2.2.2.2.1) (fun _ => rfl) (fun _ => rfl) (fun x r Q h => match r, h with | .inl _, h => h | .inr b0, h => (h)) ?_
  intro x v; kernel_rfl

def r07_SameSibs_T (x0 : List Sib) (x1 : List Sib) : Tree Bool :=
 .ite (!decide ((x0.length : Int) = (x1.length : Int))) (
 .ret false) (
 .bnd (.loop (fun v => r07_SameSibs_L4_step x0 x1 v) 0) fun r1 =>
 .sum r1 (fun r2 =>
 .ret r2) (fun r3 =>
 .ret true))

def r07_SameSibs_g : Sig := ⟨72, (.cons (.val false (.list tSib)) (.cons (.val false (.list tSib)) .nil)), .vals (.val false .bool), fun z => r07_SameSibs_T z.1 z.2.1, false⟩

theorem r07_SameSibs_ok : r07_SameSibs_g.ok Tryz.prog := by
  refine Sig.lift mix tabOk nms _ Tryz.func72 (c := (bodyOf Tryz.f72)) (by kernel_rfl) (o := orT [] [r07_SameSibs_L4] noFz) (orT_sound trivial) (allLp_of [nthC (loopsOf (bodyOf Tryz.f72)) 0] (by kernel_rfl) ⟨r07_SameSibs_L4_ok, trivial⟩ (by kernel_rfl)) ?_
  intro z; kernel_rfl

def r07_Same_T (x0 : Obj) (x1 : Obj) : Tree Bool :=
 .bnd (r06_Same_T x0.1 x1.1) fun y1 =>
 .grd y1 (r07_SameSibs_T x0.2 x1.2) false fun y2 =>
 .ret (y1 && y2)

def r07_Same_g : Sig := ⟨52, (.cons (.val true tObj) (.cons (.val true tObj) .nil)), .vals (.val false .bool), fun z => r07_Same_T z.1 z.2.1, false⟩

theorem r07_Same_ok : r07_Same_g.ok Tryz.prog := by
  refine Sig.lift mix tabOk nms _ Tryz.func52 (c := (bodyOf Tryz.f52)) (by kernel_rfl) (o := orT [r06_Same_g, r07_SameSibs_g] [] noFz) (orT_sound ⟨r06_Same_ok, ⟨r07_SameSibs_ok, trivial⟩⟩) (allLp_of [] (by kernel_rfl) trivial rfl) ?_
  intro z; kernel_rfl

def r45_SameCalls_L4_step (a : List Call) (b : List Call) (i : Int) : Tree (Int ⊕ (Bool ⊕ Unit)) :=
 .ite ((decide (i < (a.length : Int))) && (decide (i < (b.length : Int)))) (
 ask (inb i a.length) <|
 ask (inb i b.length) <|
 .both (
 .grd (!((((((!decide ((a.getD i.toNat (dfl tCall : Call)).1 = (b.getD i.toNat (dfl tCall : Call)).1)) || (!((a.getD i.toNat (dfl tCall : Call)).2.1 == (b.getD i.toNat (dfl tCall : Call)).2.1))) || (!((a.getD i.toNat (dfl tCall : Call)).2.2.1 == (b.getD i.toNat (dfl tCall : Call)).2.2.1))) || (!((a.getD i.toNat (dfl tCall : Call)).2.2.2.1 == (b.getD i.toNat (dfl tCall : Call)).2.2.2.1))) || (!((a.getD i.toNat (dfl tCall : Call)).2.2.2.2.1 == (b.getD i.toNat (dfl tCall : Call)).2.2.2.2.1))) || (!decide ((a.getD i.toNat (dfl tCall : Call)).2.2.2.2.2.2 = (b.getD i.toNat (dfl tCall : Call)).2.2.2.2.2.2)))) (r07_Same_T ((a.getD i.toNat (dfl tCall : Call)).2.2.2.2.2.1, []) ((b.getD i.toNat (dfl tCall : Call)).2.2.2.2.2.1, [])) false fun y2 =>
 .ite (((((((!decide ((a.getD i.toNat (dfl tCall : Call)).1 = (b.getD i.toNat (dfl tCall : Call)).1)) || (!((a.getD i.toNat (dfl tCall : Call)).2.1 == (b.getD i.toNat (dfl tCall : Call)).2.1))) || (!((a.getD i.toNat (dfl tCall : Call)).2.2.1 == (b.getD i.toNat (dfl tCall : Call)).2.2.1))) || (!((a.getD i.toNat (dfl tCall : Call)).2.2.2.1 == (b.getD i.toNat (dfl tCall : Call)).2.2.2.1))) || (!((a.getD i.toNat (dfl tCall : Call)).2.2.2.2.1 == (b.getD i.toNat (dfl tCall : Call)).2.2.2.2.1))) || (!decide ((a.getD i.toNat (dfl tCall : Call)).2.2.2.2.2.2 = (b.getD i.toNat (dfl tCall : Call)).2.2.2.2.2.2))) || (!y2)) (
 .ret (.inr (.inl false))) (
 .ret (.inl (w64 (i + 1))))) (
 .grd (!((((((!decide ((a.getD i.toNat (dfl tCall : Call)).1 = (b.getD i.toNat (dfl tCall : Call)).1)) || (!((a.getD i.toNat (dfl tCall : Call)).2.1 == (b.getD i.toNat (dfl tCall : Call)).2.1))) || (!((a.getD i.toNat (dfl tCall : Call)).2.2.1 == (b.getD i.toNat (dfl tCall : Call)).2.2.1))) || (!((a.getD i.toNat (dfl tCall : Call)).2.2.2.1 == (b.getD i.toNat (dfl tCall : Call)).2.2.2.1))) || (!((a.getD i.toNat (dfl tCall : Call)).2.2.2.2.1 == (b.getD i.toNat (dfl tCall : Call)).2.2.2.2.1))) || (!decide ((a.getD i.toNat (dfl tCall : Call)).2.2.2.2.2.2 = (b.getD i.toNat (dfl tCall : Call)).2.2.2.2.2.2)))) (r07_Same_T ((a.getD i.toNat (dfl tCall : Call)).2.2.2.2.2.1, []) ((b.getD i.toNat (dfl tCall : Call)).2.2.2.2.2.1, [])) false fun y1 =>
 .ite (((((((!decide ((a.getD i.toNat (dfl tCall : Call)).1 = (b.getD i.toNat (dfl tCall : Call)).1)) || (!((a.getD i.toNat (dfl tCall : Call)).2.1 == (b.getD i.toNat (dfl tCall : Call)).2.1))) || (!((a.getD i.toNat (dfl tCall : Call)).2.2.1 == (b.getD i.toNat (dfl tCall : Call)).2.2.1))) || (!((a.getD i.toNat (dfl tCall : Call)).2.2.2.1 == (b.getD i.toNat (dfl tCall : Call)).2.2.2.1))) || (!((a.getD i.toNat (dfl tCall : Call)).2.2.2.2.1 == (b.getD i.toNat (dfl tCall : Call)).2.2.2.2.1))) || (!decide ((a.getD i.toNat (dfl tCall : Call)).2.2.2.2.2.2 = (b.getD i.toNat (dfl tCall : Call)).2.2.2.2.2.2))) || (!y1)) (
 .ret (.inr (.inl false))) (
 .ret (.inl (w64 (i + 1)))))) (
 .ret (.inr (.inr ())))

def r45_SameCalls_L4 : Lp := ⟨4, [], [], (.cons (.val false (.list tCall)) (.cons (.val false (.list tCall)) (ca (ca2 (.cons (.val false (.int .i64)) (ca (ca4 (ca8 (ca32 (ca32 .nil)))))))))), .nil, 0, .more 0 [] (ca4 (.cons (.val false .bool) (ca2 (ca4 (ca8 (ca32 (ca32 .nil))))))) .nil (.one 1 [] (ca (ca2 (ca16 (ca32 (ca32 .nil))))) .nil), fun z => .bnd (.loop (fun v => r45_SameCalls_L4_step z.1.1 z.1.2.1 v) z.1.2.2.2.2.2.1) fun r => .sum r (fun a0 => .ret (.inl ((cu4 (a0, (cu2 (cu4 (cu8 (cu32 (cu32 ()))))))), ()))) (fun b0 => .ret (.inr ((cu (cu2 (cu16 (cu32 (cu32 ()))))), ())))⟩

theorem r45_SameCalls_L4_ok : r45_SameCalls_L4.ok Tryz.prog (nthC (loopsOf (bodyOf Tryz.f26)) 0) := by
  refine Lp.lift (π := ((List Call) × (List Call))) (V := Int) (ρ := (Bool ⊕ Unit)) mix tabOk r45_SameCalls_L4 (o := orT [r07_Same_g] [] noFz) (orT_sound ⟨r07_Same_ok, trivial⟩) (allLp_of [] (by kernel_rfl) trivial rfl) (fun x v => ((x.1, (x.2, (cu (cu2 (v, (cu (cu4 (cu8 (cu32 (cu32 ())))))))))), ())) (fun x r => match r with | .inl a0 => .inl ((cu4 (a0, (cu2 (cu4 (cu8 (cu32 (cu32 ()))))))), ()) | .inr b0 => (.inr ((cu (cu2 (cu16 (cu32 (cu32 ()))))), ()))) (fun x v => r45_SameCalls_L4_step x.1 x.2 v) (fun x r => .sum r (fun a0 => .ret (.inl ((cu4 (a0, (cu2 (cu4 (cu8 (cu32 (cu32 ()))))))), ()))) (fun b0 => .ret (.inr ((cu (cu2 (cu16 (cu32 (cu32 ()))))), ())))) (fun z => (z.1.1, z.1.2.1)) (fun z => z.1.2.2.2.2.2.1) (fun _ => rfl) (fun _ => rfl) (fun x r Q h => match r, h with | .inl _, h => h | .inr b0, h => (h)) ?_
  intro x v; kernel_rfl

def r45_SameCalls_T (x0 : List Call) (x1 : List Call) : Tree Bool :=
 .ite (!decide ((x0.length : Int) = (x1.length : Int))) (
 .ret false) (
 .bnd (.loop (fun v => r45_SameCalls_L4_step x0 x1 v) 0) fun r1 =>
 .sum r1 (fun r2 =>
 .ret r2) (fun r3 =>
 .ret true))

def r45_SameCalls_g : Sig := ⟨26, (.cons (.val false (.list tCall)) (.cons (.val false (.list tCall)) .nil)), .vals (.val false .bool), fun z => r45_SameCalls_T z.1 z.2.1, false⟩

theorem r45_SameCalls_ok : r45_SameCalls_g.ok Tryz.prog := by
  refine Sig.lift mix tabOk nms _ Tryz.func26 (c := (bodyOf Tryz.f26)) (by kernel_rfl) (o := orT [r07_Same_g] [r45_SameCalls_L4] noFz) (orT_sound ⟨r07_Same_ok, trivial⟩) (allLp_of [nthC (loopsOf (bodyOf Tryz.f26)) 0] (by kernel_rfl) ⟨r45_SameCalls_L4_ok, trivial⟩ (by kernel_rfl)) ?_
  intro z; kernel_rfl

def r45_SameEvents_L4_step (a : List Event) (b : List Event) (i : Int) : Tree (Int ⊕ (Bool ⊕ Unit)) :=
 .ite ((decide (i < (a.length : Int))) && (decide (i < (b.length : Int)))) (
 ask (inb i a.length) <|
 ask (inb i b.length) <|
 .both (
 .grd (!((((((!decide ((a.getD i.toNat (dfl tEvent : Event)).1 = (b.getD i.toNat (dfl tEvent : Event)).1)) || (!((a.getD i.toNat (dfl tEvent : Event)).2.1 == (b.getD i.toNat (dfl tEvent : Event)).2.1))) || (!((a.getD i.toNat (dfl tEvent : Event)).2.2.1 == (b.getD i.toNat (dfl tEvent : Event)).2.2.1))) || (!((a.getD i.toNat (dfl tEvent : Event)).2.2.2.1 == (b.getD i.toNat (dfl tEvent : Event)).2.2.2.1))) || (!decide ((a.getD i.toNat (dfl tEvent : Event)).2.2.2.2.1 = (b.getD i.toNat (dfl tEvent : Event)).2.2.2.2.1))) || (!((decide ((a.getD i.toNat (dfl tEvent : Event)).2.2.2.2.2.2.1 = (b.getD i.toNat (dfl tEvent : Event)).2.2.2.2.2.2.1)) && (((a.getD i.toNat (dfl tEvent : Event)).2.2.2.2.2.2.2.1 == (b.getD i.toNat (dfl tEvent : Event)).2.2.2.2.2.2.2.1) && (((a.getD i.toNat (dfl tEvent : Event)).2.2.2.2.2.2.2.2.1 == (b.getD i.toNat (dfl tEvent : Event)).2.2.2.2.2.2.2.2.1) && (((a.getD i.toNat (dfl tEvent : Event)).2.2.2.2.2.2.2.2.2.1 == (b.getD i.toNat (dfl tEvent : Event)).2.2.2.2.2.2.2.2.2.1) && (((a.getD i.toNat (dfl tEvent : Event)).2.2.2.2.2.2.2.2.2.2.1 == (b.getD i.toNat (dfl tEvent : Event)).2.2.2.2.2.2.2.2.2.2.1) && ((decide ((a.getD i.toNat (dfl tEvent : Event)).2.2.2.2.2.2.2.2.2.2.2.1 = (b.getD i.toNat (dfl tEvent : Event)).2.2.2.2.2.2.2.2.2.2.2.1)) && ((((a.getD i.toNat (dfl tEvent : Event)).2.2.2.2.2.2.2.2.2.2.2.2.1 == (b.getD i.toNat (dfl tEvent : Event)).2.2.2.2.2.2.2.2.2.2.2.2.1) && (((a.getD i.toNat (dfl tEvent : Event)).2.2.2.2.2.2.2.2.2.2.2.2.2.1 == (b.getD i.toNat (dfl tEvent : Event)).2.2.2.2.2.2.2.2.2.2.2.2.2.1) && (((a.getD i.toNat (dfl tEvent : Event)).2.2.2.2.2.2.2.2.2.2.2.2.2.2.1 == (b.getD i.toNat (dfl tEvent : Event)).2.2.2.2.2.2.2.2.2.2.2.2.2.2.1) && (((a.getD i.toNat (dfl tEvent : Event)).2.2.2.2.2.2.2.2.2.2.2.2.2.2.2 == (b.getD i.toNat (dfl tEvent : Event)).2.2.2.2.2.2.2.2.2.2.2.2.2.2.2) && true)))) && true)))))))))) (r45_SameCalls_T [(a.getD i.toNat (dfl tEvent : Event)).2.2.2.2.2.1] [(b.getD i.toNat (dfl tEvent : Event)).2.2.2.2.2.1]) false fun y2 =>
 .ite (((((((!decide ((a.getD i.toNat (dfl tEvent : Event)).1 = (b.getD i.toNat (dfl tEvent : Event)).1)) || (!((a.getD i.toNat (dfl tEvent : Event)).2.1 == (b.getD i.toNat (dfl tEvent : Event)).2.1))) || (!((a.getD i.toNat (dfl tEvent : Event)).2.2.1 == (b.getD i.toNat (dfl tEvent : Event)).2.2.1))) || (!((a.getD i.toNat (dfl tEvent : Event)).2.2.2.1 == (b.getD i.toNat (dfl tEvent : Event)).2.2.2.1))) || (!decide ((a.getD i.toNat (dfl tEvent : Event)).2.2.2.2.1 = (b.getD i.toNat (dfl tEvent : Event)).2.2.2.2.1))) || (!((decide ((a.getD i.toNat (dfl tEvent : Event)).2.2.2.2.2.2.1 = (b.getD i.toNat (dfl tEvent : Event)).2.2.2.2.2.2.1)) && (((a.getD i.toNat (dfl tEvent : Event)).2.2.2.2.2.2.2.1 == (b.getD i.toNat (dfl tEvent : Event)).2.2.2.2.2.2.2.1) && (((a.getD i.toNat (dfl tEvent : Event)).2.2.2.2.2.2.2.2.1 == (b.getD i.toNat (dfl tEvent : Event)).2.2.2.2.2.2.2.2.1) && (((a.getD i.toNat (dfl tEvent : Event)).2.2.2.2.2.2.2.2.2.1 == (b.getD i.toNat (dfl tEvent : Event)).2.2.2.2.2.2.2.2.2.1) && (((a.getD i.toNat (dfl tEvent : Event)).2.2.2.2.2.2.2.2.2.2.1 == (b.getD i.toNat (dfl tEvent : Event)).2.2.2.2.2.2.2.2.2.2.1) && ((decide ((a.getD i.toNat (dfl tEvent : Event)).2.2.2.2.2.2.2.2.2.2.2.1 = (b.getD i.toNat (dfl tEvent : Event)).2.2.2.2.2.2.2.2.2.2.2.1)) && ((((a.getD i.toNat (dfl tEvent : Event)).2.2.2.2.2.2.2.2.2.2.2.2.1 == (b.getD i.toNat (dfl tEvent : Event)).2.2.2.2.2.2.2.2.2.2.2.2.1) && (((a.getD i.toNat (dfl tEvent : Event)).2.2.2.2.2.2.2.2.2.2.2.2.2.1 == (b.getD i.toNat (dfl tEvent : Event)).2.2.2.2.2.2.2.2.2.2.2.2.2.1) && (((a.getD i.toNat (dfl tEvent : Event)).2.2.2.2.2.2.2.2.2.2.2.2.2.2.1 == (b.getD i.toNat (dfl tEvent : Event)).2.2.2.2.2.2.2.2.2.2.2.2.2.2.1) && (((a.getD i.toNat (dfl tEvent : Event)).2.2.2.2.2.2.2.2.2.2.2.2.2.2.2 == (b.getD i.toNat (dfl tEvent : Event)).2.2.2.2.2.2.2.2.2.2.2.2.2.2.2) && true)))) && true))))))))) || (!y2)) (
 .ret (.inr (.inl false))) (
 .ret (.inl (w64 (i + 1))))) (
 .grd (!((((((!decide ((a.getD i.toNat (dfl tEvent : Event)).1 = (b.getD i.toNat (dfl tEvent : Event)).1)) || (!((a.getD i.toNat (dfl tEvent : Event)).2.1 == (b.getD i.toNat (dfl tEvent : Event)).2.1))) || (!((a.getD i.toNat (dfl tEvent : Event)).2.2.1 == (b.getD i.toNat (dfl tEvent : Event)).2.2.1))) || (!((a.getD i.toNat (dfl tEvent : Event)).2.2.2.1 == (b.getD i.toNat (dfl tEvent : Event)).2.2.2.1))) || (!decide ((a.getD i.toNat (dfl tEvent : Event)).2.2.2.2.1 = (b.getD i.toNat (dfl tEvent : Event)).2.2.2.2.1))) || (!((decide ((a.getD i.toNat (dfl tEvent : Event)).2.2.2.2.2.2.1 = (b.getD i.toNat (dfl tEvent : Event)).2.2.2.2.2.2.1)) && (((a.getD i.toNat (dfl tEvent : Event)).2.2.2.2.2.2.2.1 == (b.getD i.toNat (dfl tEvent : Event)).2.2.2.2.2.2.2.1) && (((a.getD i.toNat (dfl tEvent : Event)).2.2.2.2.2.2.2.2.1 == (b.getD i.toNat (dfl tEvent : Event)).2.2.2.2.2.2.2.2.1) && (((a.getD i.toNat (dfl tEvent : Event)).2.2.2.2.2.2.2.2.2.1 == (b.getD i.toNat (dfl tEvent : Event)).2.2.2.2.2.2.2.2.2.1) && (((a.getD i.toNat (dfl tEvent : Event)).2.2.2.2.2.2.2.2.2.2.1 == (b.getD i.toNat (dfl tEvent : Event)).2.2.2.2.2.2.2.2.2.2.1) && ((decide ((a.getD i.toNat (dfl tEvent : Event)).2.2.2.2.2.2.2.2.2.2.2.1 = (b.getD i.toNat (dfl tEvent : Event)).2.2.2.2.2.2.2.2.2.2.2.1)) && ((((a.getD i.toNat (dfl tEvent : Event)).2.2.2.2.2.2.2.2.2.2.2.2.1 == (b.getD i.toNat (dfl tEvent : Event)).2.2.2.2.2.2.2.2.2.2.2.2.1) && (((a.getD i.toNat (dfl tEvent : Event)).2.2.2.2.2.2.2.2.2.2.2.2.2.1 == (b.getD i.toNat (dfl tEvent : Event)).2.2.2.2.2.2.2.2.2.2.2.2.2.1) && (((a.getD i.toNat (dfl tEvent : Event)).2.2.2.2.2.2.2.2.2.2.2.2.2.2.1 == (b.getD i.toNat (dfl tEvent : Event)).2.2.2.2.2.2.2.2.2.2.2.2.2.2.1) && (((a.getD i.toNat (dfl tEvent : Event)).2.2.2.2.2.2.2.2.2.2.2.2.2.2.2 == (b.getD i.toNat (dfl tEvent : Event)).2.2.2.2.2.2.2.2.2.2.2.2.2.2.2) && true)))) && true)))))))))) (r45_SameCalls_T [(a.getD i.toNat (dfl tEvent : Event)).2.2.2.2.2.1] [(b.getD i.toNat (dfl tEvent : Event)).2.2.2.2.2.1]) false fun y1 =>
 .ite (((((((!decide ((a.getD i.toNat (dfl tEvent : Event)).1 = (b.getD i.toNat (dfl tEvent : Event)).1)) || (!((a.getD i.toNat (dfl tEvent : Event)).2.1 == (b.getD i.toNat (dfl tEvent : Event)).2.1))) || (!((a.getD i.toNat (dfl tEvent : Event)).2.2.1 == (b.getD i.toNat (dfl tEvent : Event)).2.2.1))) || (!((a.getD i.toNat (dfl tEvent : Event)).2.2.2.1 == (b.getD i.toNat (dfl tEvent : Event)).2.2.2.1))) || (!decide ((a.getD i.toNat (dfl tEvent : Event)).2.2.2.2.1 = (b.getD i.toNat (dfl tEvent : Event)).2.2.2.2.1))) || (!((decide ((a.getD i.toNat (dfl tEvent : Event)).2.2.2.2.2.2.1 = (b.getD i.toNat (dfl tEvent : Event)).2.2.2.2.2.2.1)) && (((a.getD i.toNat (dfl tEvent : Event)).2.2.2.2.2.2.2.1 == (b.getD i.toNat (dfl tEvent : Event)).2.2.2.2.2.2.2.1) && (((a.getD i.toNat (dfl tEvent : Event)).2.2.2.2.2.2.2.2.1 == (b.getD i.toNat (dfl tEvent : Event)).2.2.2.2.2.2.2.2.1) && (((a.getD i.toNat (dfl tEvent : Event)).2.2.2.2.2.2.2.2.2.1 == (b.getD i.toNat (dfl tEvent : Event)).2.2.2.2.2.2.2.2.2.1) && (((a.getD i.toNat (dfl tEvent : Event)).2.2.2.2.2.2.2.2.2.2.1 == (b.getD i.toNat (dfl tEvent : Event)).2.2.2.2.2.2.2.2.2.2.1) && ((decide ((a.getD i.toNat (dfl tEvent : Event)).2.2.2.2.2.2.2.2.2.2.2.1 = (b.getD i.toNat (dfl tEvent : Event)).2.2.2.2.2.2.2.2.2.2.2.1)) && ((((a.getD i.toNat (dfl tEvent : Event)).2.2.2.2.2.2.2.2.2.2.2.2.1 == (b.getD i.toNat (dfl tEvent : Event)).2.2.2.2.2.2.2.2.2.2.2.2.1) && (((a.getD i.toNat (dfl tEvent : Event)).2.2.2.2.2.2.2.2.2.2.2.2.2.1 == (b.getD i.toNat (dfl tEvent : Event)).2.2.2.2.2.2.2.2.2.2.2.2.2.1) && (((a.getD i.toNat (dfl tEvent : Event)).2.2.2.2.2.2.2.2.2.2.2.2.2.2.1 == (b.getD i.toNat (dfl tEvent : Event)).2.2.2.2.2.2.2.2.2.2.2.2.2.2.1) && (((a.getD i.toNat (dfl tEvent : Event)).2.2.2.2.2.2.2.2.2.2.2.2.2.2.2 == (b.getD i.toNat (dfl tEvent : Event)).2.2.2.2.2.2.2.2.2.2.2.2.2.2.2) && true)))) && true))))))))) || (!y1)) (
 .ret (.inr (.inl false))) (
 .ret (.inl (w64 (i + 1)))))) (
 .ret (.inr (.inr ())))

def r45_SameEvents_L4 : Lp := ⟨4, [], [], (.cons (.val false (.list tEvent)) (.cons (.val false (.list tEvent)) (ca (ca2 (.cons (.val false (.int .i64)) (ca (ca4 (ca8 (ca32 (ca32 .nil)))))))))), .nil, 0, .more 0 [] (ca4 (.cons (.val false .bool) (ca2 (ca4 (ca8 (ca32 (ca32 .nil))))))) .nil (.one 1 [] (ca (ca2 (ca16 (ca32 (ca32 .nil))))) .nil), fun z => .bnd (.loop (fun v => r45_SameEvents_L4_step z.1.1 z.1.2.1 v) z.1.2.2.2.2.2.1) fun r => .sum r (fun a0 => .ret (.inl ((cu4 (a0, (cu2 (cu4 (cu8 (cu32 (cu32 ()))))))), ()))) (fun b0 => .ret (.inr ((cu (cu2 (cu16 (cu32 (cu32 ()))))), ())))⟩

theorem r45_SameEvents_L4_ok : r45_SameEvents_L4.ok Tryz.prog (nthC (loopsOf (bodyOf Tryz.f10)) 0) := by
  refine Lp.lift (π := ((List Event) × (List Event))) (V := Int) (ρ := (Bool ⊕ Unit)) mix tabOk r45_SameEvents_L4 (o := orT [r45_SameCalls_g] [] noFz) (orT_sound ⟨r45_SameCalls_ok, trivial⟩) (allLp_of [] (by kernel_rfl) trivial rfl) (fun x v => ((x.1, (x.2, (cu (cu2 (v, (cu (cu4 (cu8 (cu32 (cu32 ())))))))))), ())) (fun x r => match r with | .inl a0 => .inl ((cu4 (a0, (cu2 (cu4 (cu8 (cu32 (cu32 ()))))))), ()) | .inr b0 => (.inr ((cu (cu2 (cu16 (cu32 (cu32 ()))))), ()))) (fun x v => r45_SameEvents_L4_step x.1 x.2 v) (fun x r => .sum r (fun a0 => .ret (.inl ((cu4 (a0, (cu2 (cu4 (cu8 (cu32 (cu32 ()))))))), ()))) (fun b0 => .ret (.inr ((cu (cu2 (cu16 (cu32 (cu32 ()))))), ())))) (fun z => (z.1.1, z.1.2.1)) (fun z => z.1.2.2.2.2.2.1) (fun _ => rfl) (fun _ => rfl) (fun x r Q h => match r, h with | .inl _, h => h | .inr b0, h => (h)) ?_
  intro x v; kernel_rfl

def r45_SameEvents_T (x0 : List Event) (x1 : List Event) : Tree Bool :=
 .ite (!decide ((x0.length : Int) = (x1.length : Int))) (
 .ret false) (
 .bnd (.loop (fun v => r45_SameEvents_L4_step x0 x1 v) 0) fun r1 =>
 .sum r1 (fun r2 =>
 .ret r2) (fun r3 =>
 .ret true))

def r45_SameEvents_g : Sig := ⟨10, (.cons (.val false (.list tEvent)) (.cons (.val false (.list tEvent)) .nil)), .vals (.val false .bool), fun z => r45_SameEvents_T z.1 z.2.1, false⟩

theorem r45_SameEvents_ok : r45_SameEvents_g.ok Tryz.prog := by
  refine Sig.lift mix tabOk nms _ Tryz.func10 (c := (bodyOf Tryz.f10)) (by kernel_rfl) (o := orT [r45_SameCalls_g] [r45_SameEvents_L4] noFz) (orT_sound ⟨r45_SameCalls_ok, trivial⟩) (allLp_of [nthC (loopsOf (bodyOf Tryz.f10)) 0] (by kernel_rfl) ⟨r45_SameEvents_L4_ok, trivial⟩ (by kernel_rfl)) ?_
  intro z; kernel_rfl

def strings_Builder_copyCheck_T (x0 : List Int) : Tree (Unit × ((Unit × (Unit × Unit)) × ((List Int) × Unit))) :=
 .ret ((), (((), ((), ())), (x0, ())))

def strings_Builder_copyCheck_g : MSig := ⟨55, (.cons (.ref 0 0) .nil), (.cells 64 (.cons (.selfp 0) (.cons (.own 1) .nil)) (.rows 5 (.int .u8) .nil)), [], .nil, (.cells 64 (.cons (.selfp 0) (.cons (.own 1) .nil)) (.rows 5 (.int .u8) .nil)), none, fun z => strings_Builder_copyCheck_T z.2.2.1⟩

theorem strings_Builder_copyCheck_ok : strings_Builder_copyCheck_g.ok Tryz.prog := copyCheck_msig 64 (by kernel_rfl)

def strings_Builder_WriteString_T (x0 : Str) (x1 : List Int) : Tree ((Int × (Unit × Unit)) × ((Unit × (Unit × Unit)) × ((List Int) × Unit))) :=
 .bnd (strings_Builder_copyCheck_T x1) fun y1 =>
 ask (decide ((y1.2.2.1 ++ strI x0).length * 1 ≤ roomNat)) <|
 .ret (((x0.length : Int), ((), ())), (((), ((), ())), ((y1.2.2.1 ++ strI x0), ())))

def strings_Builder_WriteString_g : MSig := ⟨29, (.cons (.ref 0 0) (.cons (.val false .str) .nil)), (.cells 64 (.cons (.selfp 0) (.cons (.own 1) .nil)) (.rows 5 (.int .u8) .nil)), [], (.cons (.val false (.int .i64)) (ca .nil)), (.cells 64 (.cons (.selfp 0) (.cons (.own 1) .nil)) (.rows 5 (.int .u8) .nil)), some 1, fun z => strings_Builder_WriteString_T z.1.2.1 z.2.2.1⟩

theorem strings_Builder_WriteString_ok : strings_Builder_WriteString_g.ok Tryz.prog := by
  refine MSig.lift mix tabOk nms _ Tryz.func29 (c := (bodyOf Tryz.f29)) (by kernel_rfl) (o := orM [] [strings_Builder_copyCheck_g] [] noFz) (orM_sound trivial ⟨strings_Builder_copyCheck_ok, trivial⟩) (allLp_ofM [] (by kernel_rfl) trivial rfl) (fun _ => rfl) ?_
  intro z; kernel_rfl

def strings_Builder_String_T (x0 : List Int) : Tree (Str × ((Unit × (Unit × Unit)) × ((List Int) × Unit))) :=
 ask (decide (0 < x0.length)) <|
 .ret (strB x0, (((), ((), ())), (x0, ())))

def strings_Builder_String_g : MSig := ⟨30, (.cons (.ref 0 0) .nil), (.cells 64 (.cons (.selfp 0) (.cons (.own 1) .nil)) (.rows 5 (.int .u8) .nil)), [], .val false .str, (.cells 64 (.cons (.selfp 0) (.cons (.own 1) .nil)) (.fro 5 (.int .u8) .nil)), none, fun z => strings_Builder_String_T z.2.2.1⟩

theorem strings_Builder_String_ok : strings_Builder_String_g.ok Tryz.prog := builder_String_msigF 64

def text_All_L3_step (t : List Event) (t2 : Int) (t3 : Int) (rows : List Int) : Tree ((Int × (List Int)) ⊕ (List Int)) :=
 .ite (decide (t3 < t2)) (
 ask (inb t3 t.length) <|
 .bnd (text_Line_T (t.getD t3.toNat (dfl tEvent : Event))) fun y1 =>
 ask (decide (y1.length + ([10] : Str).length ≤ 9223372036854775807)) <|
 .bnd (strings_Builder_WriteString_T (y1 ++ ([10] : Str)) rows) fun y2 =>
 .ret (.inl ((w64 (t3 + 1)), y2.2.2.1))) (
 .ret (.inr rows))

def text_All_L3 : Lp := ⟨3, [.ownC 0 1 5 (.int .u8)], [], (ca (ca2 (.cons (.ref 0 0) (ca2 (.cons (.val false (.list tEvent)) (.cons (.val false (.int .i64)) (.cons (.val false (.int .i64)) (ca (ca8 .nil))))))))), (.cells 64 (.cons (.selfp 0) (.cons (.own 1) .nil)) (.rows 5 (.int .u8) .nil)), 0, .one 1 [] (ca (ca2 (.cons (.ref 0 0) (ca2 (ca4 (ca8 .nil)))))) (.cells 64 (.cons (.selfp 0) (.cons (.own 1) .nil)) (.rows 5 (.int .u8) .nil)), fun z => .bnd (.loop (fun v => text_All_L3_step z.1.2.2.2.2.2.2.1 z.1.2.2.2.2.2.2.2.1 v.1 v.2) (z.1.2.2.2.2.2.2.2.2.1, z.2.2.1)) fun r => .ret ((cu (cu2 ((), (cu2 (cu4 (cu8 ())))))), (((), ((), ())), (r, ())))⟩

theorem text_All_L3_ok : text_All_L3.ok Tryz.prog (nthC (loopsOf (bodyOf Tryz.f13)) 0) := by
  refine Lp.lift (π := ((List Event) × Int)) (V := (Int × (List Int))) (ρ := List Int) mix tabOk text_All_L3 (o := orM [text_Line_g] [strings_Builder_WriteString_g, strings_Builder_String_g] [] noFz) (orM_sound ⟨text_Line_ok, trivial⟩ ⟨strings_Builder_WriteString_ok, ⟨strings_Builder_String_ok, trivial⟩⟩) (allLp_ofM [] (by kernel_rfl) trivial rfl) (fun x v => ((cu (cu2 ((), (cu2 (x.1, (x.2, (v.1, (cu (cu8 ()))))))))), (((), ((), ())), (v.2, ())))) (fun x r => ((cu (cu2 ((), (cu2 (cu4 (cu8 ())))))), (((), ((), ())), (r, ())))) (fun x v => text_All_L3_step x.1 x.2 v.1 v.2) (fun x r => .ret ((cu (cu2 ((), (cu2 (cu4 (cu8 ())))))), (((), ((), ())), (r, ())))) (fun z => (z.1.2.2.2.2.2.2.1, z.1.2.2.2.2.2.2.2.1)) (fun z => (z.1.2.2.2.2.2.2.2.2.1, z.2.2.1)) (fun _ => rfl) (fun _ => rfl) (fun _ _ _ h => h) ?_
  intro x v; kernel_rfl

def text_All_T (x0 : List Event) : Tree Str :=
 .bnd (.loop (fun v => text_All_L3_step x0 (x0.length : Int) v.1 v.2) (0, ([] : List Int))) fun r1 =>
 .bnd (strings_Builder_String_T r1) fun y2 =>
 .ret y2.1

def text_All_g : Sig := ⟨13, (.cons (.val false (.list tEvent)) .nil), .vals (.val false .str), fun z => text_All_T z.1, ([] : Str)⟩

theorem text_All_ok : text_All_g.ok Tryz.prog := by
  refine Sig.lift mix tabOk nms _ Tryz.func13 (c := (bodyOf Tryz.f13)) (by kernel_rfl) (o := orM [text_Line_g] [strings_Builder_WriteString_g, strings_Builder_String_g] [text_All_L3] noFz) (orM_sound ⟨text_Line_ok, trivial⟩ ⟨strings_Builder_WriteString_ok, ⟨strings_Builder_String_ok, trivial⟩⟩) (allLp_ofM [nthC (loopsOf (bodyOf Tryz.f13)) 0] (by kernel_rfl) ⟨text_All_L3_ok, trivial⟩ (by kernel_rfl)) ?_
  intro z; kernel_rfl

def l52_awake_T  : Tree Bool :=
 .bnd (text_Line_T (6, (([110, 49] : Str), ([], ([], ((-2), ((0, ([], ([], ([], ([], ([], 0)))))), (0, ([], ([], ([], ([], (0, ([], ([], ([], false)))))))))))))))) fun y1 =>
 .bnd (text_Parse_T y1) fun y2 =>
 .bnd (text_ParseAll_T ([116, 105, 99, 107, 32, 110, 49, 32, 95, 32, 95, 32, 48, 10, 120, 10] : Str)) fun y3 =>
 .bnd (text_Read_T ([97, 37, 50, 48, 98] : Str)) fun y4 =>
 .grd ((y1 == ([116, 105, 99, 107, 32, 110, 49, 32, 95, 32, 95, 32, 45, 50] : Str)) && (decide (y2.2.1 = 0))) (r45_SameEvents_T [y2.1] [(6, (([110, 49] : Str), ([], ([], ((-2), ((0, ([], ([], ([], ([], ([], 0)))))), (0, ([], ([], ([], ([], (0, ([], ([], ([], false)))))))))))))))]) false fun y5 =>
 .grd ((((((((y1 == ([116, 105, 99, 107, 32, 110, 49, 32, 95, 32, 95, 32, 45, 50] : Str)) && (decide (y2.2.1 = 0))) && y5) && (decide ((y3.1.length : Int) = 0))) && (decide (y3.2.1 = 2))) && (decide (y3.2.2.1 = 3))) && (y4.1 == ([97, 32, 98] : Str))) && y4.2.1) (text_Word_T ([97, 32, 98] : Str)) ([] : Str) fun y6 =>
 .grd (((((((((y1 == ([116, 105, 99, 107, 32, 110, 49, 32, 95, 32, 95, 32, 45, 50] : Str)) && (decide (y2.2.1 = 0))) && y5) && (decide ((y3.1.length : Int) = 0))) && (decide (y3.2.1 = 2))) && (decide (y3.2.2.1 = 3))) && (y4.1 == ([97, 32, 98] : Str))) && y4.2.1) && (y6 == ([97, 37, 50, 48, 98] : Str))) (text_All_T [(6, (([110, 49] : Str), ([], ([], ((-2), ((0, ([], ([], ([], ([], ([], 0)))))), (0, ([], ([], ([], ([], (0, ([], ([], ([], false)))))))))))))))]) ([] : Str) fun y7 =>
 ask ((!(((((((((y1 == ([116, 105, 99, 107, 32, 110, 49, 32, 95, 32, 95, 32, 45, 50] : Str)) && (decide (y2.2.1 = 0))) && y5) && (decide ((y3.1.length : Int) = 0))) && (decide (y3.2.1 = 2))) && (decide (y3.2.2.1 = 3))) && (y4.1 == ([97, 32, 98] : Str))) && y4.2.1) && (y6 == ([97, 37, 50, 48, 98] : Str)))) || decide (y1.length + ([10] : Str).length ≤ 9223372036854775807)) <|
 .ret ((((((((((y1 == ([116, 105, 99, 107, 32, 110, 49, 32, 95, 32, 95, 32, 45, 50] : Str)) && (decide (y2.2.1 = 0))) && y5) && (decide ((y3.1.length : Int) = 0))) && (decide (y3.2.1 = 2))) && (decide (y3.2.2.1 = 3))) && (y4.1 == ([97, 32, 98] : Str))) && y4.2.1) && (y6 == ([97, 37, 50, 48, 98] : Str))) && (y7 == (y1 ++ ([10] : Str))))

def l52_awake_g : Sig := ⟨5, .nil, .vals (.val false .bool), fun z => l52_awake_T, false⟩

theorem l52_awake_ok : l52_awake_g.ok Tryz.prog := by
  refine Sig.lift mix tabOk nms _ Tryz.func5 (c := (bodyOf Tryz.f5)) (by kernel_rfl) (o := orT [text_Line_g, text_Parse_g, text_ParseAll_g, text_Read_g, r45_SameEvents_g, text_Word_g, text_All_g] [] noFz) (orT_sound ⟨text_Line_ok, ⟨text_Parse_ok, ⟨text_ParseAll_ok, ⟨text_Read_ok, ⟨r45_SameEvents_ok, ⟨text_Word_ok, ⟨text_All_ok, trivial⟩⟩⟩⟩⟩⟩⟩) (allLp_of [] (by kernel_rfl) trivial rfl) ?_
  intro z; kernel_rfl

def r52_names_T  : Tree A15Str :=
 .ret (([] : Str), (([99, 97, 108, 108] : Str), (([100, 101, 108, 105, 118, 101, 114] : Str), (([108, 111, 115, 101] : Str), (([116, 119, 105, 99, 101] : Str), (([102, 108, 117, 115, 104] : Str), (([116, 105, 99, 107] : Str), (([99, 114, 97, 115, 104] : Str), (([115, 116, 97, 114, 116] : Str), (([103, 111, 115, 115, 105, 112] : Str), (([101, 120, 99, 104, 97, 110, 103, 101] : Str), (([104, 97, 110, 100] : Str), (([114, 101, 97, 112] : Str), (([99, 111, 109, 112, 97, 99, 116] : Str), ([97, 100, 109, 105, 110] : Str)))))))))))))))

def r52_names_g : Sig := ⟨44, .nil, .vals (.val true tA15Str), fun z => r52_names_T, (dfl tA15Str : A15Str)⟩

theorem r52_names_ok : r52_names_g.ok Tryz.prog := by
  refine Sig.lift mix tabOk nms _ Tryz.func44 (c := (bodyOf Tryz.f44)) (by kernel_rfl) (o := orT [] [] noFz) (orT_sound trivial) (allLp_of [] (by kernel_rfl) trivial rfl) ?_
  intro z; kernel_rfl

def r05_Dec_L5_step (n : Int) (s_ : Str) (k : Int) : Tree ((Str × Int) ⊕ Str) :=
 .ite (!decide (k = 0)) (
 ask (!decide ((10 : Int) = 0)) <|
 .ite (decide ((k.tmod 10) < 0)) (
 ask (inbe (w64 ((w64 ((0 : Int) - (k.tmod 10))) + 1)) ([48, 49, 50, 51, 52, 53, 54, 55, 56, 57] : Str).length) <|
 ask (inbe (w64 ((0 : Int) - (k.tmod 10))) (w64 ((w64 ((0 : Int) - (k.tmod 10))) + 1)).toNat) <|
 ask (decide ((subS ([48, 49, 50, 51, 52, 53, 54, 55, 56, 57] : Str) (w64 ((0 : Int) - (k.tmod 10))).toNat (w64 ((w64 ((0 : Int) - (k.tmod 10))) + 1)).toNat).length + s_.length ≤ 9223372036854775807)) <|
 ask (!decide ((10 : Int) = 0)) <|
 .ret (.inl (((subS ([48, 49, 50, 51, 52, 53, 54, 55, 56, 57] : Str) (w64 ((0 : Int) - (k.tmod 10))).toNat (w64 ((w64 ((0 : Int) - (k.tmod 10))) + 1)).toNat) ++ s_), (w64 (k.tdiv 10))))) (
 ask (inbe (w64 ((k.tmod 10) + 1)) ([48, 49, 50, 51, 52, 53, 54, 55, 56, 57] : Str).length) <|
 ask (inbe (k.tmod 10) (w64 ((k.tmod 10) + 1)).toNat) <|
 ask (decide ((subS ([48, 49, 50, 51, 52, 53, 54, 55, 56, 57] : Str) (k.tmod 10).toNat (w64 ((k.tmod 10) + 1)).toNat).length + s_.length ≤ 9223372036854775807)) <|
 ask (!decide ((10 : Int) = 0)) <|
 .ret (.inl (((subS ([48, 49, 50, 51, 52, 53, 54, 55, 56, 57] : Str) (k.tmod 10).toNat (w64 ((k.tmod 10) + 1)).toNat) ++ s_), (w64 (k.tdiv 10)))))) (
 .ret (.inr s_))

def r05_Dec_L5 : Lp := ⟨5, [], [], (.cons (.val false (.int .i64)) (ca2 (.cons (.val false .str) (.cons (.val false (.int .i64)) (ca (ca8 (ca16 .nil))))))), .nil, 0, .one 1 [] (.cons (.val false (.int .i64)) (ca2 (.cons (.val false .str) (ca2 (ca8 (ca16 .nil)))))) .nil, fun z => .bnd (.loop (fun v => r05_Dec_L5_step z.1.1 v.1 v.2) (z.1.2.2.2.1, z.1.2.2.2.2.1)) fun r => .ret ((z.1.1, (cu2 (r, (cu2 (cu8 (cu16 ())))))), ())⟩

theorem r05_Dec_L5_ok : r05_Dec_L5.ok Tryz.prog (nthC (loopsOf (bodyOf Tryz.f49)) 0) := by
  refine Lp.lift (π := Int) (V := (Str × Int)) (ρ := Str) mix tabOk r05_Dec_L5 (o := orT [] [] noFz) (orT_sound trivial) (allLp_of [] (by kernel_rfl) trivial rfl) (fun x v => ((x, (cu2 (v.1, (v.2, (cu (cu8 (cu16 ()))))))), ())) (fun x r => ((x, (cu2 (r, (cu2 (cu8 (cu16 ())))))), ())) (fun x v => r05_Dec_L5_step x v.1 v.2) (fun x r => .ret ((x, (cu2 (r, (cu2 (cu8 (cu16 ())))))), ())) (fun z => z.1.1) (fun z => (z.1.2.2.2.1, z.1.2.2.2.2.1)) (fun _ => rfl) (fun _ => rfl) (fun _ _ _ h => h) ?_
  intro x v; kernel_rfl

def r05_Dec_T (x0 : Int) : Tree Str :=
 .ite (decide (x0 = 0)) (
 .ret ([48] : Str)) (
 .bnd (.loop (fun v => r05_Dec_L5_step x0 v.1 v.2) (([] : Str), x0)) fun r1 =>
 .ite (decide (x0 < 0)) (
 ask (decide (([45] : Str).length + r1.length ≤ 9223372036854775807)) <|
 .ret (([45] : Str) ++ r1)) (
 .ret r1))

def r05_Dec_g : Sig := ⟨49, (.cons (.val false (.int .i64)) .nil), .vals (.val false .str), fun z => r05_Dec_T z.1, ([] : Str)⟩

theorem r05_Dec_ok : r05_Dec_g.ok Tryz.prog := by
  refine Sig.lift mix tabOk nms _ Tryz.func49 (c := (bodyOf Tryz.f49)) (by kernel_rfl) (o := orT [] [r05_Dec_L5] noFz) (orT_sound trivial) (allLp_of [nthC (loopsOf (bodyOf Tryz.f49)) 0] (by kernel_rfl) ⟨r05_Dec_L5_ok, trivial⟩ (by kernel_rfl)) ?_
  intro z; kernel_rfl

def r52_plain_T (x0 : Int) : Tree Bool :=
 .ret (((((((decide ((97 : Int) ≤ x0)) && (decide (x0 ≤ 122))) || ((decide ((65 : Int) ≤ x0)) && (decide (x0 ≤ 90)))) || ((decide ((48 : Int) ≤ x0)) && (decide (x0 ≤ 57)))) || (decide (x0 = 45))) || (decide (x0 = 46))) || (decide (x0 = 47)))

def r52_plain_g : Sig := ⟨69, (.cons (.val false (.int .u8)) .nil), .vals (.val false .bool), fun z => r52_plain_T z.1, false⟩

theorem r52_plain_ok : r52_plain_g.ok Tryz.prog := by
  refine Sig.lift mix tabOk nms _ Tryz.func69 (c := (bodyOf Tryz.f69)) (by kernel_rfl) (o := orT [] [] noFz) (orT_sound trivial) (allLp_of [] (by kernel_rfl) trivial rfl) ?_
  intro z; kernel_rfl

def r02_Digits_L3_step (s_ : Str) (out : Str) (i : Int) : Tree ((Str × Int) ⊕ Str) :=
 .ite (decide (i < (s_.length : Int))) (
 ask (inb i s_.length) <|
 ask (decide ((0 : Int) ≤ 4)) <|
 ask (inb i s_.length) <|
 ask (inbe (w64 ((stdShift .shr .i64 (w64 ((sgetI s_ i))) 4) + 1)) ([48, 49, 50, 51, 52, 53, 54, 55, 56, 57, 97, 98, 99, 100, 101, 102] : Str).length) <|
 ask (inbe (stdShift .shr .i64 (w64 ((sgetI s_ i))) 4) (w64 ((stdShift .shr .i64 (w64 ((sgetI s_ i))) 4) + 1)).toNat) <|
 ask (decide (out.length + (subS ([48, 49, 50, 51, 52, 53, 54, 55, 56, 57, 97, 98, 99, 100, 101, 102] : Str) (stdShift .shr .i64 (w64 ((sgetI s_ i))) 4).toNat (w64 ((stdShift .shr .i64 (w64 ((sgetI s_ i))) 4) + 1)).toNat).length ≤ 9223372036854775807)) <|
 ask (inbe (w64 ((stdArith .and .i64 (w64 ((sgetI s_ i))) 15) + 1)) ([48, 49, 50, 51, 52, 53, 54, 55, 56, 57, 97, 98, 99, 100, 101, 102] : Str).length) <|
 ask (inbe (stdArith .and .i64 (w64 ((sgetI s_ i))) 15) (w64 ((stdArith .and .i64 (w64 ((sgetI s_ i))) 15) + 1)).toNat) <|
 ask (decide ((out ++ (subS ([48, 49, 50, 51, 52, 53, 54, 55, 56, 57, 97, 98, 99, 100, 101, 102] : Str) (stdShift .shr .i64 (w64 ((sgetI s_ i))) 4).toNat (w64 ((stdShift .shr .i64 (w64 ((sgetI s_ i))) 4) + 1)).toNat)).length + (subS ([48, 49, 50, 51, 52, 53, 54, 55, 56, 57, 97, 98, 99, 100, 101, 102] : Str) (stdArith .and .i64 (w64 ((sgetI s_ i))) 15).toNat (w64 ((stdArith .and .i64 (w64 ((sgetI s_ i))) 15) + 1)).toNat).length ≤ 9223372036854775807)) <|
 .ret (.inl (((out ++ (subS ([48, 49, 50, 51, 52, 53, 54, 55, 56, 57, 97, 98, 99, 100, 101, 102] : Str) (stdShift .shr .i64 (w64 ((sgetI s_ i))) 4).toNat (w64 ((stdShift .shr .i64 (w64 ((sgetI s_ i))) 4) + 1)).toNat)) ++ (subS ([48, 49, 50, 51, 52, 53, 54, 55, 56, 57, 97, 98, 99, 100, 101, 102] : Str) (stdArith .and .i64 (w64 ((sgetI s_ i))) 15).toNat (w64 ((stdArith .and .i64 (w64 ((sgetI s_ i))) 15) + 1)).toNat)), (w64 (i + 1))))) (
 .ret (.inr out))

def r02_Digits_L3 : Lp := ⟨3, [], [], (.cons (.val false .str) (ca2 (.cons (.val false .str) (.cons (.val false (.int .i64)) (ca2 (ca4 (ca8 (ca16 .nil)))))))), .nil, 0, .one 1 [] (ca (ca2 (.cons (.val false .str) (ca (ca2 (ca4 (ca8 (ca16 .nil)))))))) .nil, fun z => .bnd (.loop (fun v => r02_Digits_L3_step z.1.1 v.1 v.2) (z.1.2.2.2.1, z.1.2.2.2.2.1)) fun r => .ret ((cu (cu2 (r, (cu (cu2 (cu4 (cu8 (cu16 ())))))))), ())⟩

theorem r02_Digits_L3_ok : r02_Digits_L3.ok Tryz.prog (nthC (loopsOf (bodyOf Tryz.f70)) 0) := by
  refine Lp.lift (π := Str) (V := (Str × Int)) (ρ := Str) mix tabOk r02_Digits_L3 (o := orT [] [] noFz) (orT_sound trivial) (allLp_of [] (by kernel_rfl) trivial rfl) (fun x v => ((x, (cu2 (v.1, (v.2, (cu2 (cu4 (cu8 (cu16 ())))))))), ())) (fun x r => ((cu (cu2 (r, (cu (cu2 (cu4 (cu8 (cu16 ())))))))), ())) (fun x v => r02_Digits_L3_step x v.1 v.2) (fun x r => .ret ((cu (cu2 (r, (cu (cu2 (cu4 (cu8 (cu16 ())))))))), ())) (fun z => z.1.1) (fun z => (z.1.2.2.2.1, z.1.2.2.2.2.1)) (fun _ => rfl) (fun _ => rfl) (fun _ _ _ h => h) ?_
  intro x v; kernel_rfl

def r02_Digits_T (x0 : Str) : Tree Str :=
 .bnd (.loop (fun v => r02_Digits_L3_step x0 v.1 v.2) (([] : Str), 0)) fun r1 =>
 .ret r1

def r02_Digits_g : Sig := ⟨70, (.cons (.val false .str) .nil), .vals (.val false .str), fun z => r02_Digits_T z.1, ([] : Str)⟩

theorem r02_Digits_ok : r02_Digits_g.ok Tryz.prog := by
  refine Sig.lift mix tabOk nms _ Tryz.func70 (c := (bodyOf Tryz.f70)) (by kernel_rfl) (o := orT [] [r02_Digits_L3] noFz) (orT_sound trivial) (allLp_of [nthC (loopsOf (bodyOf Tryz.f70)) 0] (by kernel_rfl) ⟨r02_Digits_L3_ok, trivial⟩ (by kernel_rfl)) ?_
  intro z; kernel_rfl

def r52_Word_L5_step (s_ : Str) (out : Str) (i : Int) : Tree ((Str × Int) ⊕ Str) :=
 .ite (decide (i < (s_.length : Int))) (
 ask (inb i s_.length) <|
 .bnd (r52_plain_T (sgetI s_ i)) fun y1 =>
 .ite y1 (
 ask (inbe (w64 (i + 1)) s_.length) <|
 ask (inbe i (w64 (i + 1)).toNat) <|
 ask (decide (out.length + (subS s_ i.toNat (w64 (i + 1)).toNat).length ≤ 9223372036854775807)) <|
 .ret (.inl ((out ++ (subS s_ i.toNat (w64 (i + 1)).toNat)), (w64 (i + 1))))) (
 ask (decide (out.length + ([37] : Str).length ≤ 9223372036854775807)) <|
 ask (inbe (w64 (i + 1)) s_.length) <|
 ask (inbe i (w64 (i + 1)).toNat) <|
 .bnd (r02_Digits_T (subS s_ i.toNat (w64 (i + 1)).toNat)) fun y2 =>
 ask (decide ((out ++ ([37] : Str)).length + y2.length ≤ 9223372036854775807)) <|
 .ret (.inl (((out ++ ([37] : Str)) ++ y2), (w64 (i + 1)))))) (
 .ret (.inr out))

def r52_Word_L5 : Lp := ⟨5, [], [], (.cons (.val false .str) (ca2 (.cons (.val false .str) (.cons (.val false (.int .i64)) (ca (ca4 (ca8 (ca16 .nil)))))))), .nil, 0, .one 1 [] (ca (ca2 (.cons (.val false .str) (ca2 (ca4 (ca8 (ca16 .nil))))))) .nil, fun z => .bnd (.loop (fun v => r52_Word_L5_step z.1.1 v.1 v.2) (z.1.2.2.2.1, z.1.2.2.2.2.1)) fun r => .ret ((cu (cu2 (r, (cu2 (cu4 (cu8 (cu16 ()))))))), ())⟩

theorem r52_Word_L5_ok : r52_Word_L5.ok Tryz.prog (nthC (loopsOf (bodyOf Tryz.f48)) 0) := by
  refine Lp.lift (π := Str) (V := (Str × Int)) (ρ := Str) mix tabOk r52_Word_L5 (o := orT [r52_plain_g, r02_Digits_g] [] noFz) (orT_sound ⟨r52_plain_ok, ⟨r02_Digits_ok, trivial⟩⟩) (allLp_of [] (by kernel_rfl) trivial rfl) (fun x v => ((x, (cu2 (v.1, (v.2, (cu (cu4 (cu8 (cu16 ())))))))), ())) (fun x r => ((cu (cu2 (r, (cu2 (cu4 (cu8 (cu16 ()))))))), ())) (fun x v => r52_Word_L5_step x v.1 v.2) (fun x r => .ret ((cu (cu2 (r, (cu2 (cu4 (cu8 (cu16 ()))))))), ())) (fun z => z.1.1) (fun z => (z.1.2.2.2.1, z.1.2.2.2.2.1)) (fun _ => rfl) (fun _ => rfl) (fun _ _ _ h => h) ?_
  intro x v; kernel_rfl

def r52_Word_T (x0 : Str) : Tree Str :=
 .ite (x0 == ([] : Str)) (
 .ret ([95] : Str)) (
 .bnd (.loop (fun v => r52_Word_L5_step x0 v.1 v.2) (([] : Str), 0)) fun r1 =>
 .ret r1)

def r52_Word_g : Sig := ⟨48, (.cons (.val false .str) .nil), .vals (.val false .str), fun z => r52_Word_T z.1, ([] : Str)⟩

theorem r52_Word_ok : r52_Word_g.ok Tryz.prog := by
  refine Sig.lift mix tabOk nms _ Tryz.func48 (c := (bodyOf Tryz.f48)) (by kernel_rfl) (o := orT [r52_plain_g, r02_Digits_g] [r52_Word_L5] noFz) (orT_sound ⟨r52_plain_ok, ⟨r02_Digits_ok, trivial⟩⟩) (allLp_of [nthC (loopsOf (bodyOf Tryz.f48)) 0] (by kernel_rfl) ⟨r52_Word_L5_ok, trivial⟩ (by kernel_rfl)) ?_
  intro z; kernel_rfl

def r52_kind_fz : Nat → List Pre
  | 2 => [.spl 0 15]
  | _ => []

def r52_kind_T (x0 : Int) : Tree Str :=
 .ite ((decide ((1 : Int) ≤ x0)) && (decide (x0 ≤ 14))) (
 .ite (decide (x0 = 0)) (
 .bnd r52_names_T fun y15 =>
 ask (inb 0 15) <|
 .ret y15.1) (
 .ite (decide (x0 = 1)) (
 .bnd r52_names_T fun y14 =>
 ask (inb 1 15) <|
 .ret y14.2.1) (
 .ite (decide (x0 = 2)) (
 .bnd r52_names_T fun y13 =>
 ask (inb 2 15) <|
 .ret y13.2.2.1) (
 .ite (decide (x0 = 3)) (
 .bnd r52_names_T fun y12 =>
 ask (inb 3 15) <|
 .ret y12.2.2.2.1) (
 .ite (decide (x0 = 4)) (
 .bnd r52_names_T fun y11 =>
 ask (inb 4 15) <|
 .ret y11.2.2.2.2.1) (
 .ite (decide (x0 = 5)) (
 .bnd r52_names_T fun y10 =>
 ask (inb 5 15) <|
 .ret y10.2.2.2.2.2.1) (
 .ite (decide (x0 = 6)) (
 .bnd r52_names_T fun y9 =>
 ask (inb 6 15) <|
 .ret y9.2.2.2.2.2.2.1) (
 .ite (decide (x0 = 7)) (
 .bnd r52_names_T fun y8 =>
 ask (inb 7 15) <|
 .ret y8.2.2.2.2.2.2.2.1) (
 .ite (decide (x0 = 8)) (
 .bnd r52_names_T fun y7 =>
 ask (inb 8 15) <|
 .ret y7.2.2.2.2.2.2.2.2.1) (
 .ite (decide (x0 = 9)) (
 .bnd r52_names_T fun y6 =>
 ask (inb 9 15) <|
 .ret y6.2.2.2.2.2.2.2.2.2.1) (
 .ite (decide (x0 = 10)) (
 .bnd r52_names_T fun y5 =>
 ask (inb 10 15) <|
 .ret y5.2.2.2.2.2.2.2.2.2.2.1) (
 .ite (decide (x0 = 11)) (
 .bnd r52_names_T fun y4 =>
 ask (inb 11 15) <|
 .ret y4.2.2.2.2.2.2.2.2.2.2.2.1) (
 .ite (decide (x0 = 12)) (
 .bnd r52_names_T fun y3 =>
 ask (inb 12 15) <|
 .ret y3.2.2.2.2.2.2.2.2.2.2.2.2.1) (
 .ite (decide (x0 = 13)) (
 .bnd r52_names_T fun y2 =>
 ask (inb 13 15) <|
 .ret y2.2.2.2.2.2.2.2.2.2.2.2.2.2.1) (
 .ite (decide (x0 = 14)) (
 .bnd r52_names_T fun y1 =>
 ask (inb 14 15) <|
 .ret y1.2.2.2.2.2.2.2.2.2.2.2.2.2.2) (
 .fail)))))))))))))))) (
 .bnd (r05_Dec_T x0) fun y16 =>
 ask (decide (([107, 105, 110, 100] : Str).length + y16.length ≤ 9223372036854775807)) <|
 .ret (([107, 105, 110, 100] : Str) ++ y16))

def r52_kind_g : Sig := ⟨47, (.cons (.val false (.int .i64)) .nil), .vals (.val false .str), fun z => r52_kind_T z.1, ([] : Str)⟩

theorem r52_kind_ok : r52_kind_g.ok Tryz.prog := by
  refine Sig.lift mix tabOk nms _ Tryz.func47 (c := (bodyOf Tryz.f47)) (by kernel_rfl) (o := orT [r52_names_g, r05_Dec_g] [] r52_kind_fz) (orT_sound ⟨r52_names_ok, ⟨r05_Dec_ok, trivial⟩⟩) (allLp_of [] (by kernel_rfl) trivial rfl) ?_
  intro z; kernel_rfl

def r52_Ctx_L11_step (c : List Seen) (i : Int) (s_ : Str) (k : Int) : Tree ((Str × Int) ⊕ Str) :=
 ask (inb i c.length) <|
 .ite (decide (k < ((c.getD i.toNat (dfl tSeen : Seen)).2.2.length : Int))) (
 ask (decide (s_.length + ([43] : Str).length ≤ 9223372036854775807)) <|
 ask (inb i c.length) <|
 ask (inb k (c.getD i.toNat (dfl tSeen : Seen)).2.2.length) <|
 .bnd (r05_Dec_T ((c.getD i.toNat (dfl tSeen : Seen)).2.2.getD k.toNat (0 : Int))) fun y1 =>
 ask (decide ((s_ ++ ([43] : Str)).length + y1.length ≤ 9223372036854775807)) <|
 .ret (.inl (((s_ ++ ([43] : Str)) ++ y1), (w64 (k + 1))))) (
 .ret (.inr s_))

def r52_Ctx_L11 : Lp := ⟨11, [], [], (.cons (.val false (.list tSeen)) (ca2 (.cons (.val false .str) (.cons (.val false (.int .i64)) (.cons (.val false (.int .i64)) (ca4 (ca16 (ca32 .nil)))))))), .nil, 0, .one 3 [] (.cons (.val false (.list tSeen)) (ca2 (.cons (.val false .str) (.cons (.val false (.int .i64)) (ca (ca4 (ca16 (ca32 .nil)))))))) .nil, fun z => .bnd (.loop (fun v => r52_Ctx_L11_step z.1.1 z.1.2.2.2.2.1 v.1 v.2) (z.1.2.2.2.1, z.1.2.2.2.2.2.1)) fun r => .ret ((z.1.1, (cu2 (r, (z.1.2.2.2.2.1, (cu (cu4 (cu16 (cu32 ())))))))), ())⟩

theorem r52_Ctx_L11_ok : r52_Ctx_L11.ok Tryz.prog (nthC (loopsOf (nthC (loopsOf (bodyOf Tryz.f50)) 0)) 0) := by
  refine Lp.lift (π := ((List Seen) × Int)) (V := (Str × Int)) (ρ := Str) mix tabOk r52_Ctx_L11 (o := orT [r52_Word_g, r05_Dec_g] [] noFz) (orT_sound ⟨r52_Word_ok, ⟨r05_Dec_ok, trivial⟩⟩) (allLp_of [] (by kernel_rfl) trivial rfl) (fun x v => ((x.1, (cu2 (v.1, (x.2, (v.2, (cu4 (cu16 (cu32 ())))))))), ())) (fun x r => ((x.1, (cu2 (r, (x.2, (cu (cu4 (cu16 (cu32 ())))))))), ())) (fun x v => r52_Ctx_L11_step x.1 x.2 v.1 v.2) (fun x r => .ret ((x.1, (cu2 (r, (x.2, (cu (cu4 (cu16 (cu32 ())))))))), ())) (fun z => (z.1.1, z.1.2.2.2.2.1)) (fun z => (z.1.2.2.2.1, z.1.2.2.2.2.2.1)) (fun _ => rfl) (fun _ => rfl) (fun _ _ _ h => h) ?_
  intro x v; kernel_rfl

def r52_Ctx_L5_step (c : List Seen) (s_ : Str) (i : Int) : Tree ((Str × Int) ⊕ Str) :=
 .ite (decide (i < (c.length : Int))) (
 .ite (decide ((0 : Int) < i)) (
 ask (decide (s_.length + ([44] : Str).length ≤ 9223372036854775807)) <|
 ask (inb i c.length) <|
 .bnd (r52_Word_T (c.getD i.toNat (dfl tSeen : Seen)).1) fun y1 =>
 ask (decide ((s_ ++ ([44] : Str)).length + y1.length ≤ 9223372036854775807)) <|
 ask (decide (((s_ ++ ([44] : Str)) ++ y1).length + ([58] : Str).length ≤ 9223372036854775807)) <|
 ask (inb i c.length) <|
 .bnd (r05_Dec_T (c.getD i.toNat (dfl tSeen : Seen)).2.1) fun y2 =>
 ask (decide ((((s_ ++ ([44] : Str)) ++ y1) ++ ([58] : Str)).length + y2.length ≤ 9223372036854775807)) <|
 .bnd (.loop (fun v => r52_Ctx_L11_step c i v.1 v.2) (((((s_ ++ ([44] : Str)) ++ y1) ++ ([58] : Str)) ++ y2), 0)) fun r3 =>
 .ret (.inl (r3, (w64 (i + 1))))) (
 ask (inb i c.length) <|
 .bnd (r52_Word_T (c.getD i.toNat (dfl tSeen : Seen)).1) fun y4 =>
 ask (decide (s_.length + y4.length ≤ 9223372036854775807)) <|
 ask (decide ((s_ ++ y4).length + ([58] : Str).length ≤ 9223372036854775807)) <|
 ask (inb i c.length) <|
 .bnd (r05_Dec_T (c.getD i.toNat (dfl tSeen : Seen)).2.1) fun y5 =>
 ask (decide (((s_ ++ y4) ++ ([58] : Str)).length + y5.length ≤ 9223372036854775807)) <|
 .bnd (.loop (fun v => r52_Ctx_L11_step c i v.1 v.2) ((((s_ ++ y4) ++ ([58] : Str)) ++ y5), 0)) fun r6 =>
 .ret (.inl (r6, (w64 (i + 1)))))) (
 .ret (.inr s_))

def r52_Ctx_L5 : Lp := ⟨5, [], [], (.cons (.val false (.list tSeen)) (ca2 (.cons (.val false .str) (.cons (.val false (.int .i64)) (ca (ca4 (ca16 (ca32 .nil)))))))), .nil, 0, .one 1 [] (ca (ca2 (.cons (.val false .str) (ca2 (ca4 (ca16 (ca32 .nil))))))) .nil, fun z => .bnd (.loop (fun v => r52_Ctx_L5_step z.1.1 v.1 v.2) (z.1.2.2.2.1, z.1.2.2.2.2.1)) fun r => .ret ((cu (cu2 (r, (cu2 (cu4 (cu16 (cu32 ()))))))), ())⟩

theorem r52_Ctx_L5_ok : r52_Ctx_L5.ok Tryz.prog (nthC (loopsOf (bodyOf Tryz.f50)) 0) := by
  refine Lp.lift (π := List Seen) (V := (Str × Int)) (ρ := Str) mix tabOk r52_Ctx_L5 (o := orT [r52_Word_g, r05_Dec_g] [r52_Ctx_L11] noFz) (orT_sound ⟨r52_Word_ok, ⟨r05_Dec_ok, trivial⟩⟩) (allLp_of [nthC (loopsOf (nthC (loopsOf (bodyOf Tryz.f50)) 0)) 0] (by kernel_rfl) ⟨r52_Ctx_L11_ok, trivial⟩ (by kernel_rfl)) (fun x v => ((x, (cu2 (v.1, (v.2, (cu (cu4 (cu16 (cu32 ())))))))), ())) (fun x r => ((cu (cu2 (r, (cu2 (cu4 (cu16 (cu32 ()))))))), ())) (fun x v => r52_Ctx_L5_step x v.1 v.2) (fun x r => .ret ((cu (cu2 (r, (cu2 (cu4 (cu16 (cu32 ()))))))), ())) (fun z => z.1.1) (fun z => (z.1.2.2.2.1, z.1.2.2.2.2.1)) (fun _ => rfl) (fun _ => rfl) (fun _ _ _ h => h) ?_
  intro x v; kernel_rfl

def r52_Ctx_T (x0 : List Seen) : Tree Str :=
 .ite (decide ((x0.length : Int) = 0)) (
 .ret ([95] : Str)) (
 .bnd (.loop (fun v => r52_Ctx_L5_step x0 v.1 v.2) (([] : Str), 0)) fun r1 =>
 .ret r1)

def r52_Ctx_g : Sig := ⟨50, (.cons (.val false (.list tSeen)) .nil), .vals (.val false .str), fun z => r52_Ctx_T z.1, ([] : Str)⟩

theorem r52_Ctx_ok : r52_Ctx_g.ok Tryz.prog := by
  refine Sig.lift mix tabOk nms _ Tryz.func50 (c := (bodyOf Tryz.f50)) (by kernel_rfl) (o := orT [r52_Word_g, r05_Dec_g] [r52_Ctx_L5] noFz) (orT_sound ⟨r52_Word_ok, ⟨r05_Dec_ok, trivial⟩⟩) (allLp_of [nthC (loopsOf (bodyOf Tryz.f50)) 0] (by kernel_rfl) ⟨r52_Ctx_L5_ok, trivial⟩ (by kernel_rfl)) ?_
  intro z; kernel_rfl

def r52_state_T (x0 : Bool) : Tree Str :=
 .ite x0 (
 .ret ([117, 112] : Str)) (
 .ret ([100, 111, 119, 110] : Str))

def r52_state_g : Sig := ⟨51, (.cons (.val false .bool) .nil), .vals (.val false .str), fun z => r52_state_T z.1, ([] : Str)⟩

theorem r52_state_ok : r52_state_g.ok Tryz.prog := by
  refine Sig.lift mix tabOk nms _ Tryz.func51 (c := (bodyOf Tryz.f51)) (by kernel_rfl) (o := orT [] [] noFz) (orT_sound trivial) (allLp_of [] (by kernel_rfl) trivial rfl) ?_
  intro z; kernel_rfl

def r52_Line_T (x0 : Event) : Tree Str :=
 .bnd (r52_kind_T x0.1) fun y1 =>
 ask (decide (y1.length + ([32] : Str).length ≤ 9223372036854775807)) <|
 .bnd (r52_Word_T x0.2.1) fun y2 =>
 ask (decide ((y1 ++ ([32] : Str)).length + y2.length ≤ 9223372036854775807)) <|
 ask (decide (((y1 ++ ([32] : Str)) ++ y2).length + ([32] : Str).length ≤ 9223372036854775807)) <|
 .bnd (r52_Word_T x0.2.2.1) fun y3 =>
 ask (decide ((((y1 ++ ([32] : Str)) ++ y2) ++ ([32] : Str)).length + y3.length ≤ 9223372036854775807)) <|
 ask (decide (((((y1 ++ ([32] : Str)) ++ y2) ++ ([32] : Str)) ++ y3).length + ([32] : Str).length ≤ 9223372036854775807)) <|
 .bnd (r52_Word_T x0.2.2.2.1) fun y4 =>
 ask (decide ((((((y1 ++ ([32] : Str)) ++ y2) ++ ([32] : Str)) ++ y3) ++ ([32] : Str)).length + y4.length ≤ 9223372036854775807)) <|
 ask (decide (((((((y1 ++ ([32] : Str)) ++ y2) ++ ([32] : Str)) ++ y3) ++ ([32] : Str)) ++ y4).length + ([32] : Str).length ≤ 9223372036854775807)) <|
 .bnd (r05_Dec_T x0.2.2.2.2.1) fun y5 =>
 ask (decide ((((((((y1 ++ ([32] : Str)) ++ y2) ++ ([32] : Str)) ++ y3) ++ ([32] : Str)) ++ y4) ++ ([32] : Str)).length + y5.length ≤ 9223372036854775807)) <|
 .ite (decide (x0.1 = 1)) (
 ask (decide (((((((((y1 ++ ([32] : Str)) ++ y2) ++ ([32] : Str)) ++ y3) ++ ([32] : Str)) ++ y4) ++ ([32] : Str)) ++ y5).length + ([32] : Str).length ≤ 9223372036854775807)) <|
 .bnd (r05_Dec_T x0.2.2.2.2.2.1.1) fun y6 =>
 ask (decide ((((((((((y1 ++ ([32] : Str)) ++ y2) ++ ([32] : Str)) ++ y3) ++ ([32] : Str)) ++ y4) ++ ([32] : Str)) ++ y5) ++ ([32] : Str)).length + y6.length ≤ 9223372036854775807)) <|
 ask (decide (((((((((((y1 ++ ([32] : Str)) ++ y2) ++ ([32] : Str)) ++ y3) ++ ([32] : Str)) ++ y4) ++ ([32] : Str)) ++ y5) ++ ([32] : Str)) ++ y6).length + ([32] : Str).length ≤ 9223372036854775807)) <|
 .bnd (r52_Word_T x0.2.2.2.2.2.1.2.1) fun y7 =>
 ask (decide ((((((((((((y1 ++ ([32] : Str)) ++ y2) ++ ([32] : Str)) ++ y3) ++ ([32] : Str)) ++ y4) ++ ([32] : Str)) ++ y5) ++ ([32] : Str)) ++ y6) ++ ([32] : Str)).length + y7.length ≤ 9223372036854775807)) <|
 ask (decide (((((((((((((y1 ++ ([32] : Str)) ++ y2) ++ ([32] : Str)) ++ y3) ++ ([32] : Str)) ++ y4) ++ ([32] : Str)) ++ y5) ++ ([32] : Str)) ++ y6) ++ ([32] : Str)) ++ y7).length + ([32] : Str).length ≤ 9223372036854775807)) <|
 .bnd (r52_Word_T x0.2.2.2.2.2.1.2.2.1) fun y8 =>
 ask (decide ((((((((((((((y1 ++ ([32] : Str)) ++ y2) ++ ([32] : Str)) ++ y3) ++ ([32] : Str)) ++ y4) ++ ([32] : Str)) ++ y5) ++ ([32] : Str)) ++ y6) ++ ([32] : Str)) ++ y7) ++ ([32] : Str)).length + y8.length ≤ 9223372036854775807)) <|
 ask (decide (((((((((((((((y1 ++ ([32] : Str)) ++ y2) ++ ([32] : Str)) ++ y3) ++ ([32] : Str)) ++ y4) ++ ([32] : Str)) ++ y5) ++ ([32] : Str)) ++ y6) ++ ([32] : Str)) ++ y7) ++ ([32] : Str)) ++ y8).length + ([32] : Str).length ≤ 9223372036854775807)) <|
 .bnd (r52_Word_T x0.2.2.2.2.2.1.2.2.2.1) fun y9 =>
 ask (decide ((((((((((((((((y1 ++ ([32] : Str)) ++ y2) ++ ([32] : Str)) ++ y3) ++ ([32] : Str)) ++ y4) ++ ([32] : Str)) ++ y5) ++ ([32] : Str)) ++ y6) ++ ([32] : Str)) ++ y7) ++ ([32] : Str)) ++ y8) ++ ([32] : Str)).length + y9.length ≤ 9223372036854775807)) <|
 ask (decide (((((((((((((((((y1 ++ ([32] : Str)) ++ y2) ++ ([32] : Str)) ++ y3) ++ ([32] : Str)) ++ y4) ++ ([32] : Str)) ++ y5) ++ ([32] : Str)) ++ y6) ++ ([32] : Str)) ++ y7) ++ ([32] : Str)) ++ y8) ++ ([32] : Str)) ++ y9).length + ([32] : Str).length ≤ 9223372036854775807)) <|
 .bnd (r52_Word_T x0.2.2.2.2.2.1.2.2.2.2.1) fun y10 =>
 ask (decide ((((((((((((((((((y1 ++ ([32] : Str)) ++ y2) ++ ([32] : Str)) ++ y3) ++ ([32] : Str)) ++ y4) ++ ([32] : Str)) ++ y5) ++ ([32] : Str)) ++ y6) ++ ([32] : Str)) ++ y7) ++ ([32] : Str)) ++ y8) ++ ([32] : Str)) ++ y9) ++ ([32] : Str)).length + y10.length ≤ 9223372036854775807)) <|
 ask (decide (((((((((((((((((((y1 ++ ([32] : Str)) ++ y2) ++ ([32] : Str)) ++ y3) ++ ([32] : Str)) ++ y4) ++ ([32] : Str)) ++ y5) ++ ([32] : Str)) ++ y6) ++ ([32] : Str)) ++ y7) ++ ([32] : Str)) ++ y8) ++ ([32] : Str)) ++ y9) ++ ([32] : Str)) ++ y10).length + ([32] : Str).length ≤ 9223372036854775807)) <|
 .bnd (r52_Ctx_T x0.2.2.2.2.2.1.2.2.2.2.2.1) fun y11 =>
 ask (decide ((((((((((((((((((((y1 ++ ([32] : Str)) ++ y2) ++ ([32] : Str)) ++ y3) ++ ([32] : Str)) ++ y4) ++ ([32] : Str)) ++ y5) ++ ([32] : Str)) ++ y6) ++ ([32] : Str)) ++ y7) ++ ([32] : Str)) ++ y8) ++ ([32] : Str)) ++ y9) ++ ([32] : Str)) ++ y10) ++ ([32] : Str)).length + y11.length ≤ 9223372036854775807)) <|
 ask (decide (((((((((((((((((((((y1 ++ ([32] : Str)) ++ y2) ++ ([32] : Str)) ++ y3) ++ ([32] : Str)) ++ y4) ++ ([32] : Str)) ++ y5) ++ ([32] : Str)) ++ y6) ++ ([32] : Str)) ++ y7) ++ ([32] : Str)) ++ y8) ++ ([32] : Str)) ++ y9) ++ ([32] : Str)) ++ y10) ++ ([32] : Str)) ++ y11).length + ([32] : Str).length ≤ 9223372036854775807)) <|
 .bnd (r05_Dec_T x0.2.2.2.2.2.1.2.2.2.2.2.2) fun y12 =>
 ask (decide ((((((((((((((((((((((y1 ++ ([32] : Str)) ++ y2) ++ ([32] : Str)) ++ y3) ++ ([32] : Str)) ++ y4) ++ ([32] : Str)) ++ y5) ++ ([32] : Str)) ++ y6) ++ ([32] : Str)) ++ y7) ++ ([32] : Str)) ++ y8) ++ ([32] : Str)) ++ y9) ++ ([32] : Str)) ++ y10) ++ ([32] : Str)) ++ y11) ++ ([32] : Str)).length + y12.length ≤ 9223372036854775807)) <|
 .ret ((((((((((((((((((((((y1 ++ ([32] : Str)) ++ y2) ++ ([32] : Str)) ++ y3) ++ ([32] : Str)) ++ y4) ++ ([32] : Str)) ++ y5) ++ ([32] : Str)) ++ y6) ++ ([32] : Str)) ++ y7) ++ ([32] : Str)) ++ y8) ++ ([32] : Str)) ++ y9) ++ ([32] : Str)) ++ y10) ++ ([32] : Str)) ++ y11) ++ ([32] : Str)) ++ y12)) (
 .ite (decide (x0.1 = 14)) (
 ask (decide (((((((((y1 ++ ([32] : Str)) ++ y2) ++ ([32] : Str)) ++ y3) ++ ([32] : Str)) ++ y4) ++ ([32] : Str)) ++ y5).length + ([32] : Str).length ≤ 9223372036854775807)) <|
 .bnd (r05_Dec_T x0.2.2.2.2.2.2.1) fun y13 =>
 ask (decide ((((((((((y1 ++ ([32] : Str)) ++ y2) ++ ([32] : Str)) ++ y3) ++ ([32] : Str)) ++ y4) ++ ([32] : Str)) ++ y5) ++ ([32] : Str)).length + y13.length ≤ 9223372036854775807)) <|
 ask (decide (((((((((((y1 ++ ([32] : Str)) ++ y2) ++ ([32] : Str)) ++ y3) ++ ([32] : Str)) ++ y4) ++ ([32] : Str)) ++ y5) ++ ([32] : Str)) ++ y13).length + ([32] : Str).length ≤ 9223372036854775807)) <|
 .bnd (r52_Word_T x0.2.2.2.2.2.2.2.1) fun y14 =>
 ask (decide ((((((((((((y1 ++ ([32] : Str)) ++ y2) ++ ([32] : Str)) ++ y3) ++ ([32] : Str)) ++ y4) ++ ([32] : Str)) ++ y5) ++ ([32] : Str)) ++ y13) ++ ([32] : Str)).length + y14.length ≤ 9223372036854775807)) <|
 ask (decide (((((((((((((y1 ++ ([32] : Str)) ++ y2) ++ ([32] : Str)) ++ y3) ++ ([32] : Str)) ++ y4) ++ ([32] : Str)) ++ y5) ++ ([32] : Str)) ++ y13) ++ ([32] : Str)) ++ y14).length + ([32] : Str).length ≤ 9223372036854775807)) <|
 .bnd (r52_Word_T x0.2.2.2.2.2.2.2.2.1) fun y15 =>
 ask (decide ((((((((((((((y1 ++ ([32] : Str)) ++ y2) ++ ([32] : Str)) ++ y3) ++ ([32] : Str)) ++ y4) ++ ([32] : Str)) ++ y5) ++ ([32] : Str)) ++ y13) ++ ([32] : Str)) ++ y14) ++ ([32] : Str)).length + y15.length ≤ 9223372036854775807)) <|
 ask (decide (((((((((((((((y1 ++ ([32] : Str)) ++ y2) ++ ([32] : Str)) ++ y3) ++ ([32] : Str)) ++ y4) ++ ([32] : Str)) ++ y5) ++ ([32] : Str)) ++ y13) ++ ([32] : Str)) ++ y14) ++ ([32] : Str)) ++ y15).length + ([32] : Str).length ≤ 9223372036854775807)) <|
 .bnd (r52_Word_T x0.2.2.2.2.2.2.2.2.2.1) fun y16 =>
 ask (decide ((((((((((((((((y1 ++ ([32] : Str)) ++ y2) ++ ([32] : Str)) ++ y3) ++ ([32] : Str)) ++ y4) ++ ([32] : Str)) ++ y5) ++ ([32] : Str)) ++ y13) ++ ([32] : Str)) ++ y14) ++ ([32] : Str)) ++ y15) ++ ([32] : Str)).length + y16.length ≤ 9223372036854775807)) <|
 ask (decide (((((((((((((((((y1 ++ ([32] : Str)) ++ y2) ++ ([32] : Str)) ++ y3) ++ ([32] : Str)) ++ y4) ++ ([32] : Str)) ++ y5) ++ ([32] : Str)) ++ y13) ++ ([32] : Str)) ++ y14) ++ ([32] : Str)) ++ y15) ++ ([32] : Str)) ++ y16).length + ([32] : Str).length ≤ 9223372036854775807)) <|
 .bnd (r52_Word_T x0.2.2.2.2.2.2.2.2.2.2.1) fun y17 =>
 ask (decide ((((((((((((((((((y1 ++ ([32] : Str)) ++ y2) ++ ([32] : Str)) ++ y3) ++ ([32] : Str)) ++ y4) ++ ([32] : Str)) ++ y5) ++ ([32] : Str)) ++ y13) ++ ([32] : Str)) ++ y14) ++ ([32] : Str)) ++ y15) ++ ([32] : Str)) ++ y16) ++ ([32] : Str)).length + y17.length ≤ 9223372036854775807)) <|
 ask (decide (((((((((((((((((((y1 ++ ([32] : Str)) ++ y2) ++ ([32] : Str)) ++ y3) ++ ([32] : Str)) ++ y4) ++ ([32] : Str)) ++ y5) ++ ([32] : Str)) ++ y13) ++ ([32] : Str)) ++ y14) ++ ([32] : Str)) ++ y15) ++ ([32] : Str)) ++ y16) ++ ([32] : Str)) ++ y17).length + ([32] : Str).length ≤ 9223372036854775807)) <|
 .bnd (r05_Dec_T x0.2.2.2.2.2.2.2.2.2.2.2.1) fun y18 =>
 ask (decide ((((((((((((((((((((y1 ++ ([32] : Str)) ++ y2) ++ ([32] : Str)) ++ y3) ++ ([32] : Str)) ++ y4) ++ ([32] : Str)) ++ y5) ++ ([32] : Str)) ++ y13) ++ ([32] : Str)) ++ y14) ++ ([32] : Str)) ++ y15) ++ ([32] : Str)) ++ y16) ++ ([32] : Str)) ++ y17) ++ ([32] : Str)).length + y18.length ≤ 9223372036854775807)) <|
 ask (decide (((((((((((((((((((((y1 ++ ([32] : Str)) ++ y2) ++ ([32] : Str)) ++ y3) ++ ([32] : Str)) ++ y4) ++ ([32] : Str)) ++ y5) ++ ([32] : Str)) ++ y13) ++ ([32] : Str)) ++ y14) ++ ([32] : Str)) ++ y15) ++ ([32] : Str)) ++ y16) ++ ([32] : Str)) ++ y17) ++ ([32] : Str)) ++ y18).length + ([32] : Str).length ≤ 9223372036854775807)) <|
 .bnd (r52_Word_T x0.2.2.2.2.2.2.2.2.2.2.2.2.1) fun y19 =>
 ask (decide ((((((((((((((((((((((y1 ++ ([32] : Str)) ++ y2) ++ ([32] : Str)) ++ y3) ++ ([32] : Str)) ++ y4) ++ ([32] : Str)) ++ y5) ++ ([32] : Str)) ++ y13) ++ ([32] : Str)) ++ y14) ++ ([32] : Str)) ++ y15) ++ ([32] : Str)) ++ y16) ++ ([32] : Str)) ++ y17) ++ ([32] : Str)) ++ y18) ++ ([32] : Str)).length + y19.length ≤ 9223372036854775807)) <|
 ask (decide (((((((((((((((((((((((y1 ++ ([32] : Str)) ++ y2) ++ ([32] : Str)) ++ y3) ++ ([32] : Str)) ++ y4) ++ ([32] : Str)) ++ y5) ++ ([32] : Str)) ++ y13) ++ ([32] : Str)) ++ y14) ++ ([32] : Str)) ++ y15) ++ ([32] : Str)) ++ y16) ++ ([32] : Str)) ++ y17) ++ ([32] : Str)) ++ y18) ++ ([32] : Str)) ++ y19).length + ([32] : Str).length ≤ 9223372036854775807)) <|
 .bnd (r52_Word_T x0.2.2.2.2.2.2.2.2.2.2.2.2.2.1) fun y20 =>
 ask (decide ((((((((((((((((((((((((y1 ++ ([32] : Str)) ++ y2) ++ ([32] : Str)) ++ y3) ++ ([32] : Str)) ++ y4) ++ ([32] : Str)) ++ y5) ++ ([32] : Str)) ++ y13) ++ ([32] : Str)) ++ y14) ++ ([32] : Str)) ++ y15) ++ ([32] : Str)) ++ y16) ++ ([32] : Str)) ++ y17) ++ ([32] : Str)) ++ y18) ++ ([32] : Str)) ++ y19) ++ ([32] : Str)).length + y20.length ≤ 9223372036854775807)) <|
 ask (decide (((((((((((((((((((((((((y1 ++ ([32] : Str)) ++ y2) ++ ([32] : Str)) ++ y3) ++ ([32] : Str)) ++ y4) ++ ([32] : Str)) ++ y5) ++ ([32] : Str)) ++ y13) ++ ([32] : Str)) ++ y14) ++ ([32] : Str)) ++ y15) ++ ([32] : Str)) ++ y16) ++ ([32] : Str)) ++ y17) ++ ([32] : Str)) ++ y18) ++ ([32] : Str)) ++ y19) ++ ([32] : Str)) ++ y20).length + ([32] : Str).length ≤ 9223372036854775807)) <|
 .bnd (r52_Word_T x0.2.2.2.2.2.2.2.2.2.2.2.2.2.2.1) fun y21 =>
 ask (decide ((((((((((((((((((((((((((y1 ++ ([32] : Str)) ++ y2) ++ ([32] : Str)) ++ y3) ++ ([32] : Str)) ++ y4) ++ ([32] : Str)) ++ y5) ++ ([32] : Str)) ++ y13) ++ ([32] : Str)) ++ y14) ++ ([32] : Str)) ++ y15) ++ ([32] : Str)) ++ y16) ++ ([32] : Str)) ++ y17) ++ ([32] : Str)) ++ y18) ++ ([32] : Str)) ++ y19) ++ ([32] : Str)) ++ y20) ++ ([32] : Str)).length + y21.length ≤ 9223372036854775807)) <|
 ask (decide (((((((((((((((((((((((((((y1 ++ ([32] : Str)) ++ y2) ++ ([32] : Str)) ++ y3) ++ ([32] : Str)) ++ y4) ++ ([32] : Str)) ++ y5) ++ ([32] : Str)) ++ y13) ++ ([32] : Str)) ++ y14) ++ ([32] : Str)) ++ y15) ++ ([32] : Str)) ++ y16) ++ ([32] : Str)) ++ y17) ++ ([32] : Str)) ++ y18) ++ ([32] : Str)) ++ y19) ++ ([32] : Str)) ++ y20) ++ ([32] : Str)) ++ y21).length + ([32] : Str).length ≤ 9223372036854775807)) <|
 .bnd (r52_state_T x0.2.2.2.2.2.2.2.2.2.2.2.2.2.2.2) fun y22 =>
 ask (decide ((((((((((((((((((((((((((((y1 ++ ([32] : Str)) ++ y2) ++ ([32] : Str)) ++ y3) ++ ([32] : Str)) ++ y4) ++ ([32] : Str)) ++ y5) ++ ([32] : Str)) ++ y13) ++ ([32] : Str)) ++ y14) ++ ([32] : Str)) ++ y15) ++ ([32] : Str)) ++ y16) ++ ([32] : Str)) ++ y17) ++ ([32] : Str)) ++ y18) ++ ([32] : Str)) ++ y19) ++ ([32] : Str)) ++ y20) ++ ([32] : Str)) ++ y21) ++ ([32] : Str)).length + y22.length ≤ 9223372036854775807)) <|
 .ret ((((((((((((((((((((((((((((y1 ++ ([32] : Str)) ++ y2) ++ ([32] : Str)) ++ y3) ++ ([32] : Str)) ++ y4) ++ ([32] : Str)) ++ y5) ++ ([32] : Str)) ++ y13) ++ ([32] : Str)) ++ y14) ++ ([32] : Str)) ++ y15) ++ ([32] : Str)) ++ y16) ++ ([32] : Str)) ++ y17) ++ ([32] : Str)) ++ y18) ++ ([32] : Str)) ++ y19) ++ ([32] : Str)) ++ y20) ++ ([32] : Str)) ++ y21) ++ ([32] : Str)) ++ y22)) (
 .ret ((((((((y1 ++ ([32] : Str)) ++ y2) ++ ([32] : Str)) ++ y3) ++ ([32] : Str)) ++ y4) ++ ([32] : Str)) ++ y5)))

def r52_Line_g : Sig := ⟨25, (.cons (.val true tEvent) .nil), .vals (.val false .str), fun z => r52_Line_T z.1, ([] : Str)⟩

theorem r52_Line_ok : r52_Line_g.ok Tryz.prog := by
  refine Sig.lift mix tabOk nms _ Tryz.func25 (c := (bodyOf Tryz.f25)) (by kernel_rfl) (o := orT [r52_kind_g, r52_Word_g, r05_Dec_g, r52_Ctx_g, r52_state_g] [] noFz) (orT_sound ⟨r52_kind_ok, ⟨r52_Word_ok, ⟨r05_Dec_ok, ⟨r52_Ctx_ok, ⟨r52_state_ok, trivial⟩⟩⟩⟩⟩) (allLp_of [] (by kernel_rfl) trivial rfl) ?_
  intro z; kernel_rfl

def r06_Few_L2_step (c : List Seen) (i : Int) : Tree (Int ⊕ (Bool ⊕ Unit)) :=
 .ite ((decide (i < (c.length : Int))) && (decide (i < 12))) (
 ask (inb i c.length) <|
 ask ((!(!(decide ((100 : Int) < ((c.getD i.toNat (dfl tSeen : Seen)).1.length : Int))))) || inb i c.length) <|
 .ite ((decide ((100 : Int) < ((c.getD i.toNat (dfl tSeen : Seen)).1.length : Int))) || (decide ((40 : Int) < ((c.getD i.toNat (dfl tSeen : Seen)).2.2.length : Int)))) (
 .ret (.inr (.inl false))) (
 .ret (.inl (w64 (i + 1))))) (
 .ret (.inr (.inr ())))

def r06_Few_L2 : Lp := ⟨2, [], [], (.cons (.val false (.list tSeen)) (ca2 (.cons (.val false (.int .i64)) (ca (ca4 (ca8 (ca16 .nil))))))), .nil, 0, .more 0 [] (ca2 (.cons (.val false .bool) (ca2 (ca4 (ca8 (ca16 .nil)))))) .nil (.one 1 [] (.cons (.val false (.list tSeen)) (ca32 .nil)) .nil), fun z => .bnd (.loop (fun v => r06_Few_L2_step z.1.1 v) z.1.2.2.2.1) fun r => .sum r (fun a0 => .ret (.inl ((cu2 (a0, (cu2 (cu4 (cu8 (cu16 ())))))), ()))) (fun b0 => .ret (.inr ((z.1.1, (cu32 ())), ())))⟩

theorem r06_Few_L2_ok : r06_Few_L2.ok Tryz.prog (nthC (loopsOf (bodyOf Tryz.f53)) 0) := by
  refine Lp.lift (π := List Seen) (V := Int) (ρ := (Bool ⊕ Unit)) mix tabOk r06_Few_L2 (o := orT [] [] noFz) (orT_sound trivial) (allLp_of [] (by kernel_rfl) trivial rfl) (fun x v => ((x, (cu2 (v, (cu (cu4 (cu8 (cu16 ()))))))), ())) (fun x r => match r with | .inl a0 => .inl ((cu2 (a0, (cu2 (cu4 (cu8 (cu16 ())))))), ()) | .inr b0 => (.inr ((x, (cu32 ())), ()))) (fun x v => r06_Few_L2_step x v) (fun x r => .sum r (fun a0 => .ret (.inl ((cu2 (a0, (cu2 (cu4 (cu8 (cu16 ())))))), ()))) (fun b0 => .ret (.inr ((x, (cu32 ())), ())))) (fun z => z.1.1) (fun z => z.1.2.2.2.1) (fun _ => rfl) (fun _ => rfl) (fun x r Q h => match r, h with | .inl _, h => h | .inr b0, h => (h)) ?_
  intro x v; kernel_rfl

def r06_Few_T (x0 : List Seen) : Tree Bool :=
 .bnd (.loop (fun v => r06_Few_L2_step x0 v) 0) fun r1 =>
 .sum r1 (fun r2 =>
 .ret r2) (fun r3 =>
 .ret (decide ((x0.length : Int) ≤ 12)))

def r06_Few_g : Sig := ⟨53, (.cons (.val false (.list tSeen)) .nil), .vals (.val false .bool), fun z => r06_Few_T z.1, false⟩

theorem r06_Few_ok : r06_Few_g.ok Tryz.prog := by
  refine Sig.lift mix tabOk nms _ Tryz.func53 (c := (bodyOf Tryz.f53)) (by kernel_rfl) (o := orT [] [r06_Few_L2] noFz) (orT_sound trivial) (allLp_of [nthC (loopsOf (bodyOf Tryz.f53)) 0] (by kernel_rfl) ⟨r06_Few_L2_ok, trivial⟩ (by kernel_rfl)) ?_
  intro z; kernel_rfl

def r40_Few_T (x0 : Call) : Tree Bool :=
 .grd ((((decide ((x0.2.1.length : Int) ≤ 300)) && (decide ((x0.2.2.1.length : Int) ≤ 100))) && (decide ((x0.2.2.2.1.length : Int) ≤ 100))) && (decide ((x0.2.2.2.2.1.length : Int) ≤ 300))) (r06_Few_T x0.2.2.2.2.2.1) false fun y1 =>
 .ret (((((decide ((x0.2.1.length : Int) ≤ 300)) && (decide ((x0.2.2.1.length : Int) ≤ 100))) && (decide ((x0.2.2.2.1.length : Int) ≤ 100))) && (decide ((x0.2.2.2.2.1.length : Int) ≤ 300))) && y1)

def r40_Few_g : Sig := ⟨27, (.cons (.val true tCall) .nil), .vals (.val false .bool), fun z => r40_Few_T z.1, false⟩

theorem r40_Few_ok : r40_Few_g.ok Tryz.prog := by
  refine Sig.lift mix tabOk nms _ Tryz.func27 (c := (bodyOf Tryz.f27)) (by kernel_rfl) (o := orT [r06_Few_g] [] noFz) (orT_sound ⟨r06_Few_ok, trivial⟩) (allLp_of [] (by kernel_rfl) trivial rfl) ?_
  intro z; kernel_rfl

def r13_Few_L2_step (l : List Member) (most : Int) (i : Int) : Tree (Int ⊕ (Bool ⊕ Unit)) :=
 .ite ((decide (i < (l.length : Int))) && (decide (i < most))) (
 ask (inb i l.length) <|
 ask ((!(!(decide ((100 : Int) < ((l.getD i.toNat (dfl tMember : Member)).1.length : Int))))) || inb i l.length) <|
 ask ((!(!((decide ((100 : Int) < ((l.getD i.toNat (dfl tMember : Member)).1.length : Int))) || (decide ((100 : Int) < ((l.getD i.toNat (dfl tMember : Member)).2.1.length : Int)))))) || inb i l.length) <|
 .ite (((decide ((100 : Int) < ((l.getD i.toNat (dfl tMember : Member)).1.length : Int))) || (decide ((100 : Int) < ((l.getD i.toNat (dfl tMember : Member)).2.1.length : Int)))) || (decide ((100 : Int) < ((l.getD i.toNat (dfl tMember : Member)).2.2.1.length : Int)))) (
 .ret (.inr (.inl false))) (
 .ret (.inl (w64 (i + 1))))) (
 .ret (.inr (.inr ())))

def r13_Few_L2 : Lp := ⟨2, [], [], (.cons (.val false (.list tMember)) (.cons (.val false (.int .i64)) (ca (ca2 (.cons (.val false (.int .i64)) (ca8 (ca32 .nil))))))), .nil, 0, .more 0 [] (ca4 (.cons (.val false .bool) (ca (ca8 (ca32 .nil))))) .nil (.one 1 [] (.cons (.val false (.list tMember)) (.cons (.val false (.int .i64)) (ca4 (ca8 (ca32 .nil))))) .nil), fun z => .bnd (.loop (fun v => r13_Few_L2_step z.1.1 z.1.2.1 v) z.1.2.2.2.2.2.1) fun r => .sum r (fun a0 => .ret (.inl ((cu4 (a0, (cu (cu8 (cu32 ()))))), ()))) (fun b0 => .ret (.inr ((z.1.1, (z.1.2.1, (cu4 (cu8 (cu32 ()))))), ())))⟩

theorem r13_Few_L2_ok : r13_Few_L2.ok Tryz.prog (nthC (loopsOf (bodyOf Tryz.f54)) 0) := by
  refine Lp.lift (π := ((List Member) × Int)) (V := Int) (ρ := (Bool ⊕ Unit)) mix tabOk r13_Few_L2 (o := orT [] [] noFz) (orT_sound trivial) (allLp_of [] (by kernel_rfl) trivial rfl) (fun x v => ((x.1, (x.2, (cu (cu2 (v, (cu8 (cu32 ()))))))), ())) (fun x r => match r with | .inl a0 => .inl ((cu4 (a0, (cu (cu8 (cu32 ()))))), ()) | .inr b0 => (.inr ((x.1, (x.2, (cu4 (cu8 (cu32 ()))))), ()))) (fun x v => r13_Few_L2_step x.1 x.2 v) (fun x r => .sum r (fun a0 => .ret (.inl ((cu4 (a0, (cu (cu8 (cu32 ()))))), ()))) (fun b0 => .ret (.inr ((x.1, (x.2, (cu4 (cu8 (cu32 ()))))), ())))) (fun z => (z.1.1, z.1.2.1)) (fun z => z.1.2.2.2.2.2.1) (fun _ => rfl) (fun _ => rfl) (fun x r Q h => match r, h with | .inl _, h => h | .inr b0, h => (h)) ?_
  intro x v; kernel_rfl

def r13_Few_T (x0 : List Member) (x1 : Int) : Tree Bool :=
 .bnd (.loop (fun v => r13_Few_L2_step x0 x1 v) 0) fun r1 =>
 .sum r1 (fun r2 =>
 .ret r2) (fun r3 =>
 .ret (decide ((x0.length : Int) ≤ x1)))

def r13_Few_g : Sig := ⟨54, (.cons (.val false (.list tMember)) (.cons (.val false (.int .i64)) .nil)), .vals (.val false .bool), fun z => r13_Few_T z.1 z.2.1, false⟩

theorem r13_Few_ok : r13_Few_g.ok Tryz.prog := by
  refine Sig.lift mix tabOk nms _ Tryz.func54 (c := (bodyOf Tryz.f54)) (by kernel_rfl) (o := orT [] [r13_Few_L2] noFz) (orT_sound trivial) (allLp_of [nthC (loopsOf (bodyOf Tryz.f54)) 0] (by kernel_rfl) ⟨r13_Few_L2_ok, trivial⟩ (by kernel_rfl)) ?_
  intro z; kernel_rfl

def r41_Few_T (x0 : Admin) : Tree Bool :=
 .grd ((((decide ((x0.2.1.length : Int) ≤ 100)) && (decide ((x0.2.2.1.length : Int) ≤ 100))) && (decide ((x0.2.2.2.1.length : Int) ≤ 100))) && (decide ((x0.2.2.2.2.1.length : Int) ≤ 300))) (r13_Few_T [x0.2.2.2.2.2.2] 1) false fun y1 =>
 .ret (((((decide ((x0.2.1.length : Int) ≤ 100)) && (decide ((x0.2.2.1.length : Int) ≤ 100))) && (decide ((x0.2.2.2.1.length : Int) ≤ 100))) && (decide ((x0.2.2.2.2.1.length : Int) ≤ 300))) && y1)

def r41_Few_g : Sig := ⟨28, (.cons (.val true tAdmin) .nil), .vals (.val false .bool), fun z => r41_Few_T z.1, false⟩

theorem r41_Few_ok : r41_Few_g.ok Tryz.prog := by
  refine Sig.lift mix tabOk nms _ Tryz.func28 (c := (bodyOf Tryz.f28)) (by kernel_rfl) (o := orT [r13_Few_g] [] noFz) (orT_sound ⟨r13_Few_ok, trivial⟩) (allLp_of [] (by kernel_rfl) trivial rfl) ?_
  intro z; kernel_rfl

def r43_Few_L2_step (l : List Event) (most : Int) (i : Int) : Tree (Int ⊕ (Bool ⊕ Unit)) :=
 .ite ((decide (i < (l.length : Int))) && (decide (i < most))) (
 ask (inb i l.length) <|
 ask ((!(!(decide ((100 : Int) < ((l.getD i.toNat (dfl tEvent : Event)).2.1.length : Int))))) || inb i l.length) <|
 ask ((!(!((decide ((100 : Int) < ((l.getD i.toNat (dfl tEvent : Event)).2.1.length : Int))) || (decide ((100 : Int) < ((l.getD i.toNat (dfl tEvent : Event)).2.2.1.length : Int)))))) || inb i l.length) <|
 ask ((!(!(((decide ((100 : Int) < ((l.getD i.toNat (dfl tEvent : Event)).2.1.length : Int))) || (decide ((100 : Int) < ((l.getD i.toNat (dfl tEvent : Event)).2.2.1.length : Int)))) || (decide ((100 : Int) < ((l.getD i.toNat (dfl tEvent : Event)).2.2.2.1.length : Int)))))) || inb i l.length) <|
 .grd (!(((decide ((100 : Int) < ((l.getD i.toNat (dfl tEvent : Event)).2.1.length : Int))) || (decide ((100 : Int) < ((l.getD i.toNat (dfl tEvent : Event)).2.2.1.length : Int)))) || (decide ((100 : Int) < ((l.getD i.toNat (dfl tEvent : Event)).2.2.2.1.length : Int))))) (r40_Few_T (l.getD i.toNat (dfl tEvent : Event)).2.2.2.2.2.1) false fun y1 =>
 ask ((!(!((((decide ((100 : Int) < ((l.getD i.toNat (dfl tEvent : Event)).2.1.length : Int))) || (decide ((100 : Int) < ((l.getD i.toNat (dfl tEvent : Event)).2.2.1.length : Int)))) || (decide ((100 : Int) < ((l.getD i.toNat (dfl tEvent : Event)).2.2.2.1.length : Int)))) || (!y1)))) || inb i l.length) <|
 .grd (!((((decide ((100 : Int) < ((l.getD i.toNat (dfl tEvent : Event)).2.1.length : Int))) || (decide ((100 : Int) < ((l.getD i.toNat (dfl tEvent : Event)).2.2.1.length : Int)))) || (decide ((100 : Int) < ((l.getD i.toNat (dfl tEvent : Event)).2.2.2.1.length : Int)))) || (!y1))) (r41_Few_T (l.getD i.toNat (dfl tEvent : Event)).2.2.2.2.2.2) false fun y2 =>
 .ite (((((decide ((100 : Int) < ((l.getD i.toNat (dfl tEvent : Event)).2.1.length : Int))) || (decide ((100 : Int) < ((l.getD i.toNat (dfl tEvent : Event)).2.2.1.length : Int)))) || (decide ((100 : Int) < ((l.getD i.toNat (dfl tEvent : Event)).2.2.2.1.length : Int)))) || (!y1)) || (!y2)) (
 .ret (.inr (.inl false))) (
 .ret (.inl (w64 (i + 1))))) (
 .ret (.inr (.inr ())))

def r43_Few_L2 : Lp := ⟨2, [], [], (.cons (.val false (.list tEvent)) (.cons (.val false (.int .i64)) (ca (ca2 (.cons (.val false (.int .i64)) (ca2 (ca8 (ca16 (ca32 .nil))))))))), .nil, 0, .more 0 [] (ca4 (.cons (.val false .bool) (ca (ca2 (ca8 (ca16 (ca32 .nil))))))) .nil (.one 1 [] (.cons (.val false (.list tEvent)) (.cons (.val false (.int .i64)) (ca2 (ca4 (ca8 (ca16 (ca32 .nil))))))) .nil), fun z => .bnd (.loop (fun v => r43_Few_L2_step z.1.1 z.1.2.1 v) z.1.2.2.2.2.2.1) fun r => .sum r (fun a0 => .ret (.inl ((cu4 (a0, (cu (cu2 (cu8 (cu16 (cu32 ()))))))), ()))) (fun b0 => .ret (.inr ((z.1.1, (z.1.2.1, (cu2 (cu4 (cu8 (cu16 (cu32 ()))))))), ())))⟩

theorem r43_Few_L2_ok : r43_Few_L2.ok Tryz.prog (nthC (loopsOf (bodyOf Tryz.f11)) 0) := by
  refine Lp.lift (π := ((List Event) × Int)) (V := Int) (ρ := (Bool ⊕ Unit)) mix tabOk r43_Few_L2 (o := orT [r40_Few_g, r41_Few_g] [] noFz) (orT_sound ⟨r40_Few_ok, ⟨r41_Few_ok, trivial⟩⟩) (allLp_of [] (by kernel_rfl) trivial rfl) (fun x v => ((x.1, (x.2, (cu (cu2 (v, (cu2 (cu8 (cu16 (cu32 ()))))))))), ())) (fun x r => match r with | .inl a0 => .inl ((cu4 (a0, (cu (cu2 (cu8 (cu16 (cu32 ()))))))), ()) | .inr b0 => (.inr ((x.1, (x.2, (cu2 (cu4 (cu8 (cu16 (cu32 ()))))))), ()))) (fun x v => r43_Few_L2_step x.1 x.2 v) (fun x r => .sum r (fun a0 => .ret (.inl ((cu4 (a0, (cu (cu2 (cu8 (cu16 (cu32 ()))))))), ()))) (fun b0 => .ret (.inr ((x.1, (x.2, (cu2 (cu4 (cu8 (cu16 (cu32 ()))))))), ())))) (fun z => (z.1.1, z.1.2.1)) (fun z => z.1.2.2.2.2.2.1) (fun _ => rfl) (fun _ => rfl) (fun x r Q h => match r, h with | .inl _, h => h | .inr b0, h => (h)) ?_
  intro x v; kernel_rfl

def r43_Few_T (x0 : List Event) (x1 : Int) : Tree Bool :=
 .bnd (.loop (fun v => r43_Few_L2_step x0 x1 v) 0) fun r1 =>
 .sum r1 (fun r2 =>
 .ret r2) (fun r3 =>
 .ret (decide ((x0.length : Int) ≤ x1)))

def r43_Few_g : Sig := ⟨11, (.cons (.val false (.list tEvent)) (.cons (.val false (.int .i64)) .nil)), .vals (.val false .bool), fun z => r43_Few_T z.1 z.2.1, false⟩

theorem r43_Few_ok : r43_Few_g.ok Tryz.prog := by
  refine Sig.lift mix tabOk nms _ Tryz.func11 (c := (bodyOf Tryz.f11)) (by kernel_rfl) (o := orT [r40_Few_g, r41_Few_g] [r43_Few_L2] noFz) (orT_sound ⟨r40_Few_ok, ⟨r41_Few_ok, trivial⟩⟩) (allLp_of [nthC (loopsOf (bodyOf Tryz.f11)) 0] (by kernel_rfl) ⟨r43_Few_L2_ok, trivial⟩ (by kernel_rfl)) ?_
  intro z; kernel_rfl

def l52_bare_T (x0 : Event) : Tree Event :=
 .ite (!decide (x0.1 = 1)) (
 .ite (!decide (x0.1 = 14)) (
 .ret (x0.1, (x0.2.1, (x0.2.2.1, (x0.2.2.2.1, (x0.2.2.2.2.1, ((0, ([], ([], ([], ([], ([], 0)))))), (0, ([], ([], ([], ([], (0, ([], ([], ([], false)))))))))))))))) (
 .ret (x0.1, (x0.2.1, (x0.2.2.1, (x0.2.2.2.1, (x0.2.2.2.2.1, ((0, ([], ([], ([], ([], ([], 0)))))), x0.2.2.2.2.2.2)))))))) (
 .ite (!decide (x0.1 = 14)) (
 .ret (x0.1, (x0.2.1, (x0.2.2.1, (x0.2.2.2.1, (x0.2.2.2.2.1, (x0.2.2.2.2.2.1, (0, ([], ([], ([], ([], (0, ([], ([], ([], false)))))))))))))))) (
 .ret x0))

def l52_bare_g : Sig := ⟨12, (.cons (.val true tEvent) .nil), .vals (.val true tEvent), fun z => l52_bare_T z.1, (dfl tEvent : Event)⟩

theorem l52_bare_ok : l52_bare_g.ok Tryz.prog := by
  refine Sig.lift mix tabOk nms _ Tryz.func12 (c := (bodyOf Tryz.f12)) (by kernel_rfl) (o := orT [] [] noFz) (orT_sound trivial) (allLp_of [] (by kernel_rfl) trivial rfl) ?_
  intro z; kernel_rfl

def r52_All_L3_step (l : List Event) (s_ : Str) (i : Int) : Tree ((Str × Int) ⊕ Str) :=
 .ite (decide (i < (l.length : Int))) (
 ask (inb i l.length) <|
 .bnd (r52_Line_T (l.getD i.toNat (dfl tEvent : Event))) fun y1 =>
 ask (decide (s_.length + y1.length ≤ 9223372036854775807)) <|
 ask (decide ((s_ ++ y1).length + ([10] : Str).length ≤ 9223372036854775807)) <|
 .ret (.inl (((s_ ++ y1) ++ ([10] : Str)), (w64 (i + 1))))) (
 .ret (.inr s_))

def r52_All_L3 : Lp := ⟨3, [], [], (.cons (.val false (.list tEvent)) (ca2 (.cons (.val false .str) (.cons (.val false (.int .i64)) (ca (ca2 (ca4 (ca8 .nil)))))))), .nil, 0, .one 1 [] (ca (ca2 (.cons (.val false .str) (ca16 .nil)))) .nil, fun z => .bnd (.loop (fun v => r52_All_L3_step z.1.1 v.1 v.2) (z.1.2.2.2.1, z.1.2.2.2.2.1)) fun r => .ret ((cu (cu2 (r, (cu16 ())))), ())⟩

theorem r52_All_L3_ok : r52_All_L3.ok Tryz.prog (nthC (loopsOf (bodyOf Tryz.f14)) 0) := by
  refine Lp.lift (π := List Event) (V := (Str × Int)) (ρ := Str) mix tabOk r52_All_L3 (o := orT [r52_Line_g] [] noFz) (orT_sound ⟨r52_Line_ok, trivial⟩) (allLp_of [] (by kernel_rfl) trivial rfl) (fun x v => ((x, (cu2 (v.1, (v.2, (cu (cu2 (cu4 (cu8 ())))))))), ())) (fun x r => ((cu (cu2 (r, (cu16 ())))), ())) (fun x v => r52_All_L3_step x v.1 v.2) (fun x r => .ret ((cu (cu2 (r, (cu16 ())))), ())) (fun z => z.1.1) (fun z => (z.1.2.2.2.1, z.1.2.2.2.2.1)) (fun _ => rfl) (fun _ => rfl) (fun _ _ _ h => h) ?_
  intro x v; kernel_rfl

def r52_All_T (x0 : List Event) : Tree Str :=
 .bnd (.loop (fun v => r52_All_L3_step x0 v.1 v.2) (([] : Str), 0)) fun r1 =>
 .ret r1

def r52_All_g : Sig := ⟨14, (.cons (.val false (.list tEvent)) .nil), .vals (.val false .str), fun z => r52_All_T z.1, ([] : Str)⟩

theorem r52_All_ok : r52_All_g.ok Tryz.prog := by
  refine Sig.lift mix tabOk nms _ Tryz.func14 (c := (bodyOf Tryz.f14)) (by kernel_rfl) (o := orT [r52_Line_g] [r52_All_L3] noFz) (orT_sound ⟨r52_Line_ok, trivial⟩) (allLp_of [nthC (loopsOf (bodyOf Tryz.f14)) 0] (by kernel_rfl) ⟨r52_All_L3_ok, trivial⟩ (by kernel_rfl)) ?_
  intro z; kernel_rfl

def l52_TextBack_L5_step (l : List Event) (s_ : Str) (i : Int) (want : List Event) : Tree ((Int × (List Event)) ⊕ (List Event)) :=
 .ite (decide (i < (l.length : Int))) (
 ask (inb i l.length) <|
 .bnd (l52_bare_T (l.getD i.toNat (dfl tEvent : Event))) fun y1 =>
 ask (decide ((want ++ [y1]).length * 304 ≤ roomNat)) <|
 .ret (.inl ((w64 (i + 1)), (want ++ [y1])))) (
 .ret (.inr want))

def l52_TextBack_L5 : Lp := ⟨5, [.own 5 31 tEvent], [], (.cons (.val false (.list tEvent)) (.cons (.val false .str) (ca (ca2 (.cons (.own 0) (.cons (.val false (.int .i64)) (ca (ca8 (ca16 (ca32 (ca32 .nil))))))))))), (.rows 31 tEvent .nil), 0, .one 1 [] (.cons (.val false (.list tEvent)) (.cons (.val false .str) (ca (ca2 (.cons (.own 0) (ca2 (ca8 (ca16 (ca32 (ca32 .nil)))))))))) (.rows 31 tEvent .nil), fun z => .bnd (.loop (fun v => l52_TextBack_L5_step z.1.1 z.1.2.1 v.1 v.2) (z.1.2.2.2.2.2.2.1, z.2.1)) fun r => .ret ((z.1.1, (z.1.2.1, (cu (cu2 ((), (cu2 (cu8 (cu16 (cu32 (cu32 ())))))))))), (r, ()))⟩

theorem l52_TextBack_L5_ok : l52_TextBack_L5.ok Tryz.prog (nthC (loopsOf (bodyOf Tryz.f4)) 0) := by
  refine Lp.lift (π := ((List Event) × Str)) (V := (Int × (List Event))) (ρ := List Event) mix tabOk l52_TextBack_L5 (o := orT [r43_Few_g, l52_awake_g, l52_bare_g, text_All_g, text_ParseAll_g, r45_SameEvents_g, r52_All_g] [] noFz) (orT_sound ⟨r43_Few_ok, ⟨l52_awake_ok, ⟨l52_bare_ok, ⟨text_All_ok, ⟨text_ParseAll_ok, ⟨r45_SameEvents_ok, ⟨r52_All_ok, trivial⟩⟩⟩⟩⟩⟩⟩) (allLp_of [] (by kernel_rfl) trivial rfl) (fun x v => ((x.1, (x.2, (cu (cu2 ((), (v.1, (cu (cu8 (cu16 (cu32 (cu32 ()))))))))))), (v.2, ()))) (fun x r => ((x.1, (x.2, (cu (cu2 ((), (cu2 (cu8 (cu16 (cu32 (cu32 ())))))))))), (r, ()))) (fun x v => l52_TextBack_L5_step x.1 x.2 v.1 v.2) (fun x r => .ret ((x.1, (x.2, (cu (cu2 ((), (cu2 (cu8 (cu16 (cu32 (cu32 ())))))))))), (r, ()))) (fun z => (z.1.1, z.1.2.1)) (fun z => (z.1.2.2.2.2.2.2.1, z.2.1)) (fun _ => rfl) (fun _ => rfl) (fun _ _ _ h => h) ?_
  intro x v; kernel_rfl

end Go.Eng
