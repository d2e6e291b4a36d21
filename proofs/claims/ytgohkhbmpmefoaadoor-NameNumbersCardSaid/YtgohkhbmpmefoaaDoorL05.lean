/- Lifted: 26 functions, part 1. -/
import Derived.Test.YtgohkhbmpmefoaaDoorTrG
import Derived.Test.YtgohkhbmpmefoaaDoorTrF
import Derived.Test.YtgohkhbmpmefoaaDoorEngT
import Derived.Test.YtgohkhbmpmefoaaDoorGlb
import Derived.Test.YtgohkhbmpmefoaaDoorShf
import Derived.Test.YtgohkhbmpmefoaaDoorTrL
import Derived.Test.YtgohkhbmpmefoaaDoorTrM
namespace Go.Eng
open Go Go.Proofs
set_option maxRecDepth 100000


def strings_Cut_T (x0 : Str) (x1 : Str) : Tree (Str × Str × Bool × Unit) :=
  cutT x0 x1

def strings_Cut_g : Sig := ⟨56, (.cons (.val false .str) (.cons (.val false .str) .nil)), .vals (.cons (.val false .str) (.cons (.val false .str) (.cons (.val false .bool) .nil))), fun z => strings_Cut_T z.1 z.2.1, (([] : Str), ([] : Str), false, ())⟩

theorem strings_Cut_ok : strings_Cut_g.ok Tryd.prog :=
  strings_Cut_sig (enters_of Tryd.func56 (by kernel_rfl) rfl) (fun s p w hg hs => let ⟨m, hm⟩ := hg.mlen; Tryd.strings_Cut s p m w hs hm)

def name_isLetter_T (x0 : Int) : Tree Bool :=
  .ret ((((decide ((97 : Int) ≤ x0)) && (decide (x0 ≤ 122))) || ((decide ((48 : Int) ≤ x0)) && (decide (x0 ≤ 57)))) || (decide (x0 = 45)))

def name_isLetter_g : Sig := ⟨59, (.cons (.val false (.int .i32)) .nil), .vals (.val false .bool), fun z => name_isLetter_T z.1, false⟩

theorem name_isLetter_ok : name_isLetter_g.ok Tryd.prog := by
  refine Sig.lift mix tabOk nms _ Tryd.func59 (c := (bodyOf Tryd.f59)) (by kernel_rfl) (o := orT [] [] noFz) (orT_sound trivial) (allLp_of [] (by kernel_rfl) trivial rfl) ?_
  intro z; kernel_rfl

def name_Is_L4_step (str : Str) (pos : Nat) : Tree (Nat ⊕ (Bool ⊕ Unit)) :=
  .ite (decide ((pos : Int) < (str.length : Int))) (
    ask (decide ((pos : Int) < (str.length : Int))) <|
    .bnd (name_isLetter_T (std.rune str pos)) fun y1 =>
    .ite (!y1) (
      .ret (.inr (.inl false))) (
      .ret (.inl (std.npos str pos)))) (
    .ret (.inr (.inr ())))

def name_Is_L4 : Lp := ⟨4, [], [], (ca (ca4 (ca8 (.cons (.ref 0 0) (ca2 (ca4 .nil)))))), (.siter .nil), 0, .more 0 [] (ca2 (.cons (.val false .bool) (ca (ca16 .nil)))) .nil (.one 1 [] (ca4 (ca16 .nil)) .nil), fun z => .bnd (.loop (fun v => name_Is_L4_step z.2.1.1 v) z.2.1.2) fun r => .sum r (fun a0 => .ret (.inl ((cu2 (a0, (cu (cu16 ())))), ()))) (fun b0 => .ret (.inr ((cu4 (cu16 ())), ())))⟩

theorem name_Is_L4_ok : name_Is_L4.ok Tryd.prog (nthC (loopsOf (bodyOf Tryd.f33)) 0) := by
  refine Lp.lift (π := Str) (V := Nat) (ρ := (Bool ⊕ Unit)) mix tabOk name_Is_L4 (o := orT [name_isLetter_g] [] noFz) (orT_sound ⟨name_isLetter_ok, trivial⟩) (allLp_of [] (by kernel_rfl) trivial rfl) (fun x v => ((cu (cu4 (cu8 ((), (cu2 (cu4 ())))))), ((x, v), ()))) (fun x r => match r with | .inl a0 => .inl ((cu2 (a0, (cu (cu16 ())))), ()) | .inr b0 => (.inr ((cu4 (cu16 ())), ()))) (fun x v => name_Is_L4_step x v) (fun x r => .sum r (fun a0 => .ret (.inl ((cu2 (a0, (cu (cu16 ())))), ()))) (fun b0 => .ret (.inr ((cu4 (cu16 ())), ())))) (fun z => z.2.1.1) (fun z => z.2.1.2) (fun _ => rfl) (fun _ => rfl) (fun x r Q h => match r, h with | .inl _, h => h | .inr b0, h => (h)) ?_
  intro x v; kernel_rfl

def name_Is_T (x0 : Str) : Tree Bool :=
  .ite ((x0 == ([] : Str)) || (decide ((16 : Int) < (x0.length : Int)))) (
    .ret false) (
    .bnd (.loop (fun v => name_Is_L4_step x0 v) 0) fun r1 =>
    .sum r1 (fun r2 =>
      .ret r2) (fun r3 =>
      .ret true))

def name_Is_g : Sig := ⟨33, (.cons (.val false .str) .nil), .vals (.val false .bool), fun z => name_Is_T z.1, false⟩

theorem name_Is_ok : name_Is_g.ok Tryd.prog := by
  refine Sig.lift mix tabOk nms _ Tryd.func33 (c := (bodyOf Tryd.f33)) (by kernel_rfl) (o := orT [name_isLetter_g] [name_Is_L4] noFz) (orT_sound ⟨name_isLetter_ok, trivial⟩) (allLp_of [nthC (loopsOf (bodyOf Tryd.f33)) 0] (by kernel_rfl) ⟨name_Is_L4_ok, trivial⟩ (by kernel_rfl)) ?_
  intro z; kernel_rfl

def name_IsKey_T (x0 : Str) : Tree Bool :=
  .ret ((!(x0 == ([] : Str))) && (decide ((x0.length : Int) ≤ 64)))

def name_IsKey_g : Sig := ⟨35, (.cons (.val false .str) .nil), .vals (.val false .bool), fun z => name_IsKey_T z.1, false⟩

theorem name_IsKey_ok : name_IsKey_g.ok Tryd.prog := by
  refine Sig.lift mix tabOk nms _ Tryd.func35 (c := (bodyOf Tryd.f35)) (by kernel_rfl) (o := orT [] [] noFz) (orT_sound trivial) (allLp_of [] (by kernel_rfl) trivial rfl) ?_
  intro z; kernel_rfl

def name_Split_T (x0 : Str) : Tree (Str × Str × Bool × Unit) :=
  .bnd (strings_Cut_T x0 ([47] : Str)) fun y1 =>
  .grd (!(!y1.2.2.1)) (name_Is_T y1.1) false fun y2 =>
  .grd (!((!y1.2.2.1) || (!y2))) (name_IsKey_T y1.2.1) false fun y3 =>
  .ite (((!y1.2.2.1) || (!y2)) || (!y3)) (
    .ret (([] : Str), ([] : Str), false, ())) (
    .ret (y1.1, y1.2.1, true, ()))

def name_Split_g : Sig := ⟨29, (.cons (.val false .str) .nil), .vals (.cons (.val false .str) (.cons (.val false .str) (.cons (.val false .bool) .nil))), fun z => name_Split_T z.1, (([] : Str), ([] : Str), false, ())⟩

theorem name_Split_ok : name_Split_g.ok Tryd.prog := by
  refine Sig.lift mix tabOk nms _ Tryd.func29 (c := (bodyOf Tryd.f29)) (by kernel_rfl) (o := orT [strings_Cut_g, name_Is_g, name_IsKey_g] [] noFz) (orT_sound ⟨strings_Cut_ok, ⟨name_Is_ok, ⟨name_IsKey_ok, trivial⟩⟩⟩) (allLp_of [] (by kernel_rfl) trivial rfl) ?_
  intro z; kernel_rfl

def name_Num_T (x0 : Str) : Tree (Int × Bool × Unit) :=
  numT x0

def name_Num_g : Sig := ⟨31, (.cons (.val false .str) .nil), .vals (.cons (.val false (.int .i64)) (.cons (.val false .bool) .nil)), fun z => name_Num_T z.1, ((0 : Int), false, ())⟩

theorem name_Num_ok : name_Num_g.ok Tryd.prog :=
  name_Num_sig (enters_of Tryd.func31 (by kernel_rfl) rfl) name_Num_walk

def name_Join_T (x0 : Str) (x1 : Str) : Tree Str :=
  ask (decide (x0.length + ([47] : Str).length ≤ 9223372036854775807)) <|
  ask (decide ((x0 ++ ([47] : Str)).length + x1.length ≤ 9223372036854775807)) <|
  .ret ((x0 ++ ([47] : Str)) ++ x1)

def name_Join_g : Sig := ⟨37, (.cons (.val false .str) (.cons (.val false .str) .nil)), .vals (.val false .str), fun z => name_Join_T z.1 z.2.1, ([] : Str)⟩

theorem name_Join_ok : name_Join_g.ok Tryd.prog := by
  refine Sig.lift mix tabOk nms _ Tryd.func37 (c := (bodyOf Tryd.f37)) (by kernel_rfl) (o := orT [] [] noFz) (orT_sound trivial) (allLp_of [] (by kernel_rfl) trivial rfl) ?_
  intro z; kernel_rfl

def strings_Join_T (x0 : List Str) (x1 : Str) : Tree Str :=
  joinT x0 x1

def strings_Join_g : Sig := ⟨61, (.cons (.val false (.list .str)) (.cons (.val false .str) .nil)), .vals (.val false .str), fun z => strings_Join_T z.1 z.2.1, ([] : Str)⟩

theorem strings_Join_ok : strings_Join_g.ok Tryd.prog :=
  strings_Join_sig (enters_of Tryd.func61 (by kernel_rfl) rfl) (fun a c sep w => Tryd.strings_Join_none a c sep w) (fun bk o c xs sep w h1 h2 h3 h4 h5 => Tryd.strings_Join bk o c xs sep w h1 h2 h3 h4 h5)

def name_Path_T (x0 : List Str) : Tree Str :=
  .bnd (strings_Join_T x0 ([47] : Str)) fun y1 =>
  .ret y1

def name_Path_g : Sig := ⟨41, (.cons (.val false (.list .str)) .nil), .vals (.val false .str), fun z => name_Path_T z.1, ([] : Str)⟩

theorem name_Path_ok : name_Path_g.ok Tryd.prog := by
  refine Sig.lift mix tabOk nms _ Tryd.func41 (c := (bodyOf Tryd.f41)) (by kernel_rfl) (o := orT [strings_Join_g] [] noFz) (orT_sound ⟨strings_Join_ok, trivial⟩) (allLp_of [] (by kernel_rfl) trivial rfl) ?_
  intro z; kernel_rfl

def strings_Split_T (x0 : Str) (x1 : Str) : Tree (List Str) :=
  splitT x0 x1

def strings_Split_g : Sig := ⟨60, (.cons (.val false .str) (.cons (.val false .str) .nil)), .fresh 9 .str, fun z => strings_Split_T z.1 z.2.1, ([] : List Str)⟩

theorem strings_Split_ok : strings_Split_g.ok Tryd.prog :=
  strings_Split_sig (enters_of Tryd.func60 (by kernel_rfl) rfl) (fun s p w hg hs h1 => let ⟨m, hm⟩ := hg.mlen; Tryd.strings_Split s p m w hs hm h1)

def strings_Split_gv : Sig := ⟨60, (.cons (.val false .str) (.cons (.val false .str) .nil)), .vals (.val false (.list .str)), fun z => strings_Split_T z.1 z.2.1, ([] : List Str)⟩

theorem strings_Split_okv : strings_Split_gv.ok Tryd.prog := fun x y h => acalls_val (strings_Split_ok x y h)

def name_Parts_T (x0 : Str) : Tree (List Str) :=
  .ite (x0 == ([] : Str)) (
    .ret []) (
    .bnd (strings_Split_T x0 ([47] : Str)) fun y1 =>
    .ret y1)

def name_Parts_g : Sig := ⟨39, (.cons (.val false .str) .nil), .fresh 9 .str, fun z => name_Parts_T z.1, ([] : List Str)⟩

theorem name_Parts_ok : name_Parts_g.ok Tryd.prog := by
  refine Sig.lift mix tabOk nms _ Tryd.func39 (c := (bodyOf Tryd.f39)) (by kernel_rfl) (o := orT [strings_Split_g] [] noFz) (orT_sound ⟨strings_Split_ok, trivial⟩) (allLp_of [] (by kernel_rfl) trivial rfl) ?_
  intro z; kernel_rfl

def name_Parts_gv : Sig := ⟨39, (.cons (.val false .str) .nil), .vals (.val false (.list .str)), fun z => name_Parts_T z.1, ([] : List Str)⟩

theorem name_Parts_okv : name_Parts_gv.ok Tryd.prog := fun x y h => acalls_val (name_Parts_ok x y h)

def strconv_Itoa_T (x0 : Int) : Tree Str :=
  .ret (decS x0)

def strconv_Itoa_g : Sig := ⟨58, (.cons (.val false (.int .i64)) .nil), .vals (.val false .str), fun z => strconv_Itoa_T z.1, ([] : Str)⟩

theorem strconv_Itoa_ok : strconv_Itoa_g.ok Tryd.prog :=
  strconv_Itoa_sig (enters_of Tryd.func58 (by kernel_rfl) rfl) (fun n w h0 h1 hg => Tryd.strconv_Itoa n h0 h1 w (gl_pow10 hg))

def name_Dec_T (x0 : Int) : Tree Str :=
  .bnd (strconv_Itoa_T x0) fun y1 =>
  .ret y1

def name_Dec_g : Sig := ⟨43, (.cons (.val false (.int .i64)) .nil), .vals (.val false .str), fun z => name_Dec_T z.1, ([] : Str)⟩

theorem name_Dec_ok : name_Dec_g.ok Tryd.prog := by
  refine Sig.lift mix tabOk nms _ Tryd.func43 (c := (bodyOf Tryd.f43)) (by kernel_rfl) (o := orT [strconv_Itoa_g] [] noFz) (orT_sound ⟨strconv_Itoa_ok, trivial⟩) (allLp_of [] (by kernel_rfl) trivial rfl) ?_
  intro z; kernel_rfl

def l05_awake_T  : Tree Bool :=
  .bnd (name_Split_T ([97, 47, 47, 98] : Str)) fun y1 =>
  .bnd (name_Num_T ([45, 49, 50] : Str)) fun y2 =>
  .bnd (name_Is_T ([114, 97, 99, 107, 45, 55] : Str)) fun y3 =>
  .grd y3 (name_Is_T ([65] : Str)) false fun y4 =>
  .grd (y3 && (!y4)) (name_IsKey_T ([0] : Str)) false fun y5 =>
  .grd ((y3 && (!y4)) && y5) (name_Join_T ([97] : Str) ([47, 98] : Str)) ([] : Str) fun y6 =>
  .grd ((((((y3 && (!y4)) && y5) && (y6 == ([97, 47, 47, 98] : Str))) && (y1.1 == ([97] : Str))) && (y1.2.1 == ([47, 98] : Str))) && y1.2.2.1) (name_Path_T [([97] : Str), ([98] : Str)]) ([] : Str) fun y7 =>
  .grd (((((((y3 && (!y4)) && y5) && (y6 == ([97, 47, 47, 98] : Str))) && (y1.1 == ([97] : Str))) && (y1.2.1 == ([47, 98] : Str))) && y1.2.2.1) && (y7 == ([97, 47, 98] : Str))) (name_Parts_T ([97, 47, 47, 98] : Str)) ([] : List Str) fun y8 =>
  .grd ((((((((y3 && (!y4)) && y5) && (y6 == ([97, 47, 47, 98] : Str))) && (y1.1 == ([97] : Str))) && (y1.2.1 == ([47, 98] : Str))) && y1.2.2.1) && (y7 == ([97, 47, 98] : Str))) && (decide ((y8.length : Int) = 3))) (name_Dec_T (-12)) ([] : Str) fun y9 =>
  .ret (((((((((((y3 && (!y4)) && y5) && (y6 == ([97, 47, 47, 98] : Str))) && (y1.1 == ([97] : Str))) && (y1.2.1 == ([47, 98] : Str))) && y1.2.2.1) && (y7 == ([97, 47, 98] : Str))) && (decide ((y8.length : Int) = 3))) && (y9 == ([45, 49, 50] : Str))) && (decide (y2.1 = (-12)))) && y2.2.1)

def l05_awake_g : Sig := ⟨28, .nil, .vals (.val false .bool), fun z => l05_awake_T, false⟩

theorem l05_awake_ok : l05_awake_g.ok Tryd.prog := by
  refine Sig.lift mix tabOk nms _ Tryd.func28 (c := (bodyOf Tryd.f28)) (by kernel_rfl) (o := orT [name_Split_g, name_Num_g, name_Is_g, name_IsKey_g, name_Join_g, name_Path_g, name_Parts_gv, name_Dec_g] [] noFz) (orT_sound ⟨name_Split_ok, ⟨name_Num_ok, ⟨name_Is_ok, ⟨name_IsKey_ok, ⟨name_Join_ok, ⟨name_Path_ok, ⟨name_Parts_okv, ⟨name_Dec_ok, trivial⟩⟩⟩⟩⟩⟩⟩⟩) (allLp_of [] (by kernel_rfl) trivial rfl) ?_
  intro z; kernel_rfl

def r05_Is_L2_step (s_ : Str) (i : Int) : Tree (Int ⊕ (Bool ⊕ Unit)) :=
  .ite (decide (i < (s_.length : Int))) (
    ask (inb i s_.length) <|
    ask ((!(!(decide ((sgetI s_ i) < 97)))) || inb i s_.length) <|
    ask ((!((decide ((sgetI s_ i) < 97)) || (decide ((122 : Int) < (sgetI s_ i))))) || inb i s_.length) <|
    ask ((!(((decide ((sgetI s_ i) < 97)) || (decide ((122 : Int) < (sgetI s_ i)))) && (!(decide ((sgetI s_ i) < 48))))) || inb i s_.length) <|
    ask ((!(((decide ((sgetI s_ i) < 97)) || (decide ((122 : Int) < (sgetI s_ i)))) && ((decide ((sgetI s_ i) < 48)) || (decide ((57 : Int) < (sgetI s_ i)))))) || inb i s_.length) <|
    .ite ((((decide ((sgetI s_ i) < 97)) || (decide ((122 : Int) < (sgetI s_ i)))) && ((decide ((sgetI s_ i) < 48)) || (decide ((57 : Int) < (sgetI s_ i))))) && (!decide ((sgetI s_ i) = 45))) (
      .ret (.inr (.inl false))) (
      .ret (.inl (w64 (i + 1))))) (
    .ret (.inr (.inr ())))

def r05_Is_L2 : Lp := ⟨2, [], [], (.cons (.val false .str) (ca2 (.cons (.val false (.int .i64)) (ca2 (ca8 (ca32 .nil)))))), .nil, 0, .more 0 [] (ca2 (.cons (.val false .bool) (ca (ca2 (ca8 (ca32 .nil)))))) .nil (.one 1 [] (.cons (.val false .str) (ca (ca4 (ca8 (ca32 .nil))))) .nil), fun z => .bnd (.loop (fun v => r05_Is_L2_step z.1.1 v) z.1.2.2.2.1) fun r => .sum r (fun a0 => .ret (.inl ((cu2 (a0, (cu (cu2 (cu8 (cu32 ())))))), ()))) (fun b0 => .ret (.inr ((z.1.1, (cu (cu4 (cu8 (cu32 ()))))), ())))⟩

theorem r05_Is_L2_ok : r05_Is_L2.ok Tryd.prog (nthC (loopsOf (bodyOf Tryd.f34)) 0) := by
  refine Lp.lift (π := Str) (V := Int) (ρ := (Bool ⊕ Unit)) mix tabOk r05_Is_L2 (o := orT [] [] noFz) (orT_sound trivial) (allLp_of [] (by kernel_rfl) trivial rfl) (fun x v => ((x, (cu2 (v, (cu2 (cu8 (cu32 ())))))), ())) (fun x r => match r with | .inl a0 => .inl ((cu2 (a0, (cu (cu2 (cu8 (cu32 ())))))), ()) | .inr b0 => (.inr ((x, (cu (cu4 (cu8 (cu32 ()))))), ()))) (fun x v => r05_Is_L2_step x v) (fun x r => .sum r (fun a0 => .ret (.inl ((cu2 (a0, (cu (cu2 (cu8 (cu32 ())))))), ()))) (fun b0 => .ret (.inr ((x, (cu (cu4 (cu8 (cu32 ()))))), ())))) (fun z => z.1.1) (fun z => z.1.2.2.2.1) (fun _ => rfl) (fun _ => rfl) (fun x r Q h => match r, h with | .inl _, h => h | .inr b0, h => (h)) ?_
  intro x v; kernel_rfl

def r05_Is_T (x0 : Str) : Tree Bool :=
  .bnd (.loop (fun v => r05_Is_L2_step x0 v) 0) fun r1 =>
  .sum r1 (fun r2 =>
    .ret r2) (fun r3 =>
    .ret ((decide ((1 : Int) ≤ (x0.length : Int))) && (decide ((x0.length : Int) ≤ 16))))

def r05_Is_g : Sig := ⟨34, (.cons (.val false .str) .nil), .vals (.val false .bool), fun z => r05_Is_T z.1, false⟩

theorem r05_Is_ok : r05_Is_g.ok Tryd.prog := by
  refine Sig.lift mix tabOk nms _ Tryd.func34 (c := (bodyOf Tryd.f34)) (by kernel_rfl) (o := orT [] [r05_Is_L2] noFz) (orT_sound trivial) (allLp_of [nthC (loopsOf (bodyOf Tryd.f34)) 0] (by kernel_rfl) ⟨r05_Is_L2_ok, trivial⟩ (by kernel_rfl)) ?_
  intro z; kernel_rfl

def r05_IsKey_T (x0 : Str) : Tree Bool :=
  .ret ((decide ((1 : Int) ≤ (x0.length : Int))) && (decide ((x0.length : Int) ≤ 64)))

def r05_IsKey_g : Sig := ⟨36, (.cons (.val false .str) .nil), .vals (.val false .bool), fun z => r05_IsKey_T z.1, false⟩

theorem r05_IsKey_ok : r05_IsKey_g.ok Tryd.prog := by
  refine Sig.lift mix tabOk nms _ Tryd.func36 (c := (bodyOf Tryd.f36)) (by kernel_rfl) (o := orT [] [] noFz) (orT_sound trivial) (allLp_of [] (by kernel_rfl) trivial rfl) ?_
  intro z; kernel_rfl

def r05_Split_L2_step (place : Str) (i : Int) : Tree (Int ⊕ ((Str × Str × Bool) ⊕ Unit)) :=
  .ite (decide (i < (place.length : Int))) (
    ask (inb i place.length) <|
    .ite (decide ((sgetI place i) = 47)) (
      ask (inbe i place.length) <|
      .bnd (r05_Is_T (subS place 0 i.toNat)) fun y1 =>
      ask ((!y1) || inbe (w64 (i + 1)) place.length) <|
      .grd y1 (r05_IsKey_T (subS place (w64 (i + 1)).toNat place.length)) false fun y2 =>
      .ite (y1 && y2) (
        ask (inbe i place.length) <|
        ask (inbe (w64 (i + 1)) place.length) <|
        .ret (.inr (.inl ((subS place 0 i.toNat), (subS place (w64 (i + 1)).toNat place.length), true)))) (
        .ret (.inr (.inl (([] : Str), ([] : Str), false))))) (
      .ret (.inl (w64 (i + 1))))) (
    .ret (.inr (.inr ())))

def r05_Split_L2 : Lp := ⟨2, [], [], (.cons (.val false .str) (ca4 (.cons (.val false (.int .i64)) (ca4 (ca8 (ca16 .nil)))))), .nil, 0, .more 0 [] (ca2 (.cons (.val false .str) (.cons (.val false .str) (.cons (.val false .bool) (ca (ca4 (ca8 (ca16 .nil)))))))) .nil (.one 1 [] (ca2 (ca32 .nil)) .nil), fun z => .bnd (.loop (fun v => r05_Split_L2_step z.1.1 v) z.1.2.2.2.2.2.1) fun r => .sum r (fun a0 => .ret (.inl ((cu2 (a0.1, (a0.2.1, (a0.2.2, (cu (cu4 (cu8 (cu16 ())))))))), ()))) (fun b0 => .ret (.inr ((cu2 (cu32 ())), ())))⟩

theorem r05_Split_L2_ok : r05_Split_L2.ok Tryd.prog (nthC (loopsOf (bodyOf Tryd.f30)) 0) := by
  refine Lp.lift (π := Str) (V := Int) (ρ := ((Str × Str × Bool) ⊕ Unit)) mix tabOk r05_Split_L2 (o := orT [r05_Is_g, r05_IsKey_g] [] noFz) (orT_sound ⟨r05_Is_ok, ⟨r05_IsKey_ok, trivial⟩⟩) (allLp_of [] (by kernel_rfl) trivial rfl) (fun x v => ((x, (cu4 (v, (cu4 (cu8 (cu16 ())))))), ())) (fun x r => match r with | .inl a0 => .inl ((cu2 (a0.1, (a0.2.1, (a0.2.2, (cu (cu4 (cu8 (cu16 ())))))))), ()) | .inr b0 => (.inr ((cu2 (cu32 ())), ()))) (fun x v => r05_Split_L2_step x v) (fun x r => .sum r (fun a0 => .ret (.inl ((cu2 (a0.1, (a0.2.1, (a0.2.2, (cu (cu4 (cu8 (cu16 ())))))))), ()))) (fun b0 => .ret (.inr ((cu2 (cu32 ())), ())))) (fun z => z.1.1) (fun z => z.1.2.2.2.2.2.1) (fun _ => rfl) (fun _ => rfl) (fun x r Q h => match r, h with | .inl _, h => h | .inr b0, h => (h)) ?_
  intro x v; kernel_rfl

def r05_Split_T (x0 : Str) : Tree (Str × Str × Bool × Unit) :=
  .bnd (.loop (fun v => r05_Split_L2_step x0 v) 0) fun r1 =>
  .sum r1 (fun r2 =>
    .ret (r2.1, r2.2.1, r2.2.2, ())) (fun r3 =>
    .ret (([] : Str), ([] : Str), false, ()))

def r05_Split_g : Sig := ⟨30, (.cons (.val false .str) .nil), .vals (.cons (.val false .str) (.cons (.val false .str) (.cons (.val false .bool) .nil))), fun z => r05_Split_T z.1, (([] : Str), ([] : Str), false, ())⟩

theorem r05_Split_ok : r05_Split_g.ok Tryd.prog := by
  refine Sig.lift mix tabOk nms _ Tryd.func30 (c := (bodyOf Tryd.f30)) (by kernel_rfl) (o := orT [r05_Is_g, r05_IsKey_g] [r05_Split_L2] noFz) (orT_sound ⟨r05_Is_ok, ⟨r05_IsKey_ok, trivial⟩⟩) (allLp_of [nthC (loopsOf (bodyOf Tryd.f30)) 0] (by kernel_rfl) ⟨r05_Split_L2_ok, trivial⟩ (by kernel_rfl)) ?_
  intro z; kernel_rfl

def r05_Dec_L5_step (n : Int) (s_ : Str) (k : Int) : Tree ((Str × Int) ⊕ Str) :=
  .ite (!decide (k = 0)) (
    ask (!decide ((10 : Int) = 0)) <|
    .ite (decide ((k.tmod 10) < 0)) (
      ask (inbe (w64 ((w64 ((0 : Int) - (k.tmod 10))) + 1)) ([48, 49, 50, 51, 52, 53, 54, 55, 56, 57] : Str).length) <|
      ask (inbe (w64 ((0 : Int) - (k.tmod 10))) (w64 ((w64 ((0 : Int) - (k.tmod 10))) + 1)).toNat) <|
      ask (decide ((subS ([48, 49, 50, 51, 52, 53, 54, 55, 56, 57] : Str) (w64 ((0 : Int) - (k.tmod 10))).toNat (w64 ((w64 ((0 : Int) - (k.tmod 10))) + 1)).toNat).length + s_.length ≤ 9223372036854775807)) <|
      ask (!decide ((10 : Int) = 0)) <|
      .ret (.inl (((subS ([48, 49, 50, 51, 52, 53, 54, 55, 56, 57] : Str) (w64 ((0 : Int) - (k.tmod 10))).toNat (w64 ((w64 ((0 : Int) - (k.tmod 10))) + 1)).toNat) ++ s_), (w64 (k.tdiv 10))))) (
      ask (inbe (w64 ((k.tmod 10) + 1)) ([48, 49, 50, 51, 52, 53, 54, 55, 56, 57] : Str).length) <|
      ask (inbe (k.tmod 10) (w64 ((k.tmod 10) + 1)).toNat) <|
      ask (decide ((subS ([48, 49, 50, 51, 52, 53, 54, 55, 56, 57] : Str) (k.tmod 10).toNat (w64 ((k.tmod 10) + 1)).toNat).length + s_.length ≤ 9223372036854775807)) <|
      ask (!decide ((10 : Int) = 0)) <|
      .ret (.inl (((subS ([48, 49, 50, 51, 52, 53, 54, 55, 56, 57] : Str) (k.tmod 10).toNat (w64 ((k.tmod 10) + 1)).toNat) ++ s_), (w64 (k.tdiv 10)))))) (
    .ret (.inr s_))

def r05_Dec_L5 : Lp := ⟨5, [], [], (.cons (.val false (.int .i64)) (ca2 (.cons (.val false .str) (.cons (.val false (.int .i64)) (ca (ca8 (ca16 .nil))))))), .nil, 0, .one 1 [] (.cons (.val false (.int .i64)) (ca2 (.cons (.val false .str) (ca2 (ca8 (ca16 .nil)))))) .nil, fun z => .bnd (.loop (fun v => r05_Dec_L5_step z.1.1 v.1 v.2) (z.1.2.2.2.1, z.1.2.2.2.2.1)) fun r => .ret ((z.1.1, (cu2 (r, (cu2 (cu8 (cu16 ())))))), ())⟩

theorem r05_Dec_L5_ok : r05_Dec_L5.ok Tryd.prog (nthC (loopsOf (bodyOf Tryd.f44)) 0) := by
  refine Lp.lift (π := Int) (V := (Str × Int)) (ρ := Str) mix tabOk r05_Dec_L5 (o := orT [] [] noFz) (orT_sound trivial) (allLp_of [] (by kernel_rfl) trivial rfl) (fun x v => ((x, (cu2 (v.1, (v.2, (cu (cu8 (cu16 ()))))))), ())) (fun x r => ((x, (cu2 (r, (cu2 (cu8 (cu16 ())))))), ())) (fun x v => r05_Dec_L5_step x v.1 v.2) (fun x r => .ret ((x, (cu2 (r, (cu2 (cu8 (cu16 ())))))), ())) (fun z => z.1.1) (fun z => (z.1.2.2.2.1, z.1.2.2.2.2.1)) (fun _ => rfl) (fun _ => rfl) (fun _ _ _ h => h) ?_
  intro x v; kernel_rfl

def r05_Dec_T (x0 : Int) : Tree Str :=
  .ite (decide (x0 = 0)) (
    .ret ([48] : Str)) (
    .bnd (.loop (fun v => r05_Dec_L5_step x0 v.1 v.2) (([] : Str), x0)) fun r1 =>
    .ite (decide (x0 < 0)) (
      ask (decide (([45] : Str).length + r1.length ≤ 9223372036854775807)) <|
      .ret (([45] : Str) ++ r1)) (
      .ret r1))

def r05_Dec_g : Sig := ⟨44, (.cons (.val false (.int .i64)) .nil), .vals (.val false .str), fun z => r05_Dec_T z.1, ([] : Str)⟩

theorem r05_Dec_ok : r05_Dec_g.ok Tryd.prog := by
  refine Sig.lift mix tabOk nms _ Tryd.func44 (c := (bodyOf Tryd.f44)) (by kernel_rfl) (o := orT [] [r05_Dec_L5] noFz) (orT_sound trivial) (allLp_of [nthC (loopsOf (bodyOf Tryd.f44)) 0] (by kernel_rfl) ⟨r05_Dec_L5_ok, trivial⟩ (by kernel_rfl)) ?_
  intro z; kernel_rfl

def r05_Num_L7_step (s_ : Str) (from_ : Int) (n : Int) (i : Int) : Tree ((Int × Int) ⊕ ((Int × Bool) ⊕ Int)) :=
  .ite (decide (i < (s_.length : Int))) (
    ask (inb i s_.length) <|
    ask ((!(!(decide ((sgetI s_ i) < 48)))) || inb i s_.length) <|
    .ite ((decide ((sgetI s_ i) < 48)) || (decide ((57 : Int) < (sgetI s_ i)))) (
      .ret (.inr (.inl (0, false)))) (
      ask (inb i s_.length) <|
      .ret (.inl ((w64 ((w64 (n * 10)) - (w64 ((IntKind.wrap .u8 ((sgetI s_ i) - 48)))))), (w64 (i + 1)))))) (
    .ret (.inr (.inr n)))

def r05_Num_L7 : Lp := ⟨7, [], [], (.cons (.val false .str) (ca (ca2 (.cons (.val false (.int .i64)) (.cons (.val false (.int .i64)) (.cons (.val false (.int .i64)) (ca4 (ca8 (ca32 .nil))))))))), .nil, 0, .more 0 [] (ca2 (.cons (.val false (.int .i64)) (.cons (.val false .bool) (ca (ca2 (ca4 (ca8 (ca32 .nil)))))))) .nil (.one 1 [] (.cons (.val false .str) (ca (ca2 (.cons (.val false (.int .i64)) (.cons (.val false (.int .i64)) (ca (ca4 (ca8 (ca32 .nil))))))))) .nil), fun z => .bnd (.loop (fun v => r05_Num_L7_step z.1.1 z.1.2.2.2.2.2.1 v.1 v.2) (z.1.2.2.2.2.1, z.1.2.2.2.2.2.2.1)) fun r => .sum r (fun a0 => .ret (.inl ((cu2 (a0.1, (a0.2, (cu (cu2 (cu4 (cu8 (cu32 ())))))))), ()))) (fun b0 => .ret (.inr ((z.1.1, (cu (cu2 (b0, (z.1.2.2.2.2.2.1, (cu (cu4 (cu8 (cu32 ()))))))))), ())))⟩

theorem r05_Num_L7_ok : r05_Num_L7.ok Tryd.prog (nthC (loopsOf (bodyOf Tryd.f32)) 0) := by
  refine Lp.lift (π := (Str × Int)) (V := (Int × Int)) (ρ := ((Int × Bool) ⊕ Int)) mix tabOk r05_Num_L7 (o := orT [r05_Dec_g] [] noFz) (orT_sound ⟨r05_Dec_ok, trivial⟩) (allLp_of [] (by kernel_rfl) trivial rfl) (fun x v => ((x.1, (cu (cu2 (v.1, (x.2, (v.2, (cu4 (cu8 (cu32 ()))))))))), ())) (fun x r => match r with | .inl a0 => .inl ((cu2 (a0.1, (a0.2, (cu (cu2 (cu4 (cu8 (cu32 ())))))))), ()) | .inr b0 => (.inr ((x.1, (cu (cu2 (b0, (x.2, (cu (cu4 (cu8 (cu32 ()))))))))), ()))) (fun x v => r05_Num_L7_step x.1 x.2 v.1 v.2) (fun x r => .sum r (fun a0 => .ret (.inl ((cu2 (a0.1, (a0.2, (cu (cu2 (cu4 (cu8 (cu32 ())))))))), ()))) (fun b0 => .ret (.inr ((x.1, (cu (cu2 (b0, (x.2, (cu (cu4 (cu8 (cu32 ()))))))))), ())))) (fun z => (z.1.1, z.1.2.2.2.2.2.1)) (fun z => (z.1.2.2.2.2.1, z.1.2.2.2.2.2.2.1)) (fun _ => rfl) (fun _ => rfl) (fun x r Q h => match r, h with | .inl _, h => h | .inr b0, h => (h)) ?_
  intro x v; kernel_rfl

def r05_Num_T (x0 : Str) : Tree (Int × Bool × Unit) :=
  .ite ((decide ((20 : Int) < (x0.length : Int))) || (x0 == ([] : Str))) (
    .ret (0, false, ())) (
    ask (inb 0 x0.length) <|
    .ite (decide ((sgetI x0 0) = 45)) (
      .bnd (.loop (fun v => r05_Num_L7_step x0 1 v.1 v.2) (0, 1)) fun r1 =>
      .sum r1 (fun r2 =>
        .ret (r2.1, r2.2, ())) (fun r3 =>
        .ite (decide ((1 : Int) = 0)) (
          .bnd (r05_Dec_T (w64 ((0 : Int) - r3))) fun y4 =>
          .ite (!(y4 == x0)) (
            .ret (0, false, ())) (
            .ret ((w64 ((0 : Int) - r3)), true, ()))) (
          .bnd (r05_Dec_T r3) fun y5 =>
          .ite (!(y5 == x0)) (
            .ret (0, false, ())) (
            .ret (r3, true, ()))))) (
      .bnd (.loop (fun v => r05_Num_L7_step x0 0 v.1 v.2) (0, 0)) fun r6 =>
      .sum r6 (fun r7 =>
        .ret (r7.1, r7.2, ())) (fun r8 =>
        .ite (decide ((0 : Int) = 0)) (
          .bnd (r05_Dec_T (w64 ((0 : Int) - r8))) fun y9 =>
          .ite (!(y9 == x0)) (
            .ret (0, false, ())) (
            .ret ((w64 ((0 : Int) - r8)), true, ()))) (
          .bnd (r05_Dec_T r8) fun y10 =>
          .ite (!(y10 == x0)) (
            .ret (0, false, ())) (
            .ret (r8, true, ()))))))

def r05_Num_g : Sig := ⟨32, (.cons (.val false .str) .nil), .vals (.cons (.val false (.int .i64)) (.cons (.val false .bool) .nil)), fun z => r05_Num_T z.1, ((0 : Int), false, ())⟩

theorem r05_Num_ok : r05_Num_g.ok Tryd.prog := by
  refine Sig.lift mix tabOk nms _ Tryd.func32 (c := (bodyOf Tryd.f32)) (by kernel_rfl) (o := orT [r05_Dec_g] [r05_Num_L7] noFz) (orT_sound ⟨r05_Dec_ok, trivial⟩) (allLp_of [nthC (loopsOf (bodyOf Tryd.f32)) 0] (by kernel_rfl) ⟨r05_Num_L7_ok, trivial⟩ (by kernel_rfl)) ?_
  intro z; kernel_rfl

def r05_Join_T (x0 : Str) (x1 : Str) : Tree Str :=
  ask (decide (x0.length + ([47] : Str).length ≤ 9223372036854775807)) <|
  ask (decide ((x0 ++ ([47] : Str)).length + x1.length ≤ 9223372036854775807)) <|
  .ret ((x0 ++ ([47] : Str)) ++ x1)

def r05_Join_g : Sig := ⟨38, (.cons (.val false .str) (.cons (.val false .str) .nil)), .vals (.val false .str), fun z => r05_Join_T z.1 z.2.1, ([] : Str)⟩

theorem r05_Join_ok : r05_Join_g.ok Tryd.prog := by
  refine Sig.lift mix tabOk nms _ Tryd.func38 (c := (bodyOf Tryd.f38)) (by kernel_rfl) (o := orT [] [] noFz) (orT_sound trivial) (allLp_of [] (by kernel_rfl) trivial rfl) ?_
  intro z; kernel_rfl

def r05_Parts_L6_step (s_ : Str) (from_ : Int) (i : Int) (out : List Str) : Tree ((Int × Int × (List Str)) ⊕ (Int × (List Str))) :=
  .ite (decide (i < (s_.length : Int))) (
    ask (inb i s_.length) <|
    .ite (decide ((sgetI s_ i) = 47)) (
      ask (inbe i s_.length) <|
      ask (inbe from_ i.toNat) <|
      ask (decide ((out ++ [(subS s_ from_.toNat i.toNat)]).length * 16 ≤ roomNat)) <|
      .ret (.inl ((w64 (i + 1)), (w64 (i + 1)), (out ++ [(subS s_ from_.toNat i.toNat)])))) (
      .ret (.inl (from_, (w64 (i + 1)), out)))) (
    .ret (.inr (from_, out)))

def r05_Parts_L6 : Lp := ⟨6, [.own 3 9 .str], [], (.cons (.val false .str) (ca2 (.cons (.own 0) (.cons (.val false (.int .i64)) (.cons (.val false (.int .i64)) (ca4 (ca8 (ca16 .nil)))))))), (.rows 9 .str .nil), 0, .one 1 [] (.cons (.val false .str) (ca2 (.cons (.own 0) (.cons (.val false (.int .i64)) (ca (ca4 (ca8 (ca16 .nil)))))))) (.rows 9 .str .nil), fun z => .bnd (.loop (fun v => r05_Parts_L6_step z.1.1 v.1 v.2.1 v.2.2) (z.1.2.2.2.2.1, z.1.2.2.2.2.2.1, z.2.1)) fun r => .ret ((z.1.1, (cu2 ((), (r.1, (cu (cu4 (cu8 (cu16 ())))))))), (r.2, ()))⟩

theorem r05_Parts_L6_ok : r05_Parts_L6.ok Tryd.prog (nthC (loopsOf (bodyOf Tryd.f40)) 0) := by
  refine Lp.lift (π := Str) (V := (Int × Int × (List Str))) (ρ := (Int × (List Str))) mix tabOk r05_Parts_L6 (o := orT [] [] noFz) (orT_sound trivial) (allLp_of [] (by kernel_rfl) trivial rfl) (fun x v => ((x, (cu2 ((), (v.1, (v.2.1, (cu4 (cu8 (cu16 ())))))))), (v.2.2, ()))) (fun x r => ((x, (cu2 ((), (r.1, (cu (cu4 (cu8 (cu16 ())))))))), (r.2, ()))) (fun x v => r05_Parts_L6_step x v.1 v.2.1 v.2.2) (fun x r => .ret ((x, (cu2 ((), (r.1, (cu (cu4 (cu8 (cu16 ())))))))), (r.2, ()))) (fun z => z.1.1) (fun z => (z.1.2.2.2.2.1, z.1.2.2.2.2.2.1, z.2.1)) (fun _ => rfl) (fun _ => rfl) (fun _ _ _ h => h) ?_
  intro x v; kernel_rfl

def r05_Parts_T (x0 : Str) : Tree (List Str) :=
  .ite (x0 == ([] : Str)) (
    .ret []) (
    .bnd (.loop (fun v => r05_Parts_L6_step x0 v.1 v.2.1 v.2.2) (0, 0, ([] : List Str))) fun r1 =>
    ask (inbe r1.1 x0.length) <|
    ask (decide ((r1.2 ++ [(subS x0 r1.1.toNat x0.length)]).length * 16 ≤ roomNat)) <|
    .ret (r1.2 ++ [(subS x0 r1.1.toNat x0.length)]))

def r05_Parts_g : Sig := ⟨40, (.cons (.val false .str) .nil), .fresh 9 .str, fun z => r05_Parts_T z.1, ([] : List Str)⟩

theorem r05_Parts_ok : r05_Parts_g.ok Tryd.prog := by
  refine Sig.lift mix tabOk nms _ Tryd.func40 (c := (bodyOf Tryd.f40)) (by kernel_rfl) (o := orT [] [r05_Parts_L6] noFz) (orT_sound trivial) (allLp_of [nthC (loopsOf (bodyOf Tryd.f40)) 0] (by kernel_rfl) ⟨r05_Parts_L6_ok, trivial⟩ (by kernel_rfl)) ?_
  intro z; kernel_rfl

def r05_Parts_gv : Sig := ⟨40, (.cons (.val false .str) .nil), .vals (.val false (.list .str)), fun z => r05_Parts_T z.1, ([] : List Str)⟩

theorem r05_Parts_okv : r05_Parts_gv.ok Tryd.prog := fun x y h => acalls_val (r05_Parts_ok x y h)

def r01_SameTexts_L4_step (a : List Str) (b : List Str) (i : Int) : Tree (Int ⊕ (Bool ⊕ Unit)) :=
  .ite ((decide (i < (a.length : Int))) && (decide (i < (b.length : Int)))) (
    ask (inb i a.length) <|
    ask (inb i b.length) <|
    .ite (!((a.getD i.toNat ([] : Str)) == (b.getD i.toNat ([] : Str)))) (
      .ret (.inr (.inl false))) (
      .ret (.inl (w64 (i + 1))))) (
    .ret (.inr (.inr ())))

def r01_SameTexts_L4 : Lp := ⟨4, [], [], (.cons (.val false (.list .str)) (.cons (.val false (.list .str)) (ca (ca2 (.cons (.val false (.int .i64)) (ca2 (ca8 (ca16 .nil)))))))), .nil, 0, .more 0 [] (ca4 (.cons (.val false .bool) (ca (ca2 (ca8 (ca16 .nil)))))) .nil (.one 1 [] (ca32 .nil) .nil), fun z => .bnd (.loop (fun v => r01_SameTexts_L4_step z.1.1 z.1.2.1 v) z.1.2.2.2.2.2.1) fun r => .sum r (fun a0 => .ret (.inl ((cu4 (a0, (cu (cu2 (cu8 (cu16 ())))))), ()))) (fun b0 => .ret (.inr ((cu32 ()), ())))⟩

theorem r01_SameTexts_L4_ok : r01_SameTexts_L4.ok Tryd.prog (nthC (loopsOf (bodyOf Tryd.f23)) 0) := by
  refine Lp.lift (π := ((List Str) × (List Str))) (V := Int) (ρ := (Bool ⊕ Unit)) mix tabOk r01_SameTexts_L4 (o := orT [] [] noFz) (orT_sound trivial) (allLp_of [] (by kernel_rfl) trivial rfl) (fun x v => ((x.1, (x.2, (cu (cu2 (v, (cu2 (cu8 (cu16 ())))))))), ())) (fun x r => match r with | .inl a0 => .inl ((cu4 (a0, (cu (cu2 (cu8 (cu16 ())))))), ()) | .inr b0 => (.inr ((cu32 ()), ()))) (fun x v => r01_SameTexts_L4_step x.1 x.2 v) (fun x r => .sum r (fun a0 => .ret (.inl ((cu4 (a0, (cu (cu2 (cu8 (cu16 ())))))), ()))) (fun b0 => .ret (.inr ((cu32 ()), ())))) (fun z => (z.1.1, z.1.2.1)) (fun z => z.1.2.2.2.2.2.1) (fun _ => rfl) (fun _ => rfl) (fun x r Q h => match r, h with | .inl _, h => h | .inr b0, h => (h)) ?_
  intro x v; kernel_rfl

def r01_SameTexts_T (x0 : List Str) (x1 : List Str) : Tree Bool :=
  .ite (!decide ((x0.length : Int) = (x1.length : Int))) (
    .ret false) (
    .bnd (.loop (fun v => r01_SameTexts_L4_step x0 x1 v) 0) fun r1 =>
    .sum r1 (fun r2 =>
      .ret r2) (fun r3 =>
      .ret true))

def r01_SameTexts_g : Sig := ⟨23, (.cons (.val false (.list .str)) (.cons (.val false (.list .str)) .nil)), .vals (.val false .bool), fun z => r01_SameTexts_T z.1 z.2.1, false⟩

theorem r01_SameTexts_ok : r01_SameTexts_g.ok Tryd.prog := by
  refine Sig.lift mix tabOk nms _ Tryd.func23 (c := (bodyOf Tryd.f23)) (by kernel_rfl) (o := orT [] [r01_SameTexts_L4] noFz) (orT_sound trivial) (allLp_of [nthC (loopsOf (bodyOf Tryd.f23)) 0] (by kernel_rfl) ⟨r01_SameTexts_L4_ok, trivial⟩ (by kernel_rfl)) ?_
  intro z; kernel_rfl

def r05_Path_L3_step (l : List Str) (s_ : Str) (i : Int) : Tree ((Str × Int) ⊕ Str) :=
  .ite (decide (i < (l.length : Int))) (
    .ite (decide ((0 : Int) < i)) (
      ask (decide (s_.length + ([47] : Str).length ≤ 9223372036854775807)) <|
      ask (inb i l.length) <|
      ask (decide ((s_ ++ ([47] : Str)).length + (l.getD i.toNat ([] : Str)).length ≤ 9223372036854775807)) <|
      .ret (.inl (((s_ ++ ([47] : Str)) ++ (l.getD i.toNat ([] : Str))), (w64 (i + 1))))) (
      ask (inb i l.length) <|
      ask (decide (s_.length + (l.getD i.toNat ([] : Str)).length ≤ 9223372036854775807)) <|
      .ret (.inl ((s_ ++ (l.getD i.toNat ([] : Str))), (w64 (i + 1)))))) (
    .ret (.inr s_))

def r05_Path_L3 : Lp := ⟨3, [], [], (.cons (.val false (.list .str)) (ca2 (.cons (.val false .str) (.cons (.val false (.int .i64)) (ca (ca16 .nil)))))), .nil, 0, .one 1 [] (ca (ca2 (.cons (.val false .str) (ca2 (ca16 .nil))))) .nil, fun z => .bnd (.loop (fun v => r05_Path_L3_step z.1.1 v.1 v.2) (z.1.2.2.2.1, z.1.2.2.2.2.1)) fun r => .ret ((cu (cu2 (r, (cu2 (cu16 ()))))), ())⟩

theorem r05_Path_L3_ok : r05_Path_L3.ok Tryd.prog (nthC (loopsOf (bodyOf Tryd.f42)) 0) := by
  refine Lp.lift (π := List Str) (V := (Str × Int)) (ρ := Str) mix tabOk r05_Path_L3 (o := orT [] [] noFz) (orT_sound trivial) (allLp_of [] (by kernel_rfl) trivial rfl) (fun x v => ((x, (cu2 (v.1, (v.2, (cu (cu16 ())))))), ())) (fun x r => ((cu (cu2 (r, (cu2 (cu16 ()))))), ())) (fun x v => r05_Path_L3_step x v.1 v.2) (fun x r => .ret ((cu (cu2 (r, (cu2 (cu16 ()))))), ())) (fun z => z.1.1) (fun z => (z.1.2.2.2.1, z.1.2.2.2.2.1)) (fun _ => rfl) (fun _ => rfl) (fun _ _ _ h => h) ?_
  intro x v; kernel_rfl

def r05_Path_T (x0 : List Str) : Tree Str :=
  .bnd (.loop (fun v => r05_Path_L3_step x0 v.1 v.2) (([] : Str), 0)) fun r1 =>
  .ret r1

def r05_Path_g : Sig := ⟨42, (.cons (.val false (.list .str)) .nil), .vals (.val false .str), fun z => r05_Path_T z.1, ([] : Str)⟩

theorem r05_Path_ok : r05_Path_g.ok Tryd.prog := by
  refine Sig.lift mix tabOk nms _ Tryd.func42 (c := (bodyOf Tryd.f42)) (by kernel_rfl) (o := orT [] [r05_Path_L3] noFz) (orT_sound trivial) (allLp_of [nthC (loopsOf (bodyOf Tryd.f42)) 0] (by kernel_rfl) ⟨r05_Path_L3_ok, trivial⟩ (by kernel_rfl)) ?_
  intro z; kernel_rfl

def l05_NameIs_T (x0 : Str) (x1 : Str) : Tree Bool :=
  .ite ((decide ((200 : Int) < (x0.length : Int))) || (decide ((200 : Int) < (x1.length : Int)))) (
    .bnd l05_awake_T fun y1 =>
    .ret y1) (
    .bnd (name_Split_T x0) fun y2 =>
    .bnd (r05_Split_T x0) fun y3 =>
    .bnd (name_Num_T x0) fun y4 =>
    .bnd (r05_Num_T x0) fun y5 =>
    .bnd (name_Is_T x0) fun y6 =>
    .bnd (r05_Is_T x0) fun y7 =>
    .grd (y6 == y7) (name_IsKey_T x0) false fun y8 =>
    .grd (y6 == y7) (r05_IsKey_T x0) false fun y9 =>
    .grd ((y6 == y7) && (y8 == y9)) (name_Join_T x0 x1) ([] : Str) fun y10 =>
    .grd ((y6 == y7) && (y8 == y9)) (r05_Join_T x0 x1) ([] : Str) fun y11 =>
    .grd ((((((y6 == y7) && (y8 == y9)) && (y10 == y11)) && (y2.1 == y3.1)) && (y2.2.1 == y3.2.1)) && (y2.2.2.1 == y3.2.2.1)) (name_Parts_T x0) ([] : List Str) fun y12 =>
    .grd ((((((y6 == y7) && (y8 == y9)) && (y10 == y11)) && (y2.1 == y3.1)) && (y2.2.1 == y3.2.1)) && (y2.2.2.1 == y3.2.2.1)) (r05_Parts_T x0) ([] : List Str) fun y13 =>
    .grd ((((((y6 == y7) && (y8 == y9)) && (y10 == y11)) && (y2.1 == y3.1)) && (y2.2.1 == y3.2.1)) && (y2.2.2.1 == y3.2.2.1)) (r01_SameTexts_T y12 y13) false fun y14 =>
    .grd (((((((y6 == y7) && (y8 == y9)) && (y10 == y11)) && (y2.1 == y3.1)) && (y2.2.1 == y3.2.1)) && (y2.2.2.1 == y3.2.2.1)) && y14) (name_Path_T [x0, x1]) ([] : Str) fun y15 =>
    .grd (((((((y6 == y7) && (y8 == y9)) && (y10 == y11)) && (y2.1 == y3.1)) && (y2.2.1 == y3.2.1)) && (y2.2.2.1 == y3.2.2.1)) && y14) (r05_Path_T [x0, x1]) ([] : Str) fun y16 =>
    .grd ((((((((y6 == y7) && (y8 == y9)) && (y10 == y11)) && (y2.1 == y3.1)) && (y2.2.1 == y3.2.1)) && (y2.2.2.1 == y3.2.2.1)) && y14) && (y15 == y16)) (name_Path_T []) ([] : Str) fun y17 =>
    .grd (((((((((((y6 == y7) && (y8 == y9)) && (y10 == y11)) && (y2.1 == y3.1)) && (y2.2.1 == y3.2.1)) && (y2.2.2.1 == y3.2.2.1)) && y14) && (y15 == y16)) && (y17 == ([] : Str))) && (decide (y4.1 = y5.1))) && (y4.2.1 == y5.2.1)) l05_awake_T false fun y18 =>
    .ret ((((((((((((y6 == y7) && (y8 == y9)) && (y10 == y11)) && (y2.1 == y3.1)) && (y2.2.1 == y3.2.1)) && (y2.2.2.1 == y3.2.2.1)) && y14) && (y15 == y16)) && (y17 == ([] : Str))) && (decide (y4.1 = y5.1))) && (y4.2.1 == y5.2.1)) && y18))

def l05_NameIs_g : Sig := ⟨6, (.cons (.val false .str) (.cons (.val false .str) .nil)), .vals (.val false .bool), fun z => l05_NameIs_T z.1 z.2.1, false⟩

theorem l05_NameIs_ok : l05_NameIs_g.ok Tryd.prog := by
  refine Sig.lift mix tabOk nms _ Tryd.func6 (c := (bodyOf Tryd.f6)) (by kernel_rfl) (o := orT [l05_awake_g, name_Split_g, r05_Split_g, name_Num_g, r05_Num_g, name_Is_g, r05_Is_g, name_IsKey_g, r05_IsKey_g, name_Join_g, r05_Join_g, name_Parts_gv, r05_Parts_gv, r01_SameTexts_g, name_Path_g, r05_Path_g] [] noFz) (orT_sound ⟨l05_awake_ok, ⟨name_Split_ok, ⟨r05_Split_ok, ⟨name_Num_ok, ⟨r05_Num_ok, ⟨name_Is_ok, ⟨r05_Is_ok, ⟨name_IsKey_ok, ⟨r05_IsKey_ok, ⟨name_Join_ok, ⟨r05_Join_ok, ⟨name_Parts_okv, ⟨r05_Parts_okv, ⟨r01_SameTexts_ok, ⟨name_Path_ok, ⟨r05_Path_ok, trivial⟩⟩⟩⟩⟩⟩⟩⟩⟩⟩⟩⟩⟩⟩⟩⟩) (allLp_of [] (by kernel_rfl) trivial rfl) ?_
  intro z; kernel_rfl

def l05_NamePlaces_L4_step (bucket : Str) (key : Str) (l : List Str) (i : Int) : Tree (Int ⊕ (Bool ⊕ Unit)) :=
  .ite (decide (i < (l.length : Int))) (
    ask (inb i l.length) <|
    .bnd (name_Is_T (l.getD i.toNat ([] : Str))) fun y1 =>
    .ite (!y1) (
      .bnd l05_awake_T fun y2 =>
      .ret (.inr (.inl y2))) (
      .ret (.inl (w64 (i + 1))))) (
    .ret (.inr (.inr ())))

def l05_NamePlaces_L4 : Lp := ⟨4, [], [], (.cons (.val false .str) (.cons (.val false .str) (.cons (.val false (.list .str)) (ca4 (.cons (.val false (.int .i64)) (ca2 (ca32 (ca32 .nil)))))))), .nil, 0, .more 0 [] (ca2 (ca4 (.cons (.val false .bool) (ca (ca2 (ca32 (ca32 .nil))))))) .nil (.one 1 [] (.cons (.val false .str) (.cons (.val false .str) (.cons (.val false (.list .str)) (ca (ca2 (ca4 (ca32 (ca32 .nil)))))))) .nil), fun z => .bnd (.loop (fun v => l05_NamePlaces_L4_step z.1.1 z.1.2.1 z.1.2.2.1 v) z.1.2.2.2.2.2.2.2.1) fun r => .sum r (fun a0 => .ret (.inl ((cu2 (cu4 (a0, (cu (cu2 (cu32 (cu32 ()))))))), ()))) (fun b0 => .ret (.inr ((z.1.1, (z.1.2.1, (z.1.2.2.1, (cu (cu2 (cu4 (cu32 (cu32 ())))))))), ())))⟩

theorem l05_NamePlaces_L4_ok : l05_NamePlaces_L4.ok Tryd.prog (nthC (loopsOf (bodyOf Tryd.f7)) 0) := by
  refine Lp.lift (π := (Str × Str × (List Str))) (V := Int) (ρ := (Bool ⊕ Unit)) mix tabOk l05_NamePlaces_L4 (o := orT [l05_awake_g, name_Is_g, name_Join_g, name_Split_g, name_IsKey_g, name_Path_g, name_Parts_g, r01_SameTexts_g] [] noFz) (orT_sound ⟨l05_awake_ok, ⟨name_Is_ok, ⟨name_Join_ok, ⟨name_Split_ok, ⟨name_IsKey_ok, ⟨name_Path_ok, ⟨name_Parts_ok, ⟨r01_SameTexts_ok, trivial⟩⟩⟩⟩⟩⟩⟩⟩) (allLp_of [] (by kernel_rfl) trivial rfl) (fun x v => ((x.1, (x.2.1, (x.2.2, (cu4 (v, (cu2 (cu32 (cu32 ())))))))), ())) (fun x r => match r with | .inl a0 => .inl ((cu2 (cu4 (a0, (cu (cu2 (cu32 (cu32 ()))))))), ()) | .inr b0 => (.inr ((x.1, (x.2.1, (x.2.2, (cu (cu2 (cu4 (cu32 (cu32 ())))))))), ()))) (fun x v => l05_NamePlaces_L4_step x.1 x.2.1 x.2.2 v) (fun x r => .sum r (fun a0 => .ret (.inl ((cu2 (cu4 (a0, (cu (cu2 (cu32 (cu32 ()))))))), ()))) (fun b0 => .ret (.inr ((x.1, (x.2.1, (x.2.2, (cu (cu2 (cu4 (cu32 (cu32 ())))))))), ())))) (fun z => (z.1.1, z.1.2.1, z.1.2.2.1)) (fun z => z.1.2.2.2.2.2.2.2.1) (fun _ => rfl) (fun _ => rfl) (fun x r Q h => match r, h with | .inl _, h => h | .inr b0, h => (h)) ?_
  intro x v; kernel_rfl

def l05_NamePlaces_T (x0 : Str) (x1 : Str) (x2 : List Str) : Tree Bool :=
  .ite (((decide ((200 : Int) < (x0.length : Int))) || (decide ((200 : Int) < (x1.length : Int)))) || (decide ((20 : Int) < (x2.length : Int)))) (
    .bnd l05_awake_T fun y1 =>
    .ret y1) (
    .bnd (.loop (fun v => l05_NamePlaces_L4_step x0 x1 x2 v) 0) fun r2 =>
    .sum r2 (fun r3 =>
      .ret r3) (fun r4 =>
      .bnd (name_Join_T x0 x1) fun y5 =>
      .bnd (name_Split_T y5) fun y6 =>
      .bnd (name_Is_T x0) fun y7 =>
      .grd y7 (name_IsKey_T x1) false fun y8 =>
      .ite ((y7 && y8) && (((!(y6.1 == x0)) || (!(y6.2.1 == x1))) || (!y6.2.2.1))) (
        .ret false) (
        .bnd (name_Path_T x2) fun y9 =>
        .bnd (name_Parts_T y9) fun y10 =>
        .bnd (r01_SameTexts_T y10 x2) fun y11 =>
        .grd y11 l05_awake_T false fun y12 =>
        .ret (y11 && y12))))

def l05_NamePlaces_g : Sig := ⟨7, (.cons (.val false .str) (.cons (.val false .str) (.cons (.val false (.list .str)) .nil))), .vals (.val false .bool), fun z => l05_NamePlaces_T z.1 z.2.1 z.2.2.1, false⟩

theorem l05_NamePlaces_ok : l05_NamePlaces_g.ok Tryd.prog := by
  refine Sig.lift mix tabOk nms _ Tryd.func7 (c := (bodyOf Tryd.f7)) (by kernel_rfl) (o := orT [l05_awake_g, name_Is_g, name_Join_g, name_Split_g, name_IsKey_g, name_Path_g, name_Parts_g, r01_SameTexts_g] [l05_NamePlaces_L4] noFz) (orT_sound ⟨l05_awake_ok, ⟨name_Is_ok, ⟨name_Join_ok, ⟨name_Split_ok, ⟨name_IsKey_ok, ⟨name_Path_ok, ⟨name_Parts_ok, ⟨r01_SameTexts_ok, trivial⟩⟩⟩⟩⟩⟩⟩⟩) (allLp_of [nthC (loopsOf (bodyOf Tryd.f7)) 0] (by kernel_rfl) ⟨l05_NamePlaces_L4_ok, trivial⟩ (by kernel_rfl)) ?_
  intro z; kernel_rfl

def l05_NameNumbers_T (x0 : Int) (x1 : Str) : Tree Bool :=
  .bnd (name_Dec_T x0) fun y1 =>
  .bnd (name_Num_T y1) fun y2 =>
  .grd (!((!decide (y2.1 = x0)) || (!y2.2.1))) (name_Dec_T x0) ([] : Str) fun y3 =>
  .grd (!((!decide (y2.1 = x0)) || (!y2.2.1))) (r05_Dec_T x0) ([] : Str) fun y4 =>
  .ite ((((!decide (y2.1 = x0)) || (!y2.2.1)) || (!(y3 == y4))) || (decide ((200 : Int) < (x1.length : Int)))) (
    .grd (decide ((200 : Int) < (x1.length : Int))) l05_awake_T false fun y5 =>
    .ret ((decide ((200 : Int) < (x1.length : Int))) && y5)) (
    .bnd (name_Num_T x1) fun y6 =>
    .grd y6.2.1 (name_Dec_T y6.1) ([] : Str) fun y7 =>
    .grd ((y6.2.1 && (y7 == x1)) || ((!y6.2.1) && (decide (y6.1 = 0)))) l05_awake_T false fun y8 =>
    .ret (((y6.2.1 && (y7 == x1)) || ((!y6.2.1) && (decide (y6.1 = 0)))) && y8))

def l05_NameNumbers_g : Sig := ⟨8, (.cons (.val false (.int .i64)) (.cons (.val false .str) .nil)), .vals (.val false .bool), fun z => l05_NameNumbers_T z.1 z.2.1, false⟩

theorem l05_NameNumbers_ok : l05_NameNumbers_g.ok Tryd.prog := by
  refine Sig.lift mix tabOk nms _ Tryd.func8 (c := (bodyOf Tryd.f8)) (by kernel_rfl) (o := orT [name_Dec_g, name_Num_g, r05_Dec_g, l05_awake_g] [] noFz) (orT_sound ⟨name_Dec_ok, ⟨name_Num_ok, ⟨r05_Dec_ok, ⟨l05_awake_ok, trivial⟩⟩⟩⟩) (allLp_of [] (by kernel_rfl) trivial rfl) ?_
  intro z; kernel_rfl

end Go.Eng
