/- Lifted: 51 functions, part 1. -/
import Derived.Test.YthoojodooacjcaaDoorTrG
import Derived.Test.YthoojodooacjcaaDoorTrF
import Derived.Test.YthoojodooacjcaaDoorEngT
import Derived.Test.YthoojodooacjcaaDoorShf
import Derived.Test.YthoojodooacjcaaDoorTrL
import Derived.Test.YthoojodooacjcaaDoorTrM
import Derived.Test.YthoojodooacjcaaDoorTrS
namespace Go.Eng
open Go Go.Proofs
set_option maxRecDepth 100000
abbrev Member : Type := (Str × (Str × (Str × Bool)))
abbrev tMember : Ty := (.pair .str (.pair .str (.pair .str .bool)))

abbrev Reg : Type := (Int × (Str × Str))
abbrev tReg : Ty := (.pair (.int .i64) (.pair .str .str))

abbrev Entry : Type := (Str × Reg)
abbrev tEntry : Ty := (.pair .str tReg)

def r09_Few_T (x0 : Reg) : Tree Bool :=
  .ret ((decide ((x0.2.1.length : Int) ≤ 100)) && (decide ((x0.2.2.length : Int) ≤ 300)))

def r09_Few_g : Sig := ⟨25, (.cons (.val true tReg) .nil), .vals (.val false .bool), fun z => r09_Few_T z.1, false⟩

theorem r09_Few_ok : r09_Few_g.ok Tryd.prog := by
  refine Sig.lift mix tabOk nms _ Tryd.func25 (c := (bodyOf Tryd.f25)) (by kernel_rfl) (o := orT [] [] noFz) (orT_sound trivial) (allLp_of [] (by kernel_rfl) trivial rfl) ?_
  intro z; kernel_rfl

def r10_Few_L2_step (l : List Entry) (most : Int) (i : Int) : Tree (Int ⊕ (Bool ⊕ Unit)) :=
  .ite ((decide (i < (l.length : Int))) && (decide (i < most))) (
    ask (inb i l.length) <|
    ask ((!(!(decide ((200 : Int) < ((l.getD i.toNat (dfl tEntry : Entry)).1.length : Int))))) || inb i l.length) <|
    .grd (!(decide ((200 : Int) < ((l.getD i.toNat (dfl tEntry : Entry)).1.length : Int)))) (r09_Few_T (l.getD i.toNat (dfl tEntry : Entry)).2) false fun y1 =>
    .ite ((decide ((200 : Int) < ((l.getD i.toNat (dfl tEntry : Entry)).1.length : Int))) || (!y1)) (
      .ret (.inr (.inl false))) (
      .ret (.inl (w64 (i + 1))))) (
    .ret (.inr (.inr ())))

def r10_Few_L2 : Lp := ⟨2, [], [], (.cons (.val false (.list tEntry)) (.cons (.val false (.int .i64)) (ca (ca2 (.cons (.val false (.int .i64)) (ca (ca2 (ca4 (ca8 (ca16 .nil)))))))))), .nil, 0, .more 0 [] (ca4 (.cons (.val false .bool) (ca32 .nil))) .nil (.one 1 [] (.cons (.val false (.list tEntry)) (.cons (.val false (.int .i64)) (ca (ca2 (ca32 .nil))))) .nil), fun z => .bnd (.loop (fun v => r10_Few_L2_step z.1.1 z.1.2.1 v) z.1.2.2.2.2.2.1) fun r => .sum r (fun a0 => .ret (.inl ((cu4 (a0, (cu32 ()))), ()))) (fun b0 => .ret (.inr ((z.1.1, (z.1.2.1, (cu (cu2 (cu32 ()))))), ())))⟩

theorem r10_Few_L2_ok : r10_Few_L2.ok Tryd.prog (nthC (loopsOf (bodyOf Tryd.f6)) 0) := by
  refine Lp.lift (π := ((List Entry) × Int)) (V := Int) (ρ := (Bool ⊕ Unit)) mix tabOk r10_Few_L2 (o := orT [r09_Few_g] [] noFz) (orT_sound ⟨r09_Few_ok, trivial⟩) (allLp_of [] (by kernel_rfl) trivial rfl) (fun x v => ((x.1, (x.2, (cu (cu2 (v, (cu (cu2 (cu4 (cu8 (cu16 ())))))))))), ())) (fun x r => match r with | .inl a0 => .inl ((cu4 (a0, (cu32 ()))), ()) | .inr b0 => (.inr ((x.1, (x.2, (cu (cu2 (cu32 ()))))), ()))) (fun x v => r10_Few_L2_step x.1 x.2 v) (fun x r => .sum r (fun a0 => .ret (.inl ((cu4 (a0, (cu32 ()))), ()))) (fun b0 => .ret (.inr ((x.1, (x.2, (cu (cu2 (cu32 ()))))), ())))) (fun z => (z.1.1, z.1.2.1)) (fun z => z.1.2.2.2.2.2.1) (fun _ => rfl) (fun _ => rfl) (fun x r Q h => match r, h with | .inl _, h => h | .inr b0, h => (h)) ?_
  intro x v; kernel_rfl

def r10_Few_T (x0 : List Entry) (x1 : Int) : Tree Bool :=
  .bnd (.loop (fun v => r10_Few_L2_step x0 x1 v) 0) fun r1 =>
  .sum r1 (fun r2 =>
    .ret r2) (fun r3 =>
    .ret (decide ((x0.length : Int) ≤ x1)))

def r10_Few_g : Sig := ⟨6, (.cons (.val false (.list tEntry)) (.cons (.val false (.int .i64)) .nil)), .vals (.val false .bool), fun z => r10_Few_T z.1 z.2.1, false⟩

theorem r10_Few_ok : r10_Few_g.ok Tryd.prog := by
  refine Sig.lift mix tabOk nms _ Tryd.func6 (c := (bodyOf Tryd.f6)) (by kernel_rfl) (o := orT [r09_Few_g] [r10_Few_L2] noFz) (orT_sound ⟨r09_Few_ok, trivial⟩) (allLp_of [nthC (loopsOf (bodyOf Tryd.f6)) 0] (by kernel_rfl) ⟨r10_Few_L2_ok, trivial⟩ (by kernel_rfl)) ?_
  intro z; kernel_rfl

def name_isLetter_T (x0 : Int) : Tree Bool :=
  .ret ((((decide ((97 : Int) ≤ x0)) && (decide (x0 ≤ 122))) || ((decide ((48 : Int) ≤ x0)) && (decide (x0 ≤ 57)))) || (decide (x0 = 45)))

def name_isLetter_g : Sig := ⟨42, (.cons (.val false (.int .i32)) .nil), .vals (.val false .bool), fun z => name_isLetter_T z.1, false⟩

theorem name_isLetter_ok : name_isLetter_g.ok Tryd.prog := by
  refine Sig.lift mix tabOk nms _ Tryd.func42 (c := (bodyOf Tryd.f42)) (by kernel_rfl) (o := orT [] [] noFz) (orT_sound trivial) (allLp_of [] (by kernel_rfl) trivial rfl) ?_
  intro z; kernel_rfl

def name_Is_L4_step (str : Str) (pos : Nat) : Tree (Nat ⊕ (Bool ⊕ Unit)) :=
  .ite (decide ((pos : Int) < (str.length : Int))) (
    ask (decide ((pos : Int) < (str.length : Int))) <|
    .bnd (name_isLetter_T (std.rune str pos)) fun y1 =>
    .ite (!y1) (
      .ret (.inr (.inl false))) (
      .ret (.inl (std.npos str pos)))) (
    .ret (.inr (.inr ())))

def name_Is_L4 : Lp := ⟨4, [], [], (ca (ca4 (ca8 (.cons (.ref 0 0) (ca2 (ca4 .nil)))))), (.siter .nil), 0, .more 0 [] (ca2 (.cons (.val false .bool) (ca (ca16 .nil)))) .nil (.one 1 [] (ca4 (ca16 .nil)) .nil), fun z => .bnd (.loop (fun v => name_Is_L4_step z.2.1.1 v) z.2.1.2) fun r => .sum r (fun a0 => .ret (.inl ((cu2 (a0, (cu (cu16 ())))), ()))) (fun b0 => .ret (.inr ((cu4 (cu16 ())), ())))⟩

theorem name_Is_L4_ok : name_Is_L4.ok Tryd.prog (nthC (loopsOf (bodyOf Tryd.f27)) 0) := by
  refine Lp.lift (π := Str) (V := Nat) (ρ := (Bool ⊕ Unit)) mix tabOk name_Is_L4 (o := orT [name_isLetter_g] [] noFz) (orT_sound ⟨name_isLetter_ok, trivial⟩) (allLp_of [] (by kernel_rfl) trivial rfl) (fun x v => ((cu (cu4 (cu8 ((), (cu2 (cu4 ())))))), ((x, v), ()))) (fun x r => match r with | .inl a0 => .inl ((cu2 (a0, (cu (cu16 ())))), ()) | .inr b0 => (.inr ((cu4 (cu16 ())), ()))) (fun x v => name_Is_L4_step x v) (fun x r => .sum r (fun a0 => .ret (.inl ((cu2 (a0, (cu (cu16 ())))), ()))) (fun b0 => .ret (.inr ((cu4 (cu16 ())), ())))) (fun z => z.2.1.1) (fun z => z.2.1.2) (fun _ => rfl) (fun _ => rfl) (fun x r Q h => match r, h with | .inl _, h => h | .inr b0, h => (h)) ?_
  intro x v; kernel_rfl

def name_Is_T (x0 : Str) : Tree Bool :=
  .ite ((x0 == ([] : Str)) || (decide ((16 : Int) < (x0.length : Int)))) (
    .ret false) (
    .bnd (.loop (fun v => name_Is_L4_step x0 v) 0) fun r1 =>
    .sum r1 (fun r2 =>
      .ret r2) (fun r3 =>
      .ret true))

def name_Is_g : Sig := ⟨27, (.cons (.val false .str) .nil), .vals (.val false .bool), fun z => name_Is_T z.1, false⟩

theorem name_Is_ok : name_Is_g.ok Tryd.prog := by
  refine Sig.lift mix tabOk nms _ Tryd.func27 (c := (bodyOf Tryd.f27)) (by kernel_rfl) (o := orT [name_isLetter_g] [name_Is_L4] noFz) (orT_sound ⟨name_isLetter_ok, trivial⟩) (allLp_of [nthC (loopsOf (bodyOf Tryd.f27)) 0] (by kernel_rfl) ⟨name_Is_L4_ok, trivial⟩ (by kernel_rfl)) ?_
  intro z; kernel_rfl

def strings_Join_T (x0 : List Str) (x1 : Str) : Tree Str :=
  joinT x0 x1

def strings_Join_g : Sig := ⟨48, (.cons (.val false (.list .str)) (.cons (.val false .str) .nil)), .vals (.val false .str), fun z => strings_Join_T z.1 z.2.1, ([] : Str)⟩

theorem strings_Join_ok : strings_Join_g.ok Tryd.prog :=
  strings_Join_sig (enters_of Tryd.func48 (by kernel_rfl) rfl) (fun a c sep w => Tryd.strings_Join_none a c sep w) (fun bk o c xs sep w h1 h2 h3 h4 h5 => Tryd.strings_Join bk o c xs sep w h1 h2 h3 h4 h5)

def name_Path_T (x0 : List Str) : Tree Str :=
  .bnd (strings_Join_T x0 ([47] : Str)) fun y1 =>
  .ret y1

def name_Path_g : Sig := ⟨33, (.cons (.val false (.list .str)) .nil), .vals (.val false .str), fun z => name_Path_T z.1, ([] : Str)⟩

theorem name_Path_ok : name_Path_g.ok Tryd.prog := by
  refine Sig.lift mix tabOk nms _ Tryd.func33 (c := (bodyOf Tryd.f33)) (by kernel_rfl) (o := orT [strings_Join_g] [] noFz) (orT_sound ⟨strings_Join_ok, trivial⟩) (allLp_of [] (by kernel_rfl) trivial rfl) ?_
  intro z; kernel_rfl

def topo_Value_T (x0 : Member) : Tree (Str × Int × Unit) :=
  .bnd (name_Is_T x0.2.1) fun y1 =>
  .grd (!(!y1)) (name_Is_T x0.2.2.1) false fun y2 =>
  .ite ((!y1) || (!y2)) (
    .ret (([] : Str), 1, ())) (
    .ite x0.2.2.2 (
      .bnd (name_Path_T [x0.2.1, x0.2.2.1, ([117, 112] : Str)]) fun y3 =>
      .ret (y3, 0, ())) (
      .bnd (name_Path_T [x0.2.1, x0.2.2.1, ([100, 111, 119, 110] : Str)]) fun y4 =>
      .ret (y4, 0, ())))

def topo_Value_g : Sig := ⟨16, (.cons (.val true tMember) .nil), .vals (.cons (.val false .str) (.cons (.val false (.int .i64)) .nil)), fun z => topo_Value_T z.1, (([] : Str), (0 : Int), ())⟩

theorem topo_Value_ok : topo_Value_g.ok Tryd.prog := by
  refine Sig.lift mix tabOk nms _ Tryd.func16 (c := (bodyOf Tryd.f16)) (by kernel_rfl) (o := orT [name_Is_g, name_Path_g] [] noFz) (orT_sound ⟨name_Is_ok, ⟨name_Path_ok, trivial⟩⟩) (allLp_of [] (by kernel_rfl) trivial rfl) ?_
  intro z; kernel_rfl

def strings_Split_T (x0 : Str) (x1 : Str) : Tree (List Str) :=
  splitT x0 x1

def strings_Split_g : Sig := ⟨41, (.cons (.val false .str) (.cons (.val false .str) .nil)), .fresh 9 .str, fun z => strings_Split_T z.1 z.2.1, ([] : List Str)⟩

theorem strings_Split_ok : strings_Split_g.ok Tryd.prog :=
  strings_Split_sig (enters_of Tryd.func41 (by kernel_rfl) rfl) (fun s p w hg hs h1 => let ⟨m, hm⟩ := hg.mlen; Tryd.strings_Split s p m w hs hm h1)

def strings_Split_gv : Sig := ⟨41, (.cons (.val false .str) (.cons (.val false .str) .nil)), .vals (.val false (.list .str)), fun z => strings_Split_T z.1 z.2.1, ([] : List Str)⟩

theorem strings_Split_okv : strings_Split_gv.ok Tryd.prog := fun x y h => acalls_val (strings_Split_ok x y h)

def name_Parts_T (x0 : Str) : Tree (List Str) :=
  .ite (x0 == ([] : Str)) (
    .ret []) (
    .bnd (strings_Split_T x0 ([47] : Str)) fun y1 =>
    .ret y1)

def name_Parts_g : Sig := ⟨26, (.cons (.val false .str) .nil), .fresh 9 .str, fun z => name_Parts_T z.1, ([] : List Str)⟩

theorem name_Parts_ok : name_Parts_g.ok Tryd.prog := by
  refine Sig.lift mix tabOk nms _ Tryd.func26 (c := (bodyOf Tryd.f26)) (by kernel_rfl) (o := orT [strings_Split_g] [] noFz) (orT_sound ⟨strings_Split_ok, trivial⟩) (allLp_of [] (by kernel_rfl) trivial rfl) ?_
  intro z; kernel_rfl

def name_Parts_gv : Sig := ⟨26, (.cons (.val false .str) .nil), .vals (.val false (.list .str)), fun z => name_Parts_T z.1, ([] : List Str)⟩

theorem name_Parts_okv : name_Parts_gv.ok Tryd.prog := fun x y h => acalls_val (name_Parts_ok x y h)

def topo_Member_T (x0 : Str) (x1 : Str) : Tree (Member × Bool × Unit) :=
  .bnd (name_Parts_T x1) fun y1 =>
  .bnd (name_Is_T x0) fun y2 =>
  ask ((!(!((!y2) || (!decide ((y1.length : Int) = 3))))) || inb 0 y1.length) <|
  .grd (!((!y2) || (!decide ((y1.length : Int) = 3)))) (name_Is_T (y1.getD ((0 : Int).toNat) ([] : Str))) false fun y3 =>
  ask ((!(!(((!y2) || (!decide ((y1.length : Int) = 3))) || (!y3)))) || inb 1 y1.length) <|
  .grd (!(((!y2) || (!decide ((y1.length : Int) = 3))) || (!y3))) (name_Is_T (y1.getD ((1 : Int).toNat) ([] : Str))) false fun y4 =>
  .ite ((((!y2) || (!decide ((y1.length : Int) = 3))) || (!y3)) || (!y4)) (
    .ret (([], ([], ([], false))), false, ())) (
    ask (inb 2 y1.length) <|
    .ite ((y1.getD ((2 : Int).toNat) ([] : Str)) == ([117, 112] : Str)) (
      .ite ((y1.getD ((2 : Int).toNat) ([] : Str)) == ([117, 112] : Str)) (
        ask (inb 0 y1.length) <|
        ask (inb 1 y1.length) <|
        ask (inb 2 y1.length) <|
        .both (
          .both (
            .ret ((x0, ((y1.getD ((0 : Int).toNat) ([] : Str)), ((y1.getD ((1 : Int).toNat) ([] : Str)), ((y1.getD ((2 : Int).toNat) ([] : Str)) == ([117, 112] : Str))))), true, ())) (
            .both (
              .ret ((x0, ((y1.getD ((0 : Int).toNat) ([] : Str)), ((y1.getD ((1 : Int).toNat) ([] : Str)), ((y1.getD ((2 : Int).toNat) ([] : Str)) == ([117, 112] : Str))))), true, ())) (
              .ret ((x0, ((y1.getD ((0 : Int).toNat) ([] : Str)), ((y1.getD ((1 : Int).toNat) ([] : Str)), ((y1.getD ((2 : Int).toNat) ([] : Str)) == ([117, 112] : Str))))), true, ())))) (
          .both (
            .both (
              .ret ((x0, ((y1.getD ((0 : Int).toNat) ([] : Str)), ((y1.getD ((1 : Int).toNat) ([] : Str)), ((y1.getD ((2 : Int).toNat) ([] : Str)) == ([117, 112] : Str))))), true, ())) (
              .both (
                .ret ((x0, ((y1.getD ((0 : Int).toNat) ([] : Str)), ((y1.getD ((1 : Int).toNat) ([] : Str)), ((y1.getD ((2 : Int).toNat) ([] : Str)) == ([117, 112] : Str))))), true, ())) (
                .ret ((x0, ((y1.getD ((0 : Int).toNat) ([] : Str)), ((y1.getD ((1 : Int).toNat) ([] : Str)), ((y1.getD ((2 : Int).toNat) ([] : Str)) == ([117, 112] : Str))))), true, ())))) (
            .both (
              .both (
                .ret ((x0, ((y1.getD ((0 : Int).toNat) ([] : Str)), ((y1.getD ((1 : Int).toNat) ([] : Str)), ((y1.getD ((2 : Int).toNat) ([] : Str)) == ([117, 112] : Str))))), true, ())) (
                .ret ((x0, ((y1.getD ((0 : Int).toNat) ([] : Str)), ((y1.getD ((1 : Int).toNat) ([] : Str)), ((y1.getD ((2 : Int).toNat) ([] : Str)) == ([117, 112] : Str))))), true, ()))) (
              .both (
                .both (
                  .ret ((x0, ((y1.getD ((0 : Int).toNat) ([] : Str)), ((y1.getD ((1 : Int).toNat) ([] : Str)), ((y1.getD ((2 : Int).toNat) ([] : Str)) == ([117, 112] : Str))))), true, ())) (
                  .ret ((x0, ((y1.getD ((0 : Int).toNat) ([] : Str)), ((y1.getD ((1 : Int).toNat) ([] : Str)), ((y1.getD ((2 : Int).toNat) ([] : Str)) == ([117, 112] : Str))))), true, ()))) (
                .both (
                  .ret ((x0, ((y1.getD ((0 : Int).toNat) ([] : Str)), ((y1.getD ((1 : Int).toNat) ([] : Str)), ((y1.getD ((2 : Int).toNat) ([] : Str)) == ([117, 112] : Str))))), true, ())) (
                  .ret ((x0, ((y1.getD ((0 : Int).toNat) ([] : Str)), ((y1.getD ((1 : Int).toNat) ([] : Str)), ((y1.getD ((2 : Int).toNat) ([] : Str)) == ([117, 112] : Str))))), true, ()))))))) (
        .ret (([], ([], ([], false))), false, ()))) (
      .ite ((y1.getD ((2 : Int).toNat) ([] : Str)) == ([100, 111, 119, 110] : Str)) (
        ask (inb 0 y1.length) <|
        ask (inb 1 y1.length) <|
        ask (inb 2 y1.length) <|
        .both (
          .both (
            .ret ((x0, ((y1.getD ((0 : Int).toNat) ([] : Str)), ((y1.getD ((1 : Int).toNat) ([] : Str)), ((y1.getD ((2 : Int).toNat) ([] : Str)) == ([117, 112] : Str))))), true, ())) (
            .both (
              .ret ((x0, ((y1.getD ((0 : Int).toNat) ([] : Str)), ((y1.getD ((1 : Int).toNat) ([] : Str)), ((y1.getD ((2 : Int).toNat) ([] : Str)) == ([117, 112] : Str))))), true, ())) (
              .ret ((x0, ((y1.getD ((0 : Int).toNat) ([] : Str)), ((y1.getD ((1 : Int).toNat) ([] : Str)), ((y1.getD ((2 : Int).toNat) ([] : Str)) == ([117, 112] : Str))))), true, ())))) (
          .both (
            .both (
              .ret ((x0, ((y1.getD ((0 : Int).toNat) ([] : Str)), ((y1.getD ((1 : Int).toNat) ([] : Str)), ((y1.getD ((2 : Int).toNat) ([] : Str)) == ([117, 112] : Str))))), true, ())) (
              .both (
                .ret ((x0, ((y1.getD ((0 : Int).toNat) ([] : Str)), ((y1.getD ((1 : Int).toNat) ([] : Str)), ((y1.getD ((2 : Int).toNat) ([] : Str)) == ([117, 112] : Str))))), true, ())) (
                .ret ((x0, ((y1.getD ((0 : Int).toNat) ([] : Str)), ((y1.getD ((1 : Int).toNat) ([] : Str)), ((y1.getD ((2 : Int).toNat) ([] : Str)) == ([117, 112] : Str))))), true, ())))) (
            .both (
              .both (
                .ret ((x0, ((y1.getD ((0 : Int).toNat) ([] : Str)), ((y1.getD ((1 : Int).toNat) ([] : Str)), ((y1.getD ((2 : Int).toNat) ([] : Str)) == ([117, 112] : Str))))), true, ())) (
                .ret ((x0, ((y1.getD ((0 : Int).toNat) ([] : Str)), ((y1.getD ((1 : Int).toNat) ([] : Str)), ((y1.getD ((2 : Int).toNat) ([] : Str)) == ([117, 112] : Str))))), true, ()))) (
              .both (
                .both (
                  .ret ((x0, ((y1.getD ((0 : Int).toNat) ([] : Str)), ((y1.getD ((1 : Int).toNat) ([] : Str)), ((y1.getD ((2 : Int).toNat) ([] : Str)) == ([117, 112] : Str))))), true, ())) (
                  .ret ((x0, ((y1.getD ((0 : Int).toNat) ([] : Str)), ((y1.getD ((1 : Int).toNat) ([] : Str)), ((y1.getD ((2 : Int).toNat) ([] : Str)) == ([117, 112] : Str))))), true, ()))) (
                .both (
                  .ret ((x0, ((y1.getD ((0 : Int).toNat) ([] : Str)), ((y1.getD ((1 : Int).toNat) ([] : Str)), ((y1.getD ((2 : Int).toNat) ([] : Str)) == ([117, 112] : Str))))), true, ())) (
                  .ret ((x0, ((y1.getD ((0 : Int).toNat) ([] : Str)), ((y1.getD ((1 : Int).toNat) ([] : Str)), ((y1.getD ((2 : Int).toNat) ([] : Str)) == ([117, 112] : Str))))), true, ()))))))) (
        .ret (([], ([], ([], false))), false, ()))))

def topo_Member_g : Sig := ⟨8, (.cons (.val false .str) (.cons (.val false .str) .nil)), .vals (.cons (.val true tMember) (.cons (.val false .bool) .nil)), fun z => topo_Member_T z.1 z.2.1, ((dfl tMember : Member), false, ())⟩

theorem topo_Member_ok : topo_Member_g.ok Tryd.prog := by
  refine Sig.lift mix tabOk nms _ Tryd.func8 (c := (bodyOf Tryd.f8)) (by kernel_rfl) (o := orT [name_Parts_g, name_Is_g] [] noFz) (orT_sound ⟨name_Parts_ok, ⟨name_Is_ok, trivial⟩⟩) (allLp_of [] (by kernel_rfl) trivial rfl) ?_
  intro z; kernel_rfl

def topo_Key_T (x0 : Str) : Tree Str :=
  .bnd (name_Path_T [([110, 111, 100, 101] : Str), x0]) fun y1 =>
  .ret y1

def topo_Key_g : Sig := ⟨13, (.cons (.val false .str) .nil), .vals (.val false .str), fun z => topo_Key_T z.1, ([] : Str)⟩

theorem topo_Key_ok : topo_Key_g.ok Tryd.prog := by
  refine Sig.lift mix tabOk nms _ Tryd.func13 (c := (bodyOf Tryd.f13)) (by kernel_rfl) (o := orT [name_Path_g] [] noFz) (orT_sound ⟨name_Path_ok, trivial⟩) (allLp_of [] (by kernel_rfl) trivial rfl) ?_
  intro z; kernel_rfl

def slices_Clone_Entry_T (x0 : List Entry) : Tree (List Entry) :=
  .ite (Nat.beq x0.length 0) (
    .both (
      .ret []) (
      ask (decide (x0.length * 56 ≤ roomNat)) <|
      .ret x0)) (
    ask (decide (x0.length * 56 ≤ roomNat)) <|
    .ret x0)

def slices_Clone_Entry_g : Sig := ⟨44, (.cons (.val false (.list tEntry)) .nil), .fresh 46 tEntry, fun z => slices_Clone_Entry_T z.1, ([] : List Entry)⟩

theorem slices_Clone_Entry_ok : slices_Clone_Entry_g.ok Tryd.prog := by
  refine Sig.lift mix tabOk nms _ Tryd.func44 (c := (bodyOf Tryd.f44)) (by kernel_rfl) (o := orT [] [] noFz) (orT_sound trivial) (allLp_of [] (by kernel_rfl) trivial rfl) ?_
  intro z; kernel_rfl

def slices_Clone_Entry_gv : Sig := ⟨44, (.cons (.val false (.list tEntry)) .nil), .vals (.val false (.list tEntry)), fun z => slices_Clone_Entry_T z.1, ([] : List Entry)⟩

theorem slices_Clone_Entry_okv : slices_Clone_Entry_gv.ok Tryd.prog := fun x y h => acalls_val (slices_Clone_Entry_ok x y h)

def stringslite_HasPrefix_T (x0 : Str) (x1 : Str) : Tree Bool :=
  ask ((!(decide ((x1.length : Int) ≤ (x0.length : Int)))) || inbe (x1.length : Int) x0.length) <|
  .ret ((decide ((x1.length : Int) ≤ (x0.length : Int))) && ((subS x0 0 (x1.length : Int).toNat) == x1))

def stringslite_HasPrefix_g : Sig := ⟨54, (.cons (.val false .str) (.cons (.val false .str) .nil)), .vals (.val false .bool), fun z => stringslite_HasPrefix_T z.1 z.2.1, false⟩

theorem stringslite_HasPrefix_ok : stringslite_HasPrefix_g.ok Tryd.prog := by
  refine Sig.lift mix tabOk nms _ Tryd.func54 (c := (bodyOf Tryd.f54)) (by kernel_rfl) (o := orT [] [] noFz) (orT_sound trivial) (allLp_of [] (by kernel_rfl) trivial rfl) ?_
  intro z; kernel_rfl

def strings_HasPrefix_T (x0 : Str) (x1 : Str) : Tree Bool :=
  .bnd (stringslite_HasPrefix_T x0 x1) fun y1 =>
  .ret y1

def strings_HasPrefix_g : Sig := ⟨46, (.cons (.val false .str) (.cons (.val false .str) .nil)), .vals (.val false .bool), fun z => strings_HasPrefix_T z.1 z.2.1, false⟩

theorem strings_HasPrefix_ok : strings_HasPrefix_g.ok Tryd.prog := by
  refine Sig.lift mix tabOk nms _ Tryd.func46 (c := (bodyOf Tryd.f46)) (by kernel_rfl) (o := orT [stringslite_HasPrefix_g] [] noFz) (orT_sound ⟨stringslite_HasPrefix_ok, trivial⟩) (allLp_of [] (by kernel_rfl) trivial rfl) ?_
  intro z; kernel_rfl

def registry_Under_1_T (x0 : Entry) (x1 : Str) : Tree Bool :=
  ask (decide (x1.length + ([47] : Str).length ≤ 9223372036854775807)) <|
  .bnd (strings_HasPrefix_T x0.1 (x1 ++ ([47] : Str))) fun y1 =>
  .ret (!y1)

def registry_Under_1_g : Sig := ⟨45, (.cons (.val true tEntry) (.cons (.ptr .str) .nil)), .vals (.val false .bool), fun z => registry_Under_1_T z.1 z.2.1, false⟩

theorem registry_Under_1_ok : registry_Under_1_g.ok Tryd.prog := by
  refine Sig.lift mix tabOk nms _ Tryd.func45 (c := (bodyOf Tryd.f45)) (by kernel_rfl) (o := orT [strings_HasPrefix_g] [] noFz) (orT_sound ⟨strings_HasPrefix_ok, trivial⟩) (allLp_of [] (by kernel_rfl) trivial rfl) ?_
  intro z; kernel_rfl

def slices_IndexFunc_Entry_registry_Under_1_L2_step (s_ : List Entry) (f : Str) (t : Int) (t2 : Int) : Tree (Int ⊕ (Int ⊕ Unit)) :=
  .ite (decide (t2 < t)) (
    ask (inb t2 s_.length) <|
    .bnd (registry_Under_1_T (s_.getD t2.toNat (dfl tEntry : Entry)) f) fun y1 =>
    .ite y1 (
      .ret (.inr (.inl t2))) (
      .ret (.inl (w64 (t2 + 1))))) (
    .ret (.inr (.inr ())))

def slices_IndexFunc_Entry_registry_Under_1_L2 : Lp := ⟨2, [], [], (.cons (.val false (.list tEntry)) (.cons (.fn 45 .nil (.cons (.ptr .str) .nil)) (ca (ca4 (.cons (.val false (.int .i64)) (.cons (.val false (.int .i64)) (ca2 (ca8 .nil)))))))), .nil, 0, .more 0 [] (ca4 (.cons (.val false (.int .i64)) (ca2 (ca4 (ca8 .nil))))) .nil (.one 1 [] (ca (ca2 (ca16 .nil))) .nil), fun z => .bnd (.loop (fun v => slices_IndexFunc_Entry_registry_Under_1_L2_step z.1.1 z.1.2.1.2.1 z.1.2.2.2.2.2.2.2.1 v) z.1.2.2.2.2.2.2.2.2.1) fun r => .sum r (fun a0 => .ret (.inl ((cu4 (a0, (cu2 (cu4 (cu8 ()))))), ()))) (fun b0 => .ret (.inr ((cu (cu2 (cu16 ()))), ())))⟩

theorem slices_IndexFunc_Entry_registry_Under_1_L2_ok : slices_IndexFunc_Entry_registry_Under_1_L2.ok Tryd.prog (nthC (loopsOf (bodyOf Tryd.f53)) 0) := by
  refine Lp.lift (π := ((List Entry) × Str × Int)) (V := Int) (ρ := (Int ⊕ Unit)) mix tabOk slices_IndexFunc_Entry_registry_Under_1_L2 (o := orT [registry_Under_1_g] [] noFz) (orT_sound ⟨registry_Under_1_ok, trivial⟩) (allLp_of [] (by kernel_rfl) trivial rfl) (fun x v => ((x.1, (((), (x.2.1, ())), (cu (cu4 (x.2.2, (v, (cu2 (cu8 ())))))))), ())) (fun x r => match r with | .inl a0 => .inl ((cu4 (a0, (cu2 (cu4 (cu8 ()))))), ()) | .inr b0 => (.inr ((cu (cu2 (cu16 ()))), ()))) (fun x v => slices_IndexFunc_Entry_registry_Under_1_L2_step x.1 x.2.1 x.2.2 v) (fun x r => .sum r (fun a0 => .ret (.inl ((cu4 (a0, (cu2 (cu4 (cu8 ()))))), ()))) (fun b0 => .ret (.inr ((cu (cu2 (cu16 ()))), ())))) (fun z => (z.1.1, z.1.2.1.2.1, z.1.2.2.2.2.2.2.2.1)) (fun z => z.1.2.2.2.2.2.2.2.2.1) (fun _ => rfl) (fun _ => rfl) (fun x r Q h => match r, h with | .inl _, h => h | .inr b0, h => (h)) ?_
  intro x v; kernel_rfl

def slices_IndexFunc_Entry_registry_Under_1_T (x0 : List Entry) (x1 : Str) : Tree Int :=
  .bnd (.loop (fun v => slices_IndexFunc_Entry_registry_Under_1_L2_step x0 x1 (x0.length : Int) v) 0) fun r1 =>
  .sum r1 (fun r2 =>
    .ret r2) (fun r3 =>
    .ret (-1))

def slices_IndexFunc_Entry_registry_Under_1_g : Sig := ⟨53, (.cons (.val false (.list tEntry)) (.cons (.fn 45 .nil (.cons (.ptr .str) .nil)) .nil)), .vals (.val false (.int .i64)), fun z => slices_IndexFunc_Entry_registry_Under_1_T z.1 z.2.1.2.1, (0 : Int)⟩

theorem slices_IndexFunc_Entry_registry_Under_1_ok : slices_IndexFunc_Entry_registry_Under_1_g.ok Tryd.prog := by
  refine Sig.lift mix tabOk nms _ Tryd.func53 (c := (bodyOf Tryd.f53)) (by kernel_rfl) (o := orT [registry_Under_1_g] [slices_IndexFunc_Entry_registry_Under_1_L2] noFz) (orT_sound ⟨registry_Under_1_ok, trivial⟩) (allLp_of [nthC (loopsOf (bodyOf Tryd.f53)) 0] (by kernel_rfl) ⟨slices_IndexFunc_Entry_registry_Under_1_L2_ok, trivial⟩ (by kernel_rfl)) ?_
  intro z; kernel_rfl

def slices_DeleteFunc_Entry_registry_Under_1_L5_step (c : Str) (i : Int) (j : Int) (s_ : List Entry) : Tree ((Int × Int × (List Entry)) ⊕ (Int × (List Entry))) :=
  .ite (decide (j < (s_.length : Int))) (
    ask (inb j s_.length) <|
    .bnd (registry_Under_1_T (s_.getD j.toNat (dfl tEntry : Entry)) c) fun y1 =>
    .ite (!y1) (
      ask (inb i s_.length) <|
      .ret (.inl ((w64 (i + 1)), (w64 (j + 1)), (s_.set i.toNat (s_.getD j.toNat (dfl tEntry : Entry)))))) (
      .ret (.inl (i, (w64 (j + 1)), s_)))) (
    .ret (.inr (i, s_)))

def slices_DeleteFunc_Entry_registry_Under_1_L5 : Lp := ⟨5, [], [], (.cons (.own 0) (.cons (.fn 45 .nil (.cons (.ref 1 0) .nil)) (ca (ca2 (.cons (.val false (.int .i64)) (.cons (.val false (.int .i64)) (ca (ca2 (ca32 .nil))))))))), (.rows 46 tEntry (.cells 9 (.cons (.val false .str) .nil) .nil)), 2, .one 1 [] (.cons (.own 0) (ca4 (.cons (.val false (.int .i64)) (ca4 (ca32 .nil))))) (.rows 46 tEntry (.cells 9 (.cons (.val false .str) .nil) .nil)), fun z => .bnd (.loop (fun v => slices_DeleteFunc_Entry_registry_Under_1_L5_step z.2.2.1.1 v.1 v.2.1 v.2.2) (z.1.2.2.2.2.2.1, z.1.2.2.2.2.2.2.1, z.2.1)) fun r => .ret (((), (cu4 (r.1, (cu4 (cu32 ()))))), (r.2, ((z.2.2.1.1, ()), ())))⟩

theorem slices_DeleteFunc_Entry_registry_Under_1_L5_ok : slices_DeleteFunc_Entry_registry_Under_1_L5.ok Tryd.prog (nthC (loopsOf (bodyOf Tryd.f43)) 0) := by
  refine Lp.lift (π := Str) (V := (Int × Int × (List Entry))) (ρ := (Int × (List Entry))) mix tabOk slices_DeleteFunc_Entry_registry_Under_1_L5 (o := orT [slices_IndexFunc_Entry_registry_Under_1_g, registry_Under_1_g] [] noFz) (orT_sound ⟨slices_IndexFunc_Entry_registry_Under_1_ok, ⟨registry_Under_1_ok, trivial⟩⟩) (allLp_of [] (by kernel_rfl) trivial rfl) (fun x v => (((), (((), ((), ())), (cu (cu2 (v.1, (v.2.1, (cu (cu2 (cu32 ()))))))))), (v.2.2, ((x, ()), ())))) (fun x r => (((), (cu4 (r.1, (cu4 (cu32 ()))))), (r.2, ((x, ()), ())))) (fun x v => slices_DeleteFunc_Entry_registry_Under_1_L5_step x v.1 v.2.1 v.2.2) (fun x r => .ret (((), (cu4 (r.1, (cu4 (cu32 ()))))), (r.2, ((x, ()), ())))) (fun z => z.2.2.1.1) (fun z => (z.1.2.2.2.2.2.1, z.1.2.2.2.2.2.2.1, z.2.1)) (fun _ => rfl) (fun _ => rfl) (fun _ _ _ h => h) ?_
  intro x v; kernel_rfl

def slices_DeleteFunc_Entry_registry_Under_1_T (x0 : List Entry) (x1 : Str) : Tree (List Entry × ((Str × Unit) × Unit)) :=
  .bnd (slices_IndexFunc_Entry_registry_Under_1_T x0 x1) fun y1 =>
  .ite (decide (y1 = (-1))) (
    .ret (x0, ((x1, ()), ()))) (
    .bnd (.loop (fun v => slices_DeleteFunc_Entry_registry_Under_1_L5_step x1 v.1 v.2.1 v.2.2) (y1, (w64 (y1 + 1)), x0)) fun r2 =>
    ask (inbe r2.1 r2.2.length) <|
    ask (inbe r2.1 (clearL r2.1.toNat (r2.2.length - r2.1.toNat) ([], (0, ([], []))) r2.2).length) <|
    .ret (((clearL r2.1.toNat (r2.2.length - r2.1.toNat) ([], (0, ([], []))) r2.2).take r2.1.toNat), ((x1, ()), ())))

def slices_DeleteFunc_Entry_registry_Under_1_g : MSig := ⟨43, (.cons (.own 0) (.cons (.fn 45 .nil (.cons (.ref 1 0) .nil)) .nil)), (.rows 46 tEntry (.cells 9 (.cons (.val false .str) .nil) .nil)), [.frz 0], (.val false (.list tEntry)), (.dead (.cells 9 (.cons (.val false .str) .nil) .nil)), some 0, fun z => slices_DeleteFunc_Entry_registry_Under_1_T z.2.1 z.2.2.1.1⟩

theorem slices_DeleteFunc_Entry_registry_Under_1_ok : slices_DeleteFunc_Entry_registry_Under_1_g.ok Tryd.prog := by
  refine MSig.lift mix tabOk nms _ Tryd.func43 (c := (bodyOf Tryd.f43)) (by kernel_rfl) (o := orT [slices_IndexFunc_Entry_registry_Under_1_g, registry_Under_1_g] [slices_DeleteFunc_Entry_registry_Under_1_L5] noFz) (orT_sound ⟨slices_IndexFunc_Entry_registry_Under_1_ok, ⟨registry_Under_1_ok, trivial⟩⟩) (allLp_of [nthC (loopsOf (bodyOf Tryd.f43)) 0] (by kernel_rfl) ⟨slices_DeleteFunc_Entry_registry_Under_1_L5_ok, trivial⟩ (by kernel_rfl)) (fun _ => rfl) ?_
  intro z; kernel_rfl

def registry_Under_T (x0 : List Entry) (x1 : Str) : Tree (List Entry) :=
  .bnd (slices_Clone_Entry_T x0) fun y1 =>
  .bnd (slices_DeleteFunc_Entry_registry_Under_1_T y1 x1) fun y2 =>
  .ret y2.1

def registry_Under_g : Sig := ⟨30, (.cons (.val false (.list tEntry)) (.cons (.val false .str) .nil)), .vals (.val false (.list tEntry)), fun z => registry_Under_T z.1 z.2.1, ([] : List Entry)⟩

theorem registry_Under_ok : registry_Under_g.ok Tryd.prog := by
  refine Sig.lift mix tabOk nms _ Tryd.func30 (c := (bodyOf Tryd.f30)) (by kernel_rfl) (o := orM [slices_Clone_Entry_g] [slices_DeleteFunc_Entry_registry_Under_1_g] [] noFz) (orM_sound ⟨slices_Clone_Entry_ok, trivial⟩ ⟨slices_DeleteFunc_Entry_registry_Under_1_ok, trivial⟩) (allLp_ofM [] (by kernel_rfl) trivial rfl) ?_
  intro z; kernel_rfl

def strings_TrimPrefix_T (x0 : Str) (x1 : Str) : Tree Str :=
  .ret (trimS x0 x1)

def strings_TrimPrefix_g : Sig := ⟨31, (.cons (.val false .str) (.cons (.val false .str) .nil)), .vals (.val false .str), fun z => strings_TrimPrefix_T z.1 z.2.1, ([] : Str)⟩

theorem strings_TrimPrefix_ok : strings_TrimPrefix_g.ok Tryd.prog :=
  strings_TrimPrefix_sig (enters_of Tryd.func31 (by kernel_rfl) rfl) (fun s p w => Tryd.strings_TrimPrefix s p w)

def topo_Members_fz : Nat → List Pre
  | 5 => [.frz 1]
  | _ => []

def topo_Members_L3_step (t : List Entry) (t2 : Int) (t3 : Int) (out : List Member) : Tree ((Int × (List Member)) ⊕ (List Member)) :=
  .ite (decide (t3 < t2)) (
    ask (inb t3 t.length) <|
    .both (
      .bnd (strings_TrimPrefix_T (t.getD t3.toNat (dfl tEntry : Entry)).1 ([110, 111, 100, 101, 47] : Str)) fun y3 =>
      .both (
        .bnd (topo_Member_T y3 (t.getD t3.toNat (dfl tEntry : Entry)).2.2.2) fun y5 =>
        .both (
          .both (
            .ite y5.2.1 (
              ask (decide ((out ++ [y5.1]).length * 56 ≤ roomNat)) <|
              .ret (.inl ((w64 (t3 + 1)), (out ++ [y5.1])))) (
              .ret (.inl ((w64 (t3 + 1)), out)))) (
            .both (
              .ite y5.2.1 (
                ask (decide ((out ++ [y5.1]).length * 56 ≤ roomNat)) <|
                .ret (.inl ((w64 (t3 + 1)), (out ++ [y5.1])))) (
                .ret (.inl ((w64 (t3 + 1)), out)))) (
              .ite y5.2.1 (
                ask (decide ((out ++ [y5.1]).length * 56 ≤ roomNat)) <|
                .ret (.inl ((w64 (t3 + 1)), (out ++ [y5.1])))) (
                .ret (.inl ((w64 (t3 + 1)), out)))))) (
          .both (
            .both (
              .ite y5.2.1 (
                ask (decide ((out ++ [y5.1]).length * 56 ≤ roomNat)) <|
                .ret (.inl ((w64 (t3 + 1)), (out ++ [y5.1])))) (
                .ret (.inl ((w64 (t3 + 1)), out)))) (
              .ite y5.2.1 (
                ask (decide ((out ++ [y5.1]).length * 56 ≤ roomNat)) <|
                .ret (.inl ((w64 (t3 + 1)), (out ++ [y5.1])))) (
                .ret (.inl ((w64 (t3 + 1)), out))))) (
            .both (
              .both (
                .ite y5.2.1 (
                  ask (decide ((out ++ [y5.1]).length * 56 ≤ roomNat)) <|
                  .ret (.inl ((w64 (t3 + 1)), (out ++ [y5.1])))) (
                  .ret (.inl ((w64 (t3 + 1)), out)))) (
                .ite y5.2.1 (
                  ask (decide ((out ++ [y5.1]).length * 56 ≤ roomNat)) <|
                  .ret (.inl ((w64 (t3 + 1)), (out ++ [y5.1])))) (
                  .ret (.inl ((w64 (t3 + 1)), out))))) (
              .ite y5.2.1 (
                ask (decide ((out ++ [y5.1]).length * 56 ≤ roomNat)) <|
                .ret (.inl ((w64 (t3 + 1)), (out ++ [y5.1])))) (
                .ret (.inl ((w64 (t3 + 1)), out))))))) (
        .bnd (topo_Member_T y3 (t.getD t3.toNat (dfl tEntry : Entry)).2.2.2) fun y4 =>
        .both (
          .both (
            .ite y4.2.1 (
              ask (decide ((out ++ [y4.1]).length * 56 ≤ roomNat)) <|
              .ret (.inl ((w64 (t3 + 1)), (out ++ [y4.1])))) (
              .ret (.inl ((w64 (t3 + 1)), out)))) (
            .ite y4.2.1 (
              ask (decide ((out ++ [y4.1]).length * 56 ≤ roomNat)) <|
              .ret (.inl ((w64 (t3 + 1)), (out ++ [y4.1])))) (
              .ret (.inl ((w64 (t3 + 1)), out))))) (
          .ite y4.2.1 (
            ask (decide ((out ++ [y4.1]).length * 56 ≤ roomNat)) <|
            .ret (.inl ((w64 (t3 + 1)), (out ++ [y4.1])))) (
            .ret (.inl ((w64 (t3 + 1)), out)))))) (
      .bnd (strings_TrimPrefix_T (t.getD t3.toNat (dfl tEntry : Entry)).1 ([110, 111, 100, 101, 47] : Str)) fun y1 =>
      .bnd (topo_Member_T y1 (t.getD t3.toNat (dfl tEntry : Entry)).2.2.2) fun y2 =>
      .both (
        .both (
          .ite y2.2.1 (
            ask (decide ((out ++ [y2.1]).length * 56 ≤ roomNat)) <|
            .ret (.inl ((w64 (t3 + 1)), (out ++ [y2.1])))) (
            .ret (.inl ((w64 (t3 + 1)), out)))) (
          .ite y2.2.1 (
            ask (decide ((out ++ [y2.1]).length * 56 ≤ roomNat)) <|
            .ret (.inl ((w64 (t3 + 1)), (out ++ [y2.1])))) (
            .ret (.inl ((w64 (t3 + 1)), out))))) (
        .ite y2.2.1 (
          ask (decide ((out ++ [y2.1]).length * 56 ≤ roomNat)) <|
          .ret (.inl ((w64 (t3 + 1)), (out ++ [y2.1])))) (
          .ret (.inl ((w64 (t3 + 1)), out)))))) (
    .ret (.inr out))

def topo_Members_L3 : Lp := ⟨3, [.own 3 26 tMember], [], (ca (ca2 (.cons (.own 0) (ca (ca4 (.cons (.val false (.list tEntry)) (.cons (.val false (.int .i64)) (.cons (.val false (.int .i64)) (ca4 (ca16 .nil)))))))))), (.rows 26 tMember .nil), 0, .one 1 [] (ca (ca2 (.cons (.own 0) (ca4 (ca8 (ca16 .nil)))))) (.rows 26 tMember .nil), fun z => .bnd (.loop (fun v => topo_Members_L3_step z.1.2.2.2.2.2.2.2.2.2.1 z.1.2.2.2.2.2.2.2.2.2.2.1 v.1 v.2) (z.1.2.2.2.2.2.2.2.2.2.2.2.1, z.2.1)) fun r => .ret ((cu (cu2 ((), (cu4 (cu8 (cu16 ())))))), (r, ()))⟩

theorem topo_Members_L3_ok : topo_Members_L3.ok Tryd.prog (nthC (loopsOf (bodyOf Tryd.f11)) 0) := by
  refine Lp.lift (π := ((List Entry) × Int)) (V := (Int × (List Member))) (ρ := List Member) mix tabOk topo_Members_L3 (o := orT [registry_Under_g, strings_TrimPrefix_g, topo_Member_g] [] topo_Members_fz) (orT_sound ⟨registry_Under_ok, ⟨strings_TrimPrefix_ok, ⟨topo_Member_ok, trivial⟩⟩⟩) (allLp_of [] (by kernel_rfl) trivial rfl) (fun x v => ((cu (cu2 ((), (cu (cu4 (x.1, (x.2, (v.1, (cu4 (cu16 ())))))))))), (v.2, ()))) (fun x r => ((cu (cu2 ((), (cu4 (cu8 (cu16 ())))))), (r, ()))) (fun x v => topo_Members_L3_step x.1 x.2 v.1 v.2) (fun x r => .ret ((cu (cu2 ((), (cu4 (cu8 (cu16 ())))))), (r, ()))) (fun z => (z.1.2.2.2.2.2.2.2.2.2.1, z.1.2.2.2.2.2.2.2.2.2.2.1)) (fun z => (z.1.2.2.2.2.2.2.2.2.2.2.2.1, z.2.1)) (fun _ => rfl) (fun _ => rfl) (fun _ _ _ h => h) ?_
  intro x v; kernel_rfl

def topo_Members_T (x0 : List Entry) : Tree (List Member) :=
  .bnd (registry_Under_T x0 ([110, 111, 100, 101] : Str)) fun y1 =>
  .bnd (.loop (fun v => topo_Members_L3_step y1 (y1.length : Int) v.1 v.2) (0, ([] : List Member))) fun r2 =>
  .ret r2

def topo_Members_g : Sig := ⟨11, (.cons (.val false (.list tEntry)) .nil), .fresh 26 tMember, fun z => topo_Members_T z.1, ([] : List Member)⟩

theorem topo_Members_ok : topo_Members_g.ok Tryd.prog := by
  refine Sig.lift mix tabOk nms _ Tryd.func11 (c := (bodyOf Tryd.f11)) (by kernel_rfl) (o := orT [registry_Under_g, strings_TrimPrefix_g, topo_Member_g] [topo_Members_L3] topo_Members_fz) (orT_sound ⟨registry_Under_ok, ⟨strings_TrimPrefix_ok, ⟨topo_Member_ok, trivial⟩⟩⟩) (allLp_of [nthC (loopsOf (bodyOf Tryd.f11)) 0] (by kernel_rfl) ⟨topo_Members_L3_ok, trivial⟩ (by kernel_rfl)) ?_
  intro z; kernel_rfl

def topo_Members_gv : Sig := ⟨11, (.cons (.val false (.list tEntry)) .nil), .vals (.val false (.list tMember)), fun z => topo_Members_T z.1, ([] : List Member)⟩

theorem topo_Members_okv : topo_Members_gv.ok Tryd.prog := fun x y h => acalls_val (topo_Members_ok x y h)

def r13_Same_L4_step (a : List Member) (b : List Member) (i : Int) : Tree (Int ⊕ (Bool ⊕ Unit)) :=
  .ite ((decide (i < (a.length : Int))) && (decide (i < (b.length : Int)))) (
    ask (inb i a.length) <|
    ask (inb i b.length) <|
    .ite (!(((a.getD i.toNat (dfl tMember : Member)).1 == (b.getD i.toNat (dfl tMember : Member)).1) && (((a.getD i.toNat (dfl tMember : Member)).2.1 == (b.getD i.toNat (dfl tMember : Member)).2.1) && (((a.getD i.toNat (dfl tMember : Member)).2.2.1 == (b.getD i.toNat (dfl tMember : Member)).2.2.1) && (((a.getD i.toNat (dfl tMember : Member)).2.2.2 == (b.getD i.toNat (dfl tMember : Member)).2.2.2) && true))))) (
      .ret (.inr (.inl false))) (
      .ret (.inl (w64 (i + 1))))) (
    .ret (.inr (.inr ())))

def r13_Same_L4 : Lp := ⟨4, [], [], (.cons (.val false (.list tMember)) (.cons (.val false (.list tMember)) (ca (ca2 (.cons (.val false (.int .i64)) (ca2 (ca8 (ca16 .nil)))))))), .nil, 0, .more 0 [] (ca4 (.cons (.val false .bool) (ca (ca2 (ca8 (ca16 .nil)))))) .nil (.one 1 [] (ca32 .nil) .nil), fun z => .bnd (.loop (fun v => r13_Same_L4_step z.1.1 z.1.2.1 v) z.1.2.2.2.2.2.1) fun r => .sum r (fun a0 => .ret (.inl ((cu4 (a0, (cu (cu2 (cu8 (cu16 ())))))), ()))) (fun b0 => .ret (.inr ((cu32 ()), ())))⟩

theorem r13_Same_L4_ok : r13_Same_L4.ok Tryd.prog (nthC (loopsOf (bodyOf Tryd.f10)) 0) := by
  refine Lp.lift (π := ((List Member) × (List Member))) (V := Int) (ρ := (Bool ⊕ Unit)) mix tabOk r13_Same_L4 (o := orT [] [] noFz) (orT_sound trivial) (allLp_of [] (by kernel_rfl) trivial rfl) (fun x v => ((x.1, (x.2, (cu (cu2 (v, (cu2 (cu8 (cu16 ())))))))), ())) (fun x r => match r with | .inl a0 => .inl ((cu4 (a0, (cu (cu2 (cu8 (cu16 ())))))), ()) | .inr b0 => (.inr ((cu32 ()), ()))) (fun x v => r13_Same_L4_step x.1 x.2 v) (fun x r => .sum r (fun a0 => .ret (.inl ((cu4 (a0, (cu (cu2 (cu8 (cu16 ())))))), ()))) (fun b0 => .ret (.inr ((cu32 ()), ())))) (fun z => (z.1.1, z.1.2.1)) (fun z => z.1.2.2.2.2.2.1) (fun _ => rfl) (fun _ => rfl) (fun x r Q h => match r, h with | .inl _, h => h | .inr b0, h => (h)) ?_
  intro x v; kernel_rfl

def r13_Same_T (x0 : List Member) (x1 : List Member) : Tree Bool :=
  .ite (!decide ((x0.length : Int) = (x1.length : Int))) (
    .ret false) (
    .bnd (.loop (fun v => r13_Same_L4_step x0 x1 v) 0) fun r1 =>
    .sum r1 (fun r2 =>
      .ret r2) (fun r3 =>
      .ret true))

def r13_Same_g : Sig := ⟨10, (.cons (.val false (.list tMember)) (.cons (.val false (.list tMember)) .nil)), .vals (.val false .bool), fun z => r13_Same_T z.1 z.2.1, false⟩

theorem r13_Same_ok : r13_Same_g.ok Tryd.prog := by
  refine Sig.lift mix tabOk nms _ Tryd.func10 (c := (bodyOf Tryd.f10)) (by kernel_rfl) (o := orT [] [r13_Same_L4] noFz) (orT_sound trivial) (allLp_of [nthC (loopsOf (bodyOf Tryd.f10)) 0] (by kernel_rfl) ⟨r13_Same_L4_ok, trivial⟩ (by kernel_rfl)) ?_
  intro z; kernel_rfl

def slices_Clone_Member_T (x0 : List Member) : Tree (List Member) :=
  .ite (Nat.beq x0.length 0) (
    .both (
      .ret []) (
      ask (decide (x0.length * 56 ≤ roomNat)) <|
      .ret x0)) (
    ask (decide (x0.length * 56 ≤ roomNat)) <|
    .ret x0)

def slices_Clone_Member_g : Sig := ⟨35, (.cons (.val false (.list tMember)) .nil), .fresh 26 tMember, fun z => slices_Clone_Member_T z.1, ([] : List Member)⟩

theorem slices_Clone_Member_ok : slices_Clone_Member_g.ok Tryd.prog := by
  refine Sig.lift mix tabOk nms _ Tryd.func35 (c := (bodyOf Tryd.f35)) (by kernel_rfl) (o := orT [] [] noFz) (orT_sound trivial) (allLp_of [] (by kernel_rfl) trivial rfl) ?_
  intro z; kernel_rfl

def slices_Clone_Member_gv : Sig := ⟨35, (.cons (.val false (.list tMember)) .nil), .vals (.val false (.list tMember)), fun z => slices_Clone_Member_T z.1, ([] : List Member)⟩

theorem slices_Clone_Member_okv : slices_Clone_Member_gv.ok Tryd.prog := fun x y h => acalls_val (slices_Clone_Member_ok x y h)

def topo_Up_1_T (x0 : Member) : Tree Bool :=
  .ret (!x0.2.2.2)

def topo_Up_1_g : Sig := ⟨36, (.cons (.val true tMember) .nil), .vals (.val false .bool), fun z => topo_Up_1_T z.1, false⟩

theorem topo_Up_1_ok : topo_Up_1_g.ok Tryd.prog := by
  refine Sig.lift mix tabOk nms _ Tryd.func36 (c := (bodyOf Tryd.f36)) (by kernel_rfl) (o := orT [] [] noFz) (orT_sound trivial) (allLp_of [] (by kernel_rfl) trivial rfl) ?_
  intro z; kernel_rfl

def slices_IndexFunc_Member_topo_Up_1_L2_step (s_ : List Member) (t : Int) (t2 : Int) : Tree (Int ⊕ (Int ⊕ Unit)) :=
  .ite (decide (t2 < t)) (
    ask (inb t2 s_.length) <|
    .bnd (topo_Up_1_T (s_.getD t2.toNat (dfl tMember : Member))) fun y1 =>
    .ite y1 (
      .ret (.inr (.inl t2))) (
      .ret (.inl (w64 (t2 + 1))))) (
    .ret (.inr (.inr ())))

def slices_IndexFunc_Member_topo_Up_1_L2 : Lp := ⟨2, [], [], (.cons (.val false (.list tMember)) (.cons (.fn 36 .nil .nil) (ca (ca4 (.cons (.val false (.int .i64)) (.cons (.val false (.int .i64)) (ca2 (ca8 .nil)))))))), .nil, 0, .more 0 [] (ca4 (.cons (.val false (.int .i64)) (ca2 (ca4 (ca8 .nil))))) .nil (.one 1 [] (ca (ca2 (ca16 .nil))) .nil), fun z => .bnd (.loop (fun v => slices_IndexFunc_Member_topo_Up_1_L2_step z.1.1 z.1.2.2.2.2.2.2.2.1 v) z.1.2.2.2.2.2.2.2.2.1) fun r => .sum r (fun a0 => .ret (.inl ((cu4 (a0, (cu2 (cu4 (cu8 ()))))), ()))) (fun b0 => .ret (.inr ((cu (cu2 (cu16 ()))), ())))⟩

theorem slices_IndexFunc_Member_topo_Up_1_L2_ok : slices_IndexFunc_Member_topo_Up_1_L2.ok Tryd.prog (nthC (loopsOf (bodyOf Tryd.f49)) 0) := by
  refine Lp.lift (π := ((List Member) × Int)) (V := Int) (ρ := (Int ⊕ Unit)) mix tabOk slices_IndexFunc_Member_topo_Up_1_L2 (o := orT [topo_Up_1_g] [] noFz) (orT_sound ⟨topo_Up_1_ok, trivial⟩) (allLp_of [] (by kernel_rfl) trivial rfl) (fun x v => ((x.1, (((), ()), (cu (cu4 (x.2, (v, (cu2 (cu8 ())))))))), ())) (fun x r => match r with | .inl a0 => .inl ((cu4 (a0, (cu2 (cu4 (cu8 ()))))), ()) | .inr b0 => (.inr ((cu (cu2 (cu16 ()))), ()))) (fun x v => slices_IndexFunc_Member_topo_Up_1_L2_step x.1 x.2 v) (fun x r => .sum r (fun a0 => .ret (.inl ((cu4 (a0, (cu2 (cu4 (cu8 ()))))), ()))) (fun b0 => .ret (.inr ((cu (cu2 (cu16 ()))), ())))) (fun z => (z.1.1, z.1.2.2.2.2.2.2.2.1)) (fun z => z.1.2.2.2.2.2.2.2.2.1) (fun _ => rfl) (fun _ => rfl) (fun x r Q h => match r, h with | .inl _, h => h | .inr b0, h => (h)) ?_
  intro x v; kernel_rfl

def slices_IndexFunc_Member_topo_Up_1_T (x0 : List Member) : Tree Int :=
  .bnd (.loop (fun v => slices_IndexFunc_Member_topo_Up_1_L2_step x0 (x0.length : Int) v) 0) fun r1 =>
  .sum r1 (fun r2 =>
    .ret r2) (fun r3 =>
    .ret (-1))

def slices_IndexFunc_Member_topo_Up_1_g : Sig := ⟨49, (.cons (.val false (.list tMember)) (.cons (.fn 36 .nil .nil) .nil)), .vals (.val false (.int .i64)), fun z => slices_IndexFunc_Member_topo_Up_1_T z.1, (0 : Int)⟩

theorem slices_IndexFunc_Member_topo_Up_1_ok : slices_IndexFunc_Member_topo_Up_1_g.ok Tryd.prog := by
  refine Sig.lift mix tabOk nms _ Tryd.func49 (c := (bodyOf Tryd.f49)) (by kernel_rfl) (o := orT [topo_Up_1_g] [slices_IndexFunc_Member_topo_Up_1_L2] noFz) (orT_sound ⟨topo_Up_1_ok, trivial⟩) (allLp_of [nthC (loopsOf (bodyOf Tryd.f49)) 0] (by kernel_rfl) ⟨slices_IndexFunc_Member_topo_Up_1_L2_ok, trivial⟩ (by kernel_rfl)) ?_
  intro z; kernel_rfl

def slices_DeleteFunc_Member_topo_Up_1_L5_step (i : Int) (j : Int) (s_ : List Member) : Tree ((Int × Int × (List Member)) ⊕ (Int × (List Member))) :=
  .ite (decide (j < (s_.length : Int))) (
    ask (inb j s_.length) <|
    .bnd (topo_Up_1_T (s_.getD j.toNat (dfl tMember : Member))) fun y1 =>
    .ite (!y1) (
      ask (inb i s_.length) <|
      .ret (.inl ((w64 (i + 1)), (w64 (j + 1)), (s_.set i.toNat (s_.getD j.toNat (dfl tMember : Member)))))) (
      .ret (.inl (i, (w64 (j + 1)), s_)))) (
    .ret (.inr (i, s_)))

def slices_DeleteFunc_Member_topo_Up_1_L5 : Lp := ⟨5, [], [], (.cons (.own 0) (.cons (.fn 36 .nil .nil) (ca (ca2 (.cons (.val false (.int .i64)) (.cons (.val false (.int .i64)) (ca (ca2 (ca32 .nil))))))))), (.rows 26 tMember .nil), 1, .one 1 [] (.cons (.own 0) (ca4 (.cons (.val false (.int .i64)) (ca4 (ca32 .nil))))) (.rows 26 tMember .nil), fun z => .bnd (.loop (fun v => slices_DeleteFunc_Member_topo_Up_1_L5_step v.1 v.2.1 v.2.2) (z.1.2.2.2.2.2.1, z.1.2.2.2.2.2.2.1, z.2.1)) fun r => .ret (((), (cu4 (r.1, (cu4 (cu32 ()))))), (r.2, ()))⟩

theorem slices_DeleteFunc_Member_topo_Up_1_L5_ok : slices_DeleteFunc_Member_topo_Up_1_L5.ok Tryd.prog (nthC (loopsOf (bodyOf Tryd.f34)) 0) := by
  refine Lp.lift (π := Unit) (V := (Int × Int × (List Member))) (ρ := (Int × (List Member))) mix tabOk slices_DeleteFunc_Member_topo_Up_1_L5 (o := orT [slices_IndexFunc_Member_topo_Up_1_g, topo_Up_1_g] [] noFz) (orT_sound ⟨slices_IndexFunc_Member_topo_Up_1_ok, ⟨topo_Up_1_ok, trivial⟩⟩) (allLp_of [] (by kernel_rfl) trivial rfl) (fun x v => (((), (((), ()), (cu (cu2 (v.1, (v.2.1, (cu (cu2 (cu32 ()))))))))), (v.2.2, ()))) (fun x r => (((), (cu4 (r.1, (cu4 (cu32 ()))))), (r.2, ()))) (fun x v => slices_DeleteFunc_Member_topo_Up_1_L5_step v.1 v.2.1 v.2.2) (fun x r => .ret (((), (cu4 (r.1, (cu4 (cu32 ()))))), (r.2, ()))) (fun z => ()) (fun z => (z.1.2.2.2.2.2.1, z.1.2.2.2.2.2.2.1, z.2.1)) (fun _ => rfl) (fun _ => rfl) (fun _ _ _ h => h) ?_
  intro x v; kernel_rfl

def slices_DeleteFunc_Member_topo_Up_1_T (x0 : List Member) : Tree (List Member × Unit) :=
  .bnd (slices_IndexFunc_Member_topo_Up_1_T x0) fun y1 =>
  .ite (decide (y1 = (-1))) (
    .ret (x0, ())) (
    .bnd (.loop (fun v => slices_DeleteFunc_Member_topo_Up_1_L5_step v.1 v.2.1 v.2.2) (y1, (w64 (y1 + 1)), x0)) fun r2 =>
    ask (inbe r2.1 r2.2.length) <|
    ask (inbe r2.1 (clearL r2.1.toNat (r2.2.length - r2.1.toNat) ([], ([], ([], false))) r2.2).length) <|
    .ret (((clearL r2.1.toNat (r2.2.length - r2.1.toNat) ([], ([], ([], false))) r2.2).take r2.1.toNat), ()))

def slices_DeleteFunc_Member_topo_Up_1_g : MSig := ⟨34, (.cons (.own 0) (.cons (.fn 36 .nil .nil) .nil)), (.rows 26 tMember .nil), [.frz 0], (.val false (.list tMember)), (.dead .nil), some 0, fun z => slices_DeleteFunc_Member_topo_Up_1_T z.2.1⟩

theorem slices_DeleteFunc_Member_topo_Up_1_ok : slices_DeleteFunc_Member_topo_Up_1_g.ok Tryd.prog := by
  refine MSig.lift mix tabOk nms _ Tryd.func34 (c := (bodyOf Tryd.f34)) (by kernel_rfl) (o := orT [slices_IndexFunc_Member_topo_Up_1_g, topo_Up_1_g] [slices_DeleteFunc_Member_topo_Up_1_L5] noFz) (orT_sound ⟨slices_IndexFunc_Member_topo_Up_1_ok, ⟨topo_Up_1_ok, trivial⟩⟩) (allLp_of [nthC (loopsOf (bodyOf Tryd.f34)) 0] (by kernel_rfl) ⟨slices_DeleteFunc_Member_topo_Up_1_L5_ok, trivial⟩ (by kernel_rfl)) (fun _ => rfl) ?_
  intro z; kernel_rfl

def topo_Up_T (x0 : List Member) : Tree (List Member) :=
  .bnd (slices_Clone_Member_T x0) fun y1 =>
  .bnd (slices_DeleteFunc_Member_topo_Up_1_T y1) fun y2 =>
  .ret y2.1

def topo_Up_g : Sig := ⟨18, (.cons (.val false (.list tMember)) .nil), .vals (.val false (.list tMember)), fun z => topo_Up_T z.1, ([] : List Member)⟩

theorem topo_Up_ok : topo_Up_g.ok Tryd.prog := by
  refine Sig.lift mix tabOk nms _ Tryd.func18 (c := (bodyOf Tryd.f18)) (by kernel_rfl) (o := orM [slices_Clone_Member_g] [slices_DeleteFunc_Member_topo_Up_1_g] [] noFz) (orM_sound ⟨slices_Clone_Member_ok, trivial⟩ ⟨slices_DeleteFunc_Member_topo_Up_1_ok, trivial⟩) (allLp_ofM [] (by kernel_rfl) trivial rfl) ?_
  intro z; kernel_rfl

def topo_place_rack_T (x0 : Member) : Tree Str :=
  .ret x0.2.1

def topo_place_rack_g : Sig := ⟨38, (.cons (.val true tMember) .nil), .vals (.val false .str), fun z => topo_place_rack_T z.1, ([] : Str)⟩

theorem topo_place_rack_ok : topo_place_rack_g.ok Tryd.prog := by
  refine Sig.lift mix tabOk nms _ Tryd.func38 (c := (bodyOf Tryd.f38)) (by kernel_rfl) (o := orT [] [] noFz) (orT_sound trivial) (allLp_of [] (by kernel_rfl) trivial rfl) ?_
  intro z; kernel_rfl

def slices_Sort_string_T (x0 : List Str) : Tree (Unit × (List Str × Unit)) :=
  ask (decide (x0.length < 4611686018427387904)) <|
  .ret ((), (sortS x0, ()))

def slices_Sort_string_g : MSig := ⟨50, (.cons (.own 0) .nil), (.rows 9 .str .nil), [], .nil, (.rows 9 .str .nil), none, fun z => slices_Sort_string_T z.2.1⟩

theorem slices_Sort_string_ok : slices_Sort_string_g.ok Tryd.prog := by
  refine sort_scalls (P := Tryd.prog) (f := 50) (t := .str) (e := 9) rfl encStr sortS (fun l => (isortB_perm _ l).length_eq) (fun l x h => (isortB_perm _ l).mem_iff.1 h) (by intro w S v x h; cases h; rfl) (fun x => rfl) (fun b cap zs w h1 h2 h3 => ?_) (fun p cap w => Tryd.slices_Sort_string_none p cap w) (fun args w => enters_of Tryd.func50 (by kernel_rfl) rfl args w)
  rw [← mergeS]; exact Tryd.slices_Sort_string b 0 cap zs w h1 h2 h3

def slices_Compact_string_T (x0 : List Str) : Tree (Unit × (List Str × Unit)) :=
  .ret ((), (compL eqS x0, ()))

def slices_Compact_string_g : MSig := ⟨51, (.cons (.own 0) .nil), (.rows 9 .str .nil), [], .own 0, (.rows 9 .str .nil), some 0, fun z => slices_Compact_string_T z.2.1⟩

theorem slices_Compact_string_ok : slices_Compact_string_g.ok Tryd.prog := by
  refine compact_scalls (P := Tryd.prog) (f := 51) (t := .str) (e := 9) rfl encStr (compL eqS) ([] : Str) (fun l => (compL_sub _ l).1) (fun l x h => (compL_sub _ l).2 x h) (by intro w S v x h; cases h; rfl) (fun x => rfl) (fun b cap zs w h1 h2 h3 => ?_) (fun p cap w => Tryd.slices_Compact_string_empty p cap w) (fun args w => enters_of Tryd.func51 (by kernel_rfl) rfl args w)
  rw [← compact_eq eqS (fun a b => by unfold eqS; simp)]; exact Tryd.slices_Compact_string b 0 cap zs w h1 h2 h3

def topo_all_topo_place_rack_L3_step (t : List Member) (t2 : Int) (t3 : Int) (out : List Str) : Tree ((Int × (List Str)) ⊕ (List Str)) :=
  .ite (decide (t3 < t2)) (
    ask (inb t3 t.length) <|
    .bnd (topo_place_rack_T (t.getD t3.toNat (dfl tMember : Member))) fun y1 =>
    ask (decide ((out ++ [y1]).length * 16 ≤ roomNat)) <|
    .ret (.inl ((w64 (t3 + 1)), (out ++ [y1])))) (
    .ret (.inr out))

def topo_all_topo_place_rack_L3 : Lp := ⟨3, [.own 5 9 .str], [], (ca (.cons (.fn 38 .nil .nil) (ca (ca2 (.cons (.own 0) (ca2 (.cons (.val false (.list tMember)) (.cons (.val false (.int .i64)) (.cons (.val false (.int .i64)) (ca2 (ca4 (ca8 .nil)))))))))))), (.rows 9 .str .nil), 0, .one 1 [] (ca (ca4 (.cons (.own 0) (ca (ca2 (ca16 .nil)))))) (.rows 9 .str .nil), fun z => .bnd (.loop (fun v => topo_all_topo_place_rack_L3_step z.1.2.2.2.2.2.2.2.2.1 z.1.2.2.2.2.2.2.2.2.2.1 v.1 v.2) (z.1.2.2.2.2.2.2.2.2.2.2.1, z.2.1)) fun r => .ret ((cu (cu4 ((), (cu (cu2 (cu16 ())))))), (r, ()))⟩

theorem topo_all_topo_place_rack_L3_ok : topo_all_topo_place_rack_L3.ok Tryd.prog (nthC (loopsOf (bodyOf Tryd.f37)) 0) := by
  refine Lp.lift (π := ((List Member) × Int)) (V := (Int × (List Str))) (ρ := List Str) mix tabOk topo_all_topo_place_rack_L3 (o := orM [topo_place_rack_g] [slices_Sort_string_g, slices_Compact_string_g] [] noFz) (orM_sound ⟨topo_place_rack_ok, trivial⟩ ⟨slices_Sort_string_ok, ⟨slices_Compact_string_ok, trivial⟩⟩) (allLp_ofM [] (by kernel_rfl) trivial rfl) (fun x v => ((cu (((), ()), (cu (cu2 ((), (cu2 (x.1, (x.2, (v.1, (cu2 (cu4 (cu8 ())))))))))))), (v.2, ()))) (fun x r => ((cu (cu4 ((), (cu (cu2 (cu16 ())))))), (r, ()))) (fun x v => topo_all_topo_place_rack_L3_step x.1 x.2 v.1 v.2) (fun x r => .ret ((cu (cu4 ((), (cu (cu2 (cu16 ())))))), (r, ()))) (fun z => (z.1.2.2.2.2.2.2.2.2.1, z.1.2.2.2.2.2.2.2.2.2.1)) (fun z => (z.1.2.2.2.2.2.2.2.2.2.2.1, z.2.1)) (fun _ => rfl) (fun _ => rfl) (fun _ _ _ h => h) ?_
  intro x v; kernel_rfl

def topo_all_topo_place_rack_T (x0 : List Member) : Tree (List Str) :=
  .bnd (.loop (fun v => topo_all_topo_place_rack_L3_step x0 (x0.length : Int) v.1 v.2) (0, ([] : List Str))) fun r1 =>
  .bnd (slices_Sort_string_T r1) fun y2 =>
  .bnd (slices_Compact_string_T y2.2.1) fun y3 =>
  .ret y3.2.1

def topo_all_topo_place_rack_g : Sig := ⟨37, (.cons (.val false (.list tMember)) (.cons (.fn 38 .nil .nil) .nil)), .fresh 9 .str, fun z => topo_all_topo_place_rack_T z.1, ([] : List Str)⟩

theorem topo_all_topo_place_rack_ok : topo_all_topo_place_rack_g.ok Tryd.prog := by
  refine Sig.lift mix tabOk nms _ Tryd.func37 (c := (bodyOf Tryd.f37)) (by kernel_rfl) (o := orM [topo_place_rack_g] [slices_Sort_string_g, slices_Compact_string_g] [topo_all_topo_place_rack_L3] noFz) (orM_sound ⟨topo_place_rack_ok, trivial⟩ ⟨slices_Sort_string_ok, ⟨slices_Compact_string_ok, trivial⟩⟩) (allLp_ofM [nthC (loopsOf (bodyOf Tryd.f37)) 0] (by kernel_rfl) ⟨topo_all_topo_place_rack_L3_ok, trivial⟩ (by kernel_rfl)) ?_
  intro z; kernel_rfl

def topo_all_topo_place_rack_gv : Sig := ⟨37, (.cons (.val false (.list tMember)) (.cons (.fn 38 .nil .nil) .nil)), .vals (.val false (.list .str)), fun z => topo_all_topo_place_rack_T z.1, ([] : List Str)⟩

theorem topo_all_topo_place_rack_okv : topo_all_topo_place_rack_gv.ok Tryd.prog := fun x y h => acalls_val (topo_all_topo_place_rack_ok x y h)

def topo_Racks_T (x0 : List Member) : Tree (List Str) :=
  .bnd (topo_all_topo_place_rack_T x0) fun y1 =>
  .ret y1

def topo_Racks_g : Sig := ⟨21, (.cons (.val false (.list tMember)) .nil), .fresh 9 .str, fun z => topo_Racks_T z.1, ([] : List Str)⟩

theorem topo_Racks_ok : topo_Racks_g.ok Tryd.prog := by
  refine Sig.lift mix tabOk nms _ Tryd.func21 (c := (bodyOf Tryd.f21)) (by kernel_rfl) (o := orT [topo_all_topo_place_rack_g] [] noFz) (orT_sound ⟨topo_all_topo_place_rack_ok, trivial⟩) (allLp_of [] (by kernel_rfl) trivial rfl) ?_
  intro z; kernel_rfl

def topo_Racks_gv : Sig := ⟨21, (.cons (.val false (.list tMember)) .nil), .vals (.val false (.list .str)), fun z => topo_Racks_T z.1, ([] : List Str)⟩

theorem topo_Racks_okv : topo_Racks_gv.ok Tryd.prog := fun x y h => acalls_val (topo_Racks_ok x y h)

def r01_SameTexts_L4_step (a : List Str) (b : List Str) (i : Int) : Tree (Int ⊕ (Bool ⊕ Unit)) :=
  .ite ((decide (i < (a.length : Int))) && (decide (i < (b.length : Int)))) (
    ask (inb i a.length) <|
    ask (inb i b.length) <|
    .ite (!((a.getD i.toNat ([] : Str)) == (b.getD i.toNat ([] : Str)))) (
      .ret (.inr (.inl false))) (
      .ret (.inl (w64 (i + 1))))) (
    .ret (.inr (.inr ())))

def r01_SameTexts_L4 : Lp := ⟨4, [], [], (.cons (.val false (.list .str)) (.cons (.val false (.list .str)) (ca (ca2 (.cons (.val false (.int .i64)) (ca2 (ca8 (ca16 .nil)))))))), .nil, 0, .more 0 [] (ca4 (.cons (.val false .bool) (ca (ca2 (ca8 (ca16 .nil)))))) .nil (.one 1 [] (ca32 .nil) .nil), fun z => .bnd (.loop (fun v => r01_SameTexts_L4_step z.1.1 z.1.2.1 v) z.1.2.2.2.2.2.1) fun r => .sum r (fun a0 => .ret (.inl ((cu4 (a0, (cu (cu2 (cu8 (cu16 ())))))), ()))) (fun b0 => .ret (.inr ((cu32 ()), ())))⟩

theorem r01_SameTexts_L4_ok : r01_SameTexts_L4.ok Tryd.prog (nthC (loopsOf (bodyOf Tryd.f20)) 0) := by
  refine Lp.lift (π := ((List Str) × (List Str))) (V := Int) (ρ := (Bool ⊕ Unit)) mix tabOk r01_SameTexts_L4 (o := orT [] [] noFz) (orT_sound trivial) (allLp_of [] (by kernel_rfl) trivial rfl) (fun x v => ((x.1, (x.2, (cu (cu2 (v, (cu2 (cu8 (cu16 ())))))))), ())) (fun x r => match r with | .inl a0 => .inl ((cu4 (a0, (cu (cu2 (cu8 (cu16 ())))))), ()) | .inr b0 => (.inr ((cu32 ()), ()))) (fun x v => r01_SameTexts_L4_step x.1 x.2 v) (fun x r => .sum r (fun a0 => .ret (.inl ((cu4 (a0, (cu (cu2 (cu8 (cu16 ())))))), ()))) (fun b0 => .ret (.inr ((cu32 ()), ())))) (fun z => (z.1.1, z.1.2.1)) (fun z => z.1.2.2.2.2.2.1) (fun _ => rfl) (fun _ => rfl) (fun x r Q h => match r, h with | .inl _, h => h | .inr b0, h => (h)) ?_
  intro x v; kernel_rfl

def r01_SameTexts_T (x0 : List Str) (x1 : List Str) : Tree Bool :=
  .ite (!decide ((x0.length : Int) = (x1.length : Int))) (
    .ret false) (
    .bnd (.loop (fun v => r01_SameTexts_L4_step x0 x1 v) 0) fun r1 =>
    .sum r1 (fun r2 =>
      .ret r2) (fun r3 =>
      .ret true))

def r01_SameTexts_g : Sig := ⟨20, (.cons (.val false (.list .str)) (.cons (.val false (.list .str)) .nil)), .vals (.val false .bool), fun z => r01_SameTexts_T z.1 z.2.1, false⟩

theorem r01_SameTexts_ok : r01_SameTexts_g.ok Tryd.prog := by
  refine Sig.lift mix tabOk nms _ Tryd.func20 (c := (bodyOf Tryd.f20)) (by kernel_rfl) (o := orT [] [r01_SameTexts_L4] noFz) (orT_sound trivial) (allLp_of [nthC (loopsOf (bodyOf Tryd.f20)) 0] (by kernel_rfl) ⟨r01_SameTexts_L4_ok, trivial⟩ (by kernel_rfl)) ?_
  intro z; kernel_rfl

def topo_place_zone_T (x0 : Member) : Tree Str :=
  .ret x0.2.2.1

def topo_place_zone_g : Sig := ⟨40, (.cons (.val true tMember) .nil), .vals (.val false .str), fun z => topo_place_zone_T z.1, ([] : Str)⟩

theorem topo_place_zone_ok : topo_place_zone_g.ok Tryd.prog := by
  refine Sig.lift mix tabOk nms _ Tryd.func40 (c := (bodyOf Tryd.f40)) (by kernel_rfl) (o := orT [] [] noFz) (orT_sound trivial) (allLp_of [] (by kernel_rfl) trivial rfl) ?_
  intro z; kernel_rfl

def topo_all_topo_place_zone_L3_step (t : List Member) (t2 : Int) (t3 : Int) (out : List Str) : Tree ((Int × (List Str)) ⊕ (List Str)) :=
  .ite (decide (t3 < t2)) (
    ask (inb t3 t.length) <|
    .bnd (topo_place_zone_T (t.getD t3.toNat (dfl tMember : Member))) fun y1 =>
    ask (decide ((out ++ [y1]).length * 16 ≤ roomNat)) <|
    .ret (.inl ((w64 (t3 + 1)), (out ++ [y1])))) (
    .ret (.inr out))

def topo_all_topo_place_zone_L3 : Lp := ⟨3, [.own 5 9 .str], [], (ca (.cons (.fn 40 .nil .nil) (ca (ca2 (.cons (.own 0) (ca2 (.cons (.val false (.list tMember)) (.cons (.val false (.int .i64)) (.cons (.val false (.int .i64)) (ca2 (ca4 (ca8 .nil)))))))))))), (.rows 9 .str .nil), 0, .one 1 [] (ca (ca4 (.cons (.own 0) (ca (ca2 (ca16 .nil)))))) (.rows 9 .str .nil), fun z => .bnd (.loop (fun v => topo_all_topo_place_zone_L3_step z.1.2.2.2.2.2.2.2.2.1 z.1.2.2.2.2.2.2.2.2.2.1 v.1 v.2) (z.1.2.2.2.2.2.2.2.2.2.2.1, z.2.1)) fun r => .ret ((cu (cu4 ((), (cu (cu2 (cu16 ())))))), (r, ()))⟩

theorem topo_all_topo_place_zone_L3_ok : topo_all_topo_place_zone_L3.ok Tryd.prog (nthC (loopsOf (bodyOf Tryd.f37)) 0) := by
  refine Lp.lift (π := ((List Member) × Int)) (V := (Int × (List Str))) (ρ := List Str) mix tabOk topo_all_topo_place_zone_L3 (o := orM [topo_place_zone_g] [slices_Sort_string_g, slices_Compact_string_g] [] noFz) (orM_sound ⟨topo_place_zone_ok, trivial⟩ ⟨slices_Sort_string_ok, ⟨slices_Compact_string_ok, trivial⟩⟩) (allLp_ofM [] (by kernel_rfl) trivial rfl) (fun x v => ((cu (((), ()), (cu (cu2 ((), (cu2 (x.1, (x.2, (v.1, (cu2 (cu4 (cu8 ())))))))))))), (v.2, ()))) (fun x r => ((cu (cu4 ((), (cu (cu2 (cu16 ())))))), (r, ()))) (fun x v => topo_all_topo_place_zone_L3_step x.1 x.2 v.1 v.2) (fun x r => .ret ((cu (cu4 ((), (cu (cu2 (cu16 ())))))), (r, ()))) (fun z => (z.1.2.2.2.2.2.2.2.2.1, z.1.2.2.2.2.2.2.2.2.2.1)) (fun z => (z.1.2.2.2.2.2.2.2.2.2.2.1, z.2.1)) (fun _ => rfl) (fun _ => rfl) (fun _ _ _ h => h) ?_
  intro x v; kernel_rfl

def topo_all_topo_place_zone_T (x0 : List Member) : Tree (List Str) :=
  .bnd (.loop (fun v => topo_all_topo_place_zone_L3_step x0 (x0.length : Int) v.1 v.2) (0, ([] : List Str))) fun r1 =>
  .bnd (slices_Sort_string_T r1) fun y2 =>
  .bnd (slices_Compact_string_T y2.2.1) fun y3 =>
  .ret y3.2.1

def topo_all_topo_place_zone_g : Sig := ⟨37, (.cons (.val false (.list tMember)) (.cons (.fn 40 .nil .nil) .nil)), .fresh 9 .str, fun z => topo_all_topo_place_zone_T z.1, ([] : List Str)⟩

theorem topo_all_topo_place_zone_ok : topo_all_topo_place_zone_g.ok Tryd.prog := by
  refine Sig.lift mix tabOk nms _ Tryd.func37 (c := (bodyOf Tryd.f37)) (by kernel_rfl) (o := orM [topo_place_zone_g] [slices_Sort_string_g, slices_Compact_string_g] [topo_all_topo_place_zone_L3] noFz) (orM_sound ⟨topo_place_zone_ok, trivial⟩ ⟨slices_Sort_string_ok, ⟨slices_Compact_string_ok, trivial⟩⟩) (allLp_ofM [nthC (loopsOf (bodyOf Tryd.f37)) 0] (by kernel_rfl) ⟨topo_all_topo_place_zone_L3_ok, trivial⟩ (by kernel_rfl)) ?_
  intro z; kernel_rfl

def topo_all_topo_place_zone_gv : Sig := ⟨37, (.cons (.val false (.list tMember)) (.cons (.fn 40 .nil .nil) .nil)), .vals (.val false (.list .str)), fun z => topo_all_topo_place_zone_T z.1, ([] : List Str)⟩

theorem topo_all_topo_place_zone_okv : topo_all_topo_place_zone_gv.ok Tryd.prog := fun x y h => acalls_val (topo_all_topo_place_zone_ok x y h)

def topo_Zones_T (x0 : List Member) : Tree (List Str) :=
  .bnd (topo_all_topo_place_zone_T x0) fun y1 =>
  .ret y1

def topo_Zones_g : Sig := ⟨23, (.cons (.val false (.list tMember)) .nil), .fresh 9 .str, fun z => topo_Zones_T z.1, ([] : List Str)⟩

theorem topo_Zones_ok : topo_Zones_g.ok Tryd.prog := by
  refine Sig.lift mix tabOk nms _ Tryd.func23 (c := (bodyOf Tryd.f23)) (by kernel_rfl) (o := orT [topo_all_topo_place_zone_g] [] noFz) (orT_sound ⟨topo_all_topo_place_zone_ok, trivial⟩) (allLp_of [] (by kernel_rfl) trivial rfl) ?_
  intro z; kernel_rfl

def topo_Zones_gv : Sig := ⟨23, (.cons (.val false (.list tMember)) .nil), .vals (.val false (.list .str)), fun z => topo_Zones_T z.1, ([] : List Str)⟩

theorem topo_Zones_okv : topo_Zones_gv.ok Tryd.prog := fun x y h => acalls_val (topo_Zones_ok x y h)

def l13_awake_fz : Nat → List Pre
  | 6 => [.frz 3]
  | _ => []

def l13_awake_T  : Tree Bool :=
  .bnd (topo_Value_T (([110, 49] : Str), (([114, 49] : Str), (([122, 49] : Str), true)))) fun y1 =>
  .bnd (topo_Member_T ([110, 49] : Str) y1.1) fun y2 =>
  .bnd (topo_Member_T ([110, 49] : Str) ([114, 49, 47, 122, 49, 47, 103, 111, 110, 101] : Str)) fun y3 =>
  .bnd (topo_Key_T ([110, 49] : Str)) fun y4 =>
  .bnd (topo_Members_T [(y4, (1, ([], y1.1))), (([110, 111, 100, 101, 47, 110, 50] : Str), (1, ([], ([120] : Str))))]) fun y5 =>
  .grd (((((y1.1 == ([114, 49, 47, 122, 49, 47, 117, 112] : Str)) && (decide (y1.2.1 = 0))) && ((y2.1.1 == ([110, 49] : Str)) && ((y2.1.2.1 == ([114, 49] : Str)) && ((y2.1.2.2.1 == ([122, 49] : Str)) && ((y2.1.2.2.2 == true) && true))))) && y2.2.1) && (!y3.2.1)) (r13_Same_T y5 [(([110, 49] : Str), (([114, 49] : Str), (([122, 49] : Str), true)))]) false fun y6 =>
  .grd ((((((y1.1 == ([114, 49, 47, 122, 49, 47, 117, 112] : Str)) && (decide (y1.2.1 = 0))) && ((y2.1.1 == ([110, 49] : Str)) && ((y2.1.2.1 == ([114, 49] : Str)) && ((y2.1.2.2.1 == ([122, 49] : Str)) && ((y2.1.2.2.2 == true) && true))))) && y2.2.1) && (!y3.2.1)) && y6) (topo_Up_T y5) ([] : List Member) fun y7 =>
  .grd (((((((y1.1 == ([114, 49, 47, 122, 49, 47, 117, 112] : Str)) && (decide (y1.2.1 = 0))) && ((y2.1.1 == ([110, 49] : Str)) && ((y2.1.2.1 == ([114, 49] : Str)) && ((y2.1.2.2.1 == ([122, 49] : Str)) && ((y2.1.2.2.2 == true) && true))))) && y2.2.1) && (!y3.2.1)) && y6) && (decide ((y7.length : Int) = 1))) (topo_Racks_T y5) ([] : List Str) fun y8 =>
  .grd (((((((y1.1 == ([114, 49, 47, 122, 49, 47, 117, 112] : Str)) && (decide (y1.2.1 = 0))) && ((y2.1.1 == ([110, 49] : Str)) && ((y2.1.2.1 == ([114, 49] : Str)) && ((y2.1.2.2.1 == ([122, 49] : Str)) && ((y2.1.2.2.2 == true) && true))))) && y2.2.1) && (!y3.2.1)) && y6) && (decide ((y7.length : Int) = 1))) (r01_SameTexts_T y8 [([114, 49] : Str)]) false fun y9 =>
  .grd ((((((((y1.1 == ([114, 49, 47, 122, 49, 47, 117, 112] : Str)) && (decide (y1.2.1 = 0))) && ((y2.1.1 == ([110, 49] : Str)) && ((y2.1.2.1 == ([114, 49] : Str)) && ((y2.1.2.2.1 == ([122, 49] : Str)) && ((y2.1.2.2.2 == true) && true))))) && y2.2.1) && (!y3.2.1)) && y6) && (decide ((y7.length : Int) = 1))) && y9) (topo_Zones_T y5) ([] : List Str) fun y10 =>
  .grd ((((((((y1.1 == ([114, 49, 47, 122, 49, 47, 117, 112] : Str)) && (decide (y1.2.1 = 0))) && ((y2.1.1 == ([110, 49] : Str)) && ((y2.1.2.1 == ([114, 49] : Str)) && ((y2.1.2.2.1 == ([122, 49] : Str)) && ((y2.1.2.2.2 == true) && true))))) && y2.2.1) && (!y3.2.1)) && y6) && (decide ((y7.length : Int) = 1))) && y9) (r01_SameTexts_T y10 [([122, 49] : Str)]) false fun y11 =>
  .ret (((((((((y1.1 == ([114, 49, 47, 122, 49, 47, 117, 112] : Str)) && (decide (y1.2.1 = 0))) && ((y2.1.1 == ([110, 49] : Str)) && ((y2.1.2.1 == ([114, 49] : Str)) && ((y2.1.2.2.1 == ([122, 49] : Str)) && ((y2.1.2.2.2 == true) && true))))) && y2.2.1) && (!y3.2.1)) && y6) && (decide ((y7.length : Int) = 1))) && y9) && y11)

def l13_awake_g : Sig := ⟨7, .nil, .vals (.val false .bool), fun z => l13_awake_T, false⟩

theorem l13_awake_ok : l13_awake_g.ok Tryd.prog := by
  refine Sig.lift mix tabOk nms _ Tryd.func7 (c := (bodyOf Tryd.f7)) (by kernel_rfl) (o := orT [topo_Value_g, topo_Member_g, topo_Key_g, topo_Members_g, r13_Same_g, topo_Up_g, topo_Racks_gv, r01_SameTexts_g, topo_Zones_gv] [] l13_awake_fz) (orT_sound ⟨topo_Value_ok, ⟨topo_Member_ok, ⟨topo_Key_ok, ⟨topo_Members_ok, ⟨r13_Same_ok, ⟨topo_Up_ok, ⟨topo_Racks_okv, ⟨r01_SameTexts_ok, ⟨topo_Zones_okv, trivial⟩⟩⟩⟩⟩⟩⟩⟩⟩) (allLp_of [] (by kernel_rfl) trivial rfl) ?_
  intro z; kernel_rfl

def r05_Parts_L6_step (s_ : Str) (from_ : Int) (i : Int) (out : List Str) : Tree ((Int × Int × (List Str)) ⊕ (Int × (List Str))) :=
  .ite (decide (i < (s_.length : Int))) (
    ask (inb i s_.length) <|
    .ite (decide ((sgetI s_ i) = 47)) (
      ask (inbe i s_.length) <|
      ask (inbe from_ i.toNat) <|
      ask (decide ((out ++ [(subS s_ from_.toNat i.toNat)]).length * 16 ≤ roomNat)) <|
      .ret (.inl ((w64 (i + 1)), (w64 (i + 1)), (out ++ [(subS s_ from_.toNat i.toNat)])))) (
      .ret (.inl (from_, (w64 (i + 1)), out)))) (
    .ret (.inr (from_, out)))

def r05_Parts_L6 : Lp := ⟨6, [.own 3 9 .str], [], (.cons (.val false .str) (ca2 (.cons (.own 0) (.cons (.val false (.int .i64)) (.cons (.val false (.int .i64)) (ca4 (ca8 (ca16 .nil)))))))), (.rows 9 .str .nil), 0, .one 1 [] (.cons (.val false .str) (ca2 (.cons (.own 0) (.cons (.val false (.int .i64)) (ca (ca4 (ca8 (ca16 .nil)))))))) (.rows 9 .str .nil), fun z => .bnd (.loop (fun v => r05_Parts_L6_step z.1.1 v.1 v.2.1 v.2.2) (z.1.2.2.2.2.1, z.1.2.2.2.2.2.1, z.2.1)) fun r => .ret ((z.1.1, (cu2 ((), (r.1, (cu (cu4 (cu8 (cu16 ())))))))), (r.2, ()))⟩

theorem r05_Parts_L6_ok : r05_Parts_L6.ok Tryd.prog (nthC (loopsOf (bodyOf Tryd.f28)) 0) := by
  refine Lp.lift (π := Str) (V := (Int × Int × (List Str))) (ρ := (Int × (List Str))) mix tabOk r05_Parts_L6 (o := orT [] [] noFz) (orT_sound trivial) (allLp_of [] (by kernel_rfl) trivial rfl) (fun x v => ((x, (cu2 ((), (v.1, (v.2.1, (cu4 (cu8 (cu16 ())))))))), (v.2.2, ()))) (fun x r => ((x, (cu2 ((), (r.1, (cu (cu4 (cu8 (cu16 ())))))))), (r.2, ()))) (fun x v => r05_Parts_L6_step x v.1 v.2.1 v.2.2) (fun x r => .ret ((x, (cu2 ((), (r.1, (cu (cu4 (cu8 (cu16 ())))))))), (r.2, ()))) (fun z => z.1.1) (fun z => (z.1.2.2.2.2.1, z.1.2.2.2.2.2.1, z.2.1)) (fun _ => rfl) (fun _ => rfl) (fun _ _ _ h => h) ?_
  intro x v; kernel_rfl

def r05_Parts_T (x0 : Str) : Tree (List Str) :=
  .ite (x0 == ([] : Str)) (
    .ret []) (
    .bnd (.loop (fun v => r05_Parts_L6_step x0 v.1 v.2.1 v.2.2) (0, 0, ([] : List Str))) fun r1 =>
    ask (inbe r1.1 x0.length) <|
    ask (decide ((r1.2 ++ [(subS x0 r1.1.toNat x0.length)]).length * 16 ≤ roomNat)) <|
    .ret (r1.2 ++ [(subS x0 r1.1.toNat x0.length)]))

def r05_Parts_g : Sig := ⟨28, (.cons (.val false .str) .nil), .fresh 9 .str, fun z => r05_Parts_T z.1, ([] : List Str)⟩

theorem r05_Parts_ok : r05_Parts_g.ok Tryd.prog := by
  refine Sig.lift mix tabOk nms _ Tryd.func28 (c := (bodyOf Tryd.f28)) (by kernel_rfl) (o := orT [] [r05_Parts_L6] noFz) (orT_sound trivial) (allLp_of [nthC (loopsOf (bodyOf Tryd.f28)) 0] (by kernel_rfl) ⟨r05_Parts_L6_ok, trivial⟩ (by kernel_rfl)) ?_
  intro z; kernel_rfl

def r05_Parts_gv : Sig := ⟨28, (.cons (.val false .str) .nil), .vals (.val false (.list .str)), fun z => r05_Parts_T z.1, ([] : List Str)⟩

theorem r05_Parts_okv : r05_Parts_gv.ok Tryd.prog := fun x y h => acalls_val (r05_Parts_ok x y h)

def r05_Is_L2_step (s_ : Str) (i : Int) : Tree (Int ⊕ (Bool ⊕ Unit)) :=
  .ite (decide (i < (s_.length : Int))) (
    ask (inb i s_.length) <|
    ask ((!(!(decide ((sgetI s_ i) < 97)))) || inb i s_.length) <|
    ask ((!((decide ((sgetI s_ i) < 97)) || (decide ((122 : Int) < (sgetI s_ i))))) || inb i s_.length) <|
    ask ((!(((decide ((sgetI s_ i) < 97)) || (decide ((122 : Int) < (sgetI s_ i)))) && (!(decide ((sgetI s_ i) < 48))))) || inb i s_.length) <|
    ask ((!(((decide ((sgetI s_ i) < 97)) || (decide ((122 : Int) < (sgetI s_ i)))) && ((decide ((sgetI s_ i) < 48)) || (decide ((57 : Int) < (sgetI s_ i)))))) || inb i s_.length) <|
    .ite ((((decide ((sgetI s_ i) < 97)) || (decide ((122 : Int) < (sgetI s_ i)))) && ((decide ((sgetI s_ i) < 48)) || (decide ((57 : Int) < (sgetI s_ i))))) && (!decide ((sgetI s_ i) = 45))) (
      .ret (.inr (.inl false))) (
      .ret (.inl (w64 (i + 1))))) (
    .ret (.inr (.inr ())))

def r05_Is_L2 : Lp := ⟨2, [], [], (.cons (.val false .str) (ca2 (.cons (.val false (.int .i64)) (ca2 (ca8 (ca32 .nil)))))), .nil, 0, .more 0 [] (ca2 (.cons (.val false .bool) (ca (ca2 (ca8 (ca32 .nil)))))) .nil (.one 1 [] (.cons (.val false .str) (ca (ca4 (ca8 (ca32 .nil))))) .nil), fun z => .bnd (.loop (fun v => r05_Is_L2_step z.1.1 v) z.1.2.2.2.1) fun r => .sum r (fun a0 => .ret (.inl ((cu2 (a0, (cu (cu2 (cu8 (cu32 ())))))), ()))) (fun b0 => .ret (.inr ((z.1.1, (cu (cu4 (cu8 (cu32 ()))))), ())))⟩

theorem r05_Is_L2_ok : r05_Is_L2.ok Tryd.prog (nthC (loopsOf (bodyOf Tryd.f29)) 0) := by
  refine Lp.lift (π := Str) (V := Int) (ρ := (Bool ⊕ Unit)) mix tabOk r05_Is_L2 (o := orT [] [] noFz) (orT_sound trivial) (allLp_of [] (by kernel_rfl) trivial rfl) (fun x v => ((x, (cu2 (v, (cu2 (cu8 (cu32 ())))))), ())) (fun x r => match r with | .inl a0 => .inl ((cu2 (a0, (cu (cu2 (cu8 (cu32 ())))))), ()) | .inr b0 => (.inr ((x, (cu (cu4 (cu8 (cu32 ()))))), ()))) (fun x v => r05_Is_L2_step x v) (fun x r => .sum r (fun a0 => .ret (.inl ((cu2 (a0, (cu (cu2 (cu8 (cu32 ())))))), ()))) (fun b0 => .ret (.inr ((x, (cu (cu4 (cu8 (cu32 ()))))), ())))) (fun z => z.1.1) (fun z => z.1.2.2.2.1) (fun _ => rfl) (fun _ => rfl) (fun x r Q h => match r, h with | .inl _, h => h | .inr b0, h => (h)) ?_
  intro x v; kernel_rfl

def r05_Is_T (x0 : Str) : Tree Bool :=
  .bnd (.loop (fun v => r05_Is_L2_step x0 v) 0) fun r1 =>
  .sum r1 (fun r2 =>
    .ret r2) (fun r3 =>
    .ret ((decide ((1 : Int) ≤ (x0.length : Int))) && (decide ((x0.length : Int) ≤ 16))))

def r05_Is_g : Sig := ⟨29, (.cons (.val false .str) .nil), .vals (.val false .bool), fun z => r05_Is_T z.1, false⟩

theorem r05_Is_ok : r05_Is_g.ok Tryd.prog := by
  refine Sig.lift mix tabOk nms _ Tryd.func29 (c := (bodyOf Tryd.f29)) (by kernel_rfl) (o := orT [] [r05_Is_L2] noFz) (orT_sound trivial) (allLp_of [nthC (loopsOf (bodyOf Tryd.f29)) 0] (by kernel_rfl) ⟨r05_Is_L2_ok, trivial⟩ (by kernel_rfl)) ?_
  intro z; kernel_rfl

def r13_Member_T (x0 : Str) (x1 : Str) : Tree (Member × Bool × Unit) :=
  .bnd (r05_Parts_T x1) fun y1 =>
  .bnd (r05_Is_T x0) fun y2 =>
  ask ((!(!((!y2) || (!decide ((y1.length : Int) = 3))))) || inb 0 y1.length) <|
  .grd (!((!y2) || (!decide ((y1.length : Int) = 3)))) (r05_Is_T (y1.getD ((0 : Int).toNat) ([] : Str))) false fun y3 =>
  ask ((!(!(((!y2) || (!decide ((y1.length : Int) = 3))) || (!y3)))) || inb 1 y1.length) <|
  .grd (!(((!y2) || (!decide ((y1.length : Int) = 3))) || (!y3))) (r05_Is_T (y1.getD ((1 : Int).toNat) ([] : Str))) false fun y4 =>
  ask ((!(!((((!y2) || (!decide ((y1.length : Int) = 3))) || (!y3)) || (!y4)))) || inb 2 y1.length) <|
  ask ((!((!((((!y2) || (!decide ((y1.length : Int) = 3))) || (!y3)) || (!y4))) && (!((y1.getD ((2 : Int).toNat) ([] : Str)) == ([117, 112] : Str))))) || inb 2 y1.length) <|
  .ite (((((!y2) || (!decide ((y1.length : Int) = 3))) || (!y3)) || (!y4)) || ((!((y1.getD ((2 : Int).toNat) ([] : Str)) == ([117, 112] : Str))) && (!((y1.getD ((2 : Int).toNat) ([] : Str)) == ([100, 111, 119, 110] : Str))))) (
    .ret (([], ([], ([], false))), false, ())) (
    ask (inb 0 y1.length) <|
    ask (inb 1 y1.length) <|
    ask (inb 2 y1.length) <|
    .both (
      .both (
        .ret ((x0, ((y1.getD ((0 : Int).toNat) ([] : Str)), ((y1.getD ((1 : Int).toNat) ([] : Str)), ((y1.getD ((2 : Int).toNat) ([] : Str)) == ([117, 112] : Str))))), true, ())) (
        .both (
          .ret ((x0, ((y1.getD ((0 : Int).toNat) ([] : Str)), ((y1.getD ((1 : Int).toNat) ([] : Str)), ((y1.getD ((2 : Int).toNat) ([] : Str)) == ([117, 112] : Str))))), true, ())) (
          .ret ((x0, ((y1.getD ((0 : Int).toNat) ([] : Str)), ((y1.getD ((1 : Int).toNat) ([] : Str)), ((y1.getD ((2 : Int).toNat) ([] : Str)) == ([117, 112] : Str))))), true, ())))) (
      .both (
        .both (
          .ret ((x0, ((y1.getD ((0 : Int).toNat) ([] : Str)), ((y1.getD ((1 : Int).toNat) ([] : Str)), ((y1.getD ((2 : Int).toNat) ([] : Str)) == ([117, 112] : Str))))), true, ())) (
          .both (
            .ret ((x0, ((y1.getD ((0 : Int).toNat) ([] : Str)), ((y1.getD ((1 : Int).toNat) ([] : Str)), ((y1.getD ((2 : Int).toNat) ([] : Str)) == ([117, 112] : Str))))), true, ())) (
            .ret ((x0, ((y1.getD ((0 : Int).toNat) ([] : Str)), ((y1.getD ((1 : Int).toNat) ([] : Str)), ((y1.getD ((2 : Int).toNat) ([] : Str)) == ([117, 112] : Str))))), true, ())))) (
        .both (
          .both (
            .ret ((x0, ((y1.getD ((0 : Int).toNat) ([] : Str)), ((y1.getD ((1 : Int).toNat) ([] : Str)), ((y1.getD ((2 : Int).toNat) ([] : Str)) == ([117, 112] : Str))))), true, ())) (
            .ret ((x0, ((y1.getD ((0 : Int).toNat) ([] : Str)), ((y1.getD ((1 : Int).toNat) ([] : Str)), ((y1.getD ((2 : Int).toNat) ([] : Str)) == ([117, 112] : Str))))), true, ()))) (
          .both (
            .both (
              .ret ((x0, ((y1.getD ((0 : Int).toNat) ([] : Str)), ((y1.getD ((1 : Int).toNat) ([] : Str)), ((y1.getD ((2 : Int).toNat) ([] : Str)) == ([117, 112] : Str))))), true, ())) (
              .ret ((x0, ((y1.getD ((0 : Int).toNat) ([] : Str)), ((y1.getD ((1 : Int).toNat) ([] : Str)), ((y1.getD ((2 : Int).toNat) ([] : Str)) == ([117, 112] : Str))))), true, ()))) (
            .both (
              .ret ((x0, ((y1.getD ((0 : Int).toNat) ([] : Str)), ((y1.getD ((1 : Int).toNat) ([] : Str)), ((y1.getD ((2 : Int).toNat) ([] : Str)) == ([117, 112] : Str))))), true, ())) (
              .ret ((x0, ((y1.getD ((0 : Int).toNat) ([] : Str)), ((y1.getD ((1 : Int).toNat) ([] : Str)), ((y1.getD ((2 : Int).toNat) ([] : Str)) == ([117, 112] : Str))))), true, ())))))))

def r13_Member_g : Sig := ⟨9, (.cons (.val false .str) (.cons (.val false .str) .nil)), .vals (.cons (.val true tMember) (.cons (.val false .bool) .nil)), fun z => r13_Member_T z.1 z.2.1, ((dfl tMember : Member), false, ())⟩

theorem r13_Member_ok : r13_Member_g.ok Tryd.prog := by
  refine Sig.lift mix tabOk nms _ Tryd.func9 (c := (bodyOf Tryd.f9)) (by kernel_rfl) (o := orT [r05_Parts_g, r05_Is_g] [] noFz) (orT_sound ⟨r05_Parts_ok, ⟨r05_Is_ok, trivial⟩⟩) (allLp_of [] (by kernel_rfl) trivial rfl) ?_
  intro z; kernel_rfl

def r10_Under_L3_step (l : List Entry) (path : Str) (i : Int) (out : List Entry) : Tree ((Int × (List Entry)) ⊕ (List Entry)) :=
  .ite (decide (i < (l.length : Int))) (
    ask (inb i l.length) <|
    ask ((!(decide ((path.length : Int) < ((l.getD i.toNat (dfl tEntry : Entry)).1.length : Int)))) || inbe (path.length : Int) (l.getD i.toNat (dfl tEntry : Entry)).1.length) <|
    ask ((!((decide ((path.length : Int) < ((l.getD i.toNat (dfl tEntry : Entry)).1.length : Int))) && ((subS (l.getD i.toNat (dfl tEntry : Entry)).1 0 (path.length : Int).toNat) == path))) || inb (path.length : Int) (l.getD i.toNat (dfl tEntry : Entry)).1.length) <|
    .ite (((decide ((path.length : Int) < ((l.getD i.toNat (dfl tEntry : Entry)).1.length : Int))) && ((subS (l.getD i.toNat (dfl tEntry : Entry)).1 0 (path.length : Int).toNat) == path)) && (decide ((sgetI (l.getD i.toNat (dfl tEntry : Entry)).1 (path.length : Int)) = 47))) (
      ask (inb i l.length) <|
      ask (decide ((out ++ [(l.getD i.toNat (dfl tEntry : Entry))]).length * 56 ≤ roomNat)) <|
      .ret (.inl ((w64 (i + 1)), (out ++ [(l.getD i.toNat (dfl tEntry : Entry))])))) (
      .ret (.inl ((w64 (i + 1)), out)))) (
    .ret (.inr out))

def r10_Under_L3 : Lp := ⟨3, [.own 5 46 tEntry], [], (.cons (.val false (.list tEntry)) (.cons (.val false .str) (ca (ca2 (.cons (.own 0) (.cons (.val false (.int .i64)) (ca8 (ca32 .nil)))))))), (.rows 46 tEntry .nil), 0, .one 1 [] (ca (ca4 (.cons (.own 0) (ca (ca8 (ca32 .nil)))))) (.rows 46 tEntry .nil), fun z => .bnd (.loop (fun v => r10_Under_L3_step z.1.1 z.1.2.1 v.1 v.2) (z.1.2.2.2.2.2.2.1, z.2.1)) fun r => .ret ((cu (cu4 ((), (cu (cu8 (cu32 ())))))), (r, ()))⟩

theorem r10_Under_L3_ok : r10_Under_L3.ok Tryd.prog (nthC (loopsOf (bodyOf Tryd.f32)) 0) := by
  refine Lp.lift (π := ((List Entry) × Str)) (V := (Int × (List Entry))) (ρ := List Entry) mix tabOk r10_Under_L3 (o := orT [] [] noFz) (orT_sound trivial) (allLp_of [] (by kernel_rfl) trivial rfl) (fun x v => ((x.1, (x.2, (cu (cu2 ((), (v.1, (cu8 (cu32 ())))))))), (v.2, ()))) (fun x r => ((cu (cu4 ((), (cu (cu8 (cu32 ())))))), (r, ()))) (fun x v => r10_Under_L3_step x.1 x.2 v.1 v.2) (fun x r => .ret ((cu (cu4 ((), (cu (cu8 (cu32 ())))))), (r, ()))) (fun z => (z.1.1, z.1.2.1)) (fun z => (z.1.2.2.2.2.2.2.1, z.2.1)) (fun _ => rfl) (fun _ => rfl) (fun _ _ _ h => h) ?_
  intro x v; kernel_rfl

def r10_Under_T (x0 : List Entry) (x1 : Str) : Tree (List Entry) :=
  .bnd (.loop (fun v => r10_Under_L3_step x0 x1 v.1 v.2) (0, ([] : List Entry))) fun r1 =>
  .ret r1

def r10_Under_g : Sig := ⟨32, (.cons (.val false (.list tEntry)) (.cons (.val false .str) .nil)), .fresh 46 tEntry, fun z => r10_Under_T z.1 z.2.1, ([] : List Entry)⟩

theorem r10_Under_ok : r10_Under_g.ok Tryd.prog := by
  refine Sig.lift mix tabOk nms _ Tryd.func32 (c := (bodyOf Tryd.f32)) (by kernel_rfl) (o := orT [] [r10_Under_L3] noFz) (orT_sound trivial) (allLp_of [nthC (loopsOf (bodyOf Tryd.f32)) 0] (by kernel_rfl) ⟨r10_Under_L3_ok, trivial⟩ (by kernel_rfl)) ?_
  intro z; kernel_rfl

def r10_Under_gv : Sig := ⟨32, (.cons (.val false (.list tEntry)) (.cons (.val false .str) .nil)), .vals (.val false (.list tEntry)), fun z => r10_Under_T z.1 z.2.1, ([] : List Entry)⟩

theorem r10_Under_okv : r10_Under_gv.ok Tryd.prog := fun x y h => acalls_val (r10_Under_ok x y h)

def r13_Members_L4_step (under : List Entry) (i : Int) (out : List Member) : Tree ((Int × (List Member)) ⊕ (List Member)) :=
  .ite (decide (i < (under.length : Int))) (
    ask (inb i under.length) <|
    ask (inb i under.length) <|
    .both (
      .both (
        ask (inbe 5 (under.getD i.toNat (dfl tEntry : Entry)).1.length) <|
        .both (
          .both (
            .bnd (r13_Member_T (subS (under.getD i.toNat (dfl tEntry : Entry)).1 (5 : Int).toNat (under.getD i.toNat (dfl tEntry : Entry)).1.length) (under.getD i.toNat (dfl tEntry : Entry)).2.2.2) fun y15 =>
            .both (
              .both (
                .ite y15.2.1 (
                  ask (decide ((out ++ [y15.1]).length * 56 ≤ roomNat)) <|
                  .ret (.inl ((w64 (i + 1)), (out ++ [y15.1])))) (
                  .ret (.inl ((w64 (i + 1)), out)))) (
                .both (
                  .ite y15.2.1 (
                    ask (decide ((out ++ [y15.1]).length * 56 ≤ roomNat)) <|
                    .ret (.inl ((w64 (i + 1)), (out ++ [y15.1])))) (
                    .ret (.inl ((w64 (i + 1)), out)))) (
                  .ite y15.2.1 (
                    ask (decide ((out ++ [y15.1]).length * 56 ≤ roomNat)) <|
                    .ret (.inl ((w64 (i + 1)), (out ++ [y15.1])))) (
                    .ret (.inl ((w64 (i + 1)), out)))))) (
              .both (
                .both (
                  .ite y15.2.1 (
                    ask (decide ((out ++ [y15.1]).length * 56 ≤ roomNat)) <|
                    .ret (.inl ((w64 (i + 1)), (out ++ [y15.1])))) (
                    .ret (.inl ((w64 (i + 1)), out)))) (
                  .ite y15.2.1 (
                    ask (decide ((out ++ [y15.1]).length * 56 ≤ roomNat)) <|
                    .ret (.inl ((w64 (i + 1)), (out ++ [y15.1])))) (
                    .ret (.inl ((w64 (i + 1)), out))))) (
                .both (
                  .both (
                    .ite y15.2.1 (
                      ask (decide ((out ++ [y15.1]).length * 56 ≤ roomNat)) <|
                      .ret (.inl ((w64 (i + 1)), (out ++ [y15.1])))) (
                      .ret (.inl ((w64 (i + 1)), out)))) (
                    .ite y15.2.1 (
                      ask (decide ((out ++ [y15.1]).length * 56 ≤ roomNat)) <|
                      .ret (.inl ((w64 (i + 1)), (out ++ [y15.1])))) (
                      .ret (.inl ((w64 (i + 1)), out))))) (
                  .ite y15.2.1 (
                    ask (decide ((out ++ [y15.1]).length * 56 ≤ roomNat)) <|
                    .ret (.inl ((w64 (i + 1)), (out ++ [y15.1])))) (
                    .ret (.inl ((w64 (i + 1)), out))))))) (
            .bnd (r13_Member_T (subS (under.getD i.toNat (dfl tEntry : Entry)).1 (5 : Int).toNat (under.getD i.toNat (dfl tEntry : Entry)).1.length) (under.getD i.toNat (dfl tEntry : Entry)).2.2.2) fun y14 =>
            .both (
              .both (
                .ite y14.2.1 (
                  ask (decide ((out ++ [y14.1]).length * 56 ≤ roomNat)) <|
                  .ret (.inl ((w64 (i + 1)), (out ++ [y14.1])))) (
                  .ret (.inl ((w64 (i + 1)), out)))) (
                .ite y14.2.1 (
                  ask (decide ((out ++ [y14.1]).length * 56 ≤ roomNat)) <|
                  .ret (.inl ((w64 (i + 1)), (out ++ [y14.1])))) (
                  .ret (.inl ((w64 (i + 1)), out))))) (
              .ite y14.2.1 (
                ask (decide ((out ++ [y14.1]).length * 56 ≤ roomNat)) <|
                .ret (.inl ((w64 (i + 1)), (out ++ [y14.1])))) (
                .ret (.inl ((w64 (i + 1)), out)))))) (
          .bnd (r13_Member_T (subS (under.getD i.toNat (dfl tEntry : Entry)).1 (5 : Int).toNat (under.getD i.toNat (dfl tEntry : Entry)).1.length) (under.getD i.toNat (dfl tEntry : Entry)).2.2.2) fun y13 =>
          .both (
            .both (
              .ite y13.2.1 (
                ask (decide ((out ++ [y13.1]).length * 56 ≤ roomNat)) <|
                .ret (.inl ((w64 (i + 1)), (out ++ [y13.1])))) (
                .ret (.inl ((w64 (i + 1)), out)))) (
              .ite y13.2.1 (
                ask (decide ((out ++ [y13.1]).length * 56 ≤ roomNat)) <|
                .ret (.inl ((w64 (i + 1)), (out ++ [y13.1])))) (
                .ret (.inl ((w64 (i + 1)), out))))) (
            .ite y13.2.1 (
              ask (decide ((out ++ [y13.1]).length * 56 ≤ roomNat)) <|
              .ret (.inl ((w64 (i + 1)), (out ++ [y13.1])))) (
              .ret (.inl ((w64 (i + 1)), out)))))) (
        .both (
          .both (
            ask (inbe 5 (under.getD i.toNat (dfl tEntry : Entry)).1.length) <|
            .both (
              .bnd (r13_Member_T (subS (under.getD i.toNat (dfl tEntry : Entry)).1 (5 : Int).toNat (under.getD i.toNat (dfl tEntry : Entry)).1.length) (under.getD i.toNat (dfl tEntry : Entry)).2.2.2) fun y12 =>
              .both (
                .both (
                  .ite y12.2.1 (
                    ask (decide ((out ++ [y12.1]).length * 56 ≤ roomNat)) <|
                    .ret (.inl ((w64 (i + 1)), (out ++ [y12.1])))) (
                    .ret (.inl ((w64 (i + 1)), out)))) (
                  .both (
                    .ite y12.2.1 (
                      ask (decide ((out ++ [y12.1]).length * 56 ≤ roomNat)) <|
                      .ret (.inl ((w64 (i + 1)), (out ++ [y12.1])))) (
                      .ret (.inl ((w64 (i + 1)), out)))) (
                    .ite y12.2.1 (
                      ask (decide ((out ++ [y12.1]).length * 56 ≤ roomNat)) <|
                      .ret (.inl ((w64 (i + 1)), (out ++ [y12.1])))) (
                      .ret (.inl ((w64 (i + 1)), out)))))) (
                .both (
                  .both (
                    .ite y12.2.1 (
                      ask (decide ((out ++ [y12.1]).length * 56 ≤ roomNat)) <|
                      .ret (.inl ((w64 (i + 1)), (out ++ [y12.1])))) (
                      .ret (.inl ((w64 (i + 1)), out)))) (
                    .ite y12.2.1 (
                      ask (decide ((out ++ [y12.1]).length * 56 ≤ roomNat)) <|
                      .ret (.inl ((w64 (i + 1)), (out ++ [y12.1])))) (
                      .ret (.inl ((w64 (i + 1)), out))))) (
                  .both (
                    .both (
                      .ite y12.2.1 (
                        ask (decide ((out ++ [y12.1]).length * 56 ≤ roomNat)) <|
                        .ret (.inl ((w64 (i + 1)), (out ++ [y12.1])))) (
                        .ret (.inl ((w64 (i + 1)), out)))) (
                      .ite y12.2.1 (
                        ask (decide ((out ++ [y12.1]).length * 56 ≤ roomNat)) <|
                        .ret (.inl ((w64 (i + 1)), (out ++ [y12.1])))) (
                        .ret (.inl ((w64 (i + 1)), out))))) (
                    .ite y12.2.1 (
                      ask (decide ((out ++ [y12.1]).length * 56 ≤ roomNat)) <|
                      .ret (.inl ((w64 (i + 1)), (out ++ [y12.1])))) (
                      .ret (.inl ((w64 (i + 1)), out))))))) (
              .bnd (r13_Member_T (subS (under.getD i.toNat (dfl tEntry : Entry)).1 (5 : Int).toNat (under.getD i.toNat (dfl tEntry : Entry)).1.length) (under.getD i.toNat (dfl tEntry : Entry)).2.2.2) fun y11 =>
              .both (
                .both (
                  .ite y11.2.1 (
                    ask (decide ((out ++ [y11.1]).length * 56 ≤ roomNat)) <|
                    .ret (.inl ((w64 (i + 1)), (out ++ [y11.1])))) (
                    .ret (.inl ((w64 (i + 1)), out)))) (
                  .ite y11.2.1 (
                    ask (decide ((out ++ [y11.1]).length * 56 ≤ roomNat)) <|
                    .ret (.inl ((w64 (i + 1)), (out ++ [y11.1])))) (
                    .ret (.inl ((w64 (i + 1)), out))))) (
                .ite y11.2.1 (
                  ask (decide ((out ++ [y11.1]).length * 56 ≤ roomNat)) <|
                  .ret (.inl ((w64 (i + 1)), (out ++ [y11.1])))) (
                  .ret (.inl ((w64 (i + 1)), out)))))) (
            ask (inbe 5 (under.getD i.toNat (dfl tEntry : Entry)).1.length) <|
            .bnd (r13_Member_T (subS (under.getD i.toNat (dfl tEntry : Entry)).1 (5 : Int).toNat (under.getD i.toNat (dfl tEntry : Entry)).1.length) (under.getD i.toNat (dfl tEntry : Entry)).2.2.2) fun y10 =>
            .both (
              .both (
                .ite y10.2.1 (
                  ask (decide ((out ++ [y10.1]).length * 56 ≤ roomNat)) <|
                  .ret (.inl ((w64 (i + 1)), (out ++ [y10.1])))) (
                  .ret (.inl ((w64 (i + 1)), out)))) (
                .ite y10.2.1 (
                  ask (decide ((out ++ [y10.1]).length * 56 ≤ roomNat)) <|
                  .ret (.inl ((w64 (i + 1)), (out ++ [y10.1])))) (
                  .ret (.inl ((w64 (i + 1)), out))))) (
              .ite y10.2.1 (
                ask (decide ((out ++ [y10.1]).length * 56 ≤ roomNat)) <|
                .ret (.inl ((w64 (i + 1)), (out ++ [y10.1])))) (
                .ret (.inl ((w64 (i + 1)), out)))))) (
          .both (
            ask (inbe 5 (under.getD i.toNat (dfl tEntry : Entry)).1.length) <|
            .bnd (r13_Member_T (subS (under.getD i.toNat (dfl tEntry : Entry)).1 (5 : Int).toNat (under.getD i.toNat (dfl tEntry : Entry)).1.length) (under.getD i.toNat (dfl tEntry : Entry)).2.2.2) fun y9 =>
            .both (
              .both (
                .ite y9.2.1 (
                  ask (decide ((out ++ [y9.1]).length * 56 ≤ roomNat)) <|
                  .ret (.inl ((w64 (i + 1)), (out ++ [y9.1])))) (
                  .ret (.inl ((w64 (i + 1)), out)))) (
                .ite y9.2.1 (
                  ask (decide ((out ++ [y9.1]).length * 56 ≤ roomNat)) <|
                  .ret (.inl ((w64 (i + 1)), (out ++ [y9.1])))) (
                  .ret (.inl ((w64 (i + 1)), out))))) (
              .ite y9.2.1 (
                ask (decide ((out ++ [y9.1]).length * 56 ≤ roomNat)) <|
                .ret (.inl ((w64 (i + 1)), (out ++ [y9.1])))) (
                .ret (.inl ((w64 (i + 1)), out))))) (
            ask (inbe 5 (under.getD i.toNat (dfl tEntry : Entry)).1.length) <|
            .bnd (r13_Member_T (subS (under.getD i.toNat (dfl tEntry : Entry)).1 (5 : Int).toNat (under.getD i.toNat (dfl tEntry : Entry)).1.length) (under.getD i.toNat (dfl tEntry : Entry)).2.2.2) fun y8 =>
            .both (
              .both (
                .ite y8.2.1 (
                  ask (decide ((out ++ [y8.1]).length * 56 ≤ roomNat)) <|
                  .ret (.inl ((w64 (i + 1)), (out ++ [y8.1])))) (
                  .ret (.inl ((w64 (i + 1)), out)))) (
                .ite y8.2.1 (
                  ask (decide ((out ++ [y8.1]).length * 56 ≤ roomNat)) <|
                  .ret (.inl ((w64 (i + 1)), (out ++ [y8.1])))) (
                  .ret (.inl ((w64 (i + 1)), out))))) (
              .ite y8.2.1 (
                ask (decide ((out ++ [y8.1]).length * 56 ≤ roomNat)) <|
                .ret (.inl ((w64 (i + 1)), (out ++ [y8.1])))) (
                .ret (.inl ((w64 (i + 1)), out)))))))) (
      .both (
        .both (
          .both (
            ask (inbe 5 (under.getD i.toNat (dfl tEntry : Entry)).1.length) <|
            .both (
              .bnd (r13_Member_T (subS (under.getD i.toNat (dfl tEntry : Entry)).1 (5 : Int).toNat (under.getD i.toNat (dfl tEntry : Entry)).1.length) (under.getD i.toNat (dfl tEntry : Entry)).2.2.2) fun y7 =>
              .both (
                .both (
                  .ite y7.2.1 (
                    ask (decide ((out ++ [y7.1]).length * 56 ≤ roomNat)) <|
                    .ret (.inl ((w64 (i + 1)), (out ++ [y7.1])))) (
                    .ret (.inl ((w64 (i + 1)), out)))) (
                  .both (
                    .ite y7.2.1 (
                      ask (decide ((out ++ [y7.1]).length * 56 ≤ roomNat)) <|
                      .ret (.inl ((w64 (i + 1)), (out ++ [y7.1])))) (
                      .ret (.inl ((w64 (i + 1)), out)))) (
                    .ite y7.2.1 (
                      ask (decide ((out ++ [y7.1]).length * 56 ≤ roomNat)) <|
                      .ret (.inl ((w64 (i + 1)), (out ++ [y7.1])))) (
                      .ret (.inl ((w64 (i + 1)), out)))))) (
                .both (
                  .both (
                    .ite y7.2.1 (
                      ask (decide ((out ++ [y7.1]).length * 56 ≤ roomNat)) <|
                      .ret (.inl ((w64 (i + 1)), (out ++ [y7.1])))) (
                      .ret (.inl ((w64 (i + 1)), out)))) (
                    .ite y7.2.1 (
                      ask (decide ((out ++ [y7.1]).length * 56 ≤ roomNat)) <|
                      .ret (.inl ((w64 (i + 1)), (out ++ [y7.1])))) (
                      .ret (.inl ((w64 (i + 1)), out))))) (
                  .both (
                    .both (
                      .ite y7.2.1 (
                        ask (decide ((out ++ [y7.1]).length * 56 ≤ roomNat)) <|
                        .ret (.inl ((w64 (i + 1)), (out ++ [y7.1])))) (
                        .ret (.inl ((w64 (i + 1)), out)))) (
                      .ite y7.2.1 (
                        ask (decide ((out ++ [y7.1]).length * 56 ≤ roomNat)) <|
                        .ret (.inl ((w64 (i + 1)), (out ++ [y7.1])))) (
                        .ret (.inl ((w64 (i + 1)), out))))) (
                    .ite y7.2.1 (
                      ask (decide ((out ++ [y7.1]).length * 56 ≤ roomNat)) <|
                      .ret (.inl ((w64 (i + 1)), (out ++ [y7.1])))) (
                      .ret (.inl ((w64 (i + 1)), out))))))) (
              .bnd (r13_Member_T (subS (under.getD i.toNat (dfl tEntry : Entry)).1 (5 : Int).toNat (under.getD i.toNat (dfl tEntry : Entry)).1.length) (under.getD i.toNat (dfl tEntry : Entry)).2.2.2) fun y6 =>
              .both (
                .both (
                  .ite y6.2.1 (
                    ask (decide ((out ++ [y6.1]).length * 56 ≤ roomNat)) <|
                    .ret (.inl ((w64 (i + 1)), (out ++ [y6.1])))) (
                    .ret (.inl ((w64 (i + 1)), out)))) (
                  .ite y6.2.1 (
                    ask (decide ((out ++ [y6.1]).length * 56 ≤ roomNat)) <|
                    .ret (.inl ((w64 (i + 1)), (out ++ [y6.1])))) (
                    .ret (.inl ((w64 (i + 1)), out))))) (
                .ite y6.2.1 (
                  ask (decide ((out ++ [y6.1]).length * 56 ≤ roomNat)) <|
                  .ret (.inl ((w64 (i + 1)), (out ++ [y6.1])))) (
                  .ret (.inl ((w64 (i + 1)), out)))))) (
            ask (inbe 5 (under.getD i.toNat (dfl tEntry : Entry)).1.length) <|
            .bnd (r13_Member_T (subS (under.getD i.toNat (dfl tEntry : Entry)).1 (5 : Int).toNat (under.getD i.toNat (dfl tEntry : Entry)).1.length) (under.getD i.toNat (dfl tEntry : Entry)).2.2.2) fun y5 =>
            .both (
              .both (
                .ite y5.2.1 (
                  ask (decide ((out ++ [y5.1]).length * 56 ≤ roomNat)) <|
                  .ret (.inl ((w64 (i + 1)), (out ++ [y5.1])))) (
                  .ret (.inl ((w64 (i + 1)), out)))) (
                .ite y5.2.1 (
                  ask (decide ((out ++ [y5.1]).length * 56 ≤ roomNat)) <|
                  .ret (.inl ((w64 (i + 1)), (out ++ [y5.1])))) (
                  .ret (.inl ((w64 (i + 1)), out))))) (
              .ite y5.2.1 (
                ask (decide ((out ++ [y5.1]).length * 56 ≤ roomNat)) <|
                .ret (.inl ((w64 (i + 1)), (out ++ [y5.1])))) (
                .ret (.inl ((w64 (i + 1)), out)))))) (
          ask (inbe 5 (under.getD i.toNat (dfl tEntry : Entry)).1.length) <|
          .bnd (r13_Member_T (subS (under.getD i.toNat (dfl tEntry : Entry)).1 (5 : Int).toNat (under.getD i.toNat (dfl tEntry : Entry)).1.length) (under.getD i.toNat (dfl tEntry : Entry)).2.2.2) fun y4 =>
          .both (
            .both (
              .ite y4.2.1 (
                ask (decide ((out ++ [y4.1]).length * 56 ≤ roomNat)) <|
                .ret (.inl ((w64 (i + 1)), (out ++ [y4.1])))) (
                .ret (.inl ((w64 (i + 1)), out)))) (
              .ite y4.2.1 (
                ask (decide ((out ++ [y4.1]).length * 56 ≤ roomNat)) <|
                .ret (.inl ((w64 (i + 1)), (out ++ [y4.1])))) (
                .ret (.inl ((w64 (i + 1)), out))))) (
            .ite y4.2.1 (
              ask (decide ((out ++ [y4.1]).length * 56 ≤ roomNat)) <|
              .ret (.inl ((w64 (i + 1)), (out ++ [y4.1])))) (
              .ret (.inl ((w64 (i + 1)), out)))))) (
        .both (
          .both (
            ask (inbe 5 (under.getD i.toNat (dfl tEntry : Entry)).1.length) <|
            .bnd (r13_Member_T (subS (under.getD i.toNat (dfl tEntry : Entry)).1 (5 : Int).toNat (under.getD i.toNat (dfl tEntry : Entry)).1.length) (under.getD i.toNat (dfl tEntry : Entry)).2.2.2) fun y3 =>
            .both (
              .both (
                .ite y3.2.1 (
                  ask (decide ((out ++ [y3.1]).length * 56 ≤ roomNat)) <|
                  .ret (.inl ((w64 (i + 1)), (out ++ [y3.1])))) (
                  .ret (.inl ((w64 (i + 1)), out)))) (
                .ite y3.2.1 (
                  ask (decide ((out ++ [y3.1]).length * 56 ≤ roomNat)) <|
                  .ret (.inl ((w64 (i + 1)), (out ++ [y3.1])))) (
                  .ret (.inl ((w64 (i + 1)), out))))) (
              .ite y3.2.1 (
                ask (decide ((out ++ [y3.1]).length * 56 ≤ roomNat)) <|
                .ret (.inl ((w64 (i + 1)), (out ++ [y3.1])))) (
                .ret (.inl ((w64 (i + 1)), out))))) (
            ask (inbe 5 (under.getD i.toNat (dfl tEntry : Entry)).1.length) <|
            .bnd (r13_Member_T (subS (under.getD i.toNat (dfl tEntry : Entry)).1 (5 : Int).toNat (under.getD i.toNat (dfl tEntry : Entry)).1.length) (under.getD i.toNat (dfl tEntry : Entry)).2.2.2) fun y2 =>
            .both (
              .both (
                .ite y2.2.1 (
                  ask (decide ((out ++ [y2.1]).length * 56 ≤ roomNat)) <|
                  .ret (.inl ((w64 (i + 1)), (out ++ [y2.1])))) (
                  .ret (.inl ((w64 (i + 1)), out)))) (
                .ite y2.2.1 (
                  ask (decide ((out ++ [y2.1]).length * 56 ≤ roomNat)) <|
                  .ret (.inl ((w64 (i + 1)), (out ++ [y2.1])))) (
                  .ret (.inl ((w64 (i + 1)), out))))) (
              .ite y2.2.1 (
                ask (decide ((out ++ [y2.1]).length * 56 ≤ roomNat)) <|
                .ret (.inl ((w64 (i + 1)), (out ++ [y2.1])))) (
                .ret (.inl ((w64 (i + 1)), out)))))) (
          ask (inbe 5 (under.getD i.toNat (dfl tEntry : Entry)).1.length) <|
          .bnd (r13_Member_T (subS (under.getD i.toNat (dfl tEntry : Entry)).1 (5 : Int).toNat (under.getD i.toNat (dfl tEntry : Entry)).1.length) (under.getD i.toNat (dfl tEntry : Entry)).2.2.2) fun y1 =>
          .both (
            .both (
              .ite y1.2.1 (
                ask (decide ((out ++ [y1.1]).length * 56 ≤ roomNat)) <|
                .ret (.inl ((w64 (i + 1)), (out ++ [y1.1])))) (
                .ret (.inl ((w64 (i + 1)), out)))) (
              .ite y1.2.1 (
                ask (decide ((out ++ [y1.1]).length * 56 ≤ roomNat)) <|
                .ret (.inl ((w64 (i + 1)), (out ++ [y1.1])))) (
                .ret (.inl ((w64 (i + 1)), out))))) (
            .ite y1.2.1 (
              ask (decide ((out ++ [y1.1]).length * 56 ≤ roomNat)) <|
              .ret (.inl ((w64 (i + 1)), (out ++ [y1.1])))) (
              .ret (.inl ((w64 (i + 1)), out)))))))) (
    .ret (.inr out))

def r13_Members_L4 : Lp := ⟨4, [.own 3 26 tMember], [], (ca (ca2 (.cons (.own 1) (.cons (.own 0) (.cons (.val false (.int .i64)) (ca32 .nil)))))), (.rows 46 tEntry (.rows 26 tMember .nil)), 0, .one 1 [] (ca (ca2 (.cons (.own 1) (ca2 (ca32 .nil))))) (.dead (.rows 26 tMember .nil)), fun z => .bnd (.loop (fun v => r13_Members_L4_step z.2.1 v.1 v.2) (z.1.2.2.2.2.2.1, z.2.2.1)) fun r => .ret ((cu (cu2 ((), (cu2 (cu32 ()))))), (r, ()))⟩

theorem r13_Members_L4_ok : r13_Members_L4.ok Tryd.prog (nthC (loopsOf (bodyOf Tryd.f12)) 0) := by
  refine Lp.lift (π := List Entry) (V := (Int × (List Member))) (ρ := List Member) mix tabOk r13_Members_L4 (o := orT [r10_Under_g, r13_Member_g] [] noFz) (orT_sound ⟨r10_Under_ok, ⟨r13_Member_ok, trivial⟩⟩) (allLp_of [] (by kernel_rfl) trivial rfl) (fun x v => ((cu (cu2 ((), ((), (v.1, (cu32 ())))))), (x, (v.2, ())))) (fun x r => ((cu (cu2 ((), (cu2 (cu32 ()))))), (r, ()))) (fun x v => r13_Members_L4_step x v.1 v.2) (fun x r => .ret ((cu (cu2 ((), (cu2 (cu32 ()))))), (r, ()))) (fun z => z.2.1) (fun z => (z.1.2.2.2.2.2.1, z.2.2.1)) (fun _ => rfl) (fun _ => rfl) (fun _ _ _ h => h) ?_
  intro x v; kernel_rfl

def r13_Members_T (x0 : List Entry) : Tree (List Member) :=
  .bnd (r10_Under_T x0 ([110, 111, 100, 101] : Str)) fun y1 =>
  .bnd (.loop (fun v => r13_Members_L4_step y1 v.1 v.2) (0, ([] : List Member))) fun r2 =>
  .ret r2

def r13_Members_g : Sig := ⟨12, (.cons (.val false (.list tEntry)) .nil), .fresh 26 tMember, fun z => r13_Members_T z.1, ([] : List Member)⟩

theorem r13_Members_ok : r13_Members_g.ok Tryd.prog := by
  refine Sig.lift mix tabOk nms _ Tryd.func12 (c := (bodyOf Tryd.f12)) (by kernel_rfl) (o := orT [r10_Under_g, r13_Member_g] [r13_Members_L4] noFz) (orT_sound ⟨r10_Under_ok, ⟨r13_Member_ok, trivial⟩⟩) (allLp_of [nthC (loopsOf (bodyOf Tryd.f12)) 0] (by kernel_rfl) ⟨r13_Members_L4_ok, trivial⟩ (by kernel_rfl)) ?_
  intro z; kernel_rfl

def r13_Members_gv : Sig := ⟨12, (.cons (.val false (.list tEntry)) .nil), .vals (.val false (.list tMember)), fun z => r13_Members_T z.1, ([] : List Member)⟩

theorem r13_Members_okv : r13_Members_gv.ok Tryd.prog := fun x y h => acalls_val (r13_Members_ok x y h)

def r13_Key_T (x0 : Str) : Tree Str :=
  ask (decide (([110, 111, 100, 101, 47] : Str).length + x0.length ≤ 9223372036854775807)) <|
  .ret (([110, 111, 100, 101, 47] : Str) ++ x0)

def r13_Key_g : Sig := ⟨14, (.cons (.val false .str) .nil), .vals (.val false .str), fun z => r13_Key_T z.1, ([] : Str)⟩

theorem r13_Key_ok : r13_Key_g.ok Tryd.prog := by
  refine Sig.lift mix tabOk nms _ Tryd.func14 (c := (bodyOf Tryd.f14)) (by kernel_rfl) (o := orT [] [] noFz) (orT_sound trivial) (allLp_of [] (by kernel_rfl) trivial rfl) ?_
  intro z; kernel_rfl

def l13_TopoTells_T (x0 : List Entry) (x1 : Str) (x2 : Str) : Tree Bool :=
  .bnd (r10_Few_T x0 30) fun y1 =>
  .ite (((!y1) || (decide ((200 : Int) < (x1.length : Int)))) || (decide ((200 : Int) < (x2.length : Int)))) (
    .bnd l13_awake_T fun y2 =>
    .ret y2) (
    .bnd (topo_Member_T x1 x2) fun y3 =>
    .bnd (r13_Member_T x1 x2) fun y4 =>
    .grd (((y3.1.1 == y4.1.1) && ((y3.1.2.1 == y4.1.2.1) && ((y3.1.2.2.1 == y4.1.2.2.1) && ((y3.1.2.2.2 == y4.1.2.2.2) && true)))) && (y3.2.1 == y4.2.1)) (topo_Members_T x0) ([] : List Member) fun y5 =>
    .grd (((y3.1.1 == y4.1.1) && ((y3.1.2.1 == y4.1.2.1) && ((y3.1.2.2.1 == y4.1.2.2.1) && ((y3.1.2.2.2 == y4.1.2.2.2) && true)))) && (y3.2.1 == y4.2.1)) (r13_Members_T x0) ([] : List Member) fun y6 =>
    .grd (((y3.1.1 == y4.1.1) && ((y3.1.2.1 == y4.1.2.1) && ((y3.1.2.2.1 == y4.1.2.2.1) && ((y3.1.2.2.2 == y4.1.2.2.2) && true)))) && (y3.2.1 == y4.2.1)) (r13_Same_T y5 y6) false fun y7 =>
    .grd ((((y3.1.1 == y4.1.1) && ((y3.1.2.1 == y4.1.2.1) && ((y3.1.2.2.1 == y4.1.2.2.1) && ((y3.1.2.2.2 == y4.1.2.2.2) && true)))) && (y3.2.1 == y4.2.1)) && y7) (topo_Key_T x1) ([] : Str) fun y8 =>
    .grd ((((y3.1.1 == y4.1.1) && ((y3.1.2.1 == y4.1.2.1) && ((y3.1.2.2.1 == y4.1.2.2.1) && ((y3.1.2.2.2 == y4.1.2.2.2) && true)))) && (y3.2.1 == y4.2.1)) && y7) (r13_Key_T x1) ([] : Str) fun y9 =>
    .grd (((((y3.1.1 == y4.1.1) && ((y3.1.2.1 == y4.1.2.1) && ((y3.1.2.2.1 == y4.1.2.2.1) && ((y3.1.2.2.2 == y4.1.2.2.2) && true)))) && (y3.2.1 == y4.2.1)) && y7) && (y8 == y9)) l13_awake_T false fun y10 =>
    .ret ((((((y3.1.1 == y4.1.1) && ((y3.1.2.1 == y4.1.2.1) && ((y3.1.2.2.1 == y4.1.2.2.1) && ((y3.1.2.2.2 == y4.1.2.2.2) && true)))) && (y3.2.1 == y4.2.1)) && y7) && (y8 == y9)) && y10))

def l13_TopoTells_g : Sig := ⟨3, (.cons (.val false (.list tEntry)) (.cons (.val false .str) (.cons (.val false .str) .nil))), .vals (.val false .bool), fun z => l13_TopoTells_T z.1 z.2.1 z.2.2.1, false⟩

theorem l13_TopoTells_ok : l13_TopoTells_g.ok Tryd.prog := by
  refine Sig.lift mix tabOk nms _ Tryd.func3 (c := (bodyOf Tryd.f3)) (by kernel_rfl) (o := orT [r10_Few_g, l13_awake_g, topo_Member_g, r13_Member_g, topo_Members_gv, r13_Members_gv, r13_Same_g, topo_Key_g, r13_Key_g] [] noFz) (orT_sound ⟨r10_Few_ok, ⟨l13_awake_ok, ⟨topo_Member_ok, ⟨r13_Member_ok, ⟨topo_Members_okv, ⟨r13_Members_okv, ⟨r13_Same_ok, ⟨topo_Key_ok, ⟨r13_Key_ok, trivial⟩⟩⟩⟩⟩⟩⟩⟩⟩) (allLp_of [] (by kernel_rfl) trivial rfl) ?_
  intro z; kernel_rfl

def r13_Few_L2_step (l : List Member) (most : Int) (i : Int) : Tree (Int ⊕ (Bool ⊕ Unit)) :=
  .ite ((decide (i < (l.length : Int))) && (decide (i < most))) (
    ask (inb i l.length) <|
    ask ((!(!(decide ((100 : Int) < ((l.getD i.toNat (dfl tMember : Member)).1.length : Int))))) || inb i l.length) <|
    ask ((!(!((decide ((100 : Int) < ((l.getD i.toNat (dfl tMember : Member)).1.length : Int))) || (decide ((100 : Int) < ((l.getD i.toNat (dfl tMember : Member)).2.1.length : Int)))))) || inb i l.length) <|
    .ite (((decide ((100 : Int) < ((l.getD i.toNat (dfl tMember : Member)).1.length : Int))) || (decide ((100 : Int) < ((l.getD i.toNat (dfl tMember : Member)).2.1.length : Int)))) || (decide ((100 : Int) < ((l.getD i.toNat (dfl tMember : Member)).2.2.1.length : Int)))) (
      .ret (.inr (.inl false))) (
      .ret (.inl (w64 (i + 1))))) (
    .ret (.inr (.inr ())))

def r13_Few_L2 : Lp := ⟨2, [], [], (.cons (.val false (.list tMember)) (.cons (.val false (.int .i64)) (ca (ca2 (.cons (.val false (.int .i64)) (ca8 (ca32 .nil))))))), .nil, 0, .more 0 [] (ca4 (.cons (.val false .bool) (ca (ca8 (ca32 .nil))))) .nil (.one 1 [] (.cons (.val false (.list tMember)) (.cons (.val false (.int .i64)) (ca4 (ca8 (ca32 .nil))))) .nil), fun z => .bnd (.loop (fun v => r13_Few_L2_step z.1.1 z.1.2.1 v) z.1.2.2.2.2.2.1) fun r => .sum r (fun a0 => .ret (.inl ((cu4 (a0, (cu (cu8 (cu32 ()))))), ()))) (fun b0 => .ret (.inr ((z.1.1, (z.1.2.1, (cu4 (cu8 (cu32 ()))))), ())))⟩

theorem r13_Few_L2_ok : r13_Few_L2.ok Tryd.prog (nthC (loopsOf (bodyOf Tryd.f15)) 0) := by
  refine Lp.lift (π := ((List Member) × Int)) (V := Int) (ρ := (Bool ⊕ Unit)) mix tabOk r13_Few_L2 (o := orT [] [] noFz) (orT_sound trivial) (allLp_of [] (by kernel_rfl) trivial rfl) (fun x v => ((x.1, (x.2, (cu (cu2 (v, (cu8 (cu32 ()))))))), ())) (fun x r => match r with | .inl a0 => .inl ((cu4 (a0, (cu (cu8 (cu32 ()))))), ()) | .inr b0 => (.inr ((x.1, (x.2, (cu4 (cu8 (cu32 ()))))), ()))) (fun x v => r13_Few_L2_step x.1 x.2 v) (fun x r => .sum r (fun a0 => .ret (.inl ((cu4 (a0, (cu (cu8 (cu32 ()))))), ()))) (fun b0 => .ret (.inr ((x.1, (x.2, (cu4 (cu8 (cu32 ()))))), ())))) (fun z => (z.1.1, z.1.2.1)) (fun z => z.1.2.2.2.2.2.1) (fun _ => rfl) (fun _ => rfl) (fun x r Q h => match r, h with | .inl _, h => h | .inr b0, h => (h)) ?_
  intro x v; kernel_rfl

def r13_Few_T (x0 : List Member) (x1 : Int) : Tree Bool :=
  .bnd (.loop (fun v => r13_Few_L2_step x0 x1 v) 0) fun r1 =>
  .sum r1 (fun r2 =>
    .ret r2) (fun r3 =>
    .ret (decide ((x0.length : Int) ≤ x1)))

def r13_Few_g : Sig := ⟨15, (.cons (.val false (.list tMember)) (.cons (.val false (.int .i64)) .nil)), .vals (.val false .bool), fun z => r13_Few_T z.1 z.2.1, false⟩

theorem r13_Few_ok : r13_Few_g.ok Tryd.prog := by
  refine Sig.lift mix tabOk nms _ Tryd.func15 (c := (bodyOf Tryd.f15)) (by kernel_rfl) (o := orT [] [r13_Few_L2] noFz) (orT_sound trivial) (allLp_of [nthC (loopsOf (bodyOf Tryd.f15)) 0] (by kernel_rfl) ⟨r13_Few_L2_ok, trivial⟩ (by kernel_rfl)) ?_
  intro z; kernel_rfl

def r13_Value_T (x0 : Member) : Tree (Str × Int × Unit) :=
  .bnd (r05_Is_T x0.2.1) fun y1 =>
  .grd (!(!y1)) (r05_Is_T x0.2.2.1) false fun y2 =>
  .ite ((!y1) || (!y2)) (
    .ret (([] : Str), 1, ())) (
    .ite x0.2.2.2 (
      ask (decide (x0.2.1.length + ([47] : Str).length ≤ 9223372036854775807)) <|
      ask (decide ((x0.2.1 ++ ([47] : Str)).length + x0.2.2.1.length ≤ 9223372036854775807)) <|
      ask (decide (((x0.2.1 ++ ([47] : Str)) ++ x0.2.2.1).length + ([47] : Str).length ≤ 9223372036854775807)) <|
      ask (decide ((((x0.2.1 ++ ([47] : Str)) ++ x0.2.2.1) ++ ([47] : Str)).length + ([117, 112] : Str).length ≤ 9223372036854775807)) <|
      .ret (((((x0.2.1 ++ ([47] : Str)) ++ x0.2.2.1) ++ ([47] : Str)) ++ ([117, 112] : Str)), 0, ())) (
      ask (decide (x0.2.1.length + ([47] : Str).length ≤ 9223372036854775807)) <|
      ask (decide ((x0.2.1 ++ ([47] : Str)).length + x0.2.2.1.length ≤ 9223372036854775807)) <|
      ask (decide (((x0.2.1 ++ ([47] : Str)) ++ x0.2.2.1).length + ([47] : Str).length ≤ 9223372036854775807)) <|
      ask (decide ((((x0.2.1 ++ ([47] : Str)) ++ x0.2.2.1) ++ ([47] : Str)).length + ([100, 111, 119, 110] : Str).length ≤ 9223372036854775807)) <|
      .ret (((((x0.2.1 ++ ([47] : Str)) ++ x0.2.2.1) ++ ([47] : Str)) ++ ([100, 111, 119, 110] : Str)), 0, ())))

def r13_Value_g : Sig := ⟨17, (.cons (.val true tMember) .nil), .vals (.cons (.val false .str) (.cons (.val false (.int .i64)) .nil)), fun z => r13_Value_T z.1, (([] : Str), (0 : Int), ())⟩

theorem r13_Value_ok : r13_Value_g.ok Tryd.prog := by
  refine Sig.lift mix tabOk nms _ Tryd.func17 (c := (bodyOf Tryd.f17)) (by kernel_rfl) (o := orT [r05_Is_g] [] noFz) (orT_sound ⟨r05_Is_ok, trivial⟩) (allLp_of [] (by kernel_rfl) trivial rfl) ?_
  intro z; kernel_rfl

def r13_Up_L3_step (l : List Member) (i : Int) (out : List Member) : Tree ((Int × (List Member)) ⊕ (List Member)) :=
  .ite (decide (i < (l.length : Int))) (
    ask (inb i l.length) <|
    .ite (l.getD i.toNat (dfl tMember : Member)).2.2.2 (
      ask (inb i l.length) <|
      ask (decide ((out ++ [(l.getD i.toNat (dfl tMember : Member))]).length * 56 ≤ roomNat)) <|
      .ret (.inl ((w64 (i + 1)), (out ++ [(l.getD i.toNat (dfl tMember : Member))])))) (
      .ret (.inl ((w64 (i + 1)), out)))) (
    .ret (.inr out))

def r13_Up_L3 : Lp := ⟨3, [.own 3 26 tMember], [], (.cons (.val false (.list tMember)) (ca2 (.cons (.own 0) (.cons (.val false (.int .i64)) (ca (ca2 (ca16 .nil))))))), (.rows 26 tMember .nil), 0, .one 1 [] (ca (ca2 (.cons (.own 0) (ca4 (ca16 .nil))))) (.rows 26 tMember .nil), fun z => .bnd (.loop (fun v => r13_Up_L3_step z.1.1 v.1 v.2) (z.1.2.2.2.2.1, z.2.1)) fun r => .ret ((cu (cu2 ((), (cu4 (cu16 ()))))), (r, ()))⟩

theorem r13_Up_L3_ok : r13_Up_L3.ok Tryd.prog (nthC (loopsOf (bodyOf Tryd.f19)) 0) := by
  refine Lp.lift (π := List Member) (V := (Int × (List Member))) (ρ := List Member) mix tabOk r13_Up_L3 (o := orT [] [] noFz) (orT_sound trivial) (allLp_of [] (by kernel_rfl) trivial rfl) (fun x v => ((x, (cu2 ((), (v.1, (cu (cu2 (cu16 ()))))))), (v.2, ()))) (fun x r => ((cu (cu2 ((), (cu4 (cu16 ()))))), (r, ()))) (fun x v => r13_Up_L3_step x v.1 v.2) (fun x r => .ret ((cu (cu2 ((), (cu4 (cu16 ()))))), (r, ()))) (fun z => z.1.1) (fun z => (z.1.2.2.2.2.1, z.2.1)) (fun _ => rfl) (fun _ => rfl) (fun _ _ _ h => h) ?_
  intro x v; kernel_rfl

def r13_Up_T (x0 : List Member) : Tree (List Member) :=
  .bnd (.loop (fun v => r13_Up_L3_step x0 v.1 v.2) (0, ([] : List Member))) fun r1 =>
  .ret r1

def r13_Up_g : Sig := ⟨19, (.cons (.val false (.list tMember)) .nil), .fresh 26 tMember, fun z => r13_Up_T z.1, ([] : List Member)⟩

theorem r13_Up_ok : r13_Up_g.ok Tryd.prog := by
  refine Sig.lift mix tabOk nms _ Tryd.func19 (c := (bodyOf Tryd.f19)) (by kernel_rfl) (o := orT [] [r13_Up_L3] noFz) (orT_sound trivial) (allLp_of [nthC (loopsOf (bodyOf Tryd.f19)) 0] (by kernel_rfl) ⟨r13_Up_L3_ok, trivial⟩ (by kernel_rfl)) ?_
  intro z; kernel_rfl

def r13_Up_gv : Sig := ⟨19, (.cons (.val false (.list tMember)) .nil), .vals (.val false (.list tMember)), fun z => r13_Up_T z.1, ([] : List Member)⟩

theorem r13_Up_okv : r13_Up_gv.ok Tryd.prog := fun x y h => acalls_val (r13_Up_ok x y h)

def r13_put_L2_step (l : List Str) (s_ : Str) (k : Int) : Tree (Int ⊕ Int) :=
  ask ((!(decide (k < (l.length : Int)))) || inb k l.length) <|
  .ite ((decide (k < (l.length : Int))) && (ltS (l.getD k.toNat ([] : Str)) s_)) (
    .ret (.inl (w64 (k + 1)))) (
    .ret (.inr k))

def r13_put_L2 : Lp := ⟨2, [], [], (.cons (.val false (.list .str)) (.cons (.val false .str) (ca (ca2 (.cons (.val false (.int .i64)) (ca (ca2 (ca8 (ca32 .nil))))))))), .nil, 0, .one 1 [] (.cons (.val false (.list .str)) (.cons (.val false .str) (ca (ca2 (.cons (.val false (.int .i64)) (ca (ca2 (ca8 (ca32 .nil))))))))) .nil, fun z => .bnd (.loop (fun v => r13_put_L2_step z.1.1 z.1.2.1 v) z.1.2.2.2.2.2.1) fun r => .ret ((z.1.1, (z.1.2.1, (cu (cu2 (r, (cu (cu2 (cu8 (cu32 ()))))))))), ())⟩

theorem r13_put_L2_ok : r13_put_L2.ok Tryd.prog (nthC (loopsOf (bodyOf Tryd.f39)) 0) := by
  refine Lp.lift (π := ((List Str) × Str)) (V := Int) (ρ := Int) mix tabOk r13_put_L2 (o := orT [] [] noFz) (orT_sound trivial) (allLp_of [] (by kernel_rfl) trivial rfl) (fun x v => ((x.1, (x.2, (cu (cu2 (v, (cu (cu2 (cu8 (cu32 ()))))))))), ())) (fun x r => ((x.1, (x.2, (cu (cu2 (r, (cu (cu2 (cu8 (cu32 ()))))))))), ())) (fun x v => r13_put_L2_step x.1 x.2 v) (fun x r => .ret ((x.1, (x.2, (cu (cu2 (r, (cu (cu2 (cu8 (cu32 ()))))))))), ())) (fun z => (z.1.1, z.1.2.1)) (fun z => z.1.2.2.2.2.2.1) (fun _ => rfl) (fun _ => rfl) (fun _ _ _ h => h) ?_
  intro x v; kernel_rfl

def r13_put_T (x0 : List Str) (x1 : Str) : Tree (List Str) :=
  .bnd (.loop (fun v => r13_put_L2_step x0 x1 v) 0) fun r1 =>
  ask ((!(decide (r1 < (x0.length : Int)))) || inb r1 x0.length) <|
  .ite ((decide (r1 < (x0.length : Int))) && ((x0.getD r1.toNat ([] : Str)) == x1)) (
    .ret x0) (
    ask (inbe r1 x0.length) <|
    ask (decide ((x0.take r1.toNat).length * 16 ≤ roomNat)) <|
    ask (decide (((x0.take r1.toNat) ++ [x1]).length * 16 ≤ roomNat)) <|
    ask (inbe r1 x0.length) <|
    ask (decide ((((x0.take r1.toNat) ++ [x1]) ++ (x0.drop r1.toNat)).length * 16 ≤ roomNat)) <|
    .ret (((x0.take r1.toNat) ++ [x1]) ++ (x0.drop r1.toNat)))

def r13_put_g : Sig := ⟨39, (.cons (.val false (.list .str)) (.cons (.val false .str) .nil)), .vals (.val false (.list .str)), fun z => r13_put_T z.1 z.2.1, ([] : List Str)⟩

theorem r13_put_ok : r13_put_g.ok Tryd.prog := by
  refine Sig.lift mix tabOk nms _ Tryd.func39 (c := (bodyOf Tryd.f39)) (by kernel_rfl) (o := orT [] [r13_put_L2] noFz) (orT_sound trivial) (allLp_of [nthC (loopsOf (bodyOf Tryd.f39)) 0] (by kernel_rfl) ⟨r13_put_L2_ok, trivial⟩ (by kernel_rfl)) ?_
  intro z; kernel_rfl

def r13_Racks_L3_step (l : List Member) (out : List Str) (i : Int) : Tree (((List Str) × Int) ⊕ (List Str)) :=
  .ite (decide (i < (l.length : Int))) (
    ask (inb i l.length) <|
    .bnd (r13_put_T out (l.getD i.toNat (dfl tMember : Member)).2.1) fun y1 =>
    .ret (.inl (y1, (w64 (i + 1))))) (
    .ret (.inr out))

def r13_Racks_L3 : Lp := ⟨3, [], [], (.cons (.val false (.list tMember)) (ca2 (.cons (.val false (.list .str)) (.cons (.val false (.int .i64)) (ca2 (ca4 (ca8 .nil))))))), .nil, 0, .one 1 [] (ca (ca2 (.cons (.val false (.list .str)) (ca (ca2 (ca4 (ca8 .nil))))))) .nil, fun z => .bnd (.loop (fun v => r13_Racks_L3_step z.1.1 v.1 v.2) (z.1.2.2.2.1, z.1.2.2.2.2.1)) fun r => .ret ((cu (cu2 (r, (cu (cu2 (cu4 (cu8 ()))))))), ())⟩

theorem r13_Racks_L3_ok : r13_Racks_L3.ok Tryd.prog (nthC (loopsOf (bodyOf Tryd.f22)) 0) := by
  refine Lp.lift (π := List Member) (V := ((List Str) × Int)) (ρ := List Str) mix tabOk r13_Racks_L3 (o := orT [r13_put_g] [] noFz) (orT_sound ⟨r13_put_ok, trivial⟩) (allLp_of [] (by kernel_rfl) trivial rfl) (fun x v => ((x, (cu2 (v.1, (v.2, (cu2 (cu4 (cu8 ()))))))), ())) (fun x r => ((cu (cu2 (r, (cu (cu2 (cu4 (cu8 ()))))))), ())) (fun x v => r13_Racks_L3_step x v.1 v.2) (fun x r => .ret ((cu (cu2 (r, (cu (cu2 (cu4 (cu8 ()))))))), ())) (fun z => z.1.1) (fun z => (z.1.2.2.2.1, z.1.2.2.2.2.1)) (fun _ => rfl) (fun _ => rfl) (fun _ _ _ h => h) ?_
  intro x v; kernel_rfl

def r13_Racks_T (x0 : List Member) : Tree (List Str) :=
  .bnd (.loop (fun v => r13_Racks_L3_step x0 v.1 v.2) ([], 0)) fun r1 =>
  .ret r1

def r13_Racks_g : Sig := ⟨22, (.cons (.val false (.list tMember)) .nil), .vals (.val false (.list .str)), fun z => r13_Racks_T z.1, ([] : List Str)⟩

theorem r13_Racks_ok : r13_Racks_g.ok Tryd.prog := by
  refine Sig.lift mix tabOk nms _ Tryd.func22 (c := (bodyOf Tryd.f22)) (by kernel_rfl) (o := orT [r13_put_g] [r13_Racks_L3] noFz) (orT_sound ⟨r13_put_ok, trivial⟩) (allLp_of [nthC (loopsOf (bodyOf Tryd.f22)) 0] (by kernel_rfl) ⟨r13_Racks_L3_ok, trivial⟩ (by kernel_rfl)) ?_
  intro z; kernel_rfl

def r13_Zones_L3_step (l : List Member) (out : List Str) (i : Int) : Tree (((List Str) × Int) ⊕ (List Str)) :=
  .ite (decide (i < (l.length : Int))) (
    ask (inb i l.length) <|
    .bnd (r13_put_T out (l.getD i.toNat (dfl tMember : Member)).2.2.1) fun y1 =>
    .ret (.inl (y1, (w64 (i + 1))))) (
    .ret (.inr out))

def r13_Zones_L3 : Lp := ⟨3, [], [], (.cons (.val false (.list tMember)) (ca2 (.cons (.val false (.list .str)) (.cons (.val false (.int .i64)) (ca2 (ca4 (ca8 .nil))))))), .nil, 0, .one 1 [] (ca (ca2 (.cons (.val false (.list .str)) (ca (ca2 (ca4 (ca8 .nil))))))) .nil, fun z => .bnd (.loop (fun v => r13_Zones_L3_step z.1.1 v.1 v.2) (z.1.2.2.2.1, z.1.2.2.2.2.1)) fun r => .ret ((cu (cu2 (r, (cu (cu2 (cu4 (cu8 ()))))))), ())⟩

theorem r13_Zones_L3_ok : r13_Zones_L3.ok Tryd.prog (nthC (loopsOf (bodyOf Tryd.f24)) 0) := by
  refine Lp.lift (π := List Member) (V := ((List Str) × Int)) (ρ := List Str) mix tabOk r13_Zones_L3 (o := orT [r13_put_g] [] noFz) (orT_sound ⟨r13_put_ok, trivial⟩) (allLp_of [] (by kernel_rfl) trivial rfl) (fun x v => ((x, (cu2 (v.1, (v.2, (cu2 (cu4 (cu8 ()))))))), ())) (fun x r => ((cu (cu2 (r, (cu (cu2 (cu4 (cu8 ()))))))), ())) (fun x v => r13_Zones_L3_step x v.1 v.2) (fun x r => .ret ((cu (cu2 (r, (cu (cu2 (cu4 (cu8 ()))))))), ())) (fun z => z.1.1) (fun z => (z.1.2.2.2.1, z.1.2.2.2.2.1)) (fun _ => rfl) (fun _ => rfl) (fun _ _ _ h => h) ?_
  intro x v; kernel_rfl

def r13_Zones_T (x0 : List Member) : Tree (List Str) :=
  .bnd (.loop (fun v => r13_Zones_L3_step x0 v.1 v.2) ([], 0)) fun r1 =>
  .ret r1

def r13_Zones_g : Sig := ⟨24, (.cons (.val false (.list tMember)) .nil), .vals (.val false (.list .str)), fun z => r13_Zones_T z.1, ([] : List Str)⟩

theorem r13_Zones_ok : r13_Zones_g.ok Tryd.prog := by
  refine Sig.lift mix tabOk nms _ Tryd.func24 (c := (bodyOf Tryd.f24)) (by kernel_rfl) (o := orT [r13_put_g] [r13_Zones_L3] noFz) (orT_sound ⟨r13_put_ok, trivial⟩) (allLp_of [nthC (loopsOf (bodyOf Tryd.f24)) 0] (by kernel_rfl) ⟨r13_Zones_L3_ok, trivial⟩ (by kernel_rfl)) ?_
  intro z; kernel_rfl

def l13_TopoSets_T (x0 : List Member) (x1 : Member) : Tree Bool :=
  .bnd (r13_Few_T x0 40) fun y1 =>
  .grd (!(!y1)) (r13_Few_T [x1] 1) false fun y2 =>
  .ite ((!y1) || (!y2)) (
    .bnd l13_awake_T fun y3 =>
    .ret y3) (
    .bnd (topo_Value_T x1) fun y4 =>
    .bnd (r13_Value_T x1) fun y5 =>
    .grd ((y4.1 == y5.1) && (decide (y4.2.1 = y5.2.1))) (topo_Up_T x0) ([] : List Member) fun y6 =>
    .grd ((y4.1 == y5.1) && (decide (y4.2.1 = y5.2.1))) (r13_Up_T x0) ([] : List Member) fun y7 =>
    .grd ((y4.1 == y5.1) && (decide (y4.2.1 = y5.2.1))) (r13_Same_T y6 y7) false fun y8 =>
    .grd (((y4.1 == y5.1) && (decide (y4.2.1 = y5.2.1))) && y8) (topo_Racks_T x0) ([] : List Str) fun y9 =>
    .grd (((y4.1 == y5.1) && (decide (y4.2.1 = y5.2.1))) && y8) (r13_Racks_T x0) ([] : List Str) fun y10 =>
    .grd (((y4.1 == y5.1) && (decide (y4.2.1 = y5.2.1))) && y8) (r01_SameTexts_T y9 y10) false fun y11 =>
    .grd ((((y4.1 == y5.1) && (decide (y4.2.1 = y5.2.1))) && y8) && y11) (topo_Zones_T x0) ([] : List Str) fun y12 =>
    .grd ((((y4.1 == y5.1) && (decide (y4.2.1 = y5.2.1))) && y8) && y11) (r13_Zones_T x0) ([] : List Str) fun y13 =>
    .grd ((((y4.1 == y5.1) && (decide (y4.2.1 = y5.2.1))) && y8) && y11) (r01_SameTexts_T y12 y13) false fun y14 =>
    .grd (((((y4.1 == y5.1) && (decide (y4.2.1 = y5.2.1))) && y8) && y11) && y14) l13_awake_T false fun y15 =>
    .ret ((((((y4.1 == y5.1) && (decide (y4.2.1 = y5.2.1))) && y8) && y11) && y14) && y15))

def l13_TopoSets_g : Sig := ⟨4, (.cons (.val false (.list tMember)) (.cons (.val true tMember) .nil)), .vals (.val false .bool), fun z => l13_TopoSets_T z.1 z.2.1, false⟩

theorem l13_TopoSets_ok : l13_TopoSets_g.ok Tryd.prog := by
  refine Sig.lift mix tabOk nms _ Tryd.func4 (c := (bodyOf Tryd.f4)) (by kernel_rfl) (o := orT [r13_Few_g, l13_awake_g, topo_Value_g, r13_Value_g, topo_Up_g, r13_Up_gv, r13_Same_g, topo_Racks_gv, r13_Racks_g, r01_SameTexts_g, topo_Zones_gv, r13_Zones_g] [] noFz) (orT_sound ⟨r13_Few_ok, ⟨l13_awake_ok, ⟨topo_Value_ok, ⟨r13_Value_ok, ⟨topo_Up_ok, ⟨r13_Up_okv, ⟨r13_Same_ok, ⟨topo_Racks_okv, ⟨r13_Racks_ok, ⟨r01_SameTexts_ok, ⟨topo_Zones_okv, ⟨r13_Zones_ok, trivial⟩⟩⟩⟩⟩⟩⟩⟩⟩⟩⟩⟩) (allLp_of [] (by kernel_rfl) trivial rfl) ?_
  intro z; kernel_rfl

def l13_TopoBack_fz : Nat → List Pre
  | 10 => [.frz 1]
  | _ => []

def l13_TopoBack_T (x0 : List Entry) (x1 : Member) (x2 : Entry) : Tree Bool :=
  .bnd (r10_Few_T x0 30) fun y1 =>
  .grd (!(!y1)) (r13_Few_T [x1] 1) false fun y2 =>
  .grd (!((!y1) || (!y2))) (r10_Few_T [x2] 1) false fun y3 =>
  .ite (((!y1) || (!y2)) || (!y3)) (
    .bnd l13_awake_T fun y4 =>
    .ret y4) (
    .bnd (topo_Value_T x1) fun y5 =>
    .ite (decide (y5.2.1 = 0)) (
      .bnd (topo_Member_T x1.1 y5.1) fun y6 =>
      .ite (y6.2.1 && (!((y6.1.1 == x1.1) && ((y6.1.2.1 == x1.2.1) && ((y6.1.2.2.1 == x1.2.2.1) && ((y6.1.2.2.2 == x1.2.2.2) && true)))))) (
        .ret false) (
        ask ((!(decide ((5 : Int) ≤ (x2.1.length : Int)))) || inbe 5 x2.1.length) <|
        .ite ((decide ((5 : Int) ≤ (x2.1.length : Int))) && ((subS x2.1 0 (5 : Int).toNat) == ([110, 111, 100, 101, 47] : Str))) (
          .bnd l13_awake_T fun y7 =>
          .ret y7) (
          .both (
            .both (
              ask (decide (x0.length * 56 ≤ roomNat)) <|
              ask (decide ((x0 ++ [x2]).length * 56 ≤ roomNat)) <|
              .bnd (topo_Members_T (x0 ++ [x2])) fun y16 =>
              .bnd (topo_Members_T x0) fun y17 =>
              .bnd (r13_Same_T y16 y17) fun y18 =>
              .grd y18 l13_awake_T false fun y19 =>
              .ret (y18 && y19)) (
              ask (decide (x0.length * 56 ≤ roomNat)) <|
              ask (decide ((x0 ++ [x2]).length * 56 ≤ roomNat)) <|
              .bnd (topo_Members_T (x0 ++ [x2])) fun y12 =>
              .bnd (topo_Members_T x0) fun y13 =>
              .bnd (r13_Same_T y12 y13) fun y14 =>
              .grd y14 l13_awake_T false fun y15 =>
              .ret (y14 && y15))) (
            ask (decide (x0.length * 56 ≤ roomNat)) <|
            ask (decide ((x0 ++ [x2]).length * 56 ≤ roomNat)) <|
            .bnd (topo_Members_T (x0 ++ [x2])) fun y8 =>
            .bnd (topo_Members_T x0) fun y9 =>
            .bnd (r13_Same_T y8 y9) fun y10 =>
            .grd y10 l13_awake_T false fun y11 =>
            .ret (y10 && y11))))) (
      ask ((!(decide ((5 : Int) ≤ (x2.1.length : Int)))) || inbe 5 x2.1.length) <|
      .ite ((decide ((5 : Int) ≤ (x2.1.length : Int))) && ((subS x2.1 0 (5 : Int).toNat) == ([110, 111, 100, 101, 47] : Str))) (
        .bnd l13_awake_T fun y20 =>
        .ret y20) (
        .both (
          .both (
            ask (decide (x0.length * 56 ≤ roomNat)) <|
            ask (decide ((x0 ++ [x2]).length * 56 ≤ roomNat)) <|
            .bnd (topo_Members_T (x0 ++ [x2])) fun y29 =>
            .bnd (topo_Members_T x0) fun y30 =>
            .bnd (r13_Same_T y29 y30) fun y31 =>
            .grd y31 l13_awake_T false fun y32 =>
            .ret (y31 && y32)) (
            ask (decide (x0.length * 56 ≤ roomNat)) <|
            ask (decide ((x0 ++ [x2]).length * 56 ≤ roomNat)) <|
            .bnd (topo_Members_T (x0 ++ [x2])) fun y25 =>
            .bnd (topo_Members_T x0) fun y26 =>
            .bnd (r13_Same_T y25 y26) fun y27 =>
            .grd y27 l13_awake_T false fun y28 =>
            .ret (y27 && y28))) (
          ask (decide (x0.length * 56 ≤ roomNat)) <|
          ask (decide ((x0 ++ [x2]).length * 56 ≤ roomNat)) <|
          .bnd (topo_Members_T (x0 ++ [x2])) fun y21 =>
          .bnd (topo_Members_T x0) fun y22 =>
          .bnd (r13_Same_T y21 y22) fun y23 =>
          .grd y23 l13_awake_T false fun y24 =>
          .ret (y23 && y24)))))

def l13_TopoBack_g : Sig := ⟨5, (.cons (.val false (.list tEntry)) (.cons (.val true tMember) (.cons (.val true tEntry) .nil))), .vals (.val false .bool), fun z => l13_TopoBack_T z.1 z.2.1 z.2.2.1, false⟩

theorem l13_TopoBack_ok : l13_TopoBack_g.ok Tryd.prog := by
  refine Sig.lift mix tabOk nms _ Tryd.func5 (c := (bodyOf Tryd.f5)) (by kernel_rfl) (o := orT [r10_Few_g, r13_Few_g, l13_awake_g, topo_Value_g, topo_Member_g, topo_Members_g, r13_Same_g] [] l13_TopoBack_fz) (orT_sound ⟨r10_Few_ok, ⟨r13_Few_ok, ⟨l13_awake_ok, ⟨topo_Value_ok, ⟨topo_Member_ok, ⟨topo_Members_ok, ⟨r13_Same_ok, trivial⟩⟩⟩⟩⟩⟩⟩) (allLp_of [] (by kernel_rfl) trivial rfl) ?_
  intro z; kernel_rfl

end Go.Eng
