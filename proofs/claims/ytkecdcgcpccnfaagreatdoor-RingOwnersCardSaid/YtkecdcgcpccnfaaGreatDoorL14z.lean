/- Lifted: 64 functions, part 1. -/
import Derived.Test.YtkecdcgcpccnfaaGreatDoorTrG
import Derived.Test.YtkecdcgcpccnfaaGreatDoorTrF
import Derived.Test.YtkecdcgcpccnfaaGreatDoorEngT
import Derived.Test.YtkecdcgcpccnfaaGreatDoorGlp
import Derived.Test.YtkecdcgcpccnfaaGreatDoorShf
import Derived.Test.YtkecdcgcpccnfaaGreatDoorTrL
import Derived.Test.YtkecdcgcpccnfaaGreatDoorTrT
import Derived.Test.YtkecdcgcpccnfaaGreatDoorTrW
namespace Go.Eng
open Go Go.Proofs
set_option maxRecDepth 100000
abbrev Reg : Type := (Int × (Str × Str))
abbrev tReg : Ty := (.pair (.int .i64) (.pair .str .str))

abbrev Entry : Type := (Str × Reg)
abbrev tEntry : Ty := (.pair .str tReg)

abbrev Octet_Reader : Type := (Str × Bool)
abbrev tOctet_Reader : Ty := (.pair .str .bool)

abbrev A64u32 : Type := (Int × (Int × (Int × (Int × (Int × (Int × (Int × (Int × (Int × (Int × (Int × (Int × (Int × (Int × (Int × (Int × (Int × (Int × (Int × (Int × (Int × (Int × (Int × (Int × (Int × (Int × (Int × (Int × (Int × (Int × (Int × (Int × (Int × (Int × (Int × (Int × (Int × (Int × (Int × (Int × (Int × (Int × (Int × (Int × (Int × (Int × (Int × (Int × (Int × (Int × (Int × (Int × (Int × (Int × (Int × (Int × (Int × (Int × (Int × (Int × (Int × (Int × (Int × Int)))))))))))))))))))))))))))))))))))))))))))))))))))))))))))))))
abbrev tA64u32 : Ty := (.pair (.int .u32) (.pair (.int .u32) (.pair (.int .u32) (.pair (.int .u32) (.pair (.int .u32) (.pair (.int .u32) (.pair (.int .u32) (.pair (.int .u32) (.pair (.int .u32) (.pair (.int .u32) (.pair (.int .u32) (.pair (.int .u32) (.pair (.int .u32) (.pair (.int .u32) (.pair (.int .u32) (.pair (.int .u32) (.pair (.int .u32) (.pair (.int .u32) (.pair (.int .u32) (.pair (.int .u32) (.pair (.int .u32) (.pair (.int .u32) (.pair (.int .u32) (.pair (.int .u32) (.pair (.int .u32) (.pair (.int .u32) (.pair (.int .u32) (.pair (.int .u32) (.pair (.int .u32) (.pair (.int .u32) (.pair (.int .u32) (.pair (.int .u32) (.pair (.int .u32) (.pair (.int .u32) (.pair (.int .u32) (.pair (.int .u32) (.pair (.int .u32) (.pair (.int .u32) (.pair (.int .u32) (.pair (.int .u32) (.pair (.int .u32) (.pair (.int .u32) (.pair (.int .u32) (.pair (.int .u32) (.pair (.int .u32) (.pair (.int .u32) (.pair (.int .u32) (.pair (.int .u32) (.pair (.int .u32) (.pair (.int .u32) (.pair (.int .u32) (.pair (.int .u32) (.pair (.int .u32) (.pair (.int .u32) (.pair (.int .u32) (.pair (.int .u32) (.pair (.int .u32) (.pair (.int .u32) (.pair (.int .u32) (.pair (.int .u32) (.pair (.int .u32) (.pair (.int .u32) (.pair (.int .u32) (.int .u32))))))))))))))))))))))))))))))))))))))))))))))))))))))))))))))))

abbrev A64i64 : Type := (Int × (Int × (Int × (Int × (Int × (Int × (Int × (Int × (Int × (Int × (Int × (Int × (Int × (Int × (Int × (Int × (Int × (Int × (Int × (Int × (Int × (Int × (Int × (Int × (Int × (Int × (Int × (Int × (Int × (Int × (Int × (Int × (Int × (Int × (Int × (Int × (Int × (Int × (Int × (Int × (Int × (Int × (Int × (Int × (Int × (Int × (Int × (Int × (Int × (Int × (Int × (Int × (Int × (Int × (Int × (Int × (Int × (Int × (Int × (Int × (Int × (Int × (Int × Int)))))))))))))))))))))))))))))))))))))))))))))))))))))))))))))))
abbrev tA64i64 : Ty := (.pair (.int .i64) (.pair (.int .i64) (.pair (.int .i64) (.pair (.int .i64) (.pair (.int .i64) (.pair (.int .i64) (.pair (.int .i64) (.pair (.int .i64) (.pair (.int .i64) (.pair (.int .i64) (.pair (.int .i64) (.pair (.int .i64) (.pair (.int .i64) (.pair (.int .i64) (.pair (.int .i64) (.pair (.int .i64) (.pair (.int .i64) (.pair (.int .i64) (.pair (.int .i64) (.pair (.int .i64) (.pair (.int .i64) (.pair (.int .i64) (.pair (.int .i64) (.pair (.int .i64) (.pair (.int .i64) (.pair (.int .i64) (.pair (.int .i64) (.pair (.int .i64) (.pair (.int .i64) (.pair (.int .i64) (.pair (.int .i64) (.pair (.int .i64) (.pair (.int .i64) (.pair (.int .i64) (.pair (.int .i64) (.pair (.int .i64) (.pair (.int .i64) (.pair (.int .i64) (.pair (.int .i64) (.pair (.int .i64) (.pair (.int .i64) (.pair (.int .i64) (.pair (.int .i64) (.pair (.int .i64) (.pair (.int .i64) (.pair (.int .i64) (.pair (.int .i64) (.pair (.int .i64) (.pair (.int .i64) (.pair (.int .i64) (.pair (.int .i64) (.pair (.int .i64) (.pair (.int .i64) (.pair (.int .i64) (.pair (.int .i64) (.pair (.int .i64) (.pair (.int .i64) (.pair (.int .i64) (.pair (.int .i64) (.pair (.int .i64) (.pair (.int .i64) (.pair (.int .i64) (.pair (.int .i64) (.int .i64))))))))))))))))))))))))))))))))))))))))))))))))))))))))))))))))

def r09_Few_T (x0 : Reg) : Tree Bool :=
  .ret ((decide ((x0.2.1.length : Int) ≤ 100)) && (decide ((x0.2.2.length : Int) ≤ 300)))

def r09_Few_g : Sig := ⟨12, (.cons (.val true tReg) .nil), .vals (.val false .bool), fun z => r09_Few_T z.1, false⟩

theorem r09_Few_ok : r09_Few_g.ok Tryz.prog := by
  refine Sig.lift mix tabOk nms _ Tryz.func12 (c := (bodyOf Tryz.f12)) (by kernel_rfl) (o := orT [] [] noFz) (orT_sound trivial) (allLp_of [] (by kernel_rfl) trivial rfl) ?_
  intro z; kernel_rfl

def r10_Few_L2_step (l : List Entry) (most : Int) (i : Int) : Tree (Int ⊕ (Bool ⊕ Unit)) :=
  .ite ((decide (i < (l.length : Int))) && (decide (i < most))) (
    ask (inb i l.length) <|
    ask ((!(!(decide ((200 : Int) < ((l.getD i.toNat (dfl tEntry : Entry)).1.length : Int))))) || inb i l.length) <|
    .grd (!(decide ((200 : Int) < ((l.getD i.toNat (dfl tEntry : Entry)).1.length : Int)))) (r09_Few_T (l.getD i.toNat (dfl tEntry : Entry)).2) false fun y1 =>
    .ite ((decide ((200 : Int) < ((l.getD i.toNat (dfl tEntry : Entry)).1.length : Int))) || (!y1)) (
      .ret (.inr (.inl false))) (
      .ret (.inl (w64 (i + 1))))) (
    .ret (.inr (.inr ())))

def r10_Few_L2 : Lp := ⟨2, [], [], (.cons (.val false (.list tEntry)) (.cons (.val false (.int .i64)) (ca (ca2 (.cons (.val false (.int .i64)) (ca (ca2 (ca4 (ca8 (ca16 .nil)))))))))), .nil, 0, .more 0 [] (ca4 (.cons (.val false .bool) (ca32 .nil))) .nil (.one 1 [] (.cons (.val false (.list tEntry)) (.cons (.val false (.int .i64)) (ca (ca2 (ca32 .nil))))) .nil), fun z => .bnd (.loop (fun v => r10_Few_L2_step z.1.1 z.1.2.1 v) z.1.2.2.2.2.2.1) fun r => .sum r (fun a0 => .ret (.inl ((cu4 (a0, (cu32 ()))), ()))) (fun b0 => .ret (.inr ((z.1.1, (z.1.2.1, (cu (cu2 (cu32 ()))))), ())))⟩

theorem r10_Few_L2_ok : r10_Few_L2.ok Tryz.prog (nthC (loopsOf (bodyOf Tryz.f4)) 0) := by
  refine Lp.lift (π := ((List Entry) × Int)) (V := Int) (ρ := (Bool ⊕ Unit)) mix tabOk r10_Few_L2 (o := orT [r09_Few_g] [] noFz) (orT_sound ⟨r09_Few_ok, trivial⟩) (allLp_of [] (by kernel_rfl) trivial rfl) (fun x v => ((x.1, (x.2, (cu (cu2 (v, (cu (cu2 (cu4 (cu8 (cu16 ())))))))))), ())) (fun x r => match r with | .inl a0 => .inl ((cu4 (a0, (cu32 ()))), ()) | .inr b0 => (.inr ((x.1, (x.2, (cu (cu2 (cu32 ()))))), ()))) (fun x v => r10_Few_L2_step x.1 x.2 v) (fun x r => .sum r (fun a0 => .ret (.inl ((cu4 (a0, (cu32 ()))), ()))) (fun b0 => .ret (.inr ((x.1, (x.2, (cu (cu2 (cu32 ()))))), ())))) (fun z => (z.1.1, z.1.2.1)) (fun z => z.1.2.2.2.2.2.1) (fun _ => rfl) (fun _ => rfl) (fun x r Q h => match r, h with | .inl _, h => h | .inr b0, h => (h)) ?_
  intro x v; kernel_rfl

def r10_Few_T (x0 : List Entry) (x1 : Int) : Tree Bool :=
  .bnd (.loop (fun v => r10_Few_L2_step x0 x1 v) 0) fun r1 =>
  .sum r1 (fun r2 =>
    .ret r2) (fun r3 =>
    .ret (decide ((x0.length : Int) ≤ x1)))

def r10_Few_g : Sig := ⟨4, (.cons (.val false (.list tEntry)) (.cons (.val false (.int .i64)) .nil)), .vals (.val false .bool), fun z => r10_Few_T z.1 z.2.1, false⟩

theorem r10_Few_ok : r10_Few_g.ok Tryz.prog := by
  refine Sig.lift mix tabOk nms _ Tryz.func4 (c := (bodyOf Tryz.f4)) (by kernel_rfl) (o := orT [r09_Few_g] [r10_Few_L2] noFz) (orT_sound ⟨r09_Few_ok, trivial⟩) (allLp_of [nthC (loopsOf (bodyOf Tryz.f4)) 0] (by kernel_rfl) ⟨r10_Few_L2_ok, trivial⟩ (by kernel_rfl)) ?_
  intro z; kernel_rfl

def name_isLetter_T (x0 : Int) : Tree Bool :=
  .ret ((((decide ((97 : Int) ≤ x0)) && (decide (x0 ≤ 122))) || ((decide ((48 : Int) ≤ x0)) && (decide (x0 ≤ 57)))) || (decide (x0 = 45)))

def name_isLetter_g : Sig := ⟨33, (.cons (.val false (.int .i32)) .nil), .vals (.val false .bool), fun z => name_isLetter_T z.1, false⟩

theorem name_isLetter_ok : name_isLetter_g.ok Tryz.prog := by
  refine Sig.lift mix tabOk nms _ Tryz.func33 (c := (bodyOf Tryz.f33)) (by kernel_rfl) (o := orT [] [] noFz) (orT_sound trivial) (allLp_of [] (by kernel_rfl) trivial rfl) ?_
  intro z; kernel_rfl

def name_Is_L4_step (str : Str) (pos : Nat) : Tree (Nat ⊕ (Bool ⊕ Unit)) :=
  .ite (decide ((pos : Int) < (str.length : Int))) (
    ask (decide ((pos : Int) < (str.length : Int))) <|
    .bnd (name_isLetter_T (std.rune str pos)) fun y1 =>
    .ite (!y1) (
      .ret (.inr (.inl false))) (
      .ret (.inl (std.npos str pos)))) (
    .ret (.inr (.inr ())))

def name_Is_L4 : Lp := ⟨4, [], [], (ca (ca4 (ca8 (.cons (.ref 0 0) (ca2 (ca4 .nil)))))), (.siter .nil), 0, .more 0 [] (ca2 (.cons (.val false .bool) (ca (ca16 .nil)))) .nil (.one 1 [] (ca4 (ca16 .nil)) .nil), fun z => .bnd (.loop (fun v => name_Is_L4_step z.2.1.1 v) z.2.1.2) fun r => .sum r (fun a0 => .ret (.inl ((cu2 (a0, (cu (cu16 ())))), ()))) (fun b0 => .ret (.inr ((cu4 (cu16 ())), ())))⟩

theorem name_Is_L4_ok : name_Is_L4.ok Tryz.prog (nthC (loopsOf (bodyOf Tryz.f18)) 0) := by
  refine Lp.lift (π := Str) (V := Nat) (ρ := (Bool ⊕ Unit)) mix tabOk name_Is_L4 (o := orT [name_isLetter_g] [] noFz) (orT_sound ⟨name_isLetter_ok, trivial⟩) (allLp_of [] (by kernel_rfl) trivial rfl) (fun x v => ((cu (cu4 (cu8 ((), (cu2 (cu4 ())))))), ((x, v), ()))) (fun x r => match r with | .inl a0 => .inl ((cu2 (a0, (cu (cu16 ())))), ()) | .inr b0 => (.inr ((cu4 (cu16 ())), ()))) (fun x v => name_Is_L4_step x v) (fun x r => .sum r (fun a0 => .ret (.inl ((cu2 (a0, (cu (cu16 ())))), ()))) (fun b0 => .ret (.inr ((cu4 (cu16 ())), ())))) (fun z => z.2.1.1) (fun z => z.2.1.2) (fun _ => rfl) (fun _ => rfl) (fun x r Q h => match r, h with | .inl _, h => h | .inr b0, h => (h)) ?_
  intro x v; kernel_rfl

def name_Is_T (x0 : Str) : Tree Bool :=
  .ite ((x0 == ([] : Str)) || (decide ((16 : Int) < (x0.length : Int)))) (
    .ret false) (
    .bnd (.loop (fun v => name_Is_L4_step x0 v) 0) fun r1 =>
    .sum r1 (fun r2 =>
      .ret r2) (fun r3 =>
      .ret true))

def name_Is_g : Sig := ⟨18, (.cons (.val false .str) .nil), .vals (.val false .bool), fun z => name_Is_T z.1, false⟩

theorem name_Is_ok : name_Is_g.ok Tryz.prog := by
  refine Sig.lift mix tabOk nms _ Tryz.func18 (c := (bodyOf Tryz.f18)) (by kernel_rfl) (o := orT [name_isLetter_g] [name_Is_L4] noFz) (orT_sound ⟨name_isLetter_ok, trivial⟩) (allLp_of [nthC (loopsOf (bodyOf Tryz.f18)) 0] (by kernel_rfl) ⟨name_Is_L4_ok, trivial⟩ (by kernel_rfl)) ?_
  intro z; kernel_rfl

def strconv_Itoa_T (x0 : Int) : Tree Str :=
  .ret (decS x0)

def strconv_Itoa_g : Sig := ⟨39, (.cons (.val false (.int .i64)) .nil), .vals (.val false .str), fun z => strconv_Itoa_T z.1, ([] : Str)⟩

theorem strconv_Itoa_ok : strconv_Itoa_g.ok Tryz.prog :=
  strconv_Itoa_sig (enters_of Tryz.func39 (by kernel_rfl) rfl) (fun n w h0 h1 hg => Tryz.strconv_Itoa n h0 h1 w (gl_pow10 hg))

def name_Dec_T (x0 : Int) : Tree Str :=
  .bnd (strconv_Itoa_T x0) fun y1 =>
  .ret y1

def name_Dec_g : Sig := ⟨26, (.cons (.val false (.int .i64)) .nil), .vals (.val false .str), fun z => name_Dec_T z.1, ([] : Str)⟩

theorem name_Dec_ok : name_Dec_g.ok Tryz.prog := by
  refine Sig.lift mix tabOk nms _ Tryz.func26 (c := (bodyOf Tryz.f26)) (by kernel_rfl) (o := orT [strconv_Itoa_g] [] noFz) (orT_sound ⟨strconv_Itoa_ok, trivial⟩) (allLp_of [] (by kernel_rfl) trivial rfl) ?_
  intro z; kernel_rfl

def strings_Join_T (x0 : List Str) (x1 : Str) : Tree Str :=
  joinT x0 x1

def strings_Join_g : Sig := ⟨38, (.cons (.val false (.list .str)) (.cons (.val false .str) .nil)), .vals (.val false .str), fun z => strings_Join_T z.1 z.2.1, ([] : Str)⟩

theorem strings_Join_ok : strings_Join_g.ok Tryz.prog :=
  strings_Join_sig (enters_of Tryz.func38 (by kernel_rfl) rfl) (fun a c sep w => Tryz.strings_Join_none a c sep w) (fun bk o c xs sep w h1 h2 h3 h4 h5 => Tryz.strings_Join bk o c xs sep w h1 h2 h3 h4 h5)

def name_Path_T (x0 : List Str) : Tree Str :=
  .bnd (strings_Join_T x0 ([47] : Str)) fun y1 =>
  .ret y1

def name_Path_g : Sig := ⟨25, (.cons (.val false (.list .str)) .nil), .vals (.val false .str), fun z => name_Path_T z.1, ([] : Str)⟩

theorem name_Path_ok : name_Path_g.ok Tryz.prog := by
  refine Sig.lift mix tabOk nms _ Tryz.func25 (c := (bodyOf Tryz.f25)) (by kernel_rfl) (o := orT [strings_Join_g] [] noFz) (orT_sound ⟨strings_Join_ok, trivial⟩) (allLp_of [] (by kernel_rfl) trivial rfl) ?_
  intro z; kernel_rfl

def ring_Key_T (x0 : Int) : Tree Str :=
  .bnd (name_Dec_T x0) fun y1 =>
  .bnd (name_Path_T [([114, 105, 110, 103] : Str), y1]) fun y2 =>
  .ret y2

def ring_Key_g : Sig := ⟨13, (.cons (.val false (.int .i64)) .nil), .vals (.val false .str), fun z => ring_Key_T z.1, ([] : Str)⟩

theorem ring_Key_ok : ring_Key_g.ok Tryz.prog := by
  refine Sig.lift mix tabOk nms _ Tryz.func13 (c := (bodyOf Tryz.f13)) (by kernel_rfl) (o := orT [name_Dec_g, name_Path_g] [] noFz) (orT_sound ⟨name_Dec_ok, ⟨name_Path_ok, trivial⟩⟩) (allLp_of [] (by kernel_rfl) trivial rfl) ?_
  intro z; kernel_rfl

def slices_SortFunc_Entry_ring_Entries_1_T (x0 : List Entry) : Tree (Unit × (List Entry × Unit)) :=
  ask (decide (x0.length < 4611686018427387904)) <|
  ask (apartB (x0.map (fun z : Entry => z.1))) <|
  .ret ((), (srtK (fun z : Entry => z.1) x0, ()))

def slices_SortFunc_Entry_ring_Entries_1_g : MSig := ⟨22, (.cons (.own 0) (.cons (.fn 23 .nil .nil) .nil)), (.rows 34 tEntry .nil), [], .nil, (.rows 34 tEntry .nil), none, fun z => slices_SortFunc_Entry_ring_Entries_1_T z.2.1⟩

theorem slices_SortFunc_Entry_ring_Entries_1_cmp (x y : El tEntry) (W : World) : Calls Tryz.prog 23 #[.agg (encV tEntry x).toArray, .agg (encV tEntry y).toArray] W fun e w' => e = .returned (.int .i64 (Lib.compareBytes ((fun z : Entry => z.1) x) ((fun z : Entry => z.1) y))) ∧ ∃ q os', w' = Go.Sort.grow (W.drewN q) os' := by
  obtain ⟨x1, ⟨x2, ⟨x3, x4⟩⟩⟩ := x
  obtain ⟨y1, ⟨y2, ⟨y3, y4⟩⟩⟩ := y
  have hcon := fun W' => Tryz.strings_Compare (bytes x1) (bytes y1) W'
  have e1 : (bytes x1).data.toList = x1 := rfl
  have e2 : (bytes y1).data.toList = y1 := rfl
  rw [e1, e2] at hcon
  show Calls Tryz.prog 23 #[.agg #[.string (bytes x1), .int .i64 x2, .string (bytes x3), .string (bytes x4)], .agg #[.string (bytes y1), .int .i64 y2, .string (bytes y3), .string (bytes y4)]] W fun e w' => e = .returned (.int .i64 (Lib.compareBytes x1 y1)) ∧ ∃ q os', w' = Go.Sort.grow (W.drewN q) os'
  generalize Lib.compareBytes x1 y1 = r at hcon ⊢
  go_enter Tryz.func23, Tryz.ntmps23
  go_wp2_with (go_at_call 24; refine (hcon _).mono ?_; rintro e w' ⟨rfl, rfl⟩)
  go_ret
  exact ⟨rfl, 0, _, by rw [Go.Sort.alloc_eq_grow, Go.Sort.alloc_eq_grow, Go.Sort.grow_grow]; rfl⟩

theorem slices_SortFunc_Entry_ring_Entries_1_ok : slices_SortFunc_Entry_ring_Entries_1_g.ok Tryz.prog :=
  sortf_scalls (P := Tryz.prog) (f := 22) (g := 23) (t := tEntry) (e := 34) (k := 4) (by decide) rfl (by decide) _ (fun b cap d w h1 h2 h3 h4 h5 => sortF_call Tryz.sortslicesSortFuncEntryringEntries1 (by intro w; kernel_rfl) (by intro w; kernel_rfl) (by decide) rfl _ 23 (enters_of Tryz.func23 (by kernel_rfl) rfl) slices_SortFunc_Entry_ring_Entries_1_cmp b cap d w h1 h2 h3 h4 h5) (fun p cap fv w => AnyF.slices_SortFunc_none { Tryz.sortslicesSortFuncEntryringEntries1 with } p cap fv w) (fun args w => enters_of Tryz.func22 (by kernel_rfl) rfl args w)

def ring_Entries_L5_step (t : List Str) (t2 : Int) (t3 : Int) (out : List Entry) : Tree ((Int × (List Entry)) ⊕ (List Entry)) :=
  .ite (decide (t3 < t2)) (
    ask (inb t3 t.length) <|
    .bnd (name_Is_T (t.getD t3.toNat ([] : Str))) fun y1 =>
    .ite y1 (
      .bnd (ring_Key_T t3) fun y2 =>
      ask (decide ((out ++ [(y2, (1, ([], (t.getD t3.toNat ([] : Str)))))]).length * 56 ≤ roomNat)) <|
      .ret (.inl ((w64 (t3 + 1)), (out ++ [(y2, (1, ([], (t.getD t3.toNat ([] : Str)))))])))) (
      .ret (.inl ((w64 (t3 + 1)), out)))) (
    .ret (.inr out))

def ring_Entries_L5 : Lp := ⟨5, [.own 3 34 tEntry], [], (ca (ca2 (.cons (.own 0) (ca (ca4 (.cons (.val false (.list .str)) (.cons (.val false (.int .i64)) (.cons (.val false (.int .i64)) (ca2 (ca16 .nil)))))))))), (.rows 34 tEntry .nil), 0, .one 1 [] (ca (ca2 (.cons (.own 0) (ca2 (ca8 (ca16 .nil)))))) (.rows 34 tEntry .nil), fun z => .bnd (.loop (fun v => ring_Entries_L5_step z.1.2.2.2.2.2.2.2.2.2.1 z.1.2.2.2.2.2.2.2.2.2.2.1 v.1 v.2) (z.1.2.2.2.2.2.2.2.2.2.2.2.1, z.2.1)) fun r => .ret ((cu (cu2 ((), (cu2 (cu8 (cu16 ())))))), (r, ()))⟩

theorem ring_Entries_L5_ok : ring_Entries_L5.ok Tryz.prog (nthC (loopsOf (bodyOf Tryz.f10)) 0) := by
  refine Lp.lift (π := ((List Str) × Int)) (V := (Int × (List Entry))) (ρ := List Entry) mix tabOk ring_Entries_L5 (o := orM [name_Is_g, ring_Key_g] [slices_SortFunc_Entry_ring_Entries_1_g] [] noFz) (orM_sound ⟨name_Is_ok, ⟨ring_Key_ok, trivial⟩⟩ ⟨slices_SortFunc_Entry_ring_Entries_1_ok, trivial⟩) (allLp_ofM [] (by kernel_rfl) trivial rfl) (fun x v => ((cu (cu2 ((), (cu (cu4 (x.1, (x.2, (v.1, (cu2 (cu16 ())))))))))), (v.2, ()))) (fun x r => ((cu (cu2 ((), (cu2 (cu8 (cu16 ())))))), (r, ()))) (fun x v => ring_Entries_L5_step x.1 x.2 v.1 v.2) (fun x r => .ret ((cu (cu2 ((), (cu2 (cu8 (cu16 ())))))), (r, ()))) (fun z => (z.1.2.2.2.2.2.2.2.2.2.1, z.1.2.2.2.2.2.2.2.2.2.2.1)) (fun z => (z.1.2.2.2.2.2.2.2.2.2.2.2.1, z.2.1)) (fun _ => rfl) (fun _ => rfl) (fun _ _ _ h => h) ?_
  intro x v; kernel_rfl

def ring_Entries_T (x0 : List Str) : Tree (List Entry) :=
  .ite (decide ((4096 : Int) < (x0.length : Int))) (
    .ret []) (
    .bnd (.loop (fun v => ring_Entries_L5_step x0 (x0.length : Int) v.1 v.2) (0, ([] : List Entry))) fun r1 =>
    .bnd (slices_SortFunc_Entry_ring_Entries_1_T r1) fun y2 =>
    .ret y2.2.1)

def ring_Entries_g : Sig := ⟨10, (.cons (.val false (.list .str)) .nil), .fresh 34 tEntry, fun z => ring_Entries_T z.1, ([] : List Entry)⟩

theorem ring_Entries_ok : ring_Entries_g.ok Tryz.prog := by
  refine Sig.lift mix tabOk nms _ Tryz.func10 (c := (bodyOf Tryz.f10)) (by kernel_rfl) (o := orM [name_Is_g, ring_Key_g] [slices_SortFunc_Entry_ring_Entries_1_g] [ring_Entries_L5] noFz) (orM_sound ⟨name_Is_ok, ⟨ring_Key_ok, trivial⟩⟩ ⟨slices_SortFunc_Entry_ring_Entries_1_ok, trivial⟩) (allLp_ofM [nthC (loopsOf (bodyOf Tryz.f10)) 0] (by kernel_rfl) ⟨ring_Entries_L5_ok, trivial⟩ (by kernel_rfl)) ?_
  intro z; kernel_rfl

def ring_Entries_gv : Sig := ⟨10, (.cons (.val false (.list .str)) .nil), .vals (.val false (.list tEntry)), fun z => ring_Entries_T z.1, ([] : List Entry)⟩

theorem ring_Entries_okv : ring_Entries_gv.ok Tryz.prog := fun x y h => acalls_val (ring_Entries_ok x y h)

def ring_may_T (x0 : Int) : Tree Bool :=
  .ret ((decide ((1 : Int) ≤ x0)) && (decide (x0 ≤ 4096)))

def ring_may_g : Sig := ⟨16, (.cons (.val false (.int .i64)) .nil), .vals (.val false .bool), fun z => ring_may_T z.1, false⟩

theorem ring_may_ok : ring_may_g.ok Tryz.prog := by
  refine Sig.lift mix tabOk nms _ Tryz.func16 (c := (bodyOf Tryz.f16)) (by kernel_rfl) (o := orT [] [] noFz) (orT_sound trivial) (allLp_of [] (by kernel_rfl) trivial rfl) ?_
  intro z; kernel_rfl

def registry_Get_1_T (x0 : Entry) (x1 : Str) : Tree Bool :=
  .ret (x0.1 == x1)

def registry_Get_1_g : Sig := ⟨32, (.cons (.val true tEntry) (.cons (.ptr .str) .nil)), .vals (.val false .bool), fun z => registry_Get_1_T z.1 z.2.1, false⟩

theorem registry_Get_1_ok : registry_Get_1_g.ok Tryz.prog := by
  refine Sig.lift mix tabOk nms _ Tryz.func32 (c := (bodyOf Tryz.f32)) (by kernel_rfl) (o := orT [] [] noFz) (orT_sound trivial) (allLp_of [] (by kernel_rfl) trivial rfl) ?_
  intro z; kernel_rfl

def slices_IndexFunc_Entry_registry_Get_1_L2_step (s_ : List Entry) (f : Str) (t : Int) (t2 : Int) : Tree (Int ⊕ (Int ⊕ Unit)) :=
  .ite (decide (t2 < t)) (
    ask (inb t2 s_.length) <|
    .bnd (registry_Get_1_T (s_.getD t2.toNat (dfl tEntry : Entry)) f) fun y1 =>
    .ite y1 (
      .ret (.inr (.inl t2))) (
      .ret (.inl (w64 (t2 + 1))))) (
    .ret (.inr (.inr ())))

def slices_IndexFunc_Entry_registry_Get_1_L2 : Lp := ⟨2, [], [], (.cons (.val false (.list tEntry)) (.cons (.fn 32 .nil (.cons (.ptr .str) .nil)) (ca (ca4 (.cons (.val false (.int .i64)) (.cons (.val false (.int .i64)) (ca2 (ca8 .nil)))))))), .nil, 0, .more 0 [] (ca4 (.cons (.val false (.int .i64)) (ca2 (ca4 (ca8 .nil))))) .nil (.one 1 [] (ca (ca2 (ca16 .nil))) .nil), fun z => .bnd (.loop (fun v => slices_IndexFunc_Entry_registry_Get_1_L2_step z.1.1 z.1.2.1.2.1 z.1.2.2.2.2.2.2.2.1 v) z.1.2.2.2.2.2.2.2.2.1) fun r => .sum r (fun a0 => .ret (.inl ((cu4 (a0, (cu2 (cu4 (cu8 ()))))), ()))) (fun b0 => .ret (.inr ((cu (cu2 (cu16 ()))), ())))⟩

theorem slices_IndexFunc_Entry_registry_Get_1_L2_ok : slices_IndexFunc_Entry_registry_Get_1_L2.ok Tryz.prog (nthC (loopsOf (bodyOf Tryz.f31)) 0) := by
  refine Lp.lift (π := ((List Entry) × Str × Int)) (V := Int) (ρ := (Int ⊕ Unit)) mix tabOk slices_IndexFunc_Entry_registry_Get_1_L2 (o := orT [registry_Get_1_g] [] noFz) (orT_sound ⟨registry_Get_1_ok, trivial⟩) (allLp_of [] (by kernel_rfl) trivial rfl) (fun x v => ((x.1, (((), (x.2.1, ())), (cu (cu4 (x.2.2, (v, (cu2 (cu8 ())))))))), ())) (fun x r => match r with | .inl a0 => .inl ((cu4 (a0, (cu2 (cu4 (cu8 ()))))), ()) | .inr b0 => (.inr ((cu (cu2 (cu16 ()))), ()))) (fun x v => slices_IndexFunc_Entry_registry_Get_1_L2_step x.1 x.2.1 x.2.2 v) (fun x r => .sum r (fun a0 => .ret (.inl ((cu4 (a0, (cu2 (cu4 (cu8 ()))))), ()))) (fun b0 => .ret (.inr ((cu (cu2 (cu16 ()))), ())))) (fun z => (z.1.1, z.1.2.1.2.1, z.1.2.2.2.2.2.2.2.1)) (fun z => z.1.2.2.2.2.2.2.2.2.1) (fun _ => rfl) (fun _ => rfl) (fun x r Q h => match r, h with | .inl _, h => h | .inr b0, h => (h)) ?_
  intro x v; kernel_rfl

def slices_IndexFunc_Entry_registry_Get_1_T (x0 : List Entry) (x1 : Str) : Tree Int :=
  .bnd (.loop (fun v => slices_IndexFunc_Entry_registry_Get_1_L2_step x0 x1 (x0.length : Int) v) 0) fun r1 =>
  .sum r1 (fun r2 =>
    .ret r2) (fun r3 =>
    .ret (-1))

def slices_IndexFunc_Entry_registry_Get_1_g : Sig := ⟨31, (.cons (.val false (.list tEntry)) (.cons (.fn 32 .nil (.cons (.ptr .str) .nil)) .nil)), .vals (.val false (.int .i64)), fun z => slices_IndexFunc_Entry_registry_Get_1_T z.1 z.2.1.2.1, (0 : Int)⟩

theorem slices_IndexFunc_Entry_registry_Get_1_ok : slices_IndexFunc_Entry_registry_Get_1_g.ok Tryz.prog := by
  refine Sig.lift mix tabOk nms _ Tryz.func31 (c := (bodyOf Tryz.f31)) (by kernel_rfl) (o := orT [registry_Get_1_g] [slices_IndexFunc_Entry_registry_Get_1_L2] noFz) (orT_sound ⟨registry_Get_1_ok, trivial⟩) (allLp_of [nthC (loopsOf (bodyOf Tryz.f31)) 0] (by kernel_rfl) ⟨slices_IndexFunc_Entry_registry_Get_1_L2_ok, trivial⟩ (by kernel_rfl)) ?_
  intro z; kernel_rfl

def registry_Get_T (x0 : List Entry) (x1 : Str) : Tree Reg :=
  .bnd (slices_IndexFunc_Entry_registry_Get_1_T x0 x1) fun y1 =>
  .ite (decide (y1 < 0)) (
    .ret (0, ([], []))) (
    ask (inb y1 x0.length) <|
    .ret (x0.getD y1.toNat (dfl tEntry : Entry)).2)

def registry_Get_g : Sig := ⟨17, (.cons (.val false (.list tEntry)) (.cons (.val false .str) .nil)), .vals (.val true tReg), fun z => registry_Get_T z.1 z.2.1, (dfl tReg : Reg)⟩

theorem registry_Get_ok : registry_Get_g.ok Tryz.prog := by
  refine Sig.lift mix tabOk nms _ Tryz.func17 (c := (bodyOf Tryz.f17)) (by kernel_rfl) (o := orT [slices_IndexFunc_Entry_registry_Get_1_g] [] noFz) (orT_sound ⟨slices_IndexFunc_Entry_registry_Get_1_ok, trivial⟩) (allLp_of [] (by kernel_rfl) trivial rfl) ?_
  intro z; kernel_rfl

def ring_Owners_L5_step (l : List Entry) (t : Int) (t2 : Int) (out : List Str) : Tree ((Int × (List Str)) ⊕ (List Str)) :=
  .ite (decide (t2 < t)) (
    .bnd (ring_Key_T t2) fun y1 =>
    .bnd (registry_Get_T l y1) fun y2 =>
    .bnd (name_Is_T y2.2.2) fun y3 =>
    .ite y3 (
      ask (inb t2 out.length) <|
      .ret (.inl ((w64 (t2 + 1)), (out.set t2.toNat y2.2.2)))) (
      .ret (.inl ((w64 (t2 + 1)), out)))) (
    .ret (.inr out))

def ring_Owners_L5 : Lp := ⟨5, [], [], (.cons (.val false (.list tEntry)) (ca4 (.cons (.own 0) (ca8 (.cons (.val false (.int .i64)) (.cons (.val false (.int .i64)) (ca (ca2 (ca4 (ca8 .nil)))))))))), (.rows 9 .str .nil), 0, .one 1 [] (ca (ca4 (.cons (.own 0) (ca (ca8 (ca16 .nil)))))) (.rows 9 .str .nil), fun z => .bnd (.loop (fun v => ring_Owners_L5_step z.1.1 z.1.2.2.2.2.2.2.2.2.2.2.2.2.2.2.1 v.1 v.2) (z.1.2.2.2.2.2.2.2.2.2.2.2.2.2.2.2.1, z.2.1)) fun r => .ret ((cu (cu4 ((), (cu (cu8 (cu16 ())))))), (r, ()))⟩

theorem ring_Owners_L5_ok : ring_Owners_L5.ok Tryz.prog (nthC (loopsOf (bodyOf Tryz.f7)) 0) := by
  refine Lp.lift (π := ((List Entry) × Int)) (V := (Int × (List Str))) (ρ := List Str) mix tabOk ring_Owners_L5 (o := orT [ring_may_g, ring_Key_g, registry_Get_g, name_Is_g] [] noFz) (orT_sound ⟨ring_may_ok, ⟨ring_Key_ok, ⟨registry_Get_ok, ⟨name_Is_ok, trivial⟩⟩⟩⟩) (allLp_of [] (by kernel_rfl) trivial rfl) (fun x v => ((x.1, (cu4 ((), (cu8 (x.2, (v.1, (cu (cu2 (cu4 (cu8 ())))))))))), (v.2, ()))) (fun x r => ((cu (cu4 ((), (cu (cu8 (cu16 ())))))), (r, ()))) (fun x v => ring_Owners_L5_step x.1 x.2 v.1 v.2) (fun x r => .ret ((cu (cu4 ((), (cu (cu8 (cu16 ())))))), (r, ()))) (fun z => (z.1.1, z.1.2.2.2.2.2.2.2.2.2.2.2.2.2.2.1)) (fun z => (z.1.2.2.2.2.2.2.2.2.2.2.2.2.2.2.2.1, z.2.1)) (fun _ => rfl) (fun _ => rfl) (fun _ _ _ h => h) ?_
  intro x v; kernel_rfl

def ring_Owners_T (x0 : List Entry) (x1 : Int) : Tree (List Str) :=
  .bnd (ring_may_T x1) fun y1 =>
  .ite (!y1) (
    .ret []) (
    ask (decide ((0 : Int) ≤ x1)) <|
    ask (decide (x1 ≤ x1)) <|
    ask (decide (x1.toNat * 16 ≤ roomNat)) <|
    .bnd (.loop (fun v => ring_Owners_L5_step x0 ((List.replicate x1.toNat ([] : Str)).length : Int) v.1 v.2) (0, (List.replicate x1.toNat ([] : Str)))) fun r2 =>
    .ret r2)

def ring_Owners_g : Sig := ⟨7, (.cons (.val false (.list tEntry)) (.cons (.val false (.int .i64)) .nil)), .fresh 9 .str, fun z => ring_Owners_T z.1 z.2.1, ([] : List Str)⟩

theorem ring_Owners_ok : ring_Owners_g.ok Tryz.prog := by
  refine Sig.lift mix tabOk nms _ Tryz.func7 (c := (bodyOf Tryz.f7)) (by kernel_rfl) (o := orT [ring_may_g, ring_Key_g, registry_Get_g, name_Is_g] [ring_Owners_L5] noFz) (orT_sound ⟨ring_may_ok, ⟨ring_Key_ok, ⟨registry_Get_ok, ⟨name_Is_ok, trivial⟩⟩⟩⟩) (allLp_of [nthC (loopsOf (bodyOf Tryz.f7)) 0] (by kernel_rfl) ⟨ring_Owners_L5_ok, trivial⟩ (by kernel_rfl)) ?_
  intro z; kernel_rfl

def ring_Owners_gv : Sig := ⟨7, (.cons (.val false (.list tEntry)) (.cons (.val false (.int .i64)) .nil)), .vals (.val false (.list .str)), fun z => ring_Owners_T z.1 z.2.1, ([] : List Str)⟩

theorem ring_Owners_okv : ring_Owners_gv.ok Tryz.prog := fun x y h => acalls_val (ring_Owners_ok x y h)

def r01_SameTexts_L4_step (a : List Str) (b : List Str) (i : Int) : Tree (Int ⊕ (Bool ⊕ Unit)) :=
  .ite ((decide (i < (a.length : Int))) && (decide (i < (b.length : Int)))) (
    ask (inb i a.length) <|
    ask (inb i b.length) <|
    .ite (!((a.getD i.toNat ([] : Str)) == (b.getD i.toNat ([] : Str)))) (
      .ret (.inr (.inl false))) (
      .ret (.inl (w64 (i + 1))))) (
    .ret (.inr (.inr ())))

def r01_SameTexts_L4 : Lp := ⟨4, [], [], (.cons (.val false (.list .str)) (.cons (.val false (.list .str)) (ca (ca2 (.cons (.val false (.int .i64)) (ca2 (ca8 (ca16 .nil)))))))), .nil, 0, .more 0 [] (ca4 (.cons (.val false .bool) (ca (ca2 (ca8 (ca16 .nil)))))) .nil (.one 1 [] (ca32 .nil) .nil), fun z => .bnd (.loop (fun v => r01_SameTexts_L4_step z.1.1 z.1.2.1 v) z.1.2.2.2.2.2.1) fun r => .sum r (fun a0 => .ret (.inl ((cu4 (a0, (cu (cu2 (cu8 (cu16 ())))))), ()))) (fun b0 => .ret (.inr ((cu32 ()), ())))⟩

theorem r01_SameTexts_L4_ok : r01_SameTexts_L4.ok Tryz.prog (nthC (loopsOf (bodyOf Tryz.f6)) 0) := by
  refine Lp.lift (π := ((List Str) × (List Str))) (V := Int) (ρ := (Bool ⊕ Unit)) mix tabOk r01_SameTexts_L4 (o := orT [] [] noFz) (orT_sound trivial) (allLp_of [] (by kernel_rfl) trivial rfl) (fun x v => ((x.1, (x.2, (cu (cu2 (v, (cu2 (cu8 (cu16 ())))))))), ())) (fun x r => match r with | .inl a0 => .inl ((cu4 (a0, (cu (cu2 (cu8 (cu16 ())))))), ()) | .inr b0 => (.inr ((cu32 ()), ()))) (fun x v => r01_SameTexts_L4_step x.1 x.2 v) (fun x r => .sum r (fun a0 => .ret (.inl ((cu4 (a0, (cu (cu2 (cu8 (cu16 ())))))), ()))) (fun b0 => .ret (.inr ((cu32 ()), ())))) (fun z => (z.1.1, z.1.2.1)) (fun z => z.1.2.2.2.2.2.1) (fun _ => rfl) (fun _ => rfl) (fun x r Q h => match r, h with | .inl _, h => h | .inr b0, h => (h)) ?_
  intro x v; kernel_rfl

def r01_SameTexts_T (x0 : List Str) (x1 : List Str) : Tree Bool :=
  .ite (!decide ((x0.length : Int) = (x1.length : Int))) (
    .ret false) (
    .bnd (.loop (fun v => r01_SameTexts_L4_step x0 x1 v) 0) fun r1 =>
    .sum r1 (fun r2 =>
      .ret r2) (fun r3 =>
      .ret true))

def r01_SameTexts_g : Sig := ⟨6, (.cons (.val false (.list .str)) (.cons (.val false (.list .str)) .nil)), .vals (.val false .bool), fun z => r01_SameTexts_T z.1 z.2.1, false⟩

theorem r01_SameTexts_ok : r01_SameTexts_g.ok Tryz.prog := by
  refine Sig.lift mix tabOk nms _ Tryz.func6 (c := (bodyOf Tryz.f6)) (by kernel_rfl) (o := orT [] [r01_SameTexts_L4] noFz) (orT_sound trivial) (allLp_of [nthC (loopsOf (bodyOf Tryz.f6)) 0] (by kernel_rfl) ⟨r01_SameTexts_L4_ok, trivial⟩ (by kernel_rfl)) ?_
  intro z; kernel_rfl

def strings_Builder_copyCheck_T (x0 : List Int) : Tree (Unit × ((Unit × (Unit × Unit)) × ((List Int) × Unit))) :=
  .ret ((), (((), ((), ())), (x0, ())))

def strings_Builder_copyCheck_g : MSig := ⟨76, (.cons (.ref 0 0) .nil), (.cells 64 (.cons (.selfp 0) (.cons (.own 1) .nil)) (.rows 5 (.int .u8) .nil)), [], .nil, (.cells 64 (.cons (.selfp 0) (.cons (.own 1) .nil)) (.rows 5 (.int .u8) .nil)), none, fun z => strings_Builder_copyCheck_T z.2.2.1⟩

theorem strings_Builder_copyCheck_ok : strings_Builder_copyCheck_g.ok Tryz.prog := copyCheck_msig 64 (by kernel_rfl)

def strings_Builder_WriteByte_T (x0 : Int) (x1 : List Int) : Tree (Unit × ((Unit × (Unit × Unit)) × ((List Int) × Unit))) :=
  .bnd (strings_Builder_copyCheck_T x1) fun y1 =>
  ask (decide ((y1.2.2.1 ++ [x0]).length * 1 ≤ roomNat)) <|
  .ret ((), (((), ((), ())), ((y1.2.2.1 ++ [x0]), ())))

def strings_Builder_WriteByte_g : MSig := ⟨95, (.cons (.ref 0 0) (.cons (.val false (.int .u8)) .nil)), (.cells 64 (.cons (.selfp 0) (.cons (.own 1) .nil)) (.rows 5 (.int .u8) .nil)), [], .any, (.cells 64 (.cons (.selfp 0) (.cons (.own 1) .nil)) (.rows 5 (.int .u8) .nil)), some 1, fun z => strings_Builder_WriteByte_T z.1.2.1 z.2.2.1⟩

theorem strings_Builder_WriteByte_ok : strings_Builder_WriteByte_g.ok Tryz.prog := by
  refine MSig.lift mix tabOk nms _ Tryz.func95 (c := (bodyOf Tryz.f95)) (by kernel_rfl) (o := orM [] [strings_Builder_copyCheck_g] [] noFz) (orM_sound trivial ⟨strings_Builder_copyCheck_ok, trivial⟩) (allLp_ofM [] (by kernel_rfl) trivial rfl) (fun _ => rfl) ?_
  intro z; kernel_rfl

def octet_Writer_low_fz : Nat → List Pre
  | 4 => [.two]
  | _ => []

def octet_Writer_low_L2_step (n : Int) (k : Int) (rows : List Int) : Tree ((Int × (List Int)) ⊕ (List Int)) :=
  .ite (decide ((0 : Int) ≤ k)) (
    ask (decide ((0 : Int) ≤ (w64 ((8 : Int) * k)))) <|
    .bnd (strings_Builder_WriteByte_T (IntKind.wrap .u8 ((stdShift .shr .i64 n (w64 ((8 : Int) * k))))) rows) fun y1 =>
    .ret (.inl ((w64 (k - 1)), y1.2.2.1))) (
    .ret (.inr rows))

def octet_Writer_low_L2 : Lp := ⟨2, [], [], (.cons (.ref 0 0) (.cons (.val false (.int .i64)) (ca4 (.cons (.val false (.int .i64)) (ca (ca16 .nil)))))), (.cells 64 (.cons (.selfp 0) (.cons (.own 1) .nil)) (.rows 5 (.int .u8) .nil)), 2, .one 1 [] (ca8 (ca16 .nil)) (.cells 64 (.cons (.selfp 0) (.cons (.own 1) .nil)) (.rows 5 (.int .u8) .nil)), fun z => .bnd (.loop (fun v => octet_Writer_low_L2_step z.1.2.1 v.1 v.2) (z.1.2.2.2.2.2.2.1, z.2.2.1)) fun r => .ret ((cu8 (cu16 ())), (((), ((), ())), (r, ())))⟩

theorem octet_Writer_low_L2_ok : octet_Writer_low_L2.ok Tryz.prog (nthC (loopsOf (bodyOf Tryz.f79)) 0) := by
  refine Lp.lift (π := Int) (V := (Int × (List Int))) (ρ := List Int) mix tabOk octet_Writer_low_L2 (o := orM [] [strings_Builder_WriteByte_g] [] octet_Writer_low_fz) (orM_sound trivial ⟨strings_Builder_WriteByte_ok, trivial⟩) (allLp_ofM [] (by kernel_rfl) trivial rfl) (fun x v => (((), (x, (cu4 (v.1, (cu (cu16 ())))))), (((), ((), ())), (v.2, ())))) (fun x r => ((cu8 (cu16 ())), (((), ((), ())), (r, ())))) (fun x v => octet_Writer_low_L2_step x v.1 v.2) (fun x r => .ret ((cu8 (cu16 ())), (((), ((), ())), (r, ())))) (fun z => z.1.2.1) (fun z => (z.1.2.2.2.2.2.2.1, z.2.2.1)) (fun _ => rfl) (fun _ => rfl) (fun _ _ _ h => h) ?_
  intro x v; kernel_rfl

def octet_Writer_low_T (x0 : Int) (x1 : Int) (x2 : List Int) : Tree (Unit × ((Unit × (Unit × Unit)) × ((List Int) × Unit))) :=
  .ite false (
    .ret ((), (((), ((), ())), (x2, ())))) (
    .bnd (.loop (fun v => octet_Writer_low_L2_step x0 v.1 v.2) ((w64 (x1 - 1)), x2)) fun r1 =>
    .ret ((), (((), ((), ())), (r1, ()))))

def octet_Writer_low_g : MSig := ⟨79, (.cons (.ref 0 0) (.cons (.val false (.int .i64)) (.cons (.val false (.int .i64)) .nil))), (.cells 64 (.cons (.selfp 0) (.cons (.own 1) .nil)) (.rows 5 (.int .u8) .nil)), [], .nil, (.cells 64 (.cons (.selfp 0) (.cons (.own 1) .nil)) (.rows 5 (.int .u8) .nil)), some 1, fun z => octet_Writer_low_T z.1.2.1 z.1.2.2.1 z.2.2.1⟩

theorem octet_Writer_low_ok : octet_Writer_low_g.ok Tryz.prog := by
  refine MSig.lift mix tabOk nms _ Tryz.func79 (c := (bodyOf Tryz.f79)) (by kernel_rfl) (o := orM [] [strings_Builder_WriteByte_g] [octet_Writer_low_L2] octet_Writer_low_fz) (orM_sound trivial ⟨strings_Builder_WriteByte_ok, trivial⟩) (allLp_ofM [nthC (loopsOf (bodyOf Tryz.f79)) 0] (by kernel_rfl) ⟨octet_Writer_low_L2_ok, trivial⟩ (by kernel_rfl)) (fun _ => rfl) ?_
  intro z; kernel_rfl

def octet_Writer_Count_T (x0 : Int) (x1 : List Int) : Tree (Unit × ((Unit × (Unit × Unit)) × ((List Int) × Unit))) :=
  .bnd (octet_Writer_low_T x0 4 x1) fun y1 =>
  .ret ((), (((), ((), ())), (y1.2.2.1, ())))

def octet_Writer_Count_g : MSig := ⟨62, (.cons (.ref 0 0) (.cons (.val false (.int .i64)) .nil)), (.cells 64 (.cons (.selfp 0) (.cons (.own 1) .nil)) (.rows 5 (.int .u8) .nil)), [], .nil, (.cells 64 (.cons (.selfp 0) (.cons (.own 1) .nil)) (.rows 5 (.int .u8) .nil)), some 1, fun z => octet_Writer_Count_T z.1.2.1 z.2.2.1⟩

theorem octet_Writer_Count_ok : octet_Writer_Count_g.ok Tryz.prog := by
  refine MSig.lift mix tabOk nms _ Tryz.func62 (c := (bodyOf Tryz.f62)) (by kernel_rfl) (o := orM [] [octet_Writer_low_g] [] noFz) (orM_sound trivial ⟨octet_Writer_low_ok, trivial⟩) (allLp_ofM [] (by kernel_rfl) trivial rfl) (fun _ => rfl) ?_
  intro z; kernel_rfl

def strings_Builder_WriteString_T (x0 : Str) (x1 : List Int) : Tree ((Int × (Unit × Unit)) × ((Unit × (Unit × Unit)) × ((List Int) × Unit))) :=
  .bnd (strings_Builder_copyCheck_T x1) fun y1 =>
  ask (decide ((y1.2.2.1 ++ strI x0).length * 1 ≤ roomNat)) <|
  .ret (((x0.length : Int), ((), ())), (((), ((), ())), ((y1.2.2.1 ++ strI x0), ())))

def strings_Builder_WriteString_g : MSig := ⟨59, (.cons (.ref 0 0) (.cons (.val false .str) .nil)), (.cells 64 (.cons (.selfp 0) (.cons (.own 1) .nil)) (.rows 5 (.int .u8) .nil)), [], (.cons (.val false (.int .i64)) (ca .nil)), (.cells 64 (.cons (.selfp 0) (.cons (.own 1) .nil)) (.rows 5 (.int .u8) .nil)), some 1, fun z => strings_Builder_WriteString_T z.1.2.1 z.2.2.1⟩

theorem strings_Builder_WriteString_ok : strings_Builder_WriteString_g.ok Tryz.prog := by
  refine MSig.lift mix tabOk nms _ Tryz.func59 (c := (bodyOf Tryz.f59)) (by kernel_rfl) (o := orM [] [strings_Builder_copyCheck_g] [] noFz) (orM_sound trivial ⟨strings_Builder_copyCheck_ok, trivial⟩) (allLp_ofM [] (by kernel_rfl) trivial rfl) (fun _ => rfl) ?_
  intro z; kernel_rfl

def octet_Writer_Text_T (x0 : Str) (x1 : List Int) : Tree (Unit × ((Unit × (Unit × Unit)) × ((List Int) × Unit))) :=
  .bnd (octet_Writer_Count_T (x0.length : Int) x1) fun y1 =>
  .ite true (
    .bnd (strings_Builder_WriteString_T x0 y1.2.2.1) fun y2 =>
    .ret ((), (((), ((), ())), (y2.2.2.1, ())))) (
    .ret ((), (((), ((), ())), (y1.2.2.1, ()))))

def octet_Writer_Text_g : MSig := ⟨63, (.cons (.ref 0 0) (.cons (.val false .str) .nil)), (.cells 64 (.cons (.selfp 0) (.cons (.own 1) .nil)) (.rows 5 (.int .u8) .nil)), [], .nil, (.cells 64 (.cons (.selfp 0) (.cons (.own 1) .nil)) (.rows 5 (.int .u8) .nil)), some 1, fun z => octet_Writer_Text_T z.1.2.1 z.2.2.1⟩

theorem octet_Writer_Text_ok : octet_Writer_Text_g.ok Tryz.prog := by
  refine MSig.lift mix tabOk nms _ Tryz.func63 (c := (bodyOf Tryz.f63)) (by kernel_rfl) (o := orM [] [octet_Writer_Count_g, strings_Builder_WriteString_g] [] noFz) (orM_sound trivial ⟨octet_Writer_Count_ok, ⟨strings_Builder_WriteString_ok, trivial⟩⟩) (allLp_ofM [] (by kernel_rfl) trivial rfl) (fun _ => rfl) ?_
  intro z; kernel_rfl

def octet_Writer_Texts_L2_step (t : List Str) (t2 : Int) (t3 : Int) (rows : List Int) : Tree ((Int × (List Int)) ⊕ (List Int)) :=
  .ite (decide (t3 < t2)) (
    ask (inb t3 t.length) <|
    .bnd (octet_Writer_Text_T (t.getD t3.toNat ([] : Str)) rows) fun y1 =>
    .ret (.inl ((w64 (t3 + 1)), y1.2.2.1))) (
    .ret (.inr rows))

def octet_Writer_Texts_L2 : Lp := ⟨2, [], [], (.cons (.ref 0 0) (ca (ca8 (.cons (.val false (.list .str)) (.cons (.val false (.int .i64)) (.cons (.val false (.int .i64)) (ca (ca2 (ca4 .nil))))))))), (.cells 64 (.cons (.selfp 0) (.cons (.own 1) .nil)) (.rows 5 (.int .u8) .nil)), 2, .one 1 [] (ca4 (ca16 .nil)) (.cells 64 (.cons (.selfp 0) (.cons (.own 1) .nil)) (.rows 5 (.int .u8) .nil)), fun z => .bnd (.loop (fun v => octet_Writer_Texts_L2_step z.1.2.2.2.2.2.2.2.2.2.2.1 z.1.2.2.2.2.2.2.2.2.2.2.2.1 v.1 v.2) (z.1.2.2.2.2.2.2.2.2.2.2.2.2.1, z.2.2.1)) fun r => .ret ((cu4 (cu16 ())), (((), ((), ())), (r, ())))⟩

theorem octet_Writer_Texts_L2_ok : octet_Writer_Texts_L2.ok Tryz.prog (nthC (loopsOf (bodyOf Tryz.f40)) 0) := by
  refine Lp.lift (π := ((List Str) × Int)) (V := (Int × (List Int))) (ρ := List Int) mix tabOk octet_Writer_Texts_L2 (o := orM [] [octet_Writer_Count_g, octet_Writer_Text_g] [] noFz) (orM_sound trivial ⟨octet_Writer_Count_ok, ⟨octet_Writer_Text_ok, trivial⟩⟩) (allLp_ofM [] (by kernel_rfl) trivial rfl) (fun x v => (((), (cu (cu8 (x.1, (x.2, (v.1, (cu (cu2 (cu4 ()))))))))), (((), ((), ())), (v.2, ())))) (fun x r => ((cu4 (cu16 ())), (((), ((), ())), (r, ())))) (fun x v => octet_Writer_Texts_L2_step x.1 x.2 v.1 v.2) (fun x r => .ret ((cu4 (cu16 ())), (((), ((), ())), (r, ())))) (fun z => (z.1.2.2.2.2.2.2.2.2.2.2.1, z.1.2.2.2.2.2.2.2.2.2.2.2.1)) (fun z => (z.1.2.2.2.2.2.2.2.2.2.2.2.2.1, z.2.2.1)) (fun _ => rfl) (fun _ => rfl) (fun _ _ _ h => h) ?_
  intro x v; kernel_rfl

def octet_Writer_Texts_T (x0 : List Str) (x1 : List Int) : Tree (Unit × ((Unit × (Unit × Unit)) × ((List Int) × Unit))) :=
  .bnd (octet_Writer_Count_T (x0.length : Int) x1) fun y1 =>
  .bnd (.loop (fun v => octet_Writer_Texts_L2_step x0 (x0.length : Int) v.1 v.2) (0, y1.2.2.1)) fun r2 =>
  .ret ((), (((), ((), ())), (r2, ())))

def octet_Writer_Texts_g : MSig := ⟨40, (.cons (.ref 0 0) (.cons (.val false (.list .str)) .nil)), (.cells 64 (.cons (.selfp 0) (.cons (.own 1) .nil)) (.rows 5 (.int .u8) .nil)), [], .nil, (.cells 64 (.cons (.selfp 0) (.cons (.own 1) .nil)) (.rows 5 (.int .u8) .nil)), some 1, fun z => octet_Writer_Texts_T z.1.2.1 z.2.2.1⟩

theorem octet_Writer_Texts_ok : octet_Writer_Texts_g.ok Tryz.prog := by
  refine MSig.lift mix tabOk nms _ Tryz.func40 (c := (bodyOf Tryz.f40)) (by kernel_rfl) (o := orM [] [octet_Writer_Count_g, octet_Writer_Text_g] [octet_Writer_Texts_L2] noFz) (orM_sound trivial ⟨octet_Writer_Count_ok, ⟨octet_Writer_Text_ok, trivial⟩⟩) (allLp_ofM [nthC (loopsOf (bodyOf Tryz.f40)) 0] (by kernel_rfl) ⟨octet_Writer_Texts_L2_ok, trivial⟩ (by kernel_rfl)) (fun _ => rfl) ?_
  intro z; kernel_rfl

def strings_Builder_String_T (x0 : List Int) : Tree (Str × ((Unit × (Unit × Unit)) × Unit)) :=
  ask (decide (0 < x0.length)) <|
  .ret (strB x0, (((), ((), ())), ()))

def strings_Builder_String_g : MSig := ⟨60, (.cons (.ref 0 0) .nil), (.cells 64 (.cons (.selfp 0) (.cons (.own 1) .nil)) (.rows 5 (.int .u8) .nil)), [], .val false .str, (.cells 64 (.cons (.selfp 0) (ca .nil)) (.dead .nil)), none, fun z => strings_Builder_String_T z.2.2.1⟩

theorem strings_Builder_String_ok : strings_Builder_String_g.ok Tryz.prog := builder_String_msig 64

def octet_Writer_Bytes_T (x0 : List Int) : Tree (Str × ((Unit × (Unit × Unit)) × Unit)) :=
  .ite false (
    .ret (([] : Str), (((), ((), ())), ()))) (
    .bnd (strings_Builder_String_T x0) fun y1 =>
    .ret (y1.1, (((), ((), ())), ())))

def octet_Writer_Bytes_g : MSig := ⟨42, (.cons (.ref 0 0) .nil), (.cells 64 (.cons (.selfp 0) (.cons (.own 1) .nil)) (.rows 5 (.int .u8) .nil)), [], (.val false .str), (.cells 64 (.cons (.selfp 0) (ca .nil)) (.dead .nil)), some 1, fun z => octet_Writer_Bytes_T z.2.2.1⟩

theorem octet_Writer_Bytes_ok : octet_Writer_Bytes_g.ok Tryz.prog := by
  refine MSig.lift mix tabOk nms _ Tryz.func42 (c := (bodyOf Tryz.f42)) (by kernel_rfl) (o := orM [] [strings_Builder_String_g] [] noFz) (orM_sound trivial ⟨strings_Builder_String_ok, trivial⟩) (allLp_ofM [] (by kernel_rfl) trivial rfl) (fun _ => rfl) ?_
  intro z; kernel_rfl

def octet_Writer_Int_T (x0 : Int) (x1 : List Int) : Tree (Unit × ((Unit × (Unit × Unit)) × ((List Int) × Unit))) :=
  .bnd (octet_Writer_low_T x0 8 x1) fun y1 =>
  .ret ((), (((), ((), ())), (y1.2.2.1, ())))

def octet_Writer_Int_g : MSig := ⟨64, (.cons (.ref 0 0) (.cons (.val false (.int .i64)) .nil)), (.cells 64 (.cons (.selfp 0) (.cons (.own 1) .nil)) (.rows 5 (.int .u8) .nil)), [], .nil, (.cells 64 (.cons (.selfp 0) (.cons (.own 1) .nil)) (.rows 5 (.int .u8) .nil)), some 1, fun z => octet_Writer_Int_T z.1.2.1 z.2.2.1⟩

theorem octet_Writer_Int_ok : octet_Writer_Int_g.ok Tryz.prog := by
  refine MSig.lift mix tabOk nms _ Tryz.func64 (c := (bodyOf Tryz.f64)) (by kernel_rfl) (o := orM [] [octet_Writer_low_g] [] noFz) (orM_sound trivial ⟨octet_Writer_low_ok, trivial⟩) (allLp_ofM [] (by kernel_rfl) trivial rfl) (fun _ => rfl) ?_
  intro z; kernel_rfl

def bits_RotateLeft32_T (x0 : Int) (x1 : Int) : Tree Int :=
  ask (decide ((0 : Int) ≤ (stdArith .and .u64 (IntKind.wrap .u64 (x1)) 31))) <|
  ask (decide ((0 : Int) ≤ (IntKind.wrap .u64 ((32 : Int) - (stdArith .and .u64 (IntKind.wrap .u64 (x1)) 31))))) <|
  .ret (stdArith .or .u32 (stdShift .shl .u32 x0 (stdArith .and .u64 (IntKind.wrap .u64 (x1)) 31)) (stdShift .shr .u32 x0 (IntKind.wrap .u64 ((32 : Int) - (stdArith .and .u64 (IntKind.wrap .u64 (x1)) 31)))))

def bits_RotateLeft32_g : Sig := ⟨97, (.cons (.val false (.int .u32)) (.cons (.val false (.int .i64)) .nil)), .vals (.val false (.int .u32)), fun z => bits_RotateLeft32_T z.1 z.2.1, (0 : Int)⟩

theorem bits_RotateLeft32_ok : bits_RotateLeft32_g.ok Tryz.prog := by
  refine Sig.lift mix tabOk nms _ Tryz.func97 (c := (bodyOf Tryz.f97)) (by kernel_rfl) (o := orT [] [] noFz) (orT_sound trivial) (allLp_of [] (by kernel_rfl) trivial rfl) ?_
  intro z; kernel_rfl

def sha_small_T (x0 : Int) (x1 : Int) (x2 : Int) (x3 : Int) : Tree Int :=
  .bnd (bits_RotateLeft32_T x0 (w64 ((0 : Int) - x1))) fun y1 =>
  .bnd (bits_RotateLeft32_T x0 (w64 ((0 : Int) - x2))) fun y2 =>
  ask (decide ((0 : Int) ≤ x3)) <|
  .ret (stdArith .xor .u32 (stdArith .xor .u32 y1 y2) (stdShift .shr .u32 x0 x3))

def sha_small_g : Sig := ⟨96, (.cons (.val false (.int .u32)) (.cons (.val false (.int .i64)) (.cons (.val false (.int .i64)) (.cons (.val false (.int .i64)) .nil)))), .vals (.val false (.int .u32)), fun z => sha_small_T z.1 z.2.1 z.2.2.1 z.2.2.2.1, (0 : Int)⟩

theorem sha_small_ok : sha_small_g.ok Tryz.prog := by
  refine Sig.lift mix tabOk nms _ Tryz.func96 (c := (bodyOf Tryz.f96)) (by kernel_rfl) (o := orT [bits_RotateLeft32_g] [] noFz) (orT_sound ⟨bits_RotateLeft32_ok, trivial⟩) (allLp_of [] (by kernel_rfl) trivial rfl) ?_
  intro z; kernel_rfl

def sha_spread_fz : Nat → List Pre
  | 6 => [.two]
  | 7 => [.two]
  | _ => []

def sha_spread_L3_step (b : List Int) (c : A64u32) (t : Int) (w : List Int) : Tree ((Int × (List Int)) ⊕ (List Int)) :=
  .ite (decide (t < 64)) (
    .ite (decide (t < 16)) (
      ask (inb (w64 ((4 : Int) * t)) b.length) <|
      ask (decide ((0 : Int) ≤ 24)) <|
      ask (inb (w64 ((w64 ((4 : Int) * t)) + 1)) b.length) <|
      ask (decide ((0 : Int) ≤ 16)) <|
      ask (inb (w64 ((w64 ((4 : Int) * t)) + 2)) b.length) <|
      ask (decide ((0 : Int) ≤ 8)) <|
      ask (inb (w64 ((w64 ((4 : Int) * t)) + 3)) b.length) <|
      ask (inb t 64) <|
      ask (Nat.ble (t.toNat + 1) w.length) <|
      .ret (.inl ((w64 (t + 1)), (w.set t.toNat (stdArith .or .u32 (stdArith .or .u32 (stdArith .or .u32 (stdShift .shl .u32 (IntKind.wrap .u32 ((b.getD ((w64 ((4 : Int) * t)).toNat) (0 : Int)))) 24) (stdShift .shl .u32 (IntKind.wrap .u32 ((b.getD ((w64 ((w64 ((4 : Int) * t)) + 1)).toNat) (0 : Int)))) 16)) (stdShift .shl .u32 (IntKind.wrap .u32 ((b.getD ((w64 ((w64 ((4 : Int) * t)) + 2)).toNat) (0 : Int)))) 8)) (IntKind.wrap .u32 ((b.getD ((w64 ((w64 ((4 : Int) * t)) + 3)).toNat) (0 : Int))))))))) (
      ask (inb (w64 (t - 2)) 64) <|
      ask (Nat.ble ((w64 (t - 2)).toNat + 1) w.length) <|
      .bnd (sha_small_T (w.getD ((w64 (t - 2)).toNat) (0 : Int)) 17 19 10) fun y1 =>
      ask (inb (w64 (t - 7)) 64) <|
      ask (Nat.ble ((w64 (t - 7)).toNat + 1) w.length) <|
      ask (inb (w64 (t - 15)) 64) <|
      ask (Nat.ble ((w64 (t - 15)).toNat + 1) w.length) <|
      .bnd (sha_small_T (w.getD ((w64 (t - 15)).toNat) (0 : Int)) 7 18 3) fun y2 =>
      ask (inb (w64 (t - 16)) 64) <|
      ask (Nat.ble ((w64 (t - 16)).toNat + 1) w.length) <|
      ask (inb t 64) <|
      ask (Nat.ble (t.toNat + 1) w.length) <|
      .ret (.inl ((w64 (t + 1)), (w.set t.toNat (IntKind.wrap .u32 ((IntKind.wrap .u32 ((IntKind.wrap .u32 (y1 + (w.getD ((w64 (t - 7)).toNat) (0 : Int)))) + y2)) + (w.getD ((w64 (t - 16)).toNat) (0 : Int))))))))) (
    .ret (.inr w))

def sha_spread_L3 : Lp := ⟨3, [.arr 1 (.int .u32)], [], (.cons (.val false (.list (.int .u8))) (ca (.cons (.ref 0 0) (.cons (.ref 1 0) (ca (.cons (.val false (.int .i64)) (ca32 (ca32 .nil)))))))), (.cells 99 (.cons (.flat tA64u32) .nil) (.arr 99 (.int .u32) .nil)), 0, .one 1 [] (ca2 (.cons (.ref 0 0) (.cons (.ref 1 0) (ca2 (ca32 (ca32 .nil)))))) (.cells 99 (.cons (.flat tA64u32) .nil) (.arr 99 (.int .u32) .nil)), fun z => .bnd (.loop (fun v => sha_spread_L3_step z.1.1 z.2.1.1 v.1 v.2) (z.1.2.2.2.2.2.1, z.2.2.1)) fun r => .ret ((cu2 ((), ((), (cu2 (cu32 (cu32 ())))))), ((z.2.1.1, ()), (r, ())))⟩

theorem sha_spread_L3_ok : sha_spread_L3.ok Tryz.prog (nthC (loopsOf (bodyOf Tryz.f80)) 0) := by
  refine Lp.lift (π := ((List Int) × A64u32)) (V := (Int × (List Int))) (ρ := List Int) mix tabOk sha_spread_L3 (o := orT [sha_small_g] [] sha_spread_fz) (orT_sound ⟨sha_small_ok, trivial⟩) (allLp_of [] (by kernel_rfl) trivial rfl) (fun x v => ((x.1, (cu ((), ((), (cu (v.1, (cu32 (cu32 ())))))))), ((x.2, ()), (v.2, ())))) (fun x r => ((cu2 ((), ((), (cu2 (cu32 (cu32 ())))))), ((x.2, ()), (r, ())))) (fun x v => sha_spread_L3_step x.1 x.2 v.1 v.2) (fun x r => .ret ((cu2 ((), ((), (cu2 (cu32 (cu32 ())))))), ((x.2, ()), (r, ())))) (fun z => (z.1.1, z.2.1.1)) (fun z => (z.1.2.2.2.2.2.1, z.2.2.1)) (fun _ => rfl) (fun _ => rfl) (fun _ _ _ h => h) ?_
  intro x v; kernel_rfl

def sha_spread_T (x0 : List Int) : Tree A64u32 :=
  .bnd (.loop (fun v => sha_spread_L3_step x0 (0, (0, (0, (0, (0, (0, (0, (0, (0, (0, (0, (0, (0, (0, (0, (0, (0, (0, (0, (0, (0, (0, (0, (0, (0, (0, (0, (0, (0, (0, (0, (0, (0, (0, (0, (0, (0, (0, (0, (0, (0, (0, (0, (0, (0, (0, (0, (0, (0, (0, (0, (0, (0, (0, (0, (0, (0, (0, (0, (0, (0, (0, (0, 0))))))))))))))))))))))))))))))))))))))))))))))))))))))))))))))) v.1 v.2) (0, [0, 0, 0, 0, 0, 0, 0, 0, 0, 0, 0, 0, 0, 0, 0, 0, 0, 0, 0, 0, 0, 0, 0, 0, 0, 0, 0, 0, 0, 0, 0, 0, 0, 0, 0, 0, 0, 0, 0, 0, 0, 0, 0, 0, 0, 0, 0, 0, 0, 0, 0, 0, 0, 0, 0, 0, 0, 0, 0, 0, 0, 0, 0, 0])) fun r1 =>
  ask (Nat.ble (0 + 64) r1.length) <|
  .ret ((r1.getD 0 (0 : Int)), ((r1.getD 1 (0 : Int)), ((r1.getD 2 (0 : Int)), ((r1.getD 3 (0 : Int)), ((r1.getD 4 (0 : Int)), ((r1.getD 5 (0 : Int)), ((r1.getD 6 (0 : Int)), ((r1.getD 7 (0 : Int)), ((r1.getD 8 (0 : Int)), ((r1.getD 9 (0 : Int)), ((r1.getD 10 (0 : Int)), ((r1.getD 11 (0 : Int)), ((r1.getD 12 (0 : Int)), ((r1.getD 13 (0 : Int)), ((r1.getD 14 (0 : Int)), ((r1.getD 15 (0 : Int)), ((r1.getD 16 (0 : Int)), ((r1.getD 17 (0 : Int)), ((r1.getD 18 (0 : Int)), ((r1.getD 19 (0 : Int)), ((r1.getD 20 (0 : Int)), ((r1.getD 21 (0 : Int)), ((r1.getD 22 (0 : Int)), ((r1.getD 23 (0 : Int)), ((r1.getD 24 (0 : Int)), ((r1.getD 25 (0 : Int)), ((r1.getD 26 (0 : Int)), ((r1.getD 27 (0 : Int)), ((r1.getD 28 (0 : Int)), ((r1.getD 29 (0 : Int)), ((r1.getD 30 (0 : Int)), ((r1.getD 31 (0 : Int)), ((r1.getD 32 (0 : Int)), ((r1.getD 33 (0 : Int)), ((r1.getD 34 (0 : Int)), ((r1.getD 35 (0 : Int)), ((r1.getD 36 (0 : Int)), ((r1.getD 37 (0 : Int)), ((r1.getD 38 (0 : Int)), ((r1.getD 39 (0 : Int)), ((r1.getD 40 (0 : Int)), ((r1.getD 41 (0 : Int)), ((r1.getD 42 (0 : Int)), ((r1.getD 43 (0 : Int)), ((r1.getD 44 (0 : Int)), ((r1.getD 45 (0 : Int)), ((r1.getD 46 (0 : Int)), ((r1.getD 47 (0 : Int)), ((r1.getD 48 (0 : Int)), ((r1.getD 49 (0 : Int)), ((r1.getD 50 (0 : Int)), ((r1.getD 51 (0 : Int)), ((r1.getD 52 (0 : Int)), ((r1.getD 53 (0 : Int)), ((r1.getD 54 (0 : Int)), ((r1.getD 55 (0 : Int)), ((r1.getD 56 (0 : Int)), ((r1.getD 57 (0 : Int)), ((r1.getD 58 (0 : Int)), ((r1.getD 59 (0 : Int)), ((r1.getD 60 (0 : Int)), ((r1.getD 61 (0 : Int)), ((r1.getD 62 (0 : Int)), (r1.getD 63 (0 : Int)))))))))))))))))))))))))))))))))))))))))))))))))))))))))))))))))

def sha_spread_g : Sig := ⟨80, (.cons (.val false (.list (.int .u8))) .nil), .vals (.val true tA64u32), fun z => sha_spread_T z.1, (dfl tA64u32 : A64u32)⟩

theorem sha_spread_ok : sha_spread_g.ok Tryz.prog := by
  refine Sig.lift mix tabOk nms _ Tryz.func80 (c := (bodyOf Tryz.f80)) (by kernel_rfl) (o := orT [sha_small_g] [sha_spread_L3] sha_spread_fz) (orT_sound ⟨sha_small_ok, trivial⟩) (allLp_of [nthC (loopsOf (bodyOf Tryz.f80)) 0] (by kernel_rfl) ⟨sha_spread_L3_ok, trivial⟩ (by kernel_rfl)) ?_
  intro z; kernel_rfl

def sha_rounds_T  : Tree A64u32 :=
  .ret (1116352408, (1899447441, (3049323471, (3921009573, (961987163, (1508970993, (2453635748, (2870763221, (3624381080, (310598401, (607225278, (1426881987, (1925078388, (2162078206, (2614888103, (3248222580, (3835390401, (4022224774, (264347078, (604807628, (770255983, (1249150122, (1555081692, (1996064986, (2554220882, (2821834349, (2952996808, (3210313671, (3336571891, (3584528711, (113926993, (338241895, (666307205, (773529912, (1294757372, (1396182291, (1695183700, (1986661051, (2177026350, (2456956037, (2730485921, (2820302411, (3259730800, (3345764771, (3516065817, (3600352804, (4094571909, (275423344, (430227734, (506948616, (659060556, (883997877, (958139571, (1322822218, (1537002063, (1747873779, (1955562222, (2024104815, (2227730452, (2361852424, (2428436474, (2756734187, (3204031479, 3329325298)))))))))))))))))))))))))))))))))))))))))))))))))))))))))))))))

def sha_rounds_g : Sig := ⟨81, .nil, .vals (.val true tA64u32), fun z => sha_rounds_T, (dfl tA64u32 : A64u32)⟩

theorem sha_rounds_ok : sha_rounds_g.ok Tryz.prog := by
  refine Sig.lift mix tabOk nms _ Tryz.func81 (c := (bodyOf Tryz.f81)) (by kernel_rfl) (o := orT [] [] noFz) (orT_sound trivial) (allLp_of [] (by kernel_rfl) trivial rfl) ?_
  intro z; kernel_rfl

def sha_turns_T (x0 : Int) (x1 : Int) (x2 : Int) (x3 : Int) : Tree Int :=
  .bnd (bits_RotateLeft32_T x0 (w64 ((0 : Int) - x1))) fun y1 =>
  .bnd (bits_RotateLeft32_T x0 (w64 ((0 : Int) - x2))) fun y2 =>
  .bnd (bits_RotateLeft32_T x0 (w64 ((0 : Int) - x3))) fun y3 =>
  .ret (stdArith .xor .u32 (stdArith .xor .u32 y1 y2) y3)

def sha_turns_g : Sig := ⟨82, (.cons (.val false (.int .u32)) (.cons (.val false (.int .i64)) (.cons (.val false (.int .i64)) (.cons (.val false (.int .i64)) .nil)))), .vals (.val false (.int .u32)), fun z => sha_turns_T z.1 z.2.1 z.2.2.1 z.2.2.2.1, (0 : Int)⟩

theorem sha_turns_ok : sha_turns_g.ok Tryz.prog := by
  refine Sig.lift mix tabOk nms _ Tryz.func82 (c := (bodyOf Tryz.f82)) (by kernel_rfl) (o := orT [bits_RotateLeft32_g] [] noFz) (orT_sound ⟨bits_RotateLeft32_ok, trivial⟩) (allLp_of [] (by kernel_rfl) trivial rfl) ?_
  intro z; kernel_rfl

def sha_take_fz : Nat → List Pre
  | 13 => [.spl 99 8]
  | _ => []

def sha_take_L5_step (state : (Int × (Int × (Int × (Int × (Int × (Int × (Int × Int)))))))) (c2 : (Int × (Int × (Int × (Int × (Int × (Int × (Int × Int)))))))) (w : List Int) (k : List Int) (a : Int) (c : Int) (d : Int) (e : Int) (f : Int) (g : Int) (h : Int) (i : Int) (t : Int) : Tree ((Int × Int × Int × Int × Int × Int × Int × Int × Int) ⊕ (Int × Int × Int × Int × Int × Int × Int × Int)) :=
  .ite (decide (t < 64)) (
    .bnd (sha_turns_T f 6 11 25) fun y1 =>
    ask (inb t 64) <|
    ask (Nat.ble (t.toNat + 1) k.length) <|
    ask (inb t 64) <|
    ask (Nat.ble (t.toNat + 1) w.length) <|
    .bnd (sha_turns_T a 2 13 22) fun y2 =>
    .ret (.inl ((IntKind.wrap .u32 ((IntKind.wrap .u32 ((IntKind.wrap .u32 ((IntKind.wrap .u32 ((IntKind.wrap .u32 (i + y1)) + (stdArith .xor .u32 (stdArith .and .u32 f g) (stdArith .and .u32 (stdArith .xor .u32 4294967295 f) h)))) + (k.getD t.toNat (0 : Int)))) + (w.getD t.toNat (0 : Int)))) + (IntKind.wrap .u32 (y2 + (stdArith .xor .u32 (stdArith .xor .u32 (stdArith .and .u32 a c) (stdArith .and .u32 a d)) (stdArith .and .u32 c d)))))), a, c, d, (IntKind.wrap .u32 (e + (IntKind.wrap .u32 ((IntKind.wrap .u32 ((IntKind.wrap .u32 ((IntKind.wrap .u32 (i + y1)) + (stdArith .xor .u32 (stdArith .and .u32 f g) (stdArith .and .u32 (stdArith .xor .u32 4294967295 f) h)))) + (k.getD t.toNat (0 : Int)))) + (w.getD t.toNat (0 : Int)))))), f, g, h, (w64 (t + 1))))) (
    .ret (.inr (a, c, d, e, f, g, h, i)))

def sha_take_L5 : Lp := ⟨5, [.arr 3 (.int .u32), .arr 2 (.int .u32)], [], (ca2 (.cons (.ref 0 0) (ca (.cons (.ref 1 0) (.cons (.ref 2 0) (.cons (.ref 3 0) (.cons (.val false (.int .u32)) (.cons (.val false (.int .u32)) (.cons (.val false (.int .u32)) (.cons (.val false (.int .u32)) (.cons (.val false (.int .u32)) (.cons (.val false (.int .u32)) (.cons (.val false (.int .u32)) (.cons (.val false (.int .u32)) (ca8 (ca16 (.cons (.val false (.int .i64)) (ca (ca2 (ca4 (ca32 (ca32 .nil)))))))))))))))))))))), (.cells 86 (.cons (.flat (.pair (.int .u32) (.pair (.int .u32) (.pair (.int .u32) (.pair (.int .u32) (.pair (.int .u32) (.pair (.int .u32) (.pair (.int .u32) (.int .u32))))))))) .nil) (.cells 86 (.cons (.flat (.pair (.int .u32) (.pair (.int .u32) (.pair (.int .u32) (.pair (.int .u32) (.pair (.int .u32) (.pair (.int .u32) (.pair (.int .u32) (.int .u32))))))))) .nil) (.arr 99 (.int .u32) (.arr 99 (.int .u32) .nil)))), 0, .one 1 [] (ca2 (.cons (.ref 0 0) (ca (.cons (.ref 1 0) (ca2 (.cons (.val false (.int .u32)) (.cons (.val false (.int .u32)) (.cons (.val false (.int .u32)) (.cons (.val false (.int .u32)) (.cons (.val false (.int .u32)) (.cons (.val false (.int .u32)) (.cons (.val false (.int .u32)) (.cons (.val false (.int .u32)) (ca32 (ca32 (ca32 .nil)))))))))))))))) (.cells 86 (.cons (.flat (.pair (.int .u32) (.pair (.int .u32) (.pair (.int .u32) (.pair (.int .u32) (.pair (.int .u32) (.pair (.int .u32) (.pair (.int .u32) (.int .u32))))))))) .nil) (.cells 86 (.cons (.flat (.pair (.int .u32) (.pair (.int .u32) (.pair (.int .u32) (.pair (.int .u32) (.pair (.int .u32) (.pair (.int .u32) (.pair (.int .u32) (.int .u32))))))))) .nil) .nil)), fun z => .bnd (.loop (fun v => sha_take_L5_step z.2.1.1 z.2.2.1.1 z.2.2.2.1 z.2.2.2.2.1 v.1 v.2.1 v.2.2.1 v.2.2.2.1 v.2.2.2.2.1 v.2.2.2.2.2.1 v.2.2.2.2.2.2.1 v.2.2.2.2.2.2.2.1 v.2.2.2.2.2.2.2.2) (z.1.2.2.2.2.2.2.2.1, z.1.2.2.2.2.2.2.2.2.1, z.1.2.2.2.2.2.2.2.2.2.1, z.1.2.2.2.2.2.2.2.2.2.2.1, z.1.2.2.2.2.2.2.2.2.2.2.2.1, z.1.2.2.2.2.2.2.2.2.2.2.2.2.1, z.1.2.2.2.2.2.2.2.2.2.2.2.2.2.1, z.1.2.2.2.2.2.2.2.2.2.2.2.2.2.2.1, z.1.2.2.2.2.2.2.2.2.2.2.2.2.2.2.2.2.2.2.2.2.2.2.2.2.2.2.2.2.2.2.2.2.2.2.2.2.2.2.2.1)) fun r => .ret ((cu2 ((), (cu ((), (cu2 (r.1, (r.2.1, (r.2.2.1, (r.2.2.2.1, (r.2.2.2.2.1, (r.2.2.2.2.2.1, (r.2.2.2.2.2.2.1, (r.2.2.2.2.2.2.2, (cu32 (cu32 (cu32 ())))))))))))))))), ((z.2.1.1, ()), ((z.2.2.1.1, ()), ())))⟩

theorem sha_take_L5_ok : sha_take_L5.ok Tryz.prog (nthC (loopsOf (bodyOf Tryz.f65)) 0) := by
  refine Lp.lift (π := ((Int × (Int × (Int × (Int × (Int × (Int × (Int × Int))))))) × (Int × (Int × (Int × (Int × (Int × (Int × (Int × Int))))))) × (List Int) × (List Int))) (V := (Int × Int × Int × Int × Int × Int × Int × Int × Int)) (ρ := (Int × Int × Int × Int × Int × Int × Int × Int)) mix tabOk sha_take_L5 (o := orT [sha_spread_g, sha_rounds_g, sha_turns_g] [] sha_take_fz) (orT_sound ⟨sha_spread_ok, ⟨sha_rounds_ok, ⟨sha_turns_ok, trivial⟩⟩⟩) (allLp_of [] (by kernel_rfl) trivial rfl) (fun x v => ((cu2 ((), (cu ((), ((), ((), (v.1, (v.2.1, (v.2.2.1, (v.2.2.2.1, (v.2.2.2.2.1, (v.2.2.2.2.2.1, (v.2.2.2.2.2.2.1, (v.2.2.2.2.2.2.2.1, (cu8 (cu16 (v.2.2.2.2.2.2.2.2, (cu (cu2 (cu4 (cu32 (cu32 ())))))))))))))))))))))), ((x.1, ()), ((x.2.1, ()), (x.2.2.1, (x.2.2.2, ())))))) (fun x r => ((cu2 ((), (cu ((), (cu2 (r.1, (r.2.1, (r.2.2.1, (r.2.2.2.1, (r.2.2.2.2.1, (r.2.2.2.2.2.1, (r.2.2.2.2.2.2.1, (r.2.2.2.2.2.2.2, (cu32 (cu32 (cu32 ())))))))))))))))), ((x.1, ()), ((x.2.1, ()), ())))) (fun x v => sha_take_L5_step x.1 x.2.1 x.2.2.1 x.2.2.2 v.1 v.2.1 v.2.2.1 v.2.2.2.1 v.2.2.2.2.1 v.2.2.2.2.2.1 v.2.2.2.2.2.2.1 v.2.2.2.2.2.2.2.1 v.2.2.2.2.2.2.2.2) (fun x r => .ret ((cu2 ((), (cu ((), (cu2 (r.1, (r.2.1, (r.2.2.1, (r.2.2.2.1, (r.2.2.2.2.1, (r.2.2.2.2.2.1, (r.2.2.2.2.2.2.1, (r.2.2.2.2.2.2.2, (cu32 (cu32 (cu32 ())))))))))))))))), ((x.1, ()), ((x.2.1, ()), ())))) (fun z => (z.2.1.1, z.2.2.1.1, z.2.2.2.1, z.2.2.2.2.1)) (fun z => (z.1.2.2.2.2.2.2.2.1, z.1.2.2.2.2.2.2.2.2.1, z.1.2.2.2.2.2.2.2.2.2.1, z.1.2.2.2.2.2.2.2.2.2.2.1, z.1.2.2.2.2.2.2.2.2.2.2.2.1, z.1.2.2.2.2.2.2.2.2.2.2.2.2.1, z.1.2.2.2.2.2.2.2.2.2.2.2.2.2.1, z.1.2.2.2.2.2.2.2.2.2.2.2.2.2.2.1, z.1.2.2.2.2.2.2.2.2.2.2.2.2.2.2.2.2.2.2.2.2.2.2.2.2.2.2.2.2.2.2.2.2.2.2.2.2.2.2.2.1)) (fun _ => rfl) (fun _ => rfl) (fun _ _ _ h => h) ?_
  intro x v; kernel_rfl

def sha_take_L12_step (t : (Int × (Int × (Int × (Int × (Int × (Int × (Int × Int)))))))) (c : (Int × (Int × (Int × (Int × (Int × (Int × (Int × Int)))))))) (t2 : Int) (state : (Int × (Int × (Int × (Int × (Int × (Int × (Int × Int)))))))) : Tree ((Int × (Int × (Int × (Int × (Int × (Int × (Int × (Int × Int)))))))) ⊕ (Int × (Int × (Int × (Int × (Int × (Int × (Int × Int)))))))) :=
  .ite (decide (t2 < 8)) (
    .ite (decide (t2 = 0)) (
      ask (inb 0 8) <|
      ask (inb 0 8) <|
      ask (inb 0 8) <|
      .ret (.inl ((w64 ((0 : Int) + 1)), ((IntKind.wrap .u32 (state.1 + t.1)), state.2)))) (
      .ite (decide (t2 = 1)) (
        ask (inb 1 8) <|
        ask (inb 1 8) <|
        ask (inb 1 8) <|
        .ret (.inl ((w64 ((1 : Int) + 1)), (state.1, ((IntKind.wrap .u32 (state.2.1 + t.2.1)), state.2.2))))) (
        .ite (decide (t2 = 2)) (
          ask (inb 2 8) <|
          ask (inb 2 8) <|
          ask (inb 2 8) <|
          .ret (.inl ((w64 ((2 : Int) + 1)), (state.1, (state.2.1, ((IntKind.wrap .u32 (state.2.2.1 + t.2.2.1)), state.2.2.2)))))) (
          .ite (decide (t2 = 3)) (
            ask (inb 3 8) <|
            ask (inb 3 8) <|
            ask (inb 3 8) <|
            .ret (.inl ((w64 ((3 : Int) + 1)), (state.1, (state.2.1, (state.2.2.1, ((IntKind.wrap .u32 (state.2.2.2.1 + t.2.2.2.1)), state.2.2.2.2))))))) (
            .ite (decide (t2 = 4)) (
              ask (inb 4 8) <|
              ask (inb 4 8) <|
              ask (inb 4 8) <|
              .ret (.inl ((w64 ((4 : Int) + 1)), (state.1, (state.2.1, (state.2.2.1, (state.2.2.2.1, ((IntKind.wrap .u32 (state.2.2.2.2.1 + t.2.2.2.2.1)), state.2.2.2.2.2)))))))) (
              .ite (decide (t2 = 5)) (
                ask (inb 5 8) <|
                ask (inb 5 8) <|
                ask (inb 5 8) <|
                .ret (.inl ((w64 ((5 : Int) + 1)), (state.1, (state.2.1, (state.2.2.1, (state.2.2.2.1, (state.2.2.2.2.1, ((IntKind.wrap .u32 (state.2.2.2.2.2.1 + t.2.2.2.2.2.1)), state.2.2.2.2.2.2))))))))) (
                .ite (decide (t2 = 6)) (
                  ask (inb 6 8) <|
                  ask (inb 6 8) <|
                  ask (inb 6 8) <|
                  .ret (.inl ((w64 ((6 : Int) + 1)), (state.1, (state.2.1, (state.2.2.1, (state.2.2.2.1, (state.2.2.2.2.1, (state.2.2.2.2.2.1, ((IntKind.wrap .u32 (state.2.2.2.2.2.2.1 + t.2.2.2.2.2.2.1)), state.2.2.2.2.2.2.2)))))))))) (
                  .ite (decide (t2 = 7)) (
                    ask (inb 7 8) <|
                    ask (inb 7 8) <|
                    ask (inb 7 8) <|
                    .ret (.inl ((w64 ((7 : Int) + 1)), (state.1, (state.2.1, (state.2.2.1, (state.2.2.2.1, (state.2.2.2.2.1, (state.2.2.2.2.2.1, (state.2.2.2.2.2.2.1, (IntKind.wrap .u32 (state.2.2.2.2.2.2.2 + t.2.2.2.2.2.2.2)))))))))))) (
                    .fail))))))))) (
    .ret (.inr state))

def sha_take_L12 : Lp := ⟨12, [], [], (ca2 (.cons (.ref 0 0) (ca (.cons (.ref 1 0) (ca (ca4 (ca8 (ca16 (ca32 (ca32 (.cons (.val true (.pair (.int .u32) (.pair (.int .u32) (.pair (.int .u32) (.pair (.int .u32) (.pair (.int .u32) (.pair (.int .u32) (.pair (.int .u32) (.int .u32))))))))) (.cons (.val false (.int .i64)) (ca (ca2 (ca8 .nil))))))))))))))), (.cells 86 (.cons (.flat (.pair (.int .u32) (.pair (.int .u32) (.pair (.int .u32) (.pair (.int .u32) (.pair (.int .u32) (.pair (.int .u32) (.pair (.int .u32) (.int .u32))))))))) .nil) (.cells 86 (.cons (.flat (.pair (.int .u32) (.pair (.int .u32) (.pair (.int .u32) (.pair (.int .u32) (.pair (.int .u32) (.pair (.int .u32) (.pair (.int .u32) (.int .u32))))))))) .nil) .nil)), 0, .one 3 [] (ca2 (.cons (.ref 0 0) (ca (.cons (.ref 1 0) (ca2 (ca8 (ca32 (ca32 (ca32 .nil))))))))) (.cells 86 (.cons (.flat (.pair (.int .u32) (.pair (.int .u32) (.pair (.int .u32) (.pair (.int .u32) (.pair (.int .u32) (.pair (.int .u32) (.pair (.int .u32) (.int .u32))))))))) .nil) (.cells 86 (.cons (.flat (.pair (.int .u32) (.pair (.int .u32) (.pair (.int .u32) (.pair (.int .u32) (.pair (.int .u32) (.pair (.int .u32) (.pair (.int .u32) (.int .u32))))))))) .nil) .nil)), fun z => .bnd (.loop (fun v => sha_take_L12_step z.1.2.2.2.2.2.2.2.2.2.2.2.2.2.2.2.2.2.2.2.2.2.2.2.2.2.2.2.2.2.2.2.2.2.2.2.2.2.2.2.2.2.2.2.2.2.2.2.2.2.2.2.2.2.2.2.2.2.2.2.2.2.2.2.2.2.2.2.2.2.2.2.2.2.2.2.2.2.2.2.2.2.2.2.2.2.2.2.2.2.2.2.2.2.2.2.2.2.2.1 z.2.2.1.1 v.1 v.2) (z.1.2.2.2.2.2.2.2.2.2.2.2.2.2.2.2.2.2.2.2.2.2.2.2.2.2.2.2.2.2.2.2.2.2.2.2.2.2.2.2.2.2.2.2.2.2.2.2.2.2.2.2.2.2.2.2.2.2.2.2.2.2.2.2.2.2.2.2.2.2.2.2.2.2.2.2.2.2.2.2.2.2.2.2.2.2.2.2.2.2.2.2.2.2.2.2.2.2.2.2.1, z.2.1.1)) fun r => .ret ((cu2 ((), (cu ((), (cu2 (cu8 (cu32 (cu32 (cu32 ()))))))))), ((r, ()), ((z.2.2.1.1, ()), ())))⟩

theorem sha_take_L12_ok : sha_take_L12.ok Tryz.prog (nthC (loopsOf (bodyOf Tryz.f65)) 1) := by
  refine Lp.lift (π := ((Int × (Int × (Int × (Int × (Int × (Int × (Int × Int))))))) × (Int × (Int × (Int × (Int × (Int × (Int × (Int × Int))))))))) (V := (Int × (Int × (Int × (Int × (Int × (Int × (Int × (Int × Int))))))))) (ρ := (Int × (Int × (Int × (Int × (Int × (Int × (Int × Int)))))))) mix tabOk sha_take_L12 (o := orT [sha_spread_g, sha_rounds_g, sha_turns_g] [] sha_take_fz) (orT_sound ⟨sha_spread_ok, ⟨sha_rounds_ok, ⟨sha_turns_ok, trivial⟩⟩⟩) (allLp_of [] (by kernel_rfl) trivial rfl) (fun x v => ((cu2 ((), (cu ((), (cu (cu4 (cu8 (cu16 (cu32 (cu32 (x.1, (v.1, (cu (cu2 (cu8 ()))))))))))))))), ((v.2, ()), ((x.2, ()), ())))) (fun x r => ((cu2 ((), (cu ((), (cu2 (cu8 (cu32 (cu32 (cu32 ()))))))))), ((r, ()), ((x.2, ()), ())))) (fun x v => sha_take_L12_step x.1 x.2 v.1 v.2) (fun x r => .ret ((cu2 ((), (cu ((), (cu2 (cu8 (cu32 (cu32 (cu32 ()))))))))), ((r, ()), ((x.2, ()), ())))) (fun z => (z.1.2.2.2.2.2.2.2.2.2.2.2.2.2.2.2.2.2.2.2.2.2.2.2.2.2.2.2.2.2.2.2.2.2.2.2.2.2.2.2.2.2.2.2.2.2.2.2.2.2.2.2.2.2.2.2.2.2.2.2.2.2.2.2.2.2.2.2.2.2.2.2.2.2.2.2.2.2.2.2.2.2.2.2.2.2.2.2.2.2.2.2.2.2.2.2.2.2.2.1, z.2.2.1.1)) (fun z => (z.1.2.2.2.2.2.2.2.2.2.2.2.2.2.2.2.2.2.2.2.2.2.2.2.2.2.2.2.2.2.2.2.2.2.2.2.2.2.2.2.2.2.2.2.2.2.2.2.2.2.2.2.2.2.2.2.2.2.2.2.2.2.2.2.2.2.2.2.2.2.2.2.2.2.2.2.2.2.2.2.2.2.2.2.2.2.2.2.2.2.2.2.2.2.2.2.2.2.2.2.1, z.2.1.1)) (fun _ => rfl) (fun _ => rfl) (fun _ _ _ h => h) ?_
  intro x v; kernel_rfl

def sha_take_T (x0 : (Int × (Int × (Int × (Int × (Int × (Int × (Int × Int)))))))) (x1 : List Int) : Tree (Int × (Int × (Int × (Int × (Int × (Int × (Int × Int))))))) :=
  .bnd (sha_spread_T x1) fun y1 =>
  .bnd sha_rounds_T fun y2 =>
  ask (inb 0 8) <|
  ask (inb 1 8) <|
  ask (inb 2 8) <|
  ask (inb 3 8) <|
  ask (inb 4 8) <|
  ask (inb 5 8) <|
  ask (inb 6 8) <|
  ask (inb 7 8) <|
  .bnd (.loop (fun v => sha_take_L5_step x0 (0, (0, (0, (0, (0, (0, (0, 0))))))) [y1.1, y1.2.1, y1.2.2.1, y1.2.2.2.1, y1.2.2.2.2.1, y1.2.2.2.2.2.1, y1.2.2.2.2.2.2.1, y1.2.2.2.2.2.2.2.1, y1.2.2.2.2.2.2.2.2.1, y1.2.2.2.2.2.2.2.2.2.1, y1.2.2.2.2.2.2.2.2.2.2.1, y1.2.2.2.2.2.2.2.2.2.2.2.1, y1.2.2.2.2.2.2.2.2.2.2.2.2.1, y1.2.2.2.2.2.2.2.2.2.2.2.2.2.1, y1.2.2.2.2.2.2.2.2.2.2.2.2.2.2.1, y1.2.2.2.2.2.2.2.2.2.2.2.2.2.2.2.1, y1.2.2.2.2.2.2.2.2.2.2.2.2.2.2.2.2.1, y1.2.2.2.2.2.2.2.2.2.2.2.2.2.2.2.2.2.1, y1.2.2.2.2.2.2.2.2.2.2.2.2.2.2.2.2.2.2.1, y1.2.2.2.2.2.2.2.2.2.2.2.2.2.2.2.2.2.2.2.1, y1.2.2.2.2.2.2.2.2.2.2.2.2.2.2.2.2.2.2.2.2.1, y1.2.2.2.2.2.2.2.2.2.2.2.2.2.2.2.2.2.2.2.2.2.1, y1.2.2.2.2.2.2.2.2.2.2.2.2.2.2.2.2.2.2.2.2.2.2.1, y1.2.2.2.2.2.2.2.2.2.2.2.2.2.2.2.2.2.2.2.2.2.2.2.1, y1.2.2.2.2.2.2.2.2.2.2.2.2.2.2.2.2.2.2.2.2.2.2.2.2.1, y1.2.2.2.2.2.2.2.2.2.2.2.2.2.2.2.2.2.2.2.2.2.2.2.2.2.1, y1.2.2.2.2.2.2.2.2.2.2.2.2.2.2.2.2.2.2.2.2.2.2.2.2.2.2.1, y1.2.2.2.2.2.2.2.2.2.2.2.2.2.2.2.2.2.2.2.2.2.2.2.2.2.2.2.1, y1.2.2.2.2.2.2.2.2.2.2.2.2.2.2.2.2.2.2.2.2.2.2.2.2.2.2.2.2.1, y1.2.2.2.2.2.2.2.2.2.2.2.2.2.2.2.2.2.2.2.2.2.2.2.2.2.2.2.2.2.1, y1.2.2.2.2.2.2.2.2.2.2.2.2.2.2.2.2.2.2.2.2.2.2.2.2.2.2.2.2.2.2.1, y1.2.2.2.2.2.2.2.2.2.2.2.2.2.2.2.2.2.2.2.2.2.2.2.2.2.2.2.2.2.2.2.1, y1.2.2.2.2.2.2.2.2.2.2.2.2.2.2.2.2.2.2.2.2.2.2.2.2.2.2.2.2.2.2.2.2.1, y1.2.2.2.2.2.2.2.2.2.2.2.2.2.2.2.2.2.2.2.2.2.2.2.2.2.2.2.2.2.2.2.2.2.1, y1.2.2.2.2.2.2.2.2.2.2.2.2.2.2.2.2.2.2.2.2.2.2.2.2.2.2.2.2.2.2.2.2.2.2.1, y1.2.2.2.2.2.2.2.2.2.2.2.2.2.2.2.2.2.2.2.2.2.2.2.2.2.2.2.2.2.2.2.2.2.2.2.1, y1.2.2.2.2.2.2.2.2.2.2.2.2.2.2.2.2.2.2.2.2.2.2.2.2.2.2.2.2.2.2.2.2.2.2.2.2.1, y1.2.2.2.2.2.2.2.2.2.2.2.2.2.2.2.2.2.2.2.2.2.2.2.2.2.2.2.2.2.2.2.2.2.2.2.2.2.1, y1.2.2.2.2.2.2.2.2.2.2.2.2.2.2.2.2.2.2.2.2.2.2.2.2.2.2.2.2.2.2.2.2.2.2.2.2.2.2.1, y1.2.2.2.2.2.2.2.2.2.2.2.2.2.2.2.2.2.2.2.2.2.2.2.2.2.2.2.2.2.2.2.2.2.2.2.2.2.2.2.1, y1.2.2.2.2.2.2.2.2.2.2.2.2.2.2.2.2.2.2.2.2.2.2.2.2.2.2.2.2.2.2.2.2.2.2.2.2.2.2.2.2.1, y1.2.2.2.2.2.2.2.2.2.2.2.2.2.2.2.2.2.2.2.2.2.2.2.2.2.2.2.2.2.2.2.2.2.2.2.2.2.2.2.2.2.1, y1.2.2.2.2.2.2.2.2.2.2.2.2.2.2.2.2.2.2.2.2.2.2.2.2.2.2.2.2.2.2.2.2.2.2.2.2.2.2.2.2.2.2.1, y1.2.2.2.2.2.2.2.2.2.2.2.2.2.2.2.2.2.2.2.2.2.2.2.2.2.2.2.2.2.2.2.2.2.2.2.2.2.2.2.2.2.2.2.1, y1.2.2.2.2.2.2.2.2.2.2.2.2.2.2.2.2.2.2.2.2.2.2.2.2.2.2.2.2.2.2.2.2.2.2.2.2.2.2.2.2.2.2.2.2.1, y1.2.2.2.2.2.2.2.2.2.2.2.2.2.2.2.2.2.2.2.2.2.2.2.2.2.2.2.2.2.2.2.2.2.2.2.2.2.2.2.2.2.2.2.2.2.1, y1.2.2.2.2.2.2.2.2.2.2.2.2.2.2.2.2.2.2.2.2.2.2.2.2.2.2.2.2.2.2.2.2.2.2.2.2.2.2.2.2.2.2.2.2.2.2.1, y1.2.2.2.2.2.2.2.2.2.2.2.2.2.2.2.2.2.2.2.2.2.2.2.2.2.2.2.2.2.2.2.2.2.2.2.2.2.2.2.2.2.2.2.2.2.2.2.1, y1.2.2.2.2.2.2.2.2.2.2.2.2.2.2.2.2.2.2.2.2.2.2.2.2.2.2.2.2.2.2.2.2.2.2.2.2.2.2.2.2.2.2.2.2.2.2.2.2.1, y1.2.2.2.2.2.2.2.2.2.2.2.2.2.2.2.2.2.2.2.2.2.2.2.2.2.2.2.2.2.2.2.2.2.2.2.2.2.2.2.2.2.2.2.2.2.2.2.2.2.1, y1.2.2.2.2.2.2.2.2.2.2.2.2.2.2.2.2.2.2.2.2.2.2.2.2.2.2.2.2.2.2.2.2.2.2.2.2.2.2.2.2.2.2.2.2.2.2.2.2.2.2.1, y1.2.2.2.2.2.2.2.2.2.2.2.2.2.2.2.2.2.2.2.2.2.2.2.2.2.2.2.2.2.2.2.2.2.2.2.2.2.2.2.2.2.2.2.2.2.2.2.2.2.2.2.1, y1.2.2.2.2.2.2.2.2.2.2.2.2.2.2.2.2.2.2.2.2.2.2.2.2.2.2.2.2.2.2.2.2.2.2.2.2.2.2.2.2.2.2.2.2.2.2.2.2.2.2.2.2.1, y1.2.2.2.2.2.2.2.2.2.2.2.2.2.2.2.2.2.2.2.2.2.2.2.2.2.2.2.2.2.2.2.2.2.2.2.2.2.2.2.2.2.2.2.2.2.2.2.2.2.2.2.2.2.1, y1.2.2.2.2.2.2.2.2.2.2.2.2.2.2.2.2.2.2.2.2.2.2.2.2.2.2.2.2.2.2.2.2.2.2.2.2.2.2.2.2.2.2.2.2.2.2.2.2.2.2.2.2.2.2.1, y1.2.2.2.2.2.2.2.2.2.2.2.2.2.2.2.2.2.2.2.2.2.2.2.2.2.2.2.2.2.2.2.2.2.2.2.2.2.2.2.2.2.2.2.2.2.2.2.2.2.2.2.2.2.2.2.1, y1.2.2.2.2.2.2.2.2.2.2.2.2.2.2.2.2.2.2.2.2.2.2.2.2.2.2.2.2.2.2.2.2.2.2.2.2.2.2.2.2.2.2.2.2.2.2.2.2.2.2.2.2.2.2.2.2.1, y1.2.2.2.2.2.2.2.2.2.2.2.2.2.2.2.2.2.2.2.2.2.2.2.2.2.2.2.2.2.2.2.2.2.2.2.2.2.2.2.2.2.2.2.2.2.2.2.2.2.2.2.2.2.2.2.2.2.1, y1.2.2.2.2.2.2.2.2.2.2.2.2.2.2.2.2.2.2.2.2.2.2.2.2.2.2.2.2.2.2.2.2.2.2.2.2.2.2.2.2.2.2.2.2.2.2.2.2.2.2.2.2.2.2.2.2.2.2.1, y1.2.2.2.2.2.2.2.2.2.2.2.2.2.2.2.2.2.2.2.2.2.2.2.2.2.2.2.2.2.2.2.2.2.2.2.2.2.2.2.2.2.2.2.2.2.2.2.2.2.2.2.2.2.2.2.2.2.2.2.1, y1.2.2.2.2.2.2.2.2.2.2.2.2.2.2.2.2.2.2.2.2.2.2.2.2.2.2.2.2.2.2.2.2.2.2.2.2.2.2.2.2.2.2.2.2.2.2.2.2.2.2.2.2.2.2.2.2.2.2.2.2.1, y1.2.2.2.2.2.2.2.2.2.2.2.2.2.2.2.2.2.2.2.2.2.2.2.2.2.2.2.2.2.2.2.2.2.2.2.2.2.2.2.2.2.2.2.2.2.2.2.2.2.2.2.2.2.2.2.2.2.2.2.2.2.1, y1.2.2.2.2.2.2.2.2.2.2.2.2.2.2.2.2.2.2.2.2.2.2.2.2.2.2.2.2.2.2.2.2.2.2.2.2.2.2.2.2.2.2.2.2.2.2.2.2.2.2.2.2.2.2.2.2.2.2.2.2.2.2.1, y1.2.2.2.2.2.2.2.2.2.2.2.2.2.2.2.2.2.2.2.2.2.2.2.2.2.2.2.2.2.2.2.2.2.2.2.2.2.2.2.2.2.2.2.2.2.2.2.2.2.2.2.2.2.2.2.2.2.2.2.2.2.2.2] [y2.1, y2.2.1, y2.2.2.1, y2.2.2.2.1, y2.2.2.2.2.1, y2.2.2.2.2.2.1, y2.2.2.2.2.2.2.1, y2.2.2.2.2.2.2.2.1, y2.2.2.2.2.2.2.2.2.1, y2.2.2.2.2.2.2.2.2.2.1, y2.2.2.2.2.2.2.2.2.2.2.1, y2.2.2.2.2.2.2.2.2.2.2.2.1, y2.2.2.2.2.2.2.2.2.2.2.2.2.1, y2.2.2.2.2.2.2.2.2.2.2.2.2.2.1, y2.2.2.2.2.2.2.2.2.2.2.2.2.2.2.1, y2.2.2.2.2.2.2.2.2.2.2.2.2.2.2.2.1, y2.2.2.2.2.2.2.2.2.2.2.2.2.2.2.2.2.1, y2.2.2.2.2.2.2.2.2.2.2.2.2.2.2.2.2.2.1, y2.2.2.2.2.2.2.2.2.2.2.2.2.2.2.2.2.2.2.1, y2.2.2.2.2.2.2.2.2.2.2.2.2.2.2.2.2.2.2.2.1, y2.2.2.2.2.2.2.2.2.2.2.2.2.2.2.2.2.2.2.2.2.1, y2.2.2.2.2.2.2.2.2.2.2.2.2.2.2.2.2.2.2.2.2.2.1, y2.2.2.2.2.2.2.2.2.2.2.2.2.2.2.2.2.2.2.2.2.2.2.1, y2.2.2.2.2.2.2.2.2.2.2.2.2.2.2.2.2.2.2.2.2.2.2.2.1, y2.2.2.2.2.2.2.2.2.2.2.2.2.2.2.2.2.2.2.2.2.2.2.2.2.1, y2.2.2.2.2.2.2.2.2.2.2.2.2.2.2.2.2.2.2.2.2.2.2.2.2.2.1, y2.2.2.2.2.2.2.2.2.2.2.2.2.2.2.2.2.2.2.2.2.2.2.2.2.2.2.1, y2.2.2.2.2.2.2.2.2.2.2.2.2.2.2.2.2.2.2.2.2.2.2.2.2.2.2.2.1, y2.2.2.2.2.2.2.2.2.2.2.2.2.2.2.2.2.2.2.2.2.2.2.2.2.2.2.2.2.1, y2.2.2.2.2.2.2.2.2.2.2.2.2.2.2.2.2.2.2.2.2.2.2.2.2.2.2.2.2.2.1, y2.2.2.2.2.2.2.2.2.2.2.2.2.2.2.2.2.2.2.2.2.2.2.2.2.2.2.2.2.2.2.1, y2.2.2.2.2.2.2.2.2.2.2.2.2.2.2.2.2.2.2.2.2.2.2.2.2.2.2.2.2.2.2.2.1, y2.2.2.2.2.2.2.2.2.2.2.2.2.2.2.2.2.2.2.2.2.2.2.2.2.2.2.2.2.2.2.2.2.1, y2.2.2.2.2.2.2.2.2.2.2.2.2.2.2.2.2.2.2.2.2.2.2.2.2.2.2.2.2.2.2.2.2.2.1, y2.2.2.2.2.2.2.2.2.2.2.2.2.2.2.2.2.2.2.2.2.2.2.2.2.2.2.2.2.2.2.2.2.2.2.1, y2.2.2.2.2.2.2.2.2.2.2.2.2.2.2.2.2.2.2.2.2.2.2.2.2.2.2.2.2.2.2.2.2.2.2.2.1, y2.2.2.2.2.2.2.2.2.2.2.2.2.2.2.2.2.2.2.2.2.2.2.2.2.2.2.2.2.2.2.2.2.2.2.2.2.1, y2.2.2.2.2.2.2.2.2.2.2.2.2.2.2.2.2.2.2.2.2.2.2.2.2.2.2.2.2.2.2.2.2.2.2.2.2.2.1, y2.2.2.2.2.2.2.2.2.2.2.2.2.2.2.2.2.2.2.2.2.2.2.2.2.2.2.2.2.2.2.2.2.2.2.2.2.2.2.1, y2.2.2.2.2.2.2.2.2.2.2.2.2.2.2.2.2.2.2.2.2.2.2.2.2.2.2.2.2.2.2.2.2.2.2.2.2.2.2.2.1, y2.2.2.2.2.2.2.2.2.2.2.2.2.2.2.2.2.2.2.2.2.2.2.2.2.2.2.2.2.2.2.2.2.2.2.2.2.2.2.2.2.1, y2.2.2.2.2.2.2.2.2.2.2.2.2.2.2.2.2.2.2.2.2.2.2.2.2.2.2.2.2.2.2.2.2.2.2.2.2.2.2.2.2.2.1, y2.2.2.2.2.2.2.2.2.2.2.2.2.2.2.2.2.2.2.2.2.2.2.2.2.2.2.2.2.2.2.2.2.2.2.2.2.2.2.2.2.2.2.1, y2.2.2.2.2.2.2.2.2.2.2.2.2.2.2.2.2.2.2.2.2.2.2.2.2.2.2.2.2.2.2.2.2.2.2.2.2.2.2.2.2.2.2.2.1, y2.2.2.2.2.2.2.2.2.2.2.2.2.2.2.2.2.2.2.2.2.2.2.2.2.2.2.2.2.2.2.2.2.2.2.2.2.2.2.2.2.2.2.2.2.1, y2.2.2.2.2.2.2.2.2.2.2.2.2.2.2.2.2.2.2.2.2.2.2.2.2.2.2.2.2.2.2.2.2.2.2.2.2.2.2.2.2.2.2.2.2.2.1, y2.2.2.2.2.2.2.2.2.2.2.2.2.2.2.2.2.2.2.2.2.2.2.2.2.2.2.2.2.2.2.2.2.2.2.2.2.2.2.2.2.2.2.2.2.2.2.1, y2.2.2.2.2.2.2.2.2.2.2.2.2.2.2.2.2.2.2.2.2.2.2.2.2.2.2.2.2.2.2.2.2.2.2.2.2.2.2.2.2.2.2.2.2.2.2.2.1, y2.2.2.2.2.2.2.2.2.2.2.2.2.2.2.2.2.2.2.2.2.2.2.2.2.2.2.2.2.2.2.2.2.2.2.2.2.2.2.2.2.2.2.2.2.2.2.2.2.1, y2.2.2.2.2.2.2.2.2.2.2.2.2.2.2.2.2.2.2.2.2.2.2.2.2.2.2.2.2.2.2.2.2.2.2.2.2.2.2.2.2.2.2.2.2.2.2.2.2.2.1, y2.2.2.2.2.2.2.2.2.2.2.2.2.2.2.2.2.2.2.2.2.2.2.2.2.2.2.2.2.2.2.2.2.2.2.2.2.2.2.2.2.2.2.2.2.2.2.2.2.2.2.1, y2.2.2.2.2.2.2.2.2.2.2.2.2.2.2.2.2.2.2.2.2.2.2.2.2.2.2.2.2.2.2.2.2.2.2.2.2.2.2.2.2.2.2.2.2.2.2.2.2.2.2.2.1, y2.2.2.2.2.2.2.2.2.2.2.2.2.2.2.2.2.2.2.2.2.2.2.2.2.2.2.2.2.2.2.2.2.2.2.2.2.2.2.2.2.2.2.2.2.2.2.2.2.2.2.2.2.1, y2.2.2.2.2.2.2.2.2.2.2.2.2.2.2.2.2.2.2.2.2.2.2.2.2.2.2.2.2.2.2.2.2.2.2.2.2.2.2.2.2.2.2.2.2.2.2.2.2.2.2.2.2.2.1, y2.2.2.2.2.2.2.2.2.2.2.2.2.2.2.2.2.2.2.2.2.2.2.2.2.2.2.2.2.2.2.2.2.2.2.2.2.2.2.2.2.2.2.2.2.2.2.2.2.2.2.2.2.2.2.1, y2.2.2.2.2.2.2.2.2.2.2.2.2.2.2.2.2.2.2.2.2.2.2.2.2.2.2.2.2.2.2.2.2.2.2.2.2.2.2.2.2.2.2.2.2.2.2.2.2.2.2.2.2.2.2.2.1, y2.2.2.2.2.2.2.2.2.2.2.2.2.2.2.2.2.2.2.2.2.2.2.2.2.2.2.2.2.2.2.2.2.2.2.2.2.2.2.2.2.2.2.2.2.2.2.2.2.2.2.2.2.2.2.2.2.1, y2.2.2.2.2.2.2.2.2.2.2.2.2.2.2.2.2.2.2.2.2.2.2.2.2.2.2.2.2.2.2.2.2.2.2.2.2.2.2.2.2.2.2.2.2.2.2.2.2.2.2.2.2.2.2.2.2.2.1, y2.2.2.2.2.2.2.2.2.2.2.2.2.2.2.2.2.2.2.2.2.2.2.2.2.2.2.2.2.2.2.2.2.2.2.2.2.2.2.2.2.2.2.2.2.2.2.2.2.2.2.2.2.2.2.2.2.2.2.1, y2.2.2.2.2.2.2.2.2.2.2.2.2.2.2.2.2.2.2.2.2.2.2.2.2.2.2.2.2.2.2.2.2.2.2.2.2.2.2.2.2.2.2.2.2.2.2.2.2.2.2.2.2.2.2.2.2.2.2.2.1, y2.2.2.2.2.2.2.2.2.2.2.2.2.2.2.2.2.2.2.2.2.2.2.2.2.2.2.2.2.2.2.2.2.2.2.2.2.2.2.2.2.2.2.2.2.2.2.2.2.2.2.2.2.2.2.2.2.2.2.2.2.1, y2.2.2.2.2.2.2.2.2.2.2.2.2.2.2.2.2.2.2.2.2.2.2.2.2.2.2.2.2.2.2.2.2.2.2.2.2.2.2.2.2.2.2.2.2.2.2.2.2.2.2.2.2.2.2.2.2.2.2.2.2.2.1, y2.2.2.2.2.2.2.2.2.2.2.2.2.2.2.2.2.2.2.2.2.2.2.2.2.2.2.2.2.2.2.2.2.2.2.2.2.2.2.2.2.2.2.2.2.2.2.2.2.2.2.2.2.2.2.2.2.2.2.2.2.2.2.1, y2.2.2.2.2.2.2.2.2.2.2.2.2.2.2.2.2.2.2.2.2.2.2.2.2.2.2.2.2.2.2.2.2.2.2.2.2.2.2.2.2.2.2.2.2.2.2.2.2.2.2.2.2.2.2.2.2.2.2.2.2.2.2.2] v.1 v.2.1 v.2.2.1 v.2.2.2.1 v.2.2.2.2.1 v.2.2.2.2.2.1 v.2.2.2.2.2.2.1 v.2.2.2.2.2.2.2.1 v.2.2.2.2.2.2.2.2) (x0.1, x0.2.1, x0.2.2.1, x0.2.2.2.1, x0.2.2.2.2.1, x0.2.2.2.2.2.1, x0.2.2.2.2.2.2.1, x0.2.2.2.2.2.2.2, 0)) fun r3 =>
  .bnd (.loop (fun v => sha_take_L12_step r3 (0, (0, (0, (0, (0, (0, (0, 0))))))) v.1 v.2) (0, x0)) fun r4 =>
  .ret r4

def sha_take_g : Sig := ⟨65, (.cons (.val true (.pair (.int .u32) (.pair (.int .u32) (.pair (.int .u32) (.pair (.int .u32) (.pair (.int .u32) (.pair (.int .u32) (.pair (.int .u32) (.int .u32))))))))) (.cons (.val false (.list (.int .u8))) .nil)), .vals (.val true (.pair (.int .u32) (.pair (.int .u32) (.pair (.int .u32) (.pair (.int .u32) (.pair (.int .u32) (.pair (.int .u32) (.pair (.int .u32) (.int .u32))))))))), fun z => sha_take_T z.1 z.2.1, (dfl (.pair (.int .u32) (.pair (.int .u32) (.pair (.int .u32) (.pair (.int .u32) (.pair (.int .u32) (.pair (.int .u32) (.pair (.int .u32) (.int .u32)))))))) : (Int × (Int × (Int × (Int × (Int × (Int × (Int × Int))))))))⟩

theorem sha_take_ok : sha_take_g.ok Tryz.prog := by
  refine Sig.lift mix tabOk nms _ Tryz.func65 (c := (bodyOf Tryz.f65)) (by kernel_rfl) (o := orT [sha_spread_g, sha_rounds_g, sha_turns_g] [sha_take_L5, sha_take_L12] sha_take_fz) (orT_sound ⟨sha_spread_ok, ⟨sha_rounds_ok, ⟨sha_turns_ok, trivial⟩⟩⟩) (allLp_of [nthC (loopsOf (bodyOf Tryz.f65)) 0, nthC (loopsOf (bodyOf Tryz.f65)) 1] (by kernel_rfl) ⟨sha_take_L5_ok, ⟨sha_take_L12_ok, trivial⟩⟩ (by kernel_rfl)) ?_
  intro z; kernel_rfl

def sha_Sum_fz : Nat → List Pre
  | 5 => [.ownC 1 1 5 (.int .u8)]
  | 10 => [.two]
  | 14 => [.spl 44 8]
  | _ => []

def sha_Sum_L2_step (s_ : Str) (all : List Int) : Tree (List Int ⊕ (List Int)) :=
  ask (!decide ((64 : Int) = 0)) <|
  .ite (!decide (((all.length : Int).tmod 64) = 56)) (
    ask (decide ((all ++ [0]).length * 1 ≤ roomNat)) <|
    .ret (.inl (all ++ [0]))) (
    .ret (.inr all))

def sha_Sum_L2 : Lp := ⟨2, [], [], (.cons (.val false .str) (ca2 (.cons (.own 0) (ca2 (ca16 (ca32 .nil)))))), (.rows 5 (.int .u8) .nil), 0, .one 1 [] (.cons (.val false .str) (ca2 (.cons (.own 0) (ca2 (ca16 (ca32 .nil)))))) (.rows 5 (.int .u8) .nil), fun z => .bnd (.loop (fun v => sha_Sum_L2_step z.1.1 v) z.2.1) fun r => .ret ((z.1.1, (cu2 ((), (cu2 (cu16 (cu32 ())))))), (r, ()))⟩

theorem sha_Sum_L2_ok : sha_Sum_L2.ok Tryz.prog (nthC (loopsOf (bodyOf Tryz.f41)) 0) := by
  refine Lp.lift (π := Str) (V := List Int) (ρ := List Int) mix tabOk sha_Sum_L2 (o := orM [sha_take_g] [octet_Writer_Int_g, octet_Writer_Bytes_g, octet_Writer_Count_g] [] sha_Sum_fz) (orM_sound ⟨sha_take_ok, trivial⟩ ⟨octet_Writer_Int_ok, ⟨octet_Writer_Bytes_ok, ⟨octet_Writer_Count_ok, trivial⟩⟩⟩) (allLp_ofM [] (by kernel_rfl) trivial rfl) (fun x v => ((x, (cu2 ((), (cu2 (cu16 (cu32 ())))))), (v, ()))) (fun x r => ((x, (cu2 ((), (cu2 (cu16 (cu32 ())))))), (r, ()))) (fun x v => sha_Sum_L2_step x v) (fun x r => .ret ((x, (cu2 ((), (cu2 (cu16 (cu32 ())))))), (r, ()))) (fun z => z.1.1) (fun z => z.2.1) (fun _ => rfl) (fun _ => rfl) (fun _ _ _ h => h) ?_
  intro x v; kernel_rfl

def sha_Sum_L8_step (all : List Int) (state : (Int × (Int × (Int × (Int × (Int × (Int × (Int × Int)))))))) : Tree (((List Int) × (Int × (Int × (Int × (Int × (Int × (Int × (Int × Int)))))))) ⊕ (Int × (Int × (Int × (Int × (Int × (Int × (Int × Int)))))))) :=
  .ite (decide ((0 : Int) < (all.length : Int))) (
    ask (inbe 64 all.length) <|
    .bnd (sha_take_T state (all.take (64 : Int).toNat)) fun y1 =>
    ask (inbe 64 all.length) <|
    .ret (.inl ((all.drop (64 : Int).toNat), y1))) (
    .ret (.inr state))

def sha_Sum_L8 : Lp := ⟨8, [.frz 0], [], (ca (ca2 (.cons (.val false (.list (.int .u8))) (ca (.cons (.ref 3 0) (ca16 (ca32 .nil))))))), (.dead (.cells 64 (ca2 .nil) (.dead (.cells 86 (.cons (.flat (.pair (.int .u32) (.pair (.int .u32) (.pair (.int .u32) (.pair (.int .u32) (.pair (.int .u32) (.pair (.int .u32) (.pair (.int .u32) (.int .u32))))))))) .nil) .nil)))), 0, .one 3 [] (ca (ca4 (.cons (.ref 3 0) (ca16 (ca32 .nil))))) (.dead (.cells 64 (ca2 .nil) (.dead (.cells 86 (.cons (.flat (.pair (.int .u32) (.pair (.int .u32) (.pair (.int .u32) (.pair (.int .u32) (.pair (.int .u32) (.pair (.int .u32) (.pair (.int .u32) (.int .u32))))))))) .nil) .nil)))), fun z => .bnd (.loop (fun v => sha_Sum_L8_step v.1 v.2) (z.1.2.2.2.1, z.2.2.1.1)) fun r => .ret ((cu (cu4 ((), (cu16 (cu32 ()))))), ((cu2 ()), ((r, ()), ())))⟩

theorem sha_Sum_L8_ok : sha_Sum_L8.ok Tryz.prog (nthC (loopsOf (bodyOf Tryz.f41)) 1) := by
  refine Lp.lift (π := Unit) (V := ((List Int) × (Int × (Int × (Int × (Int × (Int × (Int × (Int × Int))))))))) (ρ := (Int × (Int × (Int × (Int × (Int × (Int × (Int × Int)))))))) mix tabOk sha_Sum_L8 (o := orM [sha_take_g] [octet_Writer_Int_g, octet_Writer_Bytes_g, octet_Writer_Count_g] [] sha_Sum_fz) (orM_sound ⟨sha_take_ok, trivial⟩ ⟨octet_Writer_Int_ok, ⟨octet_Writer_Bytes_ok, ⟨octet_Writer_Count_ok, trivial⟩⟩⟩) (allLp_ofM [] (by kernel_rfl) trivial rfl) (fun x v => ((cu (cu2 (v.1, (cu ((), (cu16 (cu32 ()))))))), ((cu2 ()), ((v.2, ()), ())))) (fun x r => ((cu (cu4 ((), (cu16 (cu32 ()))))), ((cu2 ()), ((r, ()), ())))) (fun x v => sha_Sum_L8_step v.1 v.2) (fun x r => .ret ((cu (cu4 ((), (cu16 (cu32 ()))))), ((cu2 ()), ((r, ()), ())))) (fun z => ()) (fun z => (z.1.2.2.2.1, z.2.2.1.1)) (fun _ => rfl) (fun _ => rfl) (fun _ _ _ h => h) ?_
  intro x v; kernel_rfl

def sha_Sum_L13_step (t : (Int × (Int × (Int × (Int × (Int × (Int × (Int × Int)))))))) (t2 : Int) (rows : List Int) : Tree ((Int × (List Int)) ⊕ (List Int)) :=
  .ite (decide (t2 < 8)) (
    .ite (decide (t2 = 0)) (
      ask (inb 0 8) <|
      .bnd (octet_Writer_Count_T (w64 (t.1)) rows) fun y8 =>
      .ret (.inl ((w64 ((0 : Int) + 1)), y8.2.2.1))) (
      .ite (decide (t2 = 1)) (
        ask (inb 1 8) <|
        .bnd (octet_Writer_Count_T (w64 (t.2.1)) rows) fun y7 =>
        .ret (.inl ((w64 ((1 : Int) + 1)), y7.2.2.1))) (
        .ite (decide (t2 = 2)) (
          ask (inb 2 8) <|
          .bnd (octet_Writer_Count_T (w64 (t.2.2.1)) rows) fun y6 =>
          .ret (.inl ((w64 ((2 : Int) + 1)), y6.2.2.1))) (
          .ite (decide (t2 = 3)) (
            ask (inb 3 8) <|
            .bnd (octet_Writer_Count_T (w64 (t.2.2.2.1)) rows) fun y5 =>
            .ret (.inl ((w64 ((3 : Int) + 1)), y5.2.2.1))) (
            .ite (decide (t2 = 4)) (
              ask (inb 4 8) <|
              .bnd (octet_Writer_Count_T (w64 (t.2.2.2.2.1)) rows) fun y4 =>
              .ret (.inl ((w64 ((4 : Int) + 1)), y4.2.2.1))) (
              .ite (decide (t2 = 5)) (
                ask (inb 5 8) <|
                .bnd (octet_Writer_Count_T (w64 (t.2.2.2.2.2.1)) rows) fun y3 =>
                .ret (.inl ((w64 ((5 : Int) + 1)), y3.2.2.1))) (
                .ite (decide (t2 = 6)) (
                  ask (inb 6 8) <|
                  .bnd (octet_Writer_Count_T (w64 (t.2.2.2.2.2.2.1)) rows) fun y2 =>
                  .ret (.inl ((w64 ((6 : Int) + 1)), y2.2.2.1))) (
                  .ite (decide (t2 = 7)) (
                    ask (inb 7 8) <|
                    .bnd (octet_Writer_Count_T (w64 (t.2.2.2.2.2.2.2)) rows) fun y1 =>
                    .ret (.inl ((w64 ((7 : Int) + 1)), y1.2.2.1))) (
                    .fail))))))))) (
    .ret (.inr rows))

def sha_Sum_L13 : Lp := ⟨13, [.ownC 4 1 5 (.int .u8)], [], (ca2 (ca4 (.cons (.ref 4 0) (ca4 (ca32 (.cons (.val true (.pair (.int .u32) (.pair (.int .u32) (.pair (.int .u32) (.pair (.int .u32) (.pair (.int .u32) (.pair (.int .u32) (.pair (.int .u32) (.int .u32))))))))) (.cons (.val false (.int .i64)) (ca (ca8 .nil))))))))), (.dead (.cells 64 (ca2 .nil) (.dead (.cells 86 (ca8 .nil) (.cells 64 (.cons (.selfp 4) (.cons (.own 5) .nil)) (.rows 5 (.int .u8) .nil)))))), 0, .one 5 [] (ca2 (ca4 (.cons (.ref 4 0) (ca (ca2 (ca4 (ca8 (ca32 .nil)))))))) (.dead (.cells 64 (ca2 .nil) (.dead (.cells 86 (ca8 .nil) (.cells 64 (.cons (.selfp 4) (.cons (.own 5) .nil)) (.rows 5 (.int .u8) .nil)))))), fun z => .bnd (.loop (fun v => sha_Sum_L13_step z.1.2.2.2.2.2.2.2.2.2.2.2.2.2.2.2.2.2.2.2.2.2.2.2.2.2.2.2.2.2.2.2.2.2.2.2.2.2.2.2.2.2.2.2.1 v.1 v.2) (z.1.2.2.2.2.2.2.2.2.2.2.2.2.2.2.2.2.2.2.2.2.2.2.2.2.2.2.2.2.2.2.2.2.2.2.2.2.2.2.2.2.2.2.2.2.1, z.2.2.2.2.1)) fun r => .ret ((cu2 (cu4 ((), (cu (cu2 (cu4 (cu8 (cu32 ())))))))), ((cu2 ()), ((cu8 ()), (((), ((), ())), (r, ())))))⟩

theorem sha_Sum_L13_ok : sha_Sum_L13.ok Tryz.prog (nthC (loopsOf (bodyOf Tryz.f41)) 2) := by
  refine Lp.lift (π := (Int × (Int × (Int × (Int × (Int × (Int × (Int × Int)))))))) (V := (Int × (List Int))) (ρ := List Int) mix tabOk sha_Sum_L13 (o := orM [sha_take_g] [octet_Writer_Int_g, octet_Writer_Bytes_g, octet_Writer_Count_g] [] sha_Sum_fz) (orM_sound ⟨sha_take_ok, trivial⟩ ⟨octet_Writer_Int_ok, ⟨octet_Writer_Bytes_ok, ⟨octet_Writer_Count_ok, trivial⟩⟩⟩) (allLp_ofM [] (by kernel_rfl) trivial rfl) (fun x v => ((cu2 (cu4 ((), (cu4 (cu32 (x, (v.1, (cu (cu8 ()))))))))), ((cu2 ()), ((cu8 ()), (((), ((), ())), (v.2, ())))))) (fun x r => ((cu2 (cu4 ((), (cu (cu2 (cu4 (cu8 (cu32 ())))))))), ((cu2 ()), ((cu8 ()), (((), ((), ())), (r, ())))))) (fun x v => sha_Sum_L13_step x v.1 v.2) (fun x r => .ret ((cu2 (cu4 ((), (cu (cu2 (cu4 (cu8 (cu32 ())))))))), ((cu2 ()), ((cu8 ()), (((), ((), ())), (r, ())))))) (fun z => z.1.2.2.2.2.2.2.2.2.2.2.2.2.2.2.2.2.2.2.2.2.2.2.2.2.2.2.2.2.2.2.2.2.2.2.2.2.2.2.2.2.2.2.2.1) (fun z => (z.1.2.2.2.2.2.2.2.2.2.2.2.2.2.2.2.2.2.2.2.2.2.2.2.2.2.2.2.2.2.2.2.2.2.2.2.2.2.2.2.2.2.2.2.2.1, z.2.2.2.2.1)) (fun _ => rfl) (fun _ => rfl) (fun _ _ _ h => h) ?_
  intro x v; kernel_rfl

def sha_Sum_T (x0 : Str) : Tree Str :=
  ask (decide (((strI x0) ++ [128]).length * 1 ≤ roomNat)) <|
  .bnd (.loop (fun v => sha_Sum_L2_step x0 v) ((strI x0) ++ [128])) fun r1 =>
  .bnd (octet_Writer_Int_T (w64 ((8 : Int) * (x0.length : Int))) ([] : List Int)) fun y2 =>
  .bnd (octet_Writer_Bytes_T y2.2.2.1) fun y3 =>
  ask (decide ((r1 ++ strI y3.1).length * 1 ≤ roomNat)) <|
  .bnd (.loop (fun v => sha_Sum_L8_step v.1 v.2) ((r1 ++ strI y3.1), (1779033703, (3144134277, (1013904242, (2773480762, (1359893119, (2600822924, (528734635, 1541459225))))))))) fun r4 =>
  .bnd (.loop (fun v => sha_Sum_L13_step r4 v.1 v.2) (0, ([] : List Int))) fun r5 =>
  .bnd (octet_Writer_Bytes_T r5) fun y6 =>
  .ret y6.1

def sha_Sum_g : Sig := ⟨41, (.cons (.val false .str) .nil), .vals (.val false .str), fun z => sha_Sum_T z.1, ([] : Str)⟩

theorem sha_Sum_ok : sha_Sum_g.ok Tryz.prog := by
  refine Sig.lift mix tabOk nms _ Tryz.func41 (c := (bodyOf Tryz.f41)) (by kernel_rfl) (o := orM [sha_take_g] [octet_Writer_Int_g, octet_Writer_Bytes_g, octet_Writer_Count_g] [sha_Sum_L2, sha_Sum_L8, sha_Sum_L13] sha_Sum_fz) (orM_sound ⟨sha_take_ok, trivial⟩ ⟨octet_Writer_Int_ok, ⟨octet_Writer_Bytes_ok, ⟨octet_Writer_Count_ok, trivial⟩⟩⟩) (allLp_ofM [nthC (loopsOf (bodyOf Tryz.f41)) 0, nthC (loopsOf (bodyOf Tryz.f41)) 1, nthC (loopsOf (bodyOf Tryz.f41)) 2] (by kernel_rfl) ⟨sha_Sum_L2_ok, ⟨sha_Sum_L8_ok, ⟨sha_Sum_L13_ok, trivial⟩⟩⟩ (by kernel_rfl)) ?_
  intro z; kernel_rfl

def sha_Of_fz : Nat → List Pre
  | 2 => [.ownC 0 1 5 (.int .u8)]
  | _ => []

def sha_Of_T (x0 : List Str) : Tree Str :=
  .bnd (octet_Writer_Texts_T x0 ([] : List Int)) fun y1 =>
  .bnd (octet_Writer_Bytes_T y1.2.2.1) fun y2 =>
  .bnd (sha_Sum_T y2.1) fun y3 =>
  .ret y3

def sha_Of_g : Sig := ⟨28, (.cons (.val false (.list .str)) .nil), .vals (.val false .str), fun z => sha_Of_T z.1, ([] : Str)⟩

theorem sha_Of_ok : sha_Of_g.ok Tryz.prog := by
  refine Sig.lift mix tabOk nms _ Tryz.func28 (c := (bodyOf Tryz.f28)) (by kernel_rfl) (o := orM [sha_Sum_g] [octet_Writer_Texts_g, octet_Writer_Bytes_g] [] sha_Of_fz) (orM_sound ⟨sha_Sum_ok, trivial⟩ ⟨octet_Writer_Texts_ok, ⟨octet_Writer_Bytes_ok, trivial⟩⟩) (allLp_ofM [] (by kernel_rfl) trivial rfl) ?_
  intro z; kernel_rfl

def octet_New_T (x0 : Str) : Tree (Unit × ((Octet_Reader × Unit) × Unit)) :=
  .ret ((), (((x0, true), ()), ()))

def octet_New_g : MSig := ⟨27, (.cons (.val false .str) .nil), .nil, [], (.ref 0 0), (.cells 57 (.cons (.flat tOctet_Reader) .nil) .nil), none, fun z => octet_New_T z.1.1⟩

theorem octet_New_ok : octet_New_g.ok Tryz.prog := by
  refine MSig.lift mix tabOk nms _ Tryz.func27 (c := (bodyOf Tryz.f27)) (by kernel_rfl) (o := orT [] [] noFz) (orT_sound trivial) (allLp_of [] (by kernel_rfl) trivial rfl) (fun _ => rfl) ?_
  intro z; kernel_rfl

def octet_Reader_spoil_T (x0 : Octet_Reader) : Tree (Unit × ((Octet_Reader × Unit) × Unit)) :=
  .ite true (
    .ret ((), (((x0.1, false), ()), ()))) (
    .ret ((), ((x0, ()), ())))

def octet_Reader_spoil_g : MSig := ⟨44, (.cons (.ref 0 0) .nil), (.cells 57 (.cons (.flat tOctet_Reader) .nil) .nil), [], .nil, (.cells 57 (.cons (.flat tOctet_Reader) .nil) .nil), none, fun z => octet_Reader_spoil_T z.2.1.1⟩

theorem octet_Reader_spoil_ok : octet_Reader_spoil_g.ok Tryz.prog := by
  refine MSig.lift mix tabOk nms _ Tryz.func44 (c := (bodyOf Tryz.f44)) (by kernel_rfl) (o := orT [] [] noFz) (orT_sound trivial) (allLp_of [] (by kernel_rfl) trivial rfl) (fun _ => rfl) ?_
  intro z; kernel_rfl

def octet_Reader_take_T (x0 : Int) (x1 : Octet_Reader) : Tree (Str × ((Octet_Reader × Unit) × Unit)) :=
  .ite ((false || (!x1.2)) || (decide ((x1.1.length : Int) < x0))) (
    .bnd (octet_Reader_spoil_T x1) fun y1 =>
    .ret (([] : Str), ((y1.2.1.1, ()), ()))) (
    ask (inbe x0 x1.1.length) <|
    ask (inbe x0 x1.1.length) <|
    .ret ((subS x1.1 0 x0.toNat), ((((subS x1.1 x0.toNat x1.1.length), x1.2), ()), ())))

def octet_Reader_take_g : MSig := ⟨66, (.cons (.ref 0 0) (.cons (.val false (.int .i64)) .nil)), (.cells 57 (.cons (.flat tOctet_Reader) .nil) .nil), [], (.val false .str), (.cells 57 (.cons (.flat tOctet_Reader) .nil) .nil), none, fun z => octet_Reader_take_T z.1.2.1 z.2.1.1⟩

theorem octet_Reader_take_ok : octet_Reader_take_g.ok Tryz.prog := by
  refine MSig.lift mix tabOk nms _ Tryz.func66 (c := (bodyOf Tryz.f66)) (by kernel_rfl) (o := orM [] [octet_Reader_spoil_g] [] noFz) (orM_sound trivial ⟨octet_Reader_spoil_ok, trivial⟩) (allLp_ofM [] (by kernel_rfl) trivial rfl) (fun _ => rfl) ?_
  intro z; kernel_rfl

def octet_Reader_number_L3_step (t : Int) (r : Octet_Reader) (rows : List Int) (n : Int) (t2 : Int) : Tree ((Int × Int) ⊕ Int) :=
  .ite (decide (t2 < t)) (
    ask (inb t2 rows.length) <|
    ask (decide ((0 : Int) ≤ 8)) <|
    .ret (.inl ((stdArith .or .i64 (stdShift .shl .i64 n 8) (w64 ((rows.getD t2.toNat (0 : Int))))), (w64 (t2 + 1))))) (
    .ret (.inr n))

def octet_Reader_number_L3 : Lp := ⟨3, [], [], (ca (ca4 (.cons (.val false (.int .i64)) (ca (ca4 (.cons (.own 1) (.cons (.val false (.int .i64)) (.cons (.val false (.int .i64)) (ca2 (ca8 .nil)))))))))), (.cells 57 (.cons (.flat tOctet_Reader) .nil) (.rows 5 (.int .u8) .nil)), 1, .one 1 [] (ca (ca4 (.cons (.val false (.int .i64)) (ca2 (ca16 .nil))))) (.cells 57 (.cons (.flat tOctet_Reader) .nil) .nil), fun z => .bnd (.loop (fun v => octet_Reader_number_L3_step z.1.2.2.2.2.2.2.2.2.2.2.2.2.1 z.2.1.1 z.2.2.1 v.1 v.2) (z.1.2.2.2.2.2.1, z.1.2.2.2.2.2.2.2.2.2.2.2.2.2.1)) fun r => .ret ((cu (cu4 (r, (cu2 (cu16 ()))))), ((z.2.1.1, ()), ()))⟩

theorem octet_Reader_number_L3_ok : octet_Reader_number_L3.ok Tryz.prog (nthC (loopsOf (bodyOf Tryz.f43)) 0) := by
  refine Lp.lift (π := (Int × Octet_Reader × (List Int))) (V := (Int × Int)) (ρ := Int) mix tabOk octet_Reader_number_L3 (o := orM [] [octet_Reader_take_g] [] noFz) (orM_sound trivial ⟨octet_Reader_take_ok, trivial⟩) (allLp_ofM [] (by kernel_rfl) trivial rfl) (fun x v => ((cu (cu4 (v.1, (cu (cu4 ((), (x.1, (v.2, (cu2 (cu8 ())))))))))), ((x.2.1, ()), (x.2.2, ())))) (fun x r => ((cu (cu4 (r, (cu2 (cu16 ()))))), ((x.2.1, ()), ()))) (fun x v => octet_Reader_number_L3_step x.1 x.2.1 x.2.2 v.1 v.2) (fun x r => .ret ((cu (cu4 (r, (cu2 (cu16 ()))))), ((x.2.1, ()), ()))) (fun z => (z.1.2.2.2.2.2.2.2.2.2.2.2.2.1, z.2.1.1, z.2.2.1)) (fun z => (z.1.2.2.2.2.2.1, z.1.2.2.2.2.2.2.2.2.2.2.2.2.2.1)) (fun _ => rfl) (fun _ => rfl) (fun _ _ _ h => h) ?_
  intro x v; kernel_rfl

def octet_Reader_number_T (x0 : Int) (x1 : Octet_Reader) : Tree (Int × ((Octet_Reader × Unit) × Unit)) :=
  .bnd (octet_Reader_take_T x0 x1) fun y1 =>
  .bnd (.loop (fun v => octet_Reader_number_L3_step ((strI y1.1).length : Int) y1.2.1.1 (strI y1.1) v.1 v.2) (0, 0)) fun r2 =>
  .ret (r2, ((y1.2.1.1, ()), ()))

def octet_Reader_number_g : MSig := ⟨43, (.cons (.ref 0 0) (.cons (.val false (.int .i64)) .nil)), (.cells 57 (.cons (.flat tOctet_Reader) .nil) .nil), [], (.val false (.int .i64)), (.cells 57 (.cons (.flat tOctet_Reader) .nil) .nil), none, fun z => octet_Reader_number_T z.1.2.1 z.2.1.1⟩

theorem octet_Reader_number_ok : octet_Reader_number_g.ok Tryz.prog := by
  refine MSig.lift mix tabOk nms _ Tryz.func43 (c := (bodyOf Tryz.f43)) (by kernel_rfl) (o := orM [] [octet_Reader_take_g] [octet_Reader_number_L3] noFz) (orM_sound trivial ⟨octet_Reader_take_ok, trivial⟩) (allLp_ofM [nthC (loopsOf (bodyOf Tryz.f43)) 0] (by kernel_rfl) ⟨octet_Reader_number_L3_ok, trivial⟩ (by kernel_rfl)) (fun _ => rfl) ?_
  intro z; kernel_rfl

def octet_Reader_Count_T (x0 : Int) (x1 : Octet_Reader) : Tree (Int × ((Octet_Reader × Unit) × Unit)) :=
  .bnd (octet_Reader_number_T 4 x1) fun y1 =>
  .ite (decide (x0 < y1.1)) (
    .bnd (octet_Reader_spoil_T y1.2.1.1) fun y2 =>
    .ret (0, ((y2.2.1.1, ()), ()))) (
    .ret (y1.1, ((y1.2.1.1, ()), ())))

def octet_Reader_Count_g : MSig := ⟨29, (.cons (.ref 0 0) (.cons (.val false (.int .i64)) .nil)), (.cells 57 (.cons (.flat tOctet_Reader) .nil) .nil), [], (.val false (.int .i64)), (.cells 57 (.cons (.flat tOctet_Reader) .nil) .nil), none, fun z => octet_Reader_Count_T z.1.2.1 z.2.1.1⟩

theorem octet_Reader_Count_ok : octet_Reader_Count_g.ok Tryz.prog := by
  refine MSig.lift mix tabOk nms _ Tryz.func29 (c := (bodyOf Tryz.f29)) (by kernel_rfl) (o := orM [] [octet_Reader_number_g, octet_Reader_spoil_g] [] noFz) (orM_sound trivial ⟨octet_Reader_number_ok, ⟨octet_Reader_spoil_ok, trivial⟩⟩) (allLp_ofM [] (by kernel_rfl) trivial rfl) (fun _ => rfl) ?_
  intro z; kernel_rfl

def ring_Part_T (x0 : Str) (x1 : Str) (x2 : Int) : Tree Int :=
  .bnd (ring_may_T x2) fun y1 =>
  .ite (!y1) (
    .ret 0) (
    .bnd (sha_Of_T [x0, x1]) fun y2 =>
    .bnd (octet_New_T y2) fun y3 =>
    .bnd (octet_Reader_Count_T 4294967295 y3.2.1.1) fun y4 =>
    ask (decide ((0 : Int) ≤ 32)) <|
    .ret (stdShift .shr .i64 (w64 (y4.1 * x2)) 32))

def ring_Part_g : Sig := ⟨14, (.cons (.val false .str) (.cons (.val false .str) (.cons (.val false (.int .i64)) .nil))), .vals (.val false (.int .i64)), fun z => ring_Part_T z.1 z.2.1 z.2.2.1, (0 : Int)⟩

theorem ring_Part_ok : ring_Part_g.ok Tryz.prog := by
  refine Sig.lift mix tabOk nms _ Tryz.func14 (c := (bodyOf Tryz.f14)) (by kernel_rfl) (o := orM [ring_may_g, sha_Of_g] [octet_New_g, octet_Reader_Count_g] [] noFz) (orM_sound ⟨ring_may_ok, ⟨sha_Of_ok, trivial⟩⟩ ⟨octet_New_ok, ⟨octet_Reader_Count_ok, trivial⟩⟩) (allLp_ofM [] (by kernel_rfl) trivial rfl) ?_
  intro z; kernel_rfl

def r01_Byte_T (x0 : Int) : Tree Str :=
  .ret (strB [(IntKind.wrap .u8 ((stdArith .and .i64 x0 255)))])

def r01_Byte_g : Sig := ⟨98, (.cons (.val false (.int .i64)) .nil), .vals (.val false .str), fun z => r01_Byte_T z.1, ([] : Str)⟩

theorem r01_Byte_ok : r01_Byte_g.ok Tryz.prog := by
  refine Sig.lift mix tabOk nms _ Tryz.func98 (c := (bodyOf Tryz.f98)) (by kernel_rfl) (o := orT [] [] noFz) (orT_sound trivial) (allLp_of [] (by kernel_rfl) trivial rfl) ?_
  intro z; kernel_rfl

def r01_Int_L3_step (n : Int) (s_ : Str) (k : Int) : Tree ((Str × Int) ⊕ Str) :=
  .ite (decide ((0 : Int) ≤ k)) (
    ask (decide ((0 : Int) ≤ k)) <|
    .bnd (r01_Byte_T (stdArith .and .i64 (stdShift .shr .i64 n k) 255)) fun y1 =>
    ask (decide (s_.length + y1.length ≤ 9223372036854775807)) <|
    .ret (.inl ((s_ ++ y1), (w64 (k - 8))))) (
    .ret (.inr s_))

def r01_Int_L3 : Lp := ⟨3, [], [], (.cons (.val false (.int .i64)) (ca2 (.cons (.val false .str) (.cons (.val false (.int .i64)) (ca4 (ca8 .nil)))))), .nil, 0, .one 1 [] (ca (ca2 (.cons (.val false .str) (ca (ca4 (ca8 .nil)))))) .nil, fun z => .bnd (.loop (fun v => r01_Int_L3_step z.1.1 v.1 v.2) (z.1.2.2.2.1, z.1.2.2.2.2.1)) fun r => .ret ((cu (cu2 (r, (cu (cu4 (cu8 ())))))), ())⟩

theorem r01_Int_L3_ok : r01_Int_L3.ok Tryz.prog (nthC (loopsOf (bodyOf Tryz.f83)) 0) := by
  refine Lp.lift (π := Int) (V := (Str × Int)) (ρ := Str) mix tabOk r01_Int_L3 (o := orT [r01_Byte_g] [] noFz) (orT_sound ⟨r01_Byte_ok, trivial⟩) (allLp_of [] (by kernel_rfl) trivial rfl) (fun x v => ((x, (cu2 (v.1, (v.2, (cu4 (cu8 ())))))), ())) (fun x r => ((cu (cu2 (r, (cu (cu4 (cu8 ())))))), ())) (fun x v => r01_Int_L3_step x v.1 v.2) (fun x r => .ret ((cu (cu2 (r, (cu (cu4 (cu8 ())))))), ())) (fun z => z.1.1) (fun z => (z.1.2.2.2.1, z.1.2.2.2.2.1)) (fun _ => rfl) (fun _ => rfl) (fun _ _ _ h => h) ?_
  intro x v; kernel_rfl

def r01_Int_T (x0 : Int) : Tree Str :=
  .bnd (.loop (fun v => r01_Int_L3_step x0 v.1 v.2) (([] : Str), 56)) fun r1 =>
  .ret r1

def r01_Int_g : Sig := ⟨83, (.cons (.val false (.int .i64)) .nil), .vals (.val false .str), fun z => r01_Int_T z.1, ([] : Str)⟩

theorem r01_Int_ok : r01_Int_g.ok Tryz.prog := by
  refine Sig.lift mix tabOk nms _ Tryz.func83 (c := (bodyOf Tryz.f83)) (by kernel_rfl) (o := orT [r01_Byte_g] [r01_Int_L3] noFz) (orT_sound ⟨r01_Byte_ok, trivial⟩) (allLp_of [nthC (loopsOf (bodyOf Tryz.f83)) 0] (by kernel_rfl) ⟨r01_Int_L3_ok, trivial⟩ (by kernel_rfl)) ?_
  intro z; kernel_rfl

def r01_Count_T (x0 : Int) : Tree Str :=
  .bnd (r01_Int_T x0) fun y1 =>
  ask (inbe 4 y1.length) <|
  .ret (subS y1 (4 : Int).toNat y1.length)

def r01_Count_g : Sig := ⟨69, (.cons (.val false (.int .i64)) .nil), .vals (.val false .str), fun z => r01_Count_T z.1, ([] : Str)⟩

theorem r01_Count_ok : r01_Count_g.ok Tryz.prog := by
  refine Sig.lift mix tabOk nms _ Tryz.func69 (c := (bodyOf Tryz.f69)) (by kernel_rfl) (o := orT [r01_Int_g] [] noFz) (orT_sound ⟨r01_Int_ok, trivial⟩) (allLp_of [] (by kernel_rfl) trivial rfl) ?_
  intro z; kernel_rfl

def r01_Text_T (x0 : Str) : Tree Str :=
  .bnd (r01_Count_T (x0.length : Int)) fun y1 =>
  ask (decide (y1.length + x0.length ≤ 9223372036854775807)) <|
  .ret (y1 ++ x0)

def r01_Text_g : Sig := ⟨70, (.cons (.val false .str) .nil), .vals (.val false .str), fun z => r01_Text_T z.1, ([] : Str)⟩

theorem r01_Text_ok : r01_Text_g.ok Tryz.prog := by
  refine Sig.lift mix tabOk nms _ Tryz.func70 (c := (bodyOf Tryz.f70)) (by kernel_rfl) (o := orT [r01_Count_g] [] noFz) (orT_sound ⟨r01_Count_ok, trivial⟩) (allLp_of [] (by kernel_rfl) trivial rfl) ?_
  intro z; kernel_rfl

def r01_Texts_L3_step (l : List Str) (s_ : Str) (i : Int) : Tree ((Str × Int) ⊕ Str) :=
  .ite (decide (i < (l.length : Int))) (
    ask (inb i l.length) <|
    .bnd (r01_Text_T (l.getD i.toNat ([] : Str))) fun y1 =>
    ask (decide (s_.length + y1.length ≤ 9223372036854775807)) <|
    .ret (.inl ((s_ ++ y1), (w64 (i + 1))))) (
    .ret (.inr s_))

def r01_Texts_L3 : Lp := ⟨3, [], [], (.cons (.val false (.list .str)) (ca2 (.cons (.val false .str) (.cons (.val false (.int .i64)) (ca (ca16 .nil)))))), .nil, 0, .one 1 [] (ca (ca2 (.cons (.val false .str) (ca2 (ca16 .nil))))) .nil, fun z => .bnd (.loop (fun v => r01_Texts_L3_step z.1.1 v.1 v.2) (z.1.2.2.2.1, z.1.2.2.2.2.1)) fun r => .ret ((cu (cu2 (r, (cu2 (cu16 ()))))), ())⟩

theorem r01_Texts_L3_ok : r01_Texts_L3.ok Tryz.prog (nthC (loopsOf (bodyOf Tryz.f46)) 0) := by
  refine Lp.lift (π := List Str) (V := (Str × Int)) (ρ := Str) mix tabOk r01_Texts_L3 (o := orT [r01_Count_g, r01_Text_g] [] noFz) (orT_sound ⟨r01_Count_ok, ⟨r01_Text_ok, trivial⟩⟩) (allLp_of [] (by kernel_rfl) trivial rfl) (fun x v => ((x, (cu2 (v.1, (v.2, (cu (cu16 ())))))), ())) (fun x r => ((cu (cu2 (r, (cu2 (cu16 ()))))), ())) (fun x v => r01_Texts_L3_step x v.1 v.2) (fun x r => .ret ((cu (cu2 (r, (cu2 (cu16 ()))))), ())) (fun z => z.1.1) (fun z => (z.1.2.2.2.1, z.1.2.2.2.2.1)) (fun _ => rfl) (fun _ => rfl) (fun _ _ _ h => h) ?_
  intro x v; kernel_rfl

def r01_Texts_T (x0 : List Str) : Tree Str :=
  .bnd (r01_Count_T (x0.length : Int)) fun y1 =>
  .bnd (.loop (fun v => r01_Texts_L3_step x0 v.1 v.2) (y1, 0)) fun r2 =>
  .ret r2

def r01_Texts_g : Sig := ⟨46, (.cons (.val false (.list .str)) .nil), .vals (.val false .str), fun z => r01_Texts_T z.1, ([] : Str)⟩

theorem r01_Texts_ok : r01_Texts_g.ok Tryz.prog := by
  refine Sig.lift mix tabOk nms _ Tryz.func46 (c := (bodyOf Tryz.f46)) (by kernel_rfl) (o := orT [r01_Count_g, r01_Text_g] [r01_Texts_L3] noFz) (orT_sound ⟨r01_Count_ok, ⟨r01_Text_ok, trivial⟩⟩) (allLp_of [nthC (loopsOf (bodyOf Tryz.f46)) 0] (by kernel_rfl) ⟨r01_Texts_L3_ok, trivial⟩ (by kernel_rfl)) ?_
  intro z; kernel_rfl

def r02_pad_L3_step (n : Int) (s_ : Str) : Tree (Str ⊕ Str) :=
  ask (!decide ((64 : Int) = 0)) <|
  .ite (!decide (((s_.length : Int).tmod 64) = 56)) (
    ask (decide (s_.length + ([0] : Str).length ≤ 9223372036854775807)) <|
    .ret (.inl (s_ ++ ([0] : Str)))) (
    .ret (.inr s_))

def r02_pad_L3 : Lp := ⟨3, [], [], (.cons (.val false .str) (ca2 (.cons (.val false (.int .i64)) (ca (ca2 (ca4 (ca8 .nil))))))), .nil, 0, .one 1 [] (.cons (.val false .str) (ca2 (.cons (.val false (.int .i64)) (ca (ca2 (ca4 (ca8 .nil))))))) .nil, fun z => .bnd (.loop (fun v => r02_pad_L3_step z.1.2.2.2.1 v) z.1.1) fun r => .ret ((r, (cu2 (z.1.2.2.2.1, (cu (cu2 (cu4 (cu8 ()))))))), ())⟩

theorem r02_pad_L3_ok : r02_pad_L3.ok Tryz.prog (nthC (loopsOf (bodyOf Tryz.f67)) 0) := by
  refine Lp.lift (π := Int) (V := Str) (ρ := Str) mix tabOk r02_pad_L3 (o := orT [r01_Int_g] [] noFz) (orT_sound ⟨r01_Int_ok, trivial⟩) (allLp_of [] (by kernel_rfl) trivial rfl) (fun x v => ((v, (cu2 (x, (cu (cu2 (cu4 (cu8 ()))))))), ())) (fun x r => ((r, (cu2 (x, (cu (cu2 (cu4 (cu8 ()))))))), ())) (fun x v => r02_pad_L3_step x v) (fun x r => .ret ((r, (cu2 (x, (cu (cu2 (cu4 (cu8 ()))))))), ())) (fun z => z.1.2.2.2.1) (fun z => z.1.1) (fun _ => rfl) (fun _ => rfl) (fun _ _ _ h => h) ?_
  intro x v; kernel_rfl

def r02_pad_T (x0 : Str) : Tree Str :=
  ask (decide (x0.length + ([128] : Str).length ≤ 9223372036854775807)) <|
  .bnd (.loop (fun v => r02_pad_L3_step (x0.length : Int) v) (x0 ++ ([128] : Str))) fun r1 =>
  .bnd (r01_Int_T (w64 ((8 : Int) * (x0.length : Int)))) fun y2 =>
  ask (decide (r1.length + y2.length ≤ 9223372036854775807)) <|
  .ret (r1 ++ y2)

def r02_pad_g : Sig := ⟨67, (.cons (.val false .str) .nil), .vals (.val false .str), fun z => r02_pad_T z.1, ([] : Str)⟩

theorem r02_pad_ok : r02_pad_g.ok Tryz.prog := by
  refine Sig.lift mix tabOk nms _ Tryz.func67 (c := (bodyOf Tryz.f67)) (by kernel_rfl) (o := orT [r01_Int_g] [r02_pad_L3] noFz) (orT_sound ⟨r01_Int_ok, trivial⟩) (allLp_of [nthC (loopsOf (bodyOf Tryz.f67)) 0] (by kernel_rfl) ⟨r02_pad_L3_ok, trivial⟩ (by kernel_rfl)) ?_
  intro z; kernel_rfl

def r02_low_T (x0 : Int) : Tree Int :=
  .ret (stdArith .and .i64 x0 4294967295)

def r02_low_g : Sig := ⟨87, (.cons (.val false (.int .i64)) .nil), .vals (.val false (.int .i64)), fun z => r02_low_T z.1, (0 : Int)⟩

theorem r02_low_ok : r02_low_g.ok Tryz.prog := by
  refine Sig.lift mix tabOk nms _ Tryz.func87 (c := (bodyOf Tryz.f87)) (by kernel_rfl) (o := orT [] [] noFz) (orT_sound trivial) (allLp_of [] (by kernel_rfl) trivial rfl) ?_
  intro z; kernel_rfl

def r02_turn_T (x0 : Int) (x1 : Int) : Tree Int :=
  ask (decide ((0 : Int) ≤ x1)) <|
  ask (decide ((0 : Int) ≤ (w64 ((32 : Int) - x1)))) <|
  .bnd (r02_low_T (stdArith .or .i64 (stdShift .shr .i64 x0 x1) (stdShift .shl .i64 x0 (w64 ((32 : Int) - x1))))) fun y1 =>
  .ret y1

def r02_turn_g : Sig := ⟨86, (.cons (.val false (.int .i64)) (.cons (.val false (.int .i64)) .nil)), .vals (.val false (.int .i64)), fun z => r02_turn_T z.1 z.2.1, (0 : Int)⟩

theorem r02_turn_ok : r02_turn_g.ok Tryz.prog := by
  refine Sig.lift mix tabOk nms _ Tryz.func86 (c := (bodyOf Tryz.f86)) (by kernel_rfl) (o := orT [r02_low_g] [] noFz) (orT_sound ⟨r02_low_ok, trivial⟩) (allLp_of [] (by kernel_rfl) trivial rfl) ?_
  intro z; kernel_rfl

def r02_words_fz : Nat → List Pre
  | 5 => [.two]
  | 12 => [.two]
  | _ => []

def r02_words_L3_step (b : Str) (t : Int) (w : List Int) : Tree ((Int × (List Int)) ⊕ (List Int)) :=
  .ite (decide (t < 16)) (
    ask (inb (w64 ((4 : Int) * t)) b.length) <|
    ask (decide ((0 : Int) ≤ 24)) <|
    ask (inb (w64 ((w64 ((4 : Int) * t)) + 1)) b.length) <|
    ask (decide ((0 : Int) ≤ 16)) <|
    ask (inb (w64 ((w64 ((4 : Int) * t)) + 2)) b.length) <|
    ask (decide ((0 : Int) ≤ 8)) <|
    ask (inb (w64 ((w64 ((4 : Int) * t)) + 3)) b.length) <|
    ask (decide ((w ++ [(stdArith .or .i64 (stdArith .or .i64 (stdArith .or .i64 (stdShift .shl .i64 (w64 ((sgetI b (w64 ((4 : Int) * t))))) 24) (stdShift .shl .i64 (w64 ((sgetI b (w64 ((w64 ((4 : Int) * t)) + 1))))) 16)) (stdShift .shl .i64 (w64 ((sgetI b (w64 ((w64 ((4 : Int) * t)) + 2))))) 8)) (w64 ((sgetI b (w64 ((w64 ((4 : Int) * t)) + 3))))))]).length * 8 ≤ roomNat)) <|
    .ret (.inl ((w64 (t + 1)), (w ++ [(stdArith .or .i64 (stdArith .or .i64 (stdArith .or .i64 (stdShift .shl .i64 (w64 ((sgetI b (w64 ((4 : Int) * t))))) 24) (stdShift .shl .i64 (w64 ((sgetI b (w64 ((w64 ((4 : Int) * t)) + 1))))) 16)) (stdShift .shl .i64 (w64 ((sgetI b (w64 ((w64 ((4 : Int) * t)) + 2))))) 8)) (w64 ((sgetI b (w64 ((w64 ((4 : Int) * t)) + 3))))))])))) (
    .ret (.inr w))

def r02_words_L3 : Lp := ⟨3, [.own 3 3 (.int .i64)], [], (.cons (.val false .str) (ca2 (.cons (.own 0) (.cons (.val false (.int .i64)) (ca (ca2 (ca8 (ca16 (ca32 (ca32 .nil)))))))))), (.rows 3 (.int .i64) .nil), 0, .one 1 [] (ca (ca2 (.cons (.own 0) (ca4 (ca8 (ca16 (ca32 (ca32 .nil)))))))) (.rows 3 (.int .i64) .nil), fun z => .bnd (.loop (fun v => r02_words_L3_step z.1.1 v.1 v.2) (z.1.2.2.2.2.1, z.2.1)) fun r => .ret ((cu (cu2 ((), (cu4 (cu8 (cu16 (cu32 (cu32 ())))))))), (r, ()))⟩

theorem r02_words_L3_ok : r02_words_L3.ok Tryz.prog (nthC (loopsOf (bodyOf Tryz.f84)) 0) := by
  refine Lp.lift (π := Str) (V := (Int × (List Int))) (ρ := List Int) mix tabOk r02_words_L3 (o := orT [r02_turn_g, r02_low_g] [] r02_words_fz) (orT_sound ⟨r02_turn_ok, ⟨r02_low_ok, trivial⟩⟩) (allLp_of [] (by kernel_rfl) trivial rfl) (fun x v => ((x, (cu2 ((), (v.1, (cu (cu2 (cu8 (cu16 (cu32 (cu32 ())))))))))), (v.2, ()))) (fun x r => ((cu (cu2 ((), (cu4 (cu8 (cu16 (cu32 (cu32 ())))))))), (r, ()))) (fun x v => r02_words_L3_step x v.1 v.2) (fun x r => .ret ((cu (cu2 ((), (cu4 (cu8 (cu16 (cu32 (cu32 ())))))))), (r, ()))) (fun z => z.1.1) (fun z => (z.1.2.2.2.2.1, z.2.1)) (fun _ => rfl) (fun _ => rfl) (fun _ _ _ h => h) ?_
  intro x v; kernel_rfl

def r02_words_L7_step (t : Int) (w : List Int) : Tree ((Int × (List Int)) ⊕ (List Int)) :=
  .ite (decide (t < 64)) (
    ask (inb (w64 (t - 15)) w.length) <|
    ask (inb (w64 (t - 2)) w.length) <|
    .bnd (r02_turn_T (w.getD ((w64 (t - 15)).toNat) (0 : Int)) 7) fun y1 =>
    .bnd (r02_turn_T (w.getD ((w64 (t - 15)).toNat) (0 : Int)) 18) fun y2 =>
    ask (decide ((0 : Int) ≤ 3)) <|
    .bnd (r02_turn_T (w.getD ((w64 (t - 2)).toNat) (0 : Int)) 17) fun y3 =>
    .bnd (r02_turn_T (w.getD ((w64 (t - 2)).toNat) (0 : Int)) 19) fun y4 =>
    ask (decide ((0 : Int) ≤ 10)) <|
    ask (inb (w64 (t - 7)) w.length) <|
    ask (inb (w64 (t - 16)) w.length) <|
    .bnd (r02_low_T (w64 ((w64 ((w64 ((stdArith .xor .i64 (stdArith .xor .i64 y3 y4) (stdShift .shr .i64 (w.getD ((w64 (t - 2)).toNat) (0 : Int)) 10)) + (w.getD ((w64 (t - 7)).toNat) (0 : Int)))) + (stdArith .xor .i64 (stdArith .xor .i64 y1 y2) (stdShift .shr .i64 (w.getD ((w64 (t - 15)).toNat) (0 : Int)) 3)))) + (w.getD ((w64 (t - 16)).toNat) (0 : Int))))) fun y5 =>
    ask (decide ((w ++ [y5]).length * 8 ≤ roomNat)) <|
    .ret (.inl ((w64 (t + 1)), (w ++ [y5])))) (
    .ret (.inr w))

def r02_words_L7 : Lp := ⟨7, [], [], (ca (ca2 (.cons (.own 0) (ca (.cons (.val false (.int .i64)) (ca2 (ca8 (ca16 (ca32 (ca32 .nil)))))))))), (.rows 3 (.int .i64) .nil), 0, .one 3 [] (ca (ca2 (.cons (.own 0) (ca4 (ca8 (ca16 (ca32 (ca32 .nil)))))))) (.rows 3 (.int .i64) .nil), fun z => .bnd (.loop (fun v => r02_words_L7_step v.1 v.2) (z.1.2.2.2.2.2.1, z.2.1)) fun r => .ret ((cu (cu2 ((), (cu4 (cu8 (cu16 (cu32 (cu32 ())))))))), (r, ()))⟩

theorem r02_words_L7_ok : r02_words_L7.ok Tryz.prog (nthC (loopsOf (bodyOf Tryz.f84)) 1) := by
  refine Lp.lift (π := Unit) (V := (Int × (List Int))) (ρ := List Int) mix tabOk r02_words_L7 (o := orT [r02_turn_g, r02_low_g] [] r02_words_fz) (orT_sound ⟨r02_turn_ok, ⟨r02_low_ok, trivial⟩⟩) (allLp_of [] (by kernel_rfl) trivial rfl) (fun x v => ((cu (cu2 ((), (cu (v.1, (cu2 (cu8 (cu16 (cu32 (cu32 ())))))))))), (v.2, ()))) (fun x r => ((cu (cu2 ((), (cu4 (cu8 (cu16 (cu32 (cu32 ())))))))), (r, ()))) (fun x v => r02_words_L7_step v.1 v.2) (fun x r => .ret ((cu (cu2 ((), (cu4 (cu8 (cu16 (cu32 (cu32 ())))))))), (r, ()))) (fun z => ()) (fun z => (z.1.2.2.2.2.2.1, z.2.1)) (fun _ => rfl) (fun _ => rfl) (fun _ _ _ h => h) ?_
  intro x v; kernel_rfl

def r02_words_T (x0 : Str) : Tree (List Int) :=
  .bnd (.loop (fun v => r02_words_L3_step x0 v.1 v.2) (0, ([] : List Int))) fun r1 =>
  .bnd (.loop (fun v => r02_words_L7_step v.1 v.2) (16, r1)) fun r2 =>
  .ret r2

def r02_words_g : Sig := ⟨84, (.cons (.val false .str) .nil), .fresh 3 (.int .i64), fun z => r02_words_T z.1, ([] : List Int)⟩

theorem r02_words_ok : r02_words_g.ok Tryz.prog := by
  refine Sig.lift mix tabOk nms _ Tryz.func84 (c := (bodyOf Tryz.f84)) (by kernel_rfl) (o := orT [r02_turn_g, r02_low_g] [r02_words_L3, r02_words_L7] r02_words_fz) (orT_sound ⟨r02_turn_ok, ⟨r02_low_ok, trivial⟩⟩) (allLp_of [nthC (loopsOf (bodyOf Tryz.f84)) 0, nthC (loopsOf (bodyOf Tryz.f84)) 1] (by kernel_rfl) ⟨r02_words_L3_ok, ⟨r02_words_L7_ok, trivial⟩⟩ (by kernel_rfl)) ?_
  intro z; kernel_rfl

def r02_words_gv : Sig := ⟨84, (.cons (.val false .str) .nil), .vals (.val false (.list (.int .i64))), fun z => r02_words_T z.1, ([] : List Int)⟩

theorem r02_words_okv : r02_words_gv.ok Tryz.prog := fun x y h => acalls_val (r02_words_ok x y h)

def r02_constants_T  : Tree A64i64 :=
  .ret (1116352408, (1899447441, (3049323471, (3921009573, (961987163, (1508970993, (2453635748, (2870763221, (3624381080, (310598401, (607225278, (1426881987, (1925078388, (2162078206, (2614888103, (3248222580, (3835390401, (4022224774, (264347078, (604807628, (770255983, (1249150122, (1555081692, (1996064986, (2554220882, (2821834349, (2952996808, (3210313671, (3336571891, (3584528711, (113926993, (338241895, (666307205, (773529912, (1294757372, (1396182291, (1695183700, (1986661051, (2177026350, (2456956037, (2730485921, (2820302411, (3259730800, (3345764771, (3516065817, (3600352804, (4094571909, (275423344, (430227734, (506948616, (659060556, (883997877, (958139571, (1322822218, (1537002063, (1747873779, (1955562222, (2024104815, (2227730452, (2361852424, (2428436474, (2756734187, (3204031479, 3329325298)))))))))))))))))))))))))))))))))))))))))))))))))))))))))))))))

def r02_constants_g : Sig := ⟨85, .nil, .vals (.val true tA64i64), fun z => r02_constants_T, (dfl tA64i64 : A64i64)⟩

theorem r02_constants_ok : r02_constants_g.ok Tryz.prog := by
  refine Sig.lift mix tabOk nms _ Tryz.func85 (c := (bodyOf Tryz.f85)) (by kernel_rfl) (o := orT [] [] noFz) (orT_sound trivial) (allLp_of [] (by kernel_rfl) trivial rfl) ?_
  intro z; kernel_rfl

def r02_block_fz : Nat → List Pre
  | 10 => [.two]
  | 14 => [.spl 13 8, .two]
  | _ => []

def r02_block_L5_step (v : (Int × (Int × (Int × (Int × (Int × (Int × (Int × Int)))))))) (c : (Int × (Int × (Int × (Int × (Int × (Int × (Int × Int)))))))) (w : List Int) (k : List Int) (t : Int) (x_ : (Int × (Int × (Int × (Int × (Int × (Int × (Int × Int)))))))) : Tree ((Int × (Int × (Int × (Int × (Int × (Int × (Int × (Int × Int)))))))) ⊕ (Int × (Int × (Int × (Int × (Int × (Int × (Int × Int)))))))) :=
  .ite ((decide (t < 64)) && (decide (t < (w.length : Int)))) (
    ask (inb 4 8) <|
    ask (inb 0 8) <|
    ask (inb 7 8) <|
    .bnd (r02_turn_T x_.2.2.2.2.1 6) fun y1 =>
    .bnd (r02_turn_T x_.2.2.2.2.1 11) fun y2 =>
    .bnd (r02_turn_T x_.2.2.2.2.1 25) fun y3 =>
    ask (inb 5 8) <|
    .bnd (r02_low_T (stdArith .xor .i64 (-1) x_.2.2.2.2.1)) fun y4 =>
    ask (inb 6 8) <|
    ask (inb t 64) <|
    ask (Nat.ble (t.toNat + 1) k.length) <|
    ask (inb t w.length) <|
    .bnd (r02_turn_T x_.1 2) fun y5 =>
    .bnd (r02_turn_T x_.1 13) fun y6 =>
    .bnd (r02_turn_T x_.1 22) fun y7 =>
    ask (inb 1 8) <|
    ask (inb 2 8) <|
    ask (inb 1 8) <|
    ask (inb 2 8) <|
    .bnd (r02_low_T (w64 ((w64 ((w64 ((w64 ((w64 (x_.2.2.2.2.2.2.2 + (stdArith .xor .i64 (stdArith .xor .i64 y1 y2) y3))) + (stdArith .xor .i64 (stdArith .and .i64 x_.2.2.2.2.1 x_.2.2.2.2.2.1) (stdArith .and .i64 y4 x_.2.2.2.2.2.2.1)))) + (k.getD t.toNat (0 : Int)))) + (w.getD t.toNat (0 : Int)))) + (w64 ((stdArith .xor .i64 (stdArith .xor .i64 y5 y6) y7) + (stdArith .xor .i64 (stdArith .xor .i64 (stdArith .and .i64 x_.1 x_.2.1) (stdArith .and .i64 x_.1 x_.2.2.1)) (stdArith .and .i64 x_.2.1 x_.2.2.1))))))) fun y8 =>
    ask (inb 0 8) <|
    ask (inb 1 8) <|
    ask (inb 2 8) <|
    ask (inb 3 8) <|
    .bnd (r02_low_T (w64 (x_.2.2.2.1 + (w64 ((w64 ((w64 ((w64 (x_.2.2.2.2.2.2.2 + (stdArith .xor .i64 (stdArith .xor .i64 y1 y2) y3))) + (stdArith .xor .i64 (stdArith .and .i64 x_.2.2.2.2.1 x_.2.2.2.2.2.1) (stdArith .and .i64 y4 x_.2.2.2.2.2.2.1)))) + (k.getD t.toNat (0 : Int)))) + (w.getD t.toNat (0 : Int))))))) fun y9 =>
    ask (inb 4 8) <|
    ask (inb 5 8) <|
    ask (inb 6 8) <|
    .ret (.inl ((w64 (t + 1)), (y8, (x_.1, (x_.2.1, (x_.2.2.1, (y9, (x_.2.2.2.2.1, (x_.2.2.2.2.2.1, x_.2.2.2.2.2.2.1)))))))))) (
    .ret (.inr x_))

def r02_block_L5 : Lp := ⟨5, [.arr 3 (.int .i64)], [], (ca2 (.cons (.ref 0 0) (ca (.cons (.ref 1 0) (.cons (.own 2) (.cons (.ref 3 0) (.cons (.ref 4 0) (.cons (.val false (.int .i64)) (ca4 (ca16 (ca32 (ca32 (ca32 .nil))))))))))))), (.cells 88 (.cons (.flat (.pair (.int .i64) (.pair (.int .i64) (.pair (.int .i64) (.pair (.int .i64) (.pair (.int .i64) (.pair (.int .i64) (.pair (.int .i64) (.int .i64))))))))) .nil) (.cells 88 (.cons (.flat (.pair (.int .i64) (.pair (.int .i64) (.pair (.int .i64) (.pair (.int .i64) (.pair (.int .i64) (.pair (.int .i64) (.pair (.int .i64) (.int .i64))))))))) .nil) (.rows 3 (.int .i64) (.arr 105 (.int .i64) (.cells 88 (.cons (.flat (.pair (.int .i64) (.pair (.int .i64) (.pair (.int .i64) (.pair (.int .i64) (.pair (.int .i64) (.pair (.int .i64) (.pair (.int .i64) (.int .i64))))))))) .nil) .nil))))), 0, .one 1 [] (ca2 (.cons (.ref 0 0) (ca (.cons (.ref 1 0) (ca2 (.cons (.ref 4 0) (ca (ca4 (ca16 (ca32 (ca32 (ca32 .nil)))))))))))) (.cells 88 (.cons (.flat (.pair (.int .i64) (.pair (.int .i64) (.pair (.int .i64) (.pair (.int .i64) (.pair (.int .i64) (.pair (.int .i64) (.pair (.int .i64) (.int .i64))))))))) .nil) (.cells 88 (.cons (.flat (.pair (.int .i64) (.pair (.int .i64) (.pair (.int .i64) (.pair (.int .i64) (.pair (.int .i64) (.pair (.int .i64) (.pair (.int .i64) (.int .i64))))))))) .nil) (.dead (.dead (.cells 88 (.cons (.flat (.pair (.int .i64) (.pair (.int .i64) (.pair (.int .i64) (.pair (.int .i64) (.pair (.int .i64) (.pair (.int .i64) (.pair (.int .i64) (.int .i64))))))))) .nil) .nil))))), fun z => .bnd (.loop (fun v => r02_block_L5_step z.2.1.1 z.2.2.1.1 z.2.2.2.1 z.2.2.2.2.1 v.1 v.2) (z.1.2.2.2.2.2.2.2.2.1, z.2.2.2.2.2.1.1)) fun r => .ret ((cu2 ((), (cu ((), (cu2 ((), (cu (cu4 (cu16 (cu32 (cu32 (cu32 ())))))))))))), ((z.2.1.1, ()), ((z.2.2.1.1, ()), ((r, ()), ()))))⟩

theorem r02_block_L5_ok : r02_block_L5.ok Tryz.prog (nthC (loopsOf (bodyOf Tryz.f68)) 0) := by
  refine Lp.lift (π := ((Int × (Int × (Int × (Int × (Int × (Int × (Int × Int))))))) × (Int × (Int × (Int × (Int × (Int × (Int × (Int × Int))))))) × (List Int) × (List Int))) (V := (Int × (Int × (Int × (Int × (Int × (Int × (Int × (Int × Int))))))))) (ρ := (Int × (Int × (Int × (Int × (Int × (Int × (Int × Int)))))))) mix tabOk r02_block_L5 (o := orT [r02_words_g, r02_constants_g, r02_turn_g, r02_low_g] [] r02_block_fz) (orT_sound ⟨r02_words_ok, ⟨r02_constants_ok, ⟨r02_turn_ok, ⟨r02_low_ok, trivial⟩⟩⟩⟩) (allLp_of [] (by kernel_rfl) trivial rfl) (fun x v => ((cu2 ((), (cu ((), ((), ((), ((), (v.1, (cu4 (cu16 (cu32 (cu32 (cu32 ()))))))))))))), ((x.1, ()), ((x.2.1, ()), (x.2.2.1, (x.2.2.2, ((v.2, ()), ()))))))) (fun x r => ((cu2 ((), (cu ((), (cu2 ((), (cu (cu4 (cu16 (cu32 (cu32 (cu32 ())))))))))))), ((x.1, ()), ((x.2.1, ()), ((r, ()), ()))))) (fun x v => r02_block_L5_step x.1 x.2.1 x.2.2.1 x.2.2.2 v.1 v.2) (fun x r => .ret ((cu2 ((), (cu ((), (cu2 ((), (cu (cu4 (cu16 (cu32 (cu32 (cu32 ())))))))))))), ((x.1, ()), ((x.2.1, ()), ((r, ()), ()))))) (fun z => (z.2.1.1, z.2.2.1.1, z.2.2.2.1, z.2.2.2.2.1)) (fun z => (z.1.2.2.2.2.2.2.2.2.1, z.2.2.2.2.2.1.1)) (fun _ => rfl) (fun _ => rfl) (fun _ _ _ h => h) ?_
  intro x v; kernel_rfl

def r02_block_L12_step (v : (Int × (Int × (Int × (Int × (Int × (Int × (Int × Int)))))))) (c : (Int × (Int × (Int × (Int × (Int × (Int × (Int × Int)))))))) (i : Int) (x_ : (Int × (Int × (Int × (Int × (Int × (Int × (Int × Int)))))))) : Tree ((Int × (Int × (Int × (Int × (Int × (Int × (Int × (Int × Int)))))))) ⊕ (Int × (Int × (Int × (Int × (Int × (Int × (Int × Int)))))))) :=
  .ite (decide (i < 8)) (
    .ite (decide (i = 0)) (
      ask (inb 0 8) <|
      ask (inb 0 8) <|
      .bnd (r02_low_T (w64 (x_.1 + v.1))) fun y8 =>
      ask (inb 0 8) <|
      .ret (.inl ((w64 ((0 : Int) + 1)), (y8, x_.2)))) (
      .ite (decide (i = 1)) (
        ask (inb 1 8) <|
        ask (inb 1 8) <|
        .bnd (r02_low_T (w64 (x_.2.1 + v.2.1))) fun y7 =>
        ask (inb 1 8) <|
        .ret (.inl ((w64 ((1 : Int) + 1)), (x_.1, (y7, x_.2.2))))) (
        .ite (decide (i = 2)) (
          ask (inb 2 8) <|
          ask (inb 2 8) <|
          .bnd (r02_low_T (w64 (x_.2.2.1 + v.2.2.1))) fun y6 =>
          ask (inb 2 8) <|
          .ret (.inl ((w64 ((2 : Int) + 1)), (x_.1, (x_.2.1, (y6, x_.2.2.2)))))) (
          .ite (decide (i = 3)) (
            ask (inb 3 8) <|
            ask (inb 3 8) <|
            .bnd (r02_low_T (w64 (x_.2.2.2.1 + v.2.2.2.1))) fun y5 =>
            ask (inb 3 8) <|
            .ret (.inl ((w64 ((3 : Int) + 1)), (x_.1, (x_.2.1, (x_.2.2.1, (y5, x_.2.2.2.2))))))) (
            .ite (decide (i = 4)) (
              ask (inb 4 8) <|
              ask (inb 4 8) <|
              .bnd (r02_low_T (w64 (x_.2.2.2.2.1 + v.2.2.2.2.1))) fun y4 =>
              ask (inb 4 8) <|
              .ret (.inl ((w64 ((4 : Int) + 1)), (x_.1, (x_.2.1, (x_.2.2.1, (x_.2.2.2.1, (y4, x_.2.2.2.2.2)))))))) (
              .ite (decide (i = 5)) (
                ask (inb 5 8) <|
                ask (inb 5 8) <|
                .bnd (r02_low_T (w64 (x_.2.2.2.2.2.1 + v.2.2.2.2.2.1))) fun y3 =>
                ask (inb 5 8) <|
                .ret (.inl ((w64 ((5 : Int) + 1)), (x_.1, (x_.2.1, (x_.2.2.1, (x_.2.2.2.1, (x_.2.2.2.2.1, (y3, x_.2.2.2.2.2.2))))))))) (
                .ite (decide (i = 6)) (
                  ask (inb 6 8) <|
                  ask (inb 6 8) <|
                  .bnd (r02_low_T (w64 (x_.2.2.2.2.2.2.1 + v.2.2.2.2.2.2.1))) fun y2 =>
                  ask (inb 6 8) <|
                  .ret (.inl ((w64 ((6 : Int) + 1)), (x_.1, (x_.2.1, (x_.2.2.1, (x_.2.2.2.1, (x_.2.2.2.2.1, (x_.2.2.2.2.2.1, (y2, x_.2.2.2.2.2.2.2)))))))))) (
                  .ite (decide (i = 7)) (
                    ask (inb 7 8) <|
                    ask (inb 7 8) <|
                    .bnd (r02_low_T (w64 (x_.2.2.2.2.2.2.2 + v.2.2.2.2.2.2.2))) fun y1 =>
                    ask (inb 7 8) <|
                    .ret (.inl ((w64 ((7 : Int) + 1)), (x_.1, (x_.2.1, (x_.2.2.1, (x_.2.2.2.1, (x_.2.2.2.2.1, (x_.2.2.2.2.2.1, (x_.2.2.2.2.2.2.1, y1)))))))))) (
                    .fail))))))))) (
    .ret (.inr x_))

def r02_block_L12 : Lp := ⟨12, [], [], (ca2 (.cons (.ref 0 0) (ca (.cons (.ref 1 0) (ca2 (.cons (.ref 4 0) (ca (ca4 (.cons (.val false (.int .i64)) (ca (ca2 (ca4 (ca8 (ca32 (ca32 (ca32 .nil)))))))))))))))), (.cells 88 (.cons (.flat (.pair (.int .i64) (.pair (.int .i64) (.pair (.int .i64) (.pair (.int .i64) (.pair (.int .i64) (.pair (.int .i64) (.pair (.int .i64) (.int .i64))))))))) .nil) (.cells 88 (.cons (.flat (.pair (.int .i64) (.pair (.int .i64) (.pair (.int .i64) (.pair (.int .i64) (.pair (.int .i64) (.pair (.int .i64) (.pair (.int .i64) (.int .i64))))))))) .nil) (.dead (.dead (.cells 88 (.cons (.flat (.pair (.int .i64) (.pair (.int .i64) (.pair (.int .i64) (.pair (.int .i64) (.pair (.int .i64) (.pair (.int .i64) (.pair (.int .i64) (.int .i64))))))))) .nil) .nil))))), 0, .one 3 [] (ca4 (.cons (.ref 1 0) (ca2 (.cons (.ref 4 0) (ca (ca4 (ca16 (ca32 (ca32 (ca32 .nil)))))))))) (.cells 88 (ca8 .nil) (.cells 88 (.cons (.flat (.pair (.int .i64) (.pair (.int .i64) (.pair (.int .i64) (.pair (.int .i64) (.pair (.int .i64) (.pair (.int .i64) (.pair (.int .i64) (.int .i64))))))))) .nil) (.dead (.dead (.cells 88 (.cons (.flat (.pair (.int .i64) (.pair (.int .i64) (.pair (.int .i64) (.pair (.int .i64) (.pair (.int .i64) (.pair (.int .i64) (.pair (.int .i64) (.int .i64))))))))) .nil) .nil))))), fun z => .bnd (.loop (fun v => r02_block_L12_step z.2.1.1 z.2.2.1.1 v.1 v.2) (z.1.2.2.2.2.2.2.2.2.2.2.2.2.2.1, z.2.2.2.1.1)) fun r => .ret ((cu4 ((), (cu2 ((), (cu (cu4 (cu16 (cu32 (cu32 (cu32 ())))))))))), ((cu8 ()), ((z.2.2.1.1, ()), ((r, ()), ()))))⟩

theorem r02_block_L12_ok : r02_block_L12.ok Tryz.prog (nthC (loopsOf (bodyOf Tryz.f68)) 1) := by
  refine Lp.lift (π := ((Int × (Int × (Int × (Int × (Int × (Int × (Int × Int))))))) × (Int × (Int × (Int × (Int × (Int × (Int × (Int × Int))))))))) (V := (Int × (Int × (Int × (Int × (Int × (Int × (Int × (Int × Int))))))))) (ρ := (Int × (Int × (Int × (Int × (Int × (Int × (Int × Int)))))))) mix tabOk r02_block_L12 (o := orT [r02_words_g, r02_constants_g, r02_turn_g, r02_low_g] [] r02_block_fz) (orT_sound ⟨r02_words_ok, ⟨r02_constants_ok, ⟨r02_turn_ok, ⟨r02_low_ok, trivial⟩⟩⟩⟩) (allLp_of [] (by kernel_rfl) trivial rfl) (fun x v => ((cu2 ((), (cu ((), (cu2 ((), (cu (cu4 (v.1, (cu (cu2 (cu4 (cu8 (cu32 (cu32 (cu32 ())))))))))))))))), ((x.1, ()), ((x.2, ()), ((v.2, ()), ()))))) (fun x r => ((cu4 ((), (cu2 ((), (cu (cu4 (cu16 (cu32 (cu32 (cu32 ())))))))))), ((cu8 ()), ((x.2, ()), ((r, ()), ()))))) (fun x v => r02_block_L12_step x.1 x.2 v.1 v.2) (fun x r => .ret ((cu4 ((), (cu2 ((), (cu (cu4 (cu16 (cu32 (cu32 (cu32 ())))))))))), ((cu8 ()), ((x.2, ()), ((r, ()), ()))))) (fun z => (z.2.1.1, z.2.2.1.1)) (fun z => (z.1.2.2.2.2.2.2.2.2.2.2.2.2.2.1, z.2.2.2.1.1)) (fun _ => rfl) (fun _ => rfl) (fun _ _ _ h => h) ?_
  intro x v; kernel_rfl

def r02_block_T (x0 : (Int × (Int × (Int × (Int × (Int × (Int × (Int × Int)))))))) (x1 : Str) : Tree (Int × (Int × (Int × (Int × (Int × (Int × (Int × Int))))))) :=
  .bnd (r02_words_T x1) fun y1 =>
  .bnd r02_constants_T fun y2 =>
  .bnd (.loop (fun v => r02_block_L5_step x0 (0, (0, (0, (0, (0, (0, (0, 0))))))) y1 [y2.1, y2.2.1, y2.2.2.1, y2.2.2.2.1, y2.2.2.2.2.1, y2.2.2.2.2.2.1, y2.2.2.2.2.2.2.1, y2.2.2.2.2.2.2.2.1, y2.2.2.2.2.2.2.2.2.1, y2.2.2.2.2.2.2.2.2.2.1, y2.2.2.2.2.2.2.2.2.2.2.1, y2.2.2.2.2.2.2.2.2.2.2.2.1, y2.2.2.2.2.2.2.2.2.2.2.2.2.1, y2.2.2.2.2.2.2.2.2.2.2.2.2.2.1, y2.2.2.2.2.2.2.2.2.2.2.2.2.2.2.1, y2.2.2.2.2.2.2.2.2.2.2.2.2.2.2.2.1, y2.2.2.2.2.2.2.2.2.2.2.2.2.2.2.2.2.1, y2.2.2.2.2.2.2.2.2.2.2.2.2.2.2.2.2.2.1, y2.2.2.2.2.2.2.2.2.2.2.2.2.2.2.2.2.2.2.1, y2.2.2.2.2.2.2.2.2.2.2.2.2.2.2.2.2.2.2.2.1, y2.2.2.2.2.2.2.2.2.2.2.2.2.2.2.2.2.2.2.2.2.1, y2.2.2.2.2.2.2.2.2.2.2.2.2.2.2.2.2.2.2.2.2.2.1, y2.2.2.2.2.2.2.2.2.2.2.2.2.2.2.2.2.2.2.2.2.2.2.1, y2.2.2.2.2.2.2.2.2.2.2.2.2.2.2.2.2.2.2.2.2.2.2.2.1, y2.2.2.2.2.2.2.2.2.2.2.2.2.2.2.2.2.2.2.2.2.2.2.2.2.1, y2.2.2.2.2.2.2.2.2.2.2.2.2.2.2.2.2.2.2.2.2.2.2.2.2.2.1, y2.2.2.2.2.2.2.2.2.2.2.2.2.2.2.2.2.2.2.2.2.2.2.2.2.2.2.1, y2.2.2.2.2.2.2.2.2.2.2.2.2.2.2.2.2.2.2.2.2.2.2.2.2.2.2.2.1, y2.2.2.2.2.2.2.2.2.2.2.2.2.2.2.2.2.2.2.2.2.2.2.2.2.2.2.2.2.1, y2.2.2.2.2.2.2.2.2.2.2.2.2.2.2.2.2.2.2.2.2.2.2.2.2.2.2.2.2.2.1, y2.2.2.2.2.2.2.2.2.2.2.2.2.2.2.2.2.2.2.2.2.2.2.2.2.2.2.2.2.2.2.1, y2.2.2.2.2.2.2.2.2.2.2.2.2.2.2.2.2.2.2.2.2.2.2.2.2.2.2.2.2.2.2.2.1, y2.2.2.2.2.2.2.2.2.2.2.2.2.2.2.2.2.2.2.2.2.2.2.2.2.2.2.2.2.2.2.2.2.1, y2.2.2.2.2.2.2.2.2.2.2.2.2.2.2.2.2.2.2.2.2.2.2.2.2.2.2.2.2.2.2.2.2.2.1, y2.2.2.2.2.2.2.2.2.2.2.2.2.2.2.2.2.2.2.2.2.2.2.2.2.2.2.2.2.2.2.2.2.2.2.1, y2.2.2.2.2.2.2.2.2.2.2.2.2.2.2.2.2.2.2.2.2.2.2.2.2.2.2.2.2.2.2.2.2.2.2.2.1, y2.2.2.2.2.2.2.2.2.2.2.2.2.2.2.2.2.2.2.2.2.2.2.2.2.2.2.2.2.2.2.2.2.2.2.2.2.1, y2.2.2.2.2.2.2.2.2.2.2.2.2.2.2.2.2.2.2.2.2.2.2.2.2.2.2.2.2.2.2.2.2.2.2.2.2.2.1, y2.2.2.2.2.2.2.2.2.2.2.2.2.2.2.2.2.2.2.2.2.2.2.2.2.2.2.2.2.2.2.2.2.2.2.2.2.2.2.1, y2.2.2.2.2.2.2.2.2.2.2.2.2.2.2.2.2.2.2.2.2.2.2.2.2.2.2.2.2.2.2.2.2.2.2.2.2.2.2.2.1, y2.2.2.2.2.2.2.2.2.2.2.2.2.2.2.2.2.2.2.2.2.2.2.2.2.2.2.2.2.2.2.2.2.2.2.2.2.2.2.2.2.1, y2.2.2.2.2.2.2.2.2.2.2.2.2.2.2.2.2.2.2.2.2.2.2.2.2.2.2.2.2.2.2.2.2.2.2.2.2.2.2.2.2.2.1, y2.2.2.2.2.2.2.2.2.2.2.2.2.2.2.2.2.2.2.2.2.2.2.2.2.2.2.2.2.2.2.2.2.2.2.2.2.2.2.2.2.2.2.1, y2.2.2.2.2.2.2.2.2.2.2.2.2.2.2.2.2.2.2.2.2.2.2.2.2.2.2.2.2.2.2.2.2.2.2.2.2.2.2.2.2.2.2.2.1, y2.2.2.2.2.2.2.2.2.2.2.2.2.2.2.2.2.2.2.2.2.2.2.2.2.2.2.2.2.2.2.2.2.2.2.2.2.2.2.2.2.2.2.2.2.1, y2.2.2.2.2.2.2.2.2.2.2.2.2.2.2.2.2.2.2.2.2.2.2.2.2.2.2.2.2.2.2.2.2.2.2.2.2.2.2.2.2.2.2.2.2.2.1, y2.2.2.2.2.2.2.2.2.2.2.2.2.2.2.2.2.2.2.2.2.2.2.2.2.2.2.2.2.2.2.2.2.2.2.2.2.2.2.2.2.2.2.2.2.2.2.1, y2.2.2.2.2.2.2.2.2.2.2.2.2.2.2.2.2.2.2.2.2.2.2.2.2.2.2.2.2.2.2.2.2.2.2.2.2.2.2.2.2.2.2.2.2.2.2.2.1, y2.2.2.2.2.2.2.2.2.2.2.2.2.2.2.2.2.2.2.2.2.2.2.2.2.2.2.2.2.2.2.2.2.2.2.2.2.2.2.2.2.2.2.2.2.2.2.2.2.1, y2.2.2.2.2.2.2.2.2.2.2.2.2.2.2.2.2.2.2.2.2.2.2.2.2.2.2.2.2.2.2.2.2.2.2.2.2.2.2.2.2.2.2.2.2.2.2.2.2.2.1, y2.2.2.2.2.2.2.2.2.2.2.2.2.2.2.2.2.2.2.2.2.2.2.2.2.2.2.2.2.2.2.2.2.2.2.2.2.2.2.2.2.2.2.2.2.2.2.2.2.2.2.1, y2.2.2.2.2.2.2.2.2.2.2.2.2.2.2.2.2.2.2.2.2.2.2.2.2.2.2.2.2.2.2.2.2.2.2.2.2.2.2.2.2.2.2.2.2.2.2.2.2.2.2.2.1, y2.2.2.2.2.2.2.2.2.2.2.2.2.2.2.2.2.2.2.2.2.2.2.2.2.2.2.2.2.2.2.2.2.2.2.2.2.2.2.2.2.2.2.2.2.2.2.2.2.2.2.2.2.1, y2.2.2.2.2.2.2.2.2.2.2.2.2.2.2.2.2.2.2.2.2.2.2.2.2.2.2.2.2.2.2.2.2.2.2.2.2.2.2.2.2.2.2.2.2.2.2.2.2.2.2.2.2.2.1, y2.2.2.2.2.2.2.2.2.2.2.2.2.2.2.2.2.2.2.2.2.2.2.2.2.2.2.2.2.2.2.2.2.2.2.2.2.2.2.2.2.2.2.2.2.2.2.2.2.2.2.2.2.2.2.1, y2.2.2.2.2.2.2.2.2.2.2.2.2.2.2.2.2.2.2.2.2.2.2.2.2.2.2.2.2.2.2.2.2.2.2.2.2.2.2.2.2.2.2.2.2.2.2.2.2.2.2.2.2.2.2.2.1, y2.2.2.2.2.2.2.2.2.2.2.2.2.2.2.2.2.2.2.2.2.2.2.2.2.2.2.2.2.2.2.2.2.2.2.2.2.2.2.2.2.2.2.2.2.2.2.2.2.2.2.2.2.2.2.2.2.1, y2.2.2.2.2.2.2.2.2.2.2.2.2.2.2.2.2.2.2.2.2.2.2.2.2.2.2.2.2.2.2.2.2.2.2.2.2.2.2.2.2.2.2.2.2.2.2.2.2.2.2.2.2.2.2.2.2.2.1, y2.2.2.2.2.2.2.2.2.2.2.2.2.2.2.2.2.2.2.2.2.2.2.2.2.2.2.2.2.2.2.2.2.2.2.2.2.2.2.2.2.2.2.2.2.2.2.2.2.2.2.2.2.2.2.2.2.2.2.1, y2.2.2.2.2.2.2.2.2.2.2.2.2.2.2.2.2.2.2.2.2.2.2.2.2.2.2.2.2.2.2.2.2.2.2.2.2.2.2.2.2.2.2.2.2.2.2.2.2.2.2.2.2.2.2.2.2.2.2.2.1, y2.2.2.2.2.2.2.2.2.2.2.2.2.2.2.2.2.2.2.2.2.2.2.2.2.2.2.2.2.2.2.2.2.2.2.2.2.2.2.2.2.2.2.2.2.2.2.2.2.2.2.2.2.2.2.2.2.2.2.2.2.1, y2.2.2.2.2.2.2.2.2.2.2.2.2.2.2.2.2.2.2.2.2.2.2.2.2.2.2.2.2.2.2.2.2.2.2.2.2.2.2.2.2.2.2.2.2.2.2.2.2.2.2.2.2.2.2.2.2.2.2.2.2.2.1, y2.2.2.2.2.2.2.2.2.2.2.2.2.2.2.2.2.2.2.2.2.2.2.2.2.2.2.2.2.2.2.2.2.2.2.2.2.2.2.2.2.2.2.2.2.2.2.2.2.2.2.2.2.2.2.2.2.2.2.2.2.2.2.1, y2.2.2.2.2.2.2.2.2.2.2.2.2.2.2.2.2.2.2.2.2.2.2.2.2.2.2.2.2.2.2.2.2.2.2.2.2.2.2.2.2.2.2.2.2.2.2.2.2.2.2.2.2.2.2.2.2.2.2.2.2.2.2.2] v.1 v.2) (0, x0)) fun r3 =>
  .bnd (.loop (fun v => r02_block_L12_step x0 (0, (0, (0, (0, (0, (0, (0, 0))))))) v.1 v.2) (0, r3)) fun r4 =>
  .ret r4

def r02_block_g : Sig := ⟨68, (.cons (.val true (.pair (.int .i64) (.pair (.int .i64) (.pair (.int .i64) (.pair (.int .i64) (.pair (.int .i64) (.pair (.int .i64) (.pair (.int .i64) (.int .i64))))))))) (.cons (.val false .str) .nil)), .vals (.val true (.pair (.int .i64) (.pair (.int .i64) (.pair (.int .i64) (.pair (.int .i64) (.pair (.int .i64) (.pair (.int .i64) (.pair (.int .i64) (.int .i64))))))))), fun z => r02_block_T z.1 z.2.1, (dfl (.pair (.int .i64) (.pair (.int .i64) (.pair (.int .i64) (.pair (.int .i64) (.pair (.int .i64) (.pair (.int .i64) (.pair (.int .i64) (.int .i64)))))))) : (Int × (Int × (Int × (Int × (Int × (Int × (Int × Int))))))))⟩

theorem r02_block_ok : r02_block_g.ok Tryz.prog := by
  refine Sig.lift mix tabOk nms _ Tryz.func68 (c := (bodyOf Tryz.f68)) (by kernel_rfl) (o := orT [r02_words_g, r02_constants_g, r02_turn_g, r02_low_g] [r02_block_L5, r02_block_L12] r02_block_fz) (orT_sound ⟨r02_words_ok, ⟨r02_constants_ok, ⟨r02_turn_ok, ⟨r02_low_ok, trivial⟩⟩⟩⟩) (allLp_of [nthC (loopsOf (bodyOf Tryz.f68)) 0, nthC (loopsOf (bodyOf Tryz.f68)) 1] (by kernel_rfl) ⟨r02_block_L5_ok, ⟨r02_block_L12_ok, trivial⟩⟩ (by kernel_rfl)) ?_
  intro z; kernel_rfl

def r02_Sum_fz : Nat → List Pre
  | 4 => [.two]
  | 10 => [.spl 6 8]
  | _ => []

def r02_Sum_L3_step (p : Str) (v : (Int × (Int × (Int × (Int × (Int × (Int × (Int × Int)))))))) : Tree ((Str × (Int × (Int × (Int × (Int × (Int × (Int × (Int × Int)))))))) ⊕ (Int × (Int × (Int × (Int × (Int × (Int × (Int × Int)))))))) :=
  .ite (decide ((64 : Int) ≤ (p.length : Int))) (
    ask (inbe 64 p.length) <|
    .bnd (r02_block_T v (subS p 0 (64 : Int).toNat)) fun y1 =>
    ask (inbe 64 p.length) <|
    .ret (.inl ((subS p (64 : Int).toNat p.length), y1))) (
    .ret (.inr v))

def r02_Sum_L3 : Lp := ⟨3, [], [], (ca (ca2 (.cons (.ref 0 0) (.cons (.val false .str) (ca (ca8 (ca16 .nil))))))), (.cells 88 (.cons (.flat (.pair (.int .i64) (.pair (.int .i64) (.pair (.int .i64) (.pair (.int .i64) (.pair (.int .i64) (.pair (.int .i64) (.pair (.int .i64) (.int .i64))))))))) .nil) .nil), 0, .one 1 [] (ca (ca2 (.cons (.ref 0 0) (ca2 (ca8 (ca16 .nil)))))) (.cells 88 (.cons (.flat (.pair (.int .i64) (.pair (.int .i64) (.pair (.int .i64) (.pair (.int .i64) (.pair (.int .i64) (.pair (.int .i64) (.pair (.int .i64) (.int .i64))))))))) .nil) .nil), fun z => .bnd (.loop (fun v => r02_Sum_L3_step v.1 v.2) (z.1.2.2.2.2.1, z.2.1.1)) fun r => .ret ((cu (cu2 ((), (cu2 (cu8 (cu16 ())))))), ((r, ()), ()))⟩

theorem r02_Sum_L3_ok : r02_Sum_L3.ok Tryz.prog (nthC (loopsOf (bodyOf Tryz.f45)) 0) := by
  refine Lp.lift (π := Unit) (V := (Str × (Int × (Int × (Int × (Int × (Int × (Int × (Int × Int))))))))) (ρ := (Int × (Int × (Int × (Int × (Int × (Int × (Int × Int)))))))) mix tabOk r02_Sum_L3 (o := orT [r02_pad_g, r02_block_g, r01_Count_g] [] r02_Sum_fz) (orT_sound ⟨r02_pad_ok, ⟨r02_block_ok, ⟨r01_Count_ok, trivial⟩⟩⟩) (allLp_of [] (by kernel_rfl) trivial rfl) (fun x v => ((cu (cu2 ((), (v.1, (cu (cu8 (cu16 ()))))))), ((v.2, ()), ()))) (fun x r => ((cu (cu2 ((), (cu2 (cu8 (cu16 ())))))), ((r, ()), ()))) (fun x v => r02_Sum_L3_step v.1 v.2) (fun x r => .ret ((cu (cu2 ((), (cu2 (cu8 (cu16 ())))))), ((r, ()), ()))) (fun z => ()) (fun z => (z.1.2.2.2.2.1, z.2.1.1)) (fun _ => rfl) (fun _ => rfl) (fun _ _ _ h => h) ?_
  intro x v; kernel_rfl

def r02_Sum_L8_step (v : (Int × (Int × (Int × (Int × (Int × (Int × (Int × Int)))))))) (out : Str) (i : Int) : Tree ((Str × Int) ⊕ Str) :=
  .ite (decide (i < 8)) (
    .ite (decide (i = 0)) (
      ask (inb 0 8) <|
      .bnd (r01_Count_T v.1) fun y8 =>
      ask (decide (out.length + y8.length ≤ 9223372036854775807)) <|
      .ret (.inl ((out ++ y8), (w64 ((0 : Int) + 1))))) (
      .ite (decide (i = 1)) (
        ask (inb 1 8) <|
        .bnd (r01_Count_T v.2.1) fun y7 =>
        ask (decide (out.length + y7.length ≤ 9223372036854775807)) <|
        .ret (.inl ((out ++ y7), (w64 ((1 : Int) + 1))))) (
        .ite (decide (i = 2)) (
          ask (inb 2 8) <|
          .bnd (r01_Count_T v.2.2.1) fun y6 =>
          ask (decide (out.length + y6.length ≤ 9223372036854775807)) <|
          .ret (.inl ((out ++ y6), (w64 ((2 : Int) + 1))))) (
          .ite (decide (i = 3)) (
            ask (inb 3 8) <|
            .bnd (r01_Count_T v.2.2.2.1) fun y5 =>
            ask (decide (out.length + y5.length ≤ 9223372036854775807)) <|
            .ret (.inl ((out ++ y5), (w64 ((3 : Int) + 1))))) (
            .ite (decide (i = 4)) (
              ask (inb 4 8) <|
              .bnd (r01_Count_T v.2.2.2.2.1) fun y4 =>
              ask (decide (out.length + y4.length ≤ 9223372036854775807)) <|
              .ret (.inl ((out ++ y4), (w64 ((4 : Int) + 1))))) (
              .ite (decide (i = 5)) (
                ask (inb 5 8) <|
                .bnd (r01_Count_T v.2.2.2.2.2.1) fun y3 =>
                ask (decide (out.length + y3.length ≤ 9223372036854775807)) <|
                .ret (.inl ((out ++ y3), (w64 ((5 : Int) + 1))))) (
                .ite (decide (i = 6)) (
                  ask (inb 6 8) <|
                  .bnd (r01_Count_T v.2.2.2.2.2.2.1) fun y2 =>
                  ask (decide (out.length + y2.length ≤ 9223372036854775807)) <|
                  .ret (.inl ((out ++ y2), (w64 ((6 : Int) + 1))))) (
                  .ite (decide (i = 7)) (
                    ask (inb 7 8) <|
                    .bnd (r01_Count_T v.2.2.2.2.2.2.2) fun y1 =>
                    ask (decide (out.length + y1.length ≤ 9223372036854775807)) <|
                    .ret (.inl ((out ++ y1), (w64 ((7 : Int) + 1))))) (
                    .fail))))))))) (
    .ret (.inr out))

def r02_Sum_L8 : Lp := ⟨8, [], [], (ca (ca2 (.cons (.ref 0 0) (ca (.cons (.val false .str) (.cons (.val false (.int .i64)) (ca (ca2 (ca4 (ca16 .nil)))))))))), (.cells 88 (.cons (.flat (.pair (.int .i64) (.pair (.int .i64) (.pair (.int .i64) (.pair (.int .i64) (.pair (.int .i64) (.pair (.int .i64) (.pair (.int .i64) (.int .i64))))))))) .nil) .nil), 0, .one 3 [] (ca (ca4 (.cons (.val false .str) (ca8 (ca16 .nil))))) .nil, fun z => .bnd (.loop (fun v => r02_Sum_L8_step z.2.1.1 v.1 v.2) (z.1.2.2.2.2.2.1, z.1.2.2.2.2.2.2.1)) fun r => .ret ((cu (cu4 (r, (cu8 (cu16 ()))))), ())⟩

theorem r02_Sum_L8_ok : r02_Sum_L8.ok Tryz.prog (nthC (loopsOf (bodyOf Tryz.f45)) 1) := by
  refine Lp.lift (π := (Int × (Int × (Int × (Int × (Int × (Int × (Int × Int)))))))) (V := (Str × Int)) (ρ := Str) mix tabOk r02_Sum_L8 (o := orT [r02_pad_g, r02_block_g, r01_Count_g] [] r02_Sum_fz) (orT_sound ⟨r02_pad_ok, ⟨r02_block_ok, ⟨r01_Count_ok, trivial⟩⟩⟩) (allLp_of [] (by kernel_rfl) trivial rfl) (fun x v => ((cu (cu2 ((), (cu (v.1, (v.2, (cu (cu2 (cu4 (cu16 ())))))))))), ((x, ()), ()))) (fun x r => ((cu (cu4 (r, (cu8 (cu16 ()))))), ())) (fun x v => r02_Sum_L8_step x v.1 v.2) (fun x r => .ret ((cu (cu4 (r, (cu8 (cu16 ()))))), ())) (fun z => z.2.1.1) (fun z => (z.1.2.2.2.2.2.1, z.1.2.2.2.2.2.2.1)) (fun _ => rfl) (fun _ => rfl) (fun _ _ _ h => h) ?_
  intro x v; kernel_rfl

def r02_Sum_T (x0 : Str) : Tree Str :=
  .bnd (r02_pad_T x0) fun y1 =>
  .bnd (.loop (fun v => r02_Sum_L3_step v.1 v.2) (y1, (1779033703, (3144134277, (1013904242, (2773480762, (1359893119, (2600822924, (528734635, 1541459225))))))))) fun r2 =>
  .bnd (.loop (fun v => r02_Sum_L8_step r2 v.1 v.2) (([] : Str), 0)) fun r3 =>
  .ret r3

def r02_Sum_g : Sig := ⟨45, (.cons (.val false .str) .nil), .vals (.val false .str), fun z => r02_Sum_T z.1, ([] : Str)⟩

theorem r02_Sum_ok : r02_Sum_g.ok Tryz.prog := by
  refine Sig.lift mix tabOk nms _ Tryz.func45 (c := (bodyOf Tryz.f45)) (by kernel_rfl) (o := orT [r02_pad_g, r02_block_g, r01_Count_g] [r02_Sum_L3, r02_Sum_L8] r02_Sum_fz) (orT_sound ⟨r02_pad_ok, ⟨r02_block_ok, ⟨r01_Count_ok, trivial⟩⟩⟩) (allLp_of [nthC (loopsOf (bodyOf Tryz.f45)) 0, nthC (loopsOf (bodyOf Tryz.f45)) 1] (by kernel_rfl) ⟨r02_Sum_L3_ok, ⟨r02_Sum_L8_ok, trivial⟩⟩ (by kernel_rfl)) ?_
  intro z; kernel_rfl

def r02_Of_T (x0 : List Str) : Tree Str :=
  .bnd (r01_Texts_T x0) fun y1 =>
  .bnd (r02_Sum_T y1) fun y2 =>
  .ret y2

def r02_Of_g : Sig := ⟨30, (.cons (.val false (.list .str)) .nil), .vals (.val false .str), fun z => r02_Of_T z.1, ([] : Str)⟩

theorem r02_Of_ok : r02_Of_g.ok Tryz.prog := by
  refine Sig.lift mix tabOk nms _ Tryz.func30 (c := (bodyOf Tryz.f30)) (by kernel_rfl) (o := orT [r01_Texts_g, r02_Sum_g] [] noFz) (orT_sound ⟨r01_Texts_ok, ⟨r02_Sum_ok, trivial⟩⟩) (allLp_of [] (by kernel_rfl) trivial rfl) ?_
  intro z; kernel_rfl

def r14_Part_T (x0 : Str) (x1 : Str) (x2 : Int) : Tree Int :=
  .ite ((decide (x2 < 1)) || (decide ((4096 : Int) < x2))) (
    .ret 0) (
    .bnd (r02_Of_T [x0, x1]) fun y1 =>
    ask (inb 0 y1.length) <|
    ask (decide ((0 : Int) ≤ 24)) <|
    ask (inb 1 y1.length) <|
    ask (decide ((0 : Int) ≤ 16)) <|
    ask (inb 2 y1.length) <|
    ask (decide ((0 : Int) ≤ 8)) <|
    ask (inb 3 y1.length) <|
    ask (decide ((0 : Int) ≤ 32)) <|
    .ret (stdShift .shr .i64 (w64 ((stdArith .or .i64 (stdArith .or .i64 (stdArith .or .i64 (stdShift .shl .i64 (w64 ((sgetI y1 0))) 24) (stdShift .shl .i64 (w64 ((sgetI y1 1))) 16)) (stdShift .shl .i64 (w64 ((sgetI y1 2))) 8)) (w64 ((sgetI y1 3)))) * x2)) 32))

def r14_Part_g : Sig := ⟨15, (.cons (.val false .str) (.cons (.val false .str) (.cons (.val false (.int .i64)) .nil))), .vals (.val false (.int .i64)), fun z => r14_Part_T z.1 z.2.1 z.2.2.1, (0 : Int)⟩

theorem r14_Part_ok : r14_Part_g.ok Tryz.prog := by
  refine Sig.lift mix tabOk nms _ Tryz.func15 (c := (bodyOf Tryz.f15)) (by kernel_rfl) (o := orT [r02_Of_g] [] noFz) (orT_sound ⟨r02_Of_ok, trivial⟩) (allLp_of [] (by kernel_rfl) trivial rfl) ?_
  intro z; kernel_rfl

def l14_awake_fz : Nat → List Pre
  | 2 => [.frz 0]
  | _ => []

def l14_awake_T  : Tree Bool :=
  .bnd (ring_Entries_T [([97] : Str), ([98] : Str), ([97] : Str)]) fun y1 =>
  .bnd (ring_Key_T 12) fun y2 =>
  ask ((!((y2 == ([114, 105, 110, 103, 47, 49, 50] : Str)) && (decide ((y1.length : Int) = 3)))) || inb 1 y1.length) <|
  .grd (((y2 == ([114, 105, 110, 103, 47, 49, 50] : Str)) && (decide ((y1.length : Int) = 3))) && (((y1.getD ((1 : Int).toNat) (dfl tEntry : Entry)).1 == ([114, 105, 110, 103, 47, 49] : Str)) && (((decide ((y1.getD ((1 : Int).toNat) (dfl tEntry : Entry)).2.1 = 1)) && (((y1.getD ((1 : Int).toNat) (dfl tEntry : Entry)).2.2.1 == []) && (((y1.getD ((1 : Int).toNat) (dfl tEntry : Entry)).2.2.2 == ([98] : Str)) && true))) && true))) (ring_Owners_T y1 4) ([] : List Str) fun y3 =>
  .grd (((y2 == ([114, 105, 110, 103, 47, 49, 50] : Str)) && (decide ((y1.length : Int) = 3))) && (((y1.getD ((1 : Int).toNat) (dfl tEntry : Entry)).1 == ([114, 105, 110, 103, 47, 49] : Str)) && (((decide ((y1.getD ((1 : Int).toNat) (dfl tEntry : Entry)).2.1 = 1)) && (((y1.getD ((1 : Int).toNat) (dfl tEntry : Entry)).2.2.1 == []) && (((y1.getD ((1 : Int).toNat) (dfl tEntry : Entry)).2.2.2 == ([98] : Str)) && true))) && true))) (r01_SameTexts_T y3 [([97] : Str), ([98] : Str), ([97] : Str), ([] : Str)]) false fun y4 =>
  .grd ((((y2 == ([114, 105, 110, 103, 47, 49, 50] : Str)) && (decide ((y1.length : Int) = 3))) && (((y1.getD ((1 : Int).toNat) (dfl tEntry : Entry)).1 == ([114, 105, 110, 103, 47, 49] : Str)) && (((decide ((y1.getD ((1 : Int).toNat) (dfl tEntry : Entry)).2.1 = 1)) && (((y1.getD ((1 : Int).toNat) (dfl tEntry : Entry)).2.2.1 == []) && (((y1.getD ((1 : Int).toNat) (dfl tEntry : Entry)).2.2.2 == ([98] : Str)) && true))) && true))) && y4) (ring_Part_T ([116] : Str) ([98, 47, 107] : Str) 16) (0 : Int) fun y5 =>
  .grd ((((y2 == ([114, 105, 110, 103, 47, 49, 50] : Str)) && (decide ((y1.length : Int) = 3))) && (((y1.getD ((1 : Int).toNat) (dfl tEntry : Entry)).1 == ([114, 105, 110, 103, 47, 49] : Str)) && (((decide ((y1.getD ((1 : Int).toNat) (dfl tEntry : Entry)).2.1 = 1)) && (((y1.getD ((1 : Int).toNat) (dfl tEntry : Entry)).2.2.1 == []) && (((y1.getD ((1 : Int).toNat) (dfl tEntry : Entry)).2.2.2 == ([98] : Str)) && true))) && true))) && y4) (r14_Part_T ([116] : Str) ([98, 47, 107] : Str) 16) (0 : Int) fun y6 =>
  .ret (((((y2 == ([114, 105, 110, 103, 47, 49, 50] : Str)) && (decide ((y1.length : Int) = 3))) && (((y1.getD ((1 : Int).toNat) (dfl tEntry : Entry)).1 == ([114, 105, 110, 103, 47, 49] : Str)) && (((decide ((y1.getD ((1 : Int).toNat) (dfl tEntry : Entry)).2.1 = 1)) && (((y1.getD ((1 : Int).toNat) (dfl tEntry : Entry)).2.2.1 == []) && (((y1.getD ((1 : Int).toNat) (dfl tEntry : Entry)).2.2.2 == ([98] : Str)) && true))) && true))) && y4) && (decide (y5 = y6)))

def l14_awake_g : Sig := ⟨5, .nil, .vals (.val false .bool), fun z => l14_awake_T, false⟩

theorem l14_awake_ok : l14_awake_g.ok Tryz.prog := by
  refine Sig.lift mix tabOk nms _ Tryz.func5 (c := (bodyOf Tryz.f5)) (by kernel_rfl) (o := orT [ring_Entries_g, ring_Key_g, ring_Owners_gv, r01_SameTexts_g, ring_Part_g, r14_Part_g] [] l14_awake_fz) (orT_sound ⟨ring_Entries_ok, ⟨ring_Key_ok, ⟨ring_Owners_okv, ⟨r01_SameTexts_ok, ⟨ring_Part_ok, ⟨r14_Part_ok, trivial⟩⟩⟩⟩⟩⟩) (allLp_of [] (by kernel_rfl) trivial rfl) ?_
  intro z; kernel_rfl

def r05_Dec_L5_step (n : Int) (s_ : Str) (k : Int) : Tree ((Str × Int) ⊕ Str) :=
  .ite (!decide (k = 0)) (
    ask (!decide ((10 : Int) = 0)) <|
    .ite (decide ((k.tmod 10) < 0)) (
      ask (inbe (w64 ((w64 ((0 : Int) - (k.tmod 10))) + 1)) ([48, 49, 50, 51, 52, 53, 54, 55, 56, 57] : Str).length) <|
      ask (inbe (w64 ((0 : Int) - (k.tmod 10))) (w64 ((w64 ((0 : Int) - (k.tmod 10))) + 1)).toNat) <|
      ask (decide ((subS ([48, 49, 50, 51, 52, 53, 54, 55, 56, 57] : Str) (w64 ((0 : Int) - (k.tmod 10))).toNat (w64 ((w64 ((0 : Int) - (k.tmod 10))) + 1)).toNat).length + s_.length ≤ 9223372036854775807)) <|
      ask (!decide ((10 : Int) = 0)) <|
      .ret (.inl (((subS ([48, 49, 50, 51, 52, 53, 54, 55, 56, 57] : Str) (w64 ((0 : Int) - (k.tmod 10))).toNat (w64 ((w64 ((0 : Int) - (k.tmod 10))) + 1)).toNat) ++ s_), (w64 (k.tdiv 10))))) (
      ask (inbe (w64 ((k.tmod 10) + 1)) ([48, 49, 50, 51, 52, 53, 54, 55, 56, 57] : Str).length) <|
      ask (inbe (k.tmod 10) (w64 ((k.tmod 10) + 1)).toNat) <|
      ask (decide ((subS ([48, 49, 50, 51, 52, 53, 54, 55, 56, 57] : Str) (k.tmod 10).toNat (w64 ((k.tmod 10) + 1)).toNat).length + s_.length ≤ 9223372036854775807)) <|
      ask (!decide ((10 : Int) = 0)) <|
      .ret (.inl (((subS ([48, 49, 50, 51, 52, 53, 54, 55, 56, 57] : Str) (k.tmod 10).toNat (w64 ((k.tmod 10) + 1)).toNat) ++ s_), (w64 (k.tdiv 10)))))) (
    .ret (.inr s_))

def r05_Dec_L5 : Lp := ⟨5, [], [], (.cons (.val false (.int .i64)) (ca2 (.cons (.val false .str) (.cons (.val false (.int .i64)) (ca (ca8 (ca16 .nil))))))), .nil, 0, .one 1 [] (.cons (.val false (.int .i64)) (ca2 (.cons (.val false .str) (ca2 (ca8 (ca16 .nil)))))) .nil, fun z => .bnd (.loop (fun v => r05_Dec_L5_step z.1.1 v.1 v.2) (z.1.2.2.2.1, z.1.2.2.2.2.1)) fun r => .ret ((z.1.1, (cu2 (r, (cu2 (cu8 (cu16 ())))))), ())⟩

theorem r05_Dec_L5_ok : r05_Dec_L5.ok Tryz.prog (nthC (loopsOf (bodyOf Tryz.f34)) 0) := by
  refine Lp.lift (π := Int) (V := (Str × Int)) (ρ := Str) mix tabOk r05_Dec_L5 (o := orT [] [] noFz) (orT_sound trivial) (allLp_of [] (by kernel_rfl) trivial rfl) (fun x v => ((x, (cu2 (v.1, (v.2, (cu (cu8 (cu16 ()))))))), ())) (fun x r => ((x, (cu2 (r, (cu2 (cu8 (cu16 ())))))), ())) (fun x v => r05_Dec_L5_step x v.1 v.2) (fun x r => .ret ((x, (cu2 (r, (cu2 (cu8 (cu16 ())))))), ())) (fun z => z.1.1) (fun z => (z.1.2.2.2.1, z.1.2.2.2.2.1)) (fun _ => rfl) (fun _ => rfl) (fun _ _ _ h => h) ?_
  intro x v; kernel_rfl

def r05_Dec_T (x0 : Int) : Tree Str :=
  .ite (decide (x0 = 0)) (
    .ret ([48] : Str)) (
    .bnd (.loop (fun v => r05_Dec_L5_step x0 v.1 v.2) (([] : Str), x0)) fun r1 =>
    .ite (decide (x0 < 0)) (
      ask (decide (([45] : Str).length + r1.length ≤ 9223372036854775807)) <|
      .ret (([45] : Str) ++ r1)) (
      .ret r1))

def r05_Dec_g : Sig := ⟨34, (.cons (.val false (.int .i64)) .nil), .vals (.val false .str), fun z => r05_Dec_T z.1, ([] : Str)⟩

theorem r05_Dec_ok : r05_Dec_g.ok Tryz.prog := by
  refine Sig.lift mix tabOk nms _ Tryz.func34 (c := (bodyOf Tryz.f34)) (by kernel_rfl) (o := orT [] [r05_Dec_L5] noFz) (orT_sound trivial) (allLp_of [nthC (loopsOf (bodyOf Tryz.f34)) 0] (by kernel_rfl) ⟨r05_Dec_L5_ok, trivial⟩ (by kernel_rfl)) ?_
  intro z; kernel_rfl

def r14_Key_T (x0 : Int) : Tree Str :=
  .bnd (r05_Dec_T x0) fun y1 =>
  ask (decide (([114, 105, 110, 103, 47] : Str).length + y1.length ≤ 9223372036854775807)) <|
  .ret (([114, 105, 110, 103, 47] : Str) ++ y1)

def r14_Key_g : Sig := ⟨20, (.cons (.val false (.int .i64)) .nil), .vals (.val false .str), fun z => r14_Key_T z.1, ([] : Str)⟩

theorem r14_Key_ok : r14_Key_g.ok Tryz.prog := by
  refine Sig.lift mix tabOk nms _ Tryz.func20 (c := (bodyOf Tryz.f20)) (by kernel_rfl) (o := orT [r05_Dec_g] [] noFz) (orT_sound ⟨r05_Dec_ok, trivial⟩) (allLp_of [] (by kernel_rfl) trivial rfl) ?_
  intro z; kernel_rfl

def r10_Get_L2_step (l : List Entry) (key : Str) (c : Reg) (i : Int) : Tree (Int ⊕ (Reg ⊕ Unit)) :=
  .ite (decide (i < (l.length : Int))) (
    ask (inb i l.length) <|
    .ite ((l.getD i.toNat (dfl tEntry : Entry)).1 == key) (
      ask (inb i l.length) <|
      .ret (.inr (.inl (l.getD i.toNat (dfl tEntry : Entry)).2))) (
      .ret (.inl (w64 (i + 1))))) (
    .ret (.inr (.inr ())))

def r10_Get_L2 : Lp := ⟨2, [], [], (.cons (.val false (.list tEntry)) (.cons (.val false .str) (ca2 (.cons (.ref 0 0) (.cons (.val false (.int .i64)) (ca (ca2 (ca16 .nil)))))))), (.cells 32 (.cons (.flat tReg) .nil) .nil), 0, .more 0 [] (ca4 (.cons (.ref 0 0) (ca4 (ca16 .nil)))) (.cells 32 (.cons (.flat tReg) .nil) .nil) (.one 1 [] (ca4 (.cons (.ref 0 0) (ca4 (ca16 .nil)))) (.cells 32 (.cons (.flat tReg) .nil) .nil)), fun z => .bnd (.loop (fun v => r10_Get_L2_step z.1.1 z.1.2.1 z.2.1.1 v) z.1.2.2.2.2.2.1) fun r => .sum r (fun a0 => .ret (.inl ((cu4 ((), (cu4 (cu16 ())))), ((a0, ()), ())))) (fun b0 => .ret (.inr ((cu4 ((), (cu4 (cu16 ())))), ((z.2.1.1, ()), ()))))⟩

theorem r10_Get_L2_ok : r10_Get_L2.ok Tryz.prog (nthC (loopsOf (bodyOf Tryz.f19)) 0) := by
  refine Lp.lift (π := ((List Entry) × Str × Reg)) (V := Int) (ρ := (Reg ⊕ Unit)) mix tabOk r10_Get_L2 (o := orT [] [] noFz) (orT_sound trivial) (allLp_of [] (by kernel_rfl) trivial rfl) (fun x v => ((x.1, (x.2.1, (cu2 ((), (v, (cu (cu2 (cu16 ())))))))), ((x.2.2, ()), ()))) (fun x r => match r with | .inl a0 => .inl ((cu4 ((), (cu4 (cu16 ())))), ((a0, ()), ())) | .inr b0 => (.inr ((cu4 ((), (cu4 (cu16 ())))), ((x.2.2, ()), ())))) (fun x v => r10_Get_L2_step x.1 x.2.1 x.2.2 v) (fun x r => .sum r (fun a0 => .ret (.inl ((cu4 ((), (cu4 (cu16 ())))), ((a0, ()), ())))) (fun b0 => .ret (.inr ((cu4 ((), (cu4 (cu16 ())))), ((x.2.2, ()), ()))))) (fun z => (z.1.1, z.1.2.1, z.2.1.1)) (fun z => z.1.2.2.2.2.2.1) (fun _ => rfl) (fun _ => rfl) (fun x r Q h => match r, h with | .inl _, h => h | .inr b0, h => (h)) ?_
  intro x v; kernel_rfl

def r10_Get_T (x0 : List Entry) (x1 : Str) : Tree Reg :=
  .bnd (.loop (fun v => r10_Get_L2_step x0 x1 (0, ([], [])) v) 0) fun r1 =>
  .sum r1 (fun r2 =>
    .ret r2) (fun r3 =>
    .ret (0, ([], [])))

def r10_Get_g : Sig := ⟨19, (.cons (.val false (.list tEntry)) (.cons (.val false .str) .nil)), .vals (.val true tReg), fun z => r10_Get_T z.1 z.2.1, (dfl tReg : Reg)⟩

theorem r10_Get_ok : r10_Get_g.ok Tryz.prog := by
  refine Sig.lift mix tabOk nms _ Tryz.func19 (c := (bodyOf Tryz.f19)) (by kernel_rfl) (o := orT [] [r10_Get_L2] noFz) (orT_sound trivial) (allLp_of [nthC (loopsOf (bodyOf Tryz.f19)) 0] (by kernel_rfl) ⟨r10_Get_L2_ok, trivial⟩ (by kernel_rfl)) ?_
  intro z; kernel_rfl

def r05_Is_L2_step (s_ : Str) (i : Int) : Tree (Int ⊕ (Bool ⊕ Unit)) :=
  .ite (decide (i < (s_.length : Int))) (
    ask (inb i s_.length) <|
    ask ((!(!(decide ((sgetI s_ i) < 97)))) || inb i s_.length) <|
    ask ((!((decide ((sgetI s_ i) < 97)) || (decide ((122 : Int) < (sgetI s_ i))))) || inb i s_.length) <|
    ask ((!(((decide ((sgetI s_ i) < 97)) || (decide ((122 : Int) < (sgetI s_ i)))) && (!(decide ((sgetI s_ i) < 48))))) || inb i s_.length) <|
    ask ((!(((decide ((sgetI s_ i) < 97)) || (decide ((122 : Int) < (sgetI s_ i)))) && ((decide ((sgetI s_ i) < 48)) || (decide ((57 : Int) < (sgetI s_ i)))))) || inb i s_.length) <|
    .ite ((((decide ((sgetI s_ i) < 97)) || (decide ((122 : Int) < (sgetI s_ i)))) && ((decide ((sgetI s_ i) < 48)) || (decide ((57 : Int) < (sgetI s_ i))))) && (!decide ((sgetI s_ i) = 45))) (
      .ret (.inr (.inl false))) (
      .ret (.inl (w64 (i + 1))))) (
    .ret (.inr (.inr ())))

def r05_Is_L2 : Lp := ⟨2, [], [], (.cons (.val false .str) (ca2 (.cons (.val false (.int .i64)) (ca2 (ca8 (ca32 .nil)))))), .nil, 0, .more 0 [] (ca2 (.cons (.val false .bool) (ca (ca2 (ca8 (ca32 .nil)))))) .nil (.one 1 [] (.cons (.val false .str) (ca (ca4 (ca8 (ca32 .nil))))) .nil), fun z => .bnd (.loop (fun v => r05_Is_L2_step z.1.1 v) z.1.2.2.2.1) fun r => .sum r (fun a0 => .ret (.inl ((cu2 (a0, (cu (cu2 (cu8 (cu32 ())))))), ()))) (fun b0 => .ret (.inr ((z.1.1, (cu (cu4 (cu8 (cu32 ()))))), ())))⟩

theorem r05_Is_L2_ok : r05_Is_L2.ok Tryz.prog (nthC (loopsOf (bodyOf Tryz.f21)) 0) := by
  refine Lp.lift (π := Str) (V := Int) (ρ := (Bool ⊕ Unit)) mix tabOk r05_Is_L2 (o := orT [] [] noFz) (orT_sound trivial) (allLp_of [] (by kernel_rfl) trivial rfl) (fun x v => ((x, (cu2 (v, (cu2 (cu8 (cu32 ())))))), ())) (fun x r => match r with | .inl a0 => .inl ((cu2 (a0, (cu (cu2 (cu8 (cu32 ())))))), ()) | .inr b0 => (.inr ((x, (cu (cu4 (cu8 (cu32 ()))))), ()))) (fun x v => r05_Is_L2_step x v) (fun x r => .sum r (fun a0 => .ret (.inl ((cu2 (a0, (cu (cu2 (cu8 (cu32 ())))))), ()))) (fun b0 => .ret (.inr ((x, (cu (cu4 (cu8 (cu32 ()))))), ())))) (fun z => z.1.1) (fun z => z.1.2.2.2.1) (fun _ => rfl) (fun _ => rfl) (fun x r Q h => match r, h with | .inl _, h => h | .inr b0, h => (h)) ?_
  intro x v; kernel_rfl

def r05_Is_T (x0 : Str) : Tree Bool :=
  .bnd (.loop (fun v => r05_Is_L2_step x0 v) 0) fun r1 =>
  .sum r1 (fun r2 =>
    .ret r2) (fun r3 =>
    .ret ((decide ((1 : Int) ≤ (x0.length : Int))) && (decide ((x0.length : Int) ≤ 16))))

def r05_Is_g : Sig := ⟨21, (.cons (.val false .str) .nil), .vals (.val false .bool), fun z => r05_Is_T z.1, false⟩

theorem r05_Is_ok : r05_Is_g.ok Tryz.prog := by
  refine Sig.lift mix tabOk nms _ Tryz.func21 (c := (bodyOf Tryz.f21)) (by kernel_rfl) (o := orT [] [r05_Is_L2] noFz) (orT_sound trivial) (allLp_of [nthC (loopsOf (bodyOf Tryz.f21)) 0] (by kernel_rfl) ⟨r05_Is_L2_ok, trivial⟩ (by kernel_rfl)) ?_
  intro z; kernel_rfl

def r14_Owners_L5_step (l : List Entry) (parts : Int) (i : Int) (out : List Str) : Tree ((Int × (List Str)) ⊕ (List Str)) :=
  .ite (decide (i < parts)) (
    .bnd (r14_Key_T i) fun y1 =>
    .bnd (r10_Get_T l y1) fun y2 =>
    .bnd (r05_Is_T y2.2.2) fun y3 =>
    .ite (!y3) (
      ask (decide ((out ++ [([] : Str)]).length * 16 ≤ roomNat)) <|
      .ret (.inl ((w64 (i + 1)), (out ++ [([] : Str)])))) (
      ask (decide ((out ++ [y2.2.2]).length * 16 ≤ roomNat)) <|
      .ret (.inl ((w64 (i + 1)), (out ++ [y2.2.2]))))) (
    .ret (.inr out))

def r14_Owners_L5 : Lp := ⟨5, [.own 5 9 .str], [], (.cons (.val false (.list tEntry)) (.cons (.val false (.int .i64)) (ca (ca2 (.cons (.own 0) (.cons (.val false (.int .i64)) (ca (ca8 (ca16 .nil))))))))), (.rows 9 .str .nil), 0, .one 1 [] (ca (ca4 (.cons (.own 0) (ca2 (ca8 (ca16 .nil)))))) (.rows 9 .str .nil), fun z => .bnd (.loop (fun v => r14_Owners_L5_step z.1.1 z.1.2.1 v.1 v.2) (z.1.2.2.2.2.2.2.1, z.2.1)) fun r => .ret ((cu (cu4 ((), (cu2 (cu8 (cu16 ())))))), (r, ()))⟩

theorem r14_Owners_L5_ok : r14_Owners_L5.ok Tryz.prog (nthC (loopsOf (bodyOf Tryz.f8)) 0) := by
  refine Lp.lift (π := ((List Entry) × Int)) (V := (Int × (List Str))) (ρ := List Str) mix tabOk r14_Owners_L5 (o := orT [r14_Key_g, r10_Get_g, r05_Is_g] [] noFz) (orT_sound ⟨r14_Key_ok, ⟨r10_Get_ok, ⟨r05_Is_ok, trivial⟩⟩⟩) (allLp_of [] (by kernel_rfl) trivial rfl) (fun x v => ((x.1, (x.2, (cu (cu2 ((), (v.1, (cu (cu8 (cu16 ()))))))))), (v.2, ()))) (fun x r => ((cu (cu4 ((), (cu2 (cu8 (cu16 ())))))), (r, ()))) (fun x v => r14_Owners_L5_step x.1 x.2 v.1 v.2) (fun x r => .ret ((cu (cu4 ((), (cu2 (cu8 (cu16 ())))))), (r, ()))) (fun z => (z.1.1, z.1.2.1)) (fun z => (z.1.2.2.2.2.2.2.1, z.2.1)) (fun _ => rfl) (fun _ => rfl) (fun _ _ _ h => h) ?_
  intro x v; kernel_rfl

def r14_Owners_T (x0 : List Entry) (x1 : Int) : Tree (List Str) :=
  .ite ((decide (x1 < 1)) || (decide ((4096 : Int) < x1))) (
    .ret []) (
    .bnd (.loop (fun v => r14_Owners_L5_step x0 x1 v.1 v.2) (0, ([] : List Str))) fun r1 =>
    .ret r1)

def r14_Owners_g : Sig := ⟨8, (.cons (.val false (.list tEntry)) (.cons (.val false (.int .i64)) .nil)), .fresh 9 .str, fun z => r14_Owners_T z.1 z.2.1, ([] : List Str)⟩

theorem r14_Owners_ok : r14_Owners_g.ok Tryz.prog := by
  refine Sig.lift mix tabOk nms _ Tryz.func8 (c := (bodyOf Tryz.f8)) (by kernel_rfl) (o := orT [r14_Key_g, r10_Get_g, r05_Is_g] [r14_Owners_L5] noFz) (orT_sound ⟨r14_Key_ok, ⟨r10_Get_ok, ⟨r05_Is_ok, trivial⟩⟩⟩) (allLp_of [nthC (loopsOf (bodyOf Tryz.f8)) 0] (by kernel_rfl) ⟨r14_Owners_L5_ok, trivial⟩ (by kernel_rfl)) ?_
  intro z; kernel_rfl

def r14_Owners_gv : Sig := ⟨8, (.cons (.val false (.list tEntry)) (.cons (.val false (.int .i64)) .nil)), .vals (.val false (.list .str)), fun z => r14_Owners_T z.1 z.2.1, ([] : List Str)⟩

theorem r14_Owners_okv : r14_Owners_gv.ok Tryz.prog := fun x y h => acalls_val (r14_Owners_ok x y h)

def r14_Entries_fz : Nat → List Pre
  | 12 => [.frz 0]
  | 13 => [.two]
  | _ => []

def r14_Entries_L9_step (owners : List Str) (out : List Entry) (i : Int) (k : Int) : Tree (Int ⊕ Int) :=
  ask ((!(decide (k < (out.length : Int)))) || inb k out.length) <|
  .grd (decide (k < (out.length : Int))) (r14_Key_T i) ([] : Str) fun y1 =>
  .ite ((decide (k < (out.length : Int))) && (ltS (out.getD k.toNat (dfl tEntry : Entry)).1 y1)) (
    .ret (.inl (w64 (k + 1)))) (
    .ret (.inr k))

def r14_Entries_L9 : Lp := ⟨9, [], [], (.cons (.val false (.list .str)) (ca2 (.cons (.val false (.list tEntry)) (.cons (.val false (.int .i64)) (.cons (.val false (.int .i64)) (ca (ca2 (ca4 (ca16 (ca32 .nil)))))))))), .nil, 0, .one 3 [] (.cons (.val false (.list .str)) (ca2 (.cons (.val false (.list tEntry)) (.cons (.val false (.int .i64)) (.cons (.val false (.int .i64)) (ca (ca2 (ca4 (ca16 (ca32 .nil)))))))))) .nil, fun z => .bnd (.loop (fun v => r14_Entries_L9_step z.1.1 z.1.2.2.2.1 z.1.2.2.2.2.1 v) z.1.2.2.2.2.2.1) fun r => .ret ((z.1.1, (cu2 (z.1.2.2.2.1, (z.1.2.2.2.2.1, (r, (cu (cu2 (cu4 (cu16 (cu32 ())))))))))), ())⟩

theorem r14_Entries_L9_ok : r14_Entries_L9.ok Tryz.prog (nthC (loopsOf (nthC (loopsOf (bodyOf Tryz.f11)) 0)) 0) := by
  refine Lp.lift (π := ((List Str) × (List Entry) × Int)) (V := Int) (ρ := Int) mix tabOk r14_Entries_L9 (o := orT [r05_Is_g, r14_Key_g] [] r14_Entries_fz) (orT_sound ⟨r05_Is_ok, ⟨r14_Key_ok, trivial⟩⟩) (allLp_of [] (by kernel_rfl) trivial rfl) (fun x v => ((x.1, (cu2 (x.2.1, (x.2.2, (v, (cu (cu2 (cu4 (cu16 (cu32 ())))))))))), ())) (fun x r => ((x.1, (cu2 (x.2.1, (x.2.2, (r, (cu (cu2 (cu4 (cu16 (cu32 ())))))))))), ())) (fun x v => r14_Entries_L9_step x.1 x.2.1 x.2.2 v) (fun x r => .ret ((x.1, (cu2 (x.2.1, (x.2.2, (r, (cu (cu2 (cu4 (cu16 (cu32 ())))))))))), ())) (fun z => (z.1.1, z.1.2.2.2.1, z.1.2.2.2.2.1)) (fun z => z.1.2.2.2.2.2.1) (fun _ => rfl) (fun _ => rfl) (fun _ _ _ h => h) ?_
  intro x v; kernel_rfl

def r14_Entries_L5_step (owners : List Str) (out : List Entry) (i : Int) : Tree (((List Entry) × Int) ⊕ (List Entry)) :=
  .ite (decide (i < (owners.length : Int))) (
    ask (inb i owners.length) <|
    .bnd (r05_Is_T (owners.getD i.toNat ([] : Str))) fun y1 =>
    .ite (!y1) (
      .ret (.inl (out, (w64 (i + 1))))) (
      .bnd (.loop (fun v => r14_Entries_L9_step owners out i v) 0) fun r2 =>
      ask (inbe r2 out.length) <|
      ask (decide ((out.take r2.toNat).length * 56 ≤ roomNat)) <|
      .bnd (r14_Key_T i) fun y3 =>
      ask (inb i owners.length) <|
      ask (decide (((out.take r2.toNat) ++ [(y3, (1, ([], (owners.getD i.toNat ([] : Str)))))]).length * 56 ≤ roomNat)) <|
      ask (inbe r2 out.length) <|
      ask (decide ((((out.take r2.toNat) ++ [(y3, (1, ([], (owners.getD i.toNat ([] : Str)))))]) ++ (out.drop r2.toNat)).length * 56 ≤ roomNat)) <|
      .ret (.inl ((((out.take r2.toNat) ++ [(y3, (1, ([], (owners.getD i.toNat ([] : Str)))))]) ++ (out.drop r2.toNat)), (w64 (i + 1)))))) (
    .ret (.inr out))

def r14_Entries_L5 : Lp := ⟨5, [], [.frz 0], (.cons (.val false (.list .str)) (ca2 (.cons (.val false (.list tEntry)) (.cons (.val false (.int .i64)) (ca8 (ca16 (ca32 .nil))))))), .nil, 0, .one 1 [] (ca (ca2 (.cons (.val false (.list tEntry)) (ca (ca8 (ca16 (ca32 .nil))))))) .nil, fun z => .bnd (.loop (fun v => r14_Entries_L5_step z.1.1 v.1 v.2) (z.1.2.2.2.1, z.1.2.2.2.2.1)) fun r => .ret ((cu (cu2 (r, (cu (cu8 (cu16 (cu32 ()))))))), ())⟩

theorem r14_Entries_L5_ok : r14_Entries_L5.ok Tryz.prog (nthC (loopsOf (bodyOf Tryz.f11)) 0) := by
  refine Lp.lift (π := List Str) (V := ((List Entry) × Int)) (ρ := List Entry) mix tabOk r14_Entries_L5 (o := orT [r05_Is_g, r14_Key_g] [r14_Entries_L9] r14_Entries_fz) (orT_sound ⟨r05_Is_ok, ⟨r14_Key_ok, trivial⟩⟩) (allLp_of [nthC (loopsOf (nthC (loopsOf (bodyOf Tryz.f11)) 0)) 0] (by kernel_rfl) ⟨r14_Entries_L9_ok, trivial⟩ (by kernel_rfl)) (fun x v => ((x, (cu2 (v.1, (v.2, (cu8 (cu16 (cu32 ()))))))), ())) (fun x r => ((cu (cu2 (r, (cu (cu8 (cu16 (cu32 ()))))))), ())) (fun x v => r14_Entries_L5_step x v.1 v.2) (fun x r => .ret ((cu (cu2 (r, (cu (cu8 (cu16 (cu32 ()))))))), ())) (fun z => z.1.1) (fun z => (z.1.2.2.2.1, z.1.2.2.2.2.1)) (fun _ => rfl) (fun _ => rfl) (fun _ _ _ h => h) ?_
  intro x v; kernel_rfl

def r14_Entries_T (x0 : List Str) : Tree (List Entry) :=
  .ite (decide ((4096 : Int) < (x0.length : Int))) (
    .ret []) (
    .bnd (.loop (fun v => r14_Entries_L5_step x0 v.1 v.2) ([], 0)) fun r1 =>
    .ret r1)

def r14_Entries_g : Sig := ⟨11, (.cons (.val false (.list .str)) .nil), .vals (.val false (.list tEntry)), fun z => r14_Entries_T z.1, ([] : List Entry)⟩

theorem r14_Entries_ok : r14_Entries_g.ok Tryz.prog := by
  refine Sig.lift mix tabOk nms _ Tryz.func11 (c := (bodyOf Tryz.f11)) (by kernel_rfl) (o := orT [r05_Is_g, r14_Key_g] [r14_Entries_L5] r14_Entries_fz) (orT_sound ⟨r05_Is_ok, ⟨r14_Key_ok, trivial⟩⟩) (allLp_of [nthC (loopsOf (bodyOf Tryz.f11)) 0] (by kernel_rfl) ⟨r14_Entries_L5_ok, trivial⟩ (by kernel_rfl)) ?_
  intro z; kernel_rfl

def r10_Same_L4_step (a : List Entry) (b : List Entry) (i : Int) : Tree (Int ⊕ (Bool ⊕ Unit)) :=
  .ite ((decide (i < (a.length : Int))) && (decide (i < (b.length : Int)))) (
    ask (inb i a.length) <|
    ask (inb i b.length) <|
    .ite (!(((a.getD i.toNat (dfl tEntry : Entry)).1 == (b.getD i.toNat (dfl tEntry : Entry)).1) && (((decide ((a.getD i.toNat (dfl tEntry : Entry)).2.1 = (b.getD i.toNat (dfl tEntry : Entry)).2.1)) && (((a.getD i.toNat (dfl tEntry : Entry)).2.2.1 == (b.getD i.toNat (dfl tEntry : Entry)).2.2.1) && (((a.getD i.toNat (dfl tEntry : Entry)).2.2.2 == (b.getD i.toNat (dfl tEntry : Entry)).2.2.2) && true))) && true))) (
      .ret (.inr (.inl false))) (
      .ret (.inl (w64 (i + 1))))) (
    .ret (.inr (.inr ())))

def r10_Same_L4 : Lp := ⟨4, [], [], (.cons (.val false (.list tEntry)) (.cons (.val false (.list tEntry)) (ca (ca2 (.cons (.val false (.int .i64)) (ca2 (ca8 (ca16 .nil)))))))), .nil, 0, .more 0 [] (ca4 (.cons (.val false .bool) (ca (ca2 (ca8 (ca16 .nil)))))) .nil (.one 1 [] (ca32 .nil) .nil), fun z => .bnd (.loop (fun v => r10_Same_L4_step z.1.1 z.1.2.1 v) z.1.2.2.2.2.2.1) fun r => .sum r (fun a0 => .ret (.inl ((cu4 (a0, (cu (cu2 (cu8 (cu16 ())))))), ()))) (fun b0 => .ret (.inr ((cu32 ()), ())))⟩

theorem r10_Same_L4_ok : r10_Same_L4.ok Tryz.prog (nthC (loopsOf (bodyOf Tryz.f9)) 0) := by
  refine Lp.lift (π := ((List Entry) × (List Entry))) (V := Int) (ρ := (Bool ⊕ Unit)) mix tabOk r10_Same_L4 (o := orT [] [] noFz) (orT_sound trivial) (allLp_of [] (by kernel_rfl) trivial rfl) (fun x v => ((x.1, (x.2, (cu (cu2 (v, (cu2 (cu8 (cu16 ())))))))), ())) (fun x r => match r with | .inl a0 => .inl ((cu4 (a0, (cu (cu2 (cu8 (cu16 ())))))), ()) | .inr b0 => (.inr ((cu32 ()), ()))) (fun x v => r10_Same_L4_step x.1 x.2 v) (fun x r => .sum r (fun a0 => .ret (.inl ((cu4 (a0, (cu (cu2 (cu8 (cu16 ())))))), ()))) (fun b0 => .ret (.inr ((cu32 ()), ())))) (fun z => (z.1.1, z.1.2.1)) (fun z => z.1.2.2.2.2.2.1) (fun _ => rfl) (fun _ => rfl) (fun x r Q h => match r, h with | .inl _, h => h | .inr b0, h => (h)) ?_
  intro x v; kernel_rfl

def r10_Same_T (x0 : List Entry) (x1 : List Entry) : Tree Bool :=
  .ite (!decide ((x0.length : Int) = (x1.length : Int))) (
    .ret false) (
    .bnd (.loop (fun v => r10_Same_L4_step x0 x1 v) 0) fun r1 =>
    .sum r1 (fun r2 =>
      .ret r2) (fun r3 =>
      .ret true))

def r10_Same_g : Sig := ⟨9, (.cons (.val false (.list tEntry)) (.cons (.val false (.list tEntry)) .nil)), .vals (.val false .bool), fun z => r10_Same_T z.1 z.2.1, false⟩

theorem r10_Same_ok : r10_Same_g.ok Tryz.prog := by
  refine Sig.lift mix tabOk nms _ Tryz.func9 (c := (bodyOf Tryz.f9)) (by kernel_rfl) (o := orT [] [r10_Same_L4] noFz) (orT_sound trivial) (allLp_of [nthC (loopsOf (bodyOf Tryz.f9)) 0] (by kernel_rfl) ⟨r10_Same_L4_ok, trivial⟩ (by kernel_rfl)) ?_
  intro z; kernel_rfl

def l14_RingOwners_L4_step (l : List Entry) (parts : Int) (owners : List Str) (i : Int) : Tree (Int ⊕ (Bool ⊕ Unit)) :=
  .ite (decide (i < (owners.length : Int))) (
    ask (inb i owners.length) <|
    .ite (decide ((100 : Int) < ((owners.getD i.toNat ([] : Str)).length : Int))) (
      .bnd l14_awake_T fun y1 =>
      .ret (.inr (.inl y1))) (
      .ret (.inl (w64 (i + 1))))) (
    .ret (.inr (.inr ())))

def l14_RingOwners_L4 : Lp := ⟨4, [], [], (.cons (.val false (.list tEntry)) (.cons (.val false (.int .i64)) (.cons (.val false (.list .str)) (ca4 (.cons (.val false (.int .i64)) (ca (ca2 (ca4 (ca8 (ca32 .nil)))))))))), .nil, 0, .more 0 [] (ca2 (ca4 (.cons (.val false .bool) (ca16 (ca32 .nil))))) .nil (.one 1 [] (.cons (.val false (.list tEntry)) (.cons (.val false (.int .i64)) (.cons (.val false (.list .str)) (ca4 (ca16 (ca32 .nil)))))) .nil), fun z => .bnd (.loop (fun v => l14_RingOwners_L4_step z.1.1 z.1.2.1 z.1.2.2.1 v) z.1.2.2.2.2.2.2.2.1) fun r => .sum r (fun a0 => .ret (.inl ((cu2 (cu4 (a0, (cu16 (cu32 ()))))), ()))) (fun b0 => .ret (.inr ((z.1.1, (z.1.2.1, (z.1.2.2.1, (cu4 (cu16 (cu32 ())))))), ())))⟩

theorem l14_RingOwners_L4_ok : l14_RingOwners_L4.ok Tryz.prog (nthC (loopsOf (bodyOf Tryz.f3)) 0) := by
  refine Lp.lift (π := ((List Entry) × Int × (List Str))) (V := Int) (ρ := (Bool ⊕ Unit)) mix tabOk l14_RingOwners_L4 (o := orT [r10_Few_g, l14_awake_g, ring_Owners_g, r14_Owners_g, r01_SameTexts_g, ring_Entries_gv, r14_Entries_g, r10_Same_g] [] noFz) (orT_sound ⟨r10_Few_ok, ⟨l14_awake_ok, ⟨ring_Owners_ok, ⟨r14_Owners_ok, ⟨r01_SameTexts_ok, ⟨ring_Entries_okv, ⟨r14_Entries_ok, ⟨r10_Same_ok, trivial⟩⟩⟩⟩⟩⟩⟩⟩) (allLp_of [] (by kernel_rfl) trivial rfl) (fun x v => ((x.1, (x.2.1, (x.2.2, (cu4 (v, (cu (cu2 (cu4 (cu8 (cu32 ())))))))))), ())) (fun x r => match r with | .inl a0 => .inl ((cu2 (cu4 (a0, (cu16 (cu32 ()))))), ()) | .inr b0 => (.inr ((x.1, (x.2.1, (x.2.2, (cu4 (cu16 (cu32 ())))))), ()))) (fun x v => l14_RingOwners_L4_step x.1 x.2.1 x.2.2 v) (fun x r => .sum r (fun a0 => .ret (.inl ((cu2 (cu4 (a0, (cu16 (cu32 ()))))), ()))) (fun b0 => .ret (.inr ((x.1, (x.2.1, (x.2.2, (cu4 (cu16 (cu32 ())))))), ())))) (fun z => (z.1.1, z.1.2.1, z.1.2.2.1)) (fun z => z.1.2.2.2.2.2.2.2.1) (fun _ => rfl) (fun _ => rfl) (fun x r Q h => match r, h with | .inl _, h => h | .inr b0, h => (h)) ?_
  intro x v; kernel_rfl

def l14_RingOwners_T (x0 : List Entry) (x1 : Int) (x2 : List Str) : Tree Bool :=
  .bnd (r10_Few_T x0 40) fun y1 =>
  .ite (((!y1) || ((decide ((64 : Int) < x1)) && (decide (x1 ≤ 4096)))) || (decide ((30 : Int) < (x2.length : Int)))) (
    .bnd l14_awake_T fun y2 =>
    .ret y2) (
    .bnd (.loop (fun v => l14_RingOwners_L4_step x0 x1 x2 v) 0) fun r3 =>
    .sum r3 (fun r4 =>
      .ret r4) (fun r5 =>
      .bnd (ring_Owners_T x0 x1) fun y6 =>
      .bnd (r14_Owners_T x0 x1) fun y7 =>
      .bnd (r01_SameTexts_T y6 y7) fun y8 =>
      .grd y8 (ring_Entries_T x2) ([] : List Entry) fun y9 =>
      .grd y8 (r14_Entries_T x2) ([] : List Entry) fun y10 =>
      .grd y8 (r10_Same_T y9 y10) false fun y11 =>
      .grd (y8 && y11) l14_awake_T false fun y12 =>
      .ret ((y8 && y11) && y12)))

def l14_RingOwners_g : Sig := ⟨3, (.cons (.val false (.list tEntry)) (.cons (.val false (.int .i64)) (.cons (.val false (.list .str)) .nil))), .vals (.val false .bool), fun z => l14_RingOwners_T z.1 z.2.1 z.2.2.1, false⟩

theorem l14_RingOwners_ok : l14_RingOwners_g.ok Tryz.prog := by
  refine Sig.lift mix tabOk nms _ Tryz.func3 (c := (bodyOf Tryz.f3)) (by kernel_rfl) (o := orT [r10_Few_g, l14_awake_g, ring_Owners_g, r14_Owners_g, r01_SameTexts_g, ring_Entries_gv, r14_Entries_g, r10_Same_g] [l14_RingOwners_L4] noFz) (orT_sound ⟨r10_Few_ok, ⟨l14_awake_ok, ⟨ring_Owners_ok, ⟨r14_Owners_ok, ⟨r01_SameTexts_ok, ⟨ring_Entries_okv, ⟨r14_Entries_ok, ⟨r10_Same_ok, trivial⟩⟩⟩⟩⟩⟩⟩⟩) (allLp_of [nthC (loopsOf (bodyOf Tryz.f3)) 0] (by kernel_rfl) ⟨l14_RingOwners_L4_ok, trivial⟩ (by kernel_rfl)) ?_
  intro z; kernel_rfl

end Go.Eng
