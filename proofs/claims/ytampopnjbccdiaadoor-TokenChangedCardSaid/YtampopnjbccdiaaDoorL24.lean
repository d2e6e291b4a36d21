/- Lifted: 60 functions, part 1. -/
import Derived.Test.YtampopnjbccdiaaDoorTrG
import Derived.Test.YtampopnjbccdiaaDoorTrF
import Derived.Test.YtampopnjbccdiaaDoorEngT
import Derived.Test.YtampopnjbccdiaaDoorGlb
import Derived.Test.YtampopnjbccdiaaDoorShf
import Derived.Test.YtampopnjbccdiaaDoorTrL
import Derived.Test.YtampopnjbccdiaaDoorTrW
namespace Go.Eng
open Go Go.Proofs
set_option maxRecDepth 100000
abbrev Tenant_bound : Type := (Int × Int)
abbrev tTenant_bound : Ty := (.pair (.int .i64) (.int .i64))

abbrev Tenant : Type := (Str × (Str × (Int × (Int × Tenant_bound))))
abbrev tTenant : Ty := (.pair .str (.pair .str (.pair (.int .i64) (.pair (.int .i64) tTenant_bound))))

abbrev Reg : Type := (Int × (Str × Str))
abbrev tReg : Ty := (.pair (.int .i64) (.pair .str .str))

abbrev Entry : Type := (Str × Reg)
abbrev tEntry : Ty := (.pair .str tReg)

abbrev Octet_Reader : Type := (Str × Bool)
abbrev tOctet_Reader : Ty := (.pair .str .bool)

abbrev A24u8 : Type := (Int × (Int × (Int × (Int × (Int × (Int × (Int × (Int × (Int × (Int × (Int × (Int × (Int × (Int × (Int × (Int × (Int × (Int × (Int × (Int × (Int × (Int × (Int × Int)))))))))))))))))))))))
abbrev tA24u8 : Ty := (.pair (.int .u8) (.pair (.int .u8) (.pair (.int .u8) (.pair (.int .u8) (.pair (.int .u8) (.pair (.int .u8) (.pair (.int .u8) (.pair (.int .u8) (.pair (.int .u8) (.pair (.int .u8) (.pair (.int .u8) (.pair (.int .u8) (.pair (.int .u8) (.pair (.int .u8) (.pair (.int .u8) (.pair (.int .u8) (.pair (.int .u8) (.pair (.int .u8) (.pair (.int .u8) (.pair (.int .u8) (.pair (.int .u8) (.pair (.int .u8) (.pair (.int .u8) (.int .u8))))))))))))))))))))))))

abbrev A32u8 : Type := (Int × (Int × (Int × (Int × (Int × (Int × (Int × (Int × A24u8))))))))
abbrev tA32u8 : Ty := (.pair (.int .u8) (.pair (.int .u8) (.pair (.int .u8) (.pair (.int .u8) (.pair (.int .u8) (.pair (.int .u8) (.pair (.int .u8) (.pair (.int .u8) tA24u8))))))))

abbrev A64u8 : Type := (Int × (Int × (Int × (Int × (Int × (Int × (Int × (Int × (Int × (Int × (Int × (Int × (Int × (Int × (Int × (Int × (Int × (Int × (Int × (Int × (Int × (Int × (Int × (Int × (Int × (Int × (Int × (Int × (Int × (Int × (Int × (Int × A32u8))))))))))))))))))))))))))))))))
abbrev tA64u8 : Ty := (.pair (.int .u8) (.pair (.int .u8) (.pair (.int .u8) (.pair (.int .u8) (.pair (.int .u8) (.pair (.int .u8) (.pair (.int .u8) (.pair (.int .u8) (.pair (.int .u8) (.pair (.int .u8) (.pair (.int .u8) (.pair (.int .u8) (.pair (.int .u8) (.pair (.int .u8) (.pair (.int .u8) (.pair (.int .u8) (.pair (.int .u8) (.pair (.int .u8) (.pair (.int .u8) (.pair (.int .u8) (.pair (.int .u8) (.pair (.int .u8) (.pair (.int .u8) (.pair (.int .u8) (.pair (.int .u8) (.pair (.int .u8) (.pair (.int .u8) (.pair (.int .u8) (.pair (.int .u8) (.pair (.int .u8) (.pair (.int .u8) (.pair (.int .u8) tA32u8))))))))))))))))))))))))))))))))

abbrev A64u32 : Type := (Int × (Int × (Int × (Int × (Int × (Int × (Int × (Int × (Int × (Int × (Int × (Int × (Int × (Int × (Int × (Int × (Int × (Int × (Int × (Int × (Int × (Int × (Int × (Int × (Int × (Int × (Int × (Int × (Int × (Int × (Int × (Int × (Int × (Int × (Int × (Int × (Int × (Int × (Int × (Int × (Int × (Int × (Int × (Int × (Int × (Int × (Int × (Int × (Int × (Int × (Int × (Int × (Int × (Int × (Int × (Int × (Int × (Int × (Int × (Int × (Int × (Int × (Int × Int)))))))))))))))))))))))))))))))))))))))))))))))))))))))))))))))
abbrev tA64u32 : Ty := (.pair (.int .u32) (.pair (.int .u32) (.pair (.int .u32) (.pair (.int .u32) (.pair (.int .u32) (.pair (.int .u32) (.pair (.int .u32) (.pair (.int .u32) (.pair (.int .u32) (.pair (.int .u32) (.pair (.int .u32) (.pair (.int .u32) (.pair (.int .u32) (.pair (.int .u32) (.pair (.int .u32) (.pair (.int .u32) (.pair (.int .u32) (.pair (.int .u32) (.pair (.int .u32) (.pair (.int .u32) (.pair (.int .u32) (.pair (.int .u32) (.pair (.int .u32) (.pair (.int .u32) (.pair (.int .u32) (.pair (.int .u32) (.pair (.int .u32) (.pair (.int .u32) (.pair (.int .u32) (.pair (.int .u32) (.pair (.int .u32) (.pair (.int .u32) (.pair (.int .u32) (.pair (.int .u32) (.pair (.int .u32) (.pair (.int .u32) (.pair (.int .u32) (.pair (.int .u32) (.pair (.int .u32) (.pair (.int .u32) (.pair (.int .u32) (.pair (.int .u32) (.pair (.int .u32) (.pair (.int .u32) (.pair (.int .u32) (.pair (.int .u32) (.pair (.int .u32) (.pair (.int .u32) (.pair (.int .u32) (.pair (.int .u32) (.pair (.int .u32) (.pair (.int .u32) (.pair (.int .u32) (.pair (.int .u32) (.pair (.int .u32) (.pair (.int .u32) (.pair (.int .u32) (.pair (.int .u32) (.pair (.int .u32) (.pair (.int .u32) (.pair (.int .u32) (.pair (.int .u32) (.pair (.int .u32) (.int .u32))))))))))))))))))))))))))))))))))))))))))))))))))))))))))))))))

def octet_New_T (x0 : Str) : Tree (Unit × ((Octet_Reader × Unit) × Unit)) :=
  .ret ((), (((x0, true), ()), ()))

def octet_New_g : MSig := ⟨19, (.cons (.val false .str) .nil), .nil, [], (.ref 0 0), (.cells 78 (.cons (.flat tOctet_Reader) .nil) .nil), none, fun z => octet_New_T z.1.1⟩

theorem octet_New_ok : octet_New_g.ok Tryd.prog := by
  refine MSig.lift mix tabOk nms _ Tryd.func19 (c := (bodyOf Tryd.f19)) (by kernel_rfl) (o := orT [] [] noFz) (orT_sound trivial) (allLp_of [] (by kernel_rfl) trivial rfl) (fun _ => rfl) ?_
  intro z; kernel_rfl

def octet_Reader_spoil_T (x0 : Octet_Reader) : Tree (Unit × ((Octet_Reader × Unit) × Unit)) :=
  .ite true (
    .ret ((), (((x0.1, false), ()), ()))) (
    .ret ((), ((x0, ()), ())))

def octet_Reader_spoil_g : MSig := ⟨49, (.cons (.ref 0 0) .nil), (.cells 78 (.cons (.flat tOctet_Reader) .nil) .nil), [], .nil, (.cells 78 (.cons (.flat tOctet_Reader) .nil) .nil), none, fun z => octet_Reader_spoil_T z.2.1.1⟩

theorem octet_Reader_spoil_ok : octet_Reader_spoil_g.ok Tryd.prog := by
  refine MSig.lift mix tabOk nms _ Tryd.func49 (c := (bodyOf Tryd.f49)) (by kernel_rfl) (o := orT [] [] noFz) (orT_sound trivial) (allLp_of [] (by kernel_rfl) trivial rfl) (fun _ => rfl) ?_
  intro z; kernel_rfl

def octet_Reader_take_T (x0 : Int) (x1 : Octet_Reader) : Tree (Str × ((Octet_Reader × Unit) × Unit)) :=
  .ite ((false || (!x1.2)) || (decide ((x1.1.length : Int) < x0))) (
    .bnd (octet_Reader_spoil_T x1) fun y1 =>
    .ret (([] : Str), ((y1.2.1.1, ()), ()))) (
    ask (inbe x0 x1.1.length) <|
    ask (inbe x0 x1.1.length) <|
    .ret ((subS x1.1 0 x0.toNat), ((((subS x1.1 x0.toNat x1.1.length), x1.2), ()), ())))

def octet_Reader_take_g : MSig := ⟨37, (.cons (.ref 0 0) (.cons (.val false (.int .i64)) .nil)), (.cells 78 (.cons (.flat tOctet_Reader) .nil) .nil), [], (.val false .str), (.cells 78 (.cons (.flat tOctet_Reader) .nil) .nil), none, fun z => octet_Reader_take_T z.1.2.1 z.2.1.1⟩

theorem octet_Reader_take_ok : octet_Reader_take_g.ok Tryd.prog := by
  refine MSig.lift mix tabOk nms _ Tryd.func37 (c := (bodyOf Tryd.f37)) (by kernel_rfl) (o := orM [] [octet_Reader_spoil_g] [] noFz) (orM_sound trivial ⟨octet_Reader_spoil_ok, trivial⟩) (allLp_ofM [] (by kernel_rfl) trivial rfl) (fun _ => rfl) ?_
  intro z; kernel_rfl

def octet_Reader_number_L3_step (t : Int) (r : Octet_Reader) (rows : List Int) (n : Int) (t2 : Int) : Tree ((Int × Int) ⊕ Int) :=
  .ite (decide (t2 < t)) (
    ask (inb t2 rows.length) <|
    ask (decide ((0 : Int) ≤ 8)) <|
    .ret (.inl ((stdArith .or .i64 (stdShift .shl .i64 n 8) (w64 ((rows.getD t2.toNat (0 : Int))))), (w64 (t2 + 1))))) (
    .ret (.inr n))

def octet_Reader_number_L3 : Lp := ⟨3, [], [], (ca (ca4 (.cons (.val false (.int .i64)) (ca (ca4 (.cons (.own 1) (.cons (.val false (.int .i64)) (.cons (.val false (.int .i64)) (ca2 (ca8 .nil)))))))))), (.cells 78 (.cons (.flat tOctet_Reader) .nil) (.rows 5 (.int .u8) .nil)), 1, .one 1 [] (ca (ca4 (.cons (.val false (.int .i64)) (ca2 (ca16 .nil))))) (.cells 78 (.cons (.flat tOctet_Reader) .nil) .nil), fun z => .bnd (.loop (fun v => octet_Reader_number_L3_step z.1.2.2.2.2.2.2.2.2.2.2.2.2.1 z.2.1.1 z.2.2.1 v.1 v.2) (z.1.2.2.2.2.2.1, z.1.2.2.2.2.2.2.2.2.2.2.2.2.2.1)) fun r => .ret ((cu (cu4 (r, (cu2 (cu16 ()))))), ((z.2.1.1, ()), ()))⟩

theorem octet_Reader_number_L3_ok : octet_Reader_number_L3.ok Tryd.prog (nthC (loopsOf (bodyOf Tryd.f39)) 0) := by
  refine Lp.lift (π := (Int × Octet_Reader × (List Int))) (V := (Int × Int)) (ρ := Int) mix tabOk octet_Reader_number_L3 (o := orM [] [octet_Reader_take_g] [] noFz) (orM_sound trivial ⟨octet_Reader_take_ok, trivial⟩) (allLp_ofM [] (by kernel_rfl) trivial rfl) (fun x v => ((cu (cu4 (v.1, (cu (cu4 ((), (x.1, (v.2, (cu2 (cu8 ())))))))))), ((x.2.1, ()), (x.2.2, ())))) (fun x r => ((cu (cu4 (r, (cu2 (cu16 ()))))), ((x.2.1, ()), ()))) (fun x v => octet_Reader_number_L3_step x.1 x.2.1 x.2.2 v.1 v.2) (fun x r => .ret ((cu (cu4 (r, (cu2 (cu16 ()))))), ((x.2.1, ()), ()))) (fun z => (z.1.2.2.2.2.2.2.2.2.2.2.2.2.1, z.2.1.1, z.2.2.1)) (fun z => (z.1.2.2.2.2.2.1, z.1.2.2.2.2.2.2.2.2.2.2.2.2.2.1)) (fun _ => rfl) (fun _ => rfl) (fun _ _ _ h => h) ?_
  intro x v; kernel_rfl

def octet_Reader_number_T (x0 : Int) (x1 : Octet_Reader) : Tree (Int × ((Octet_Reader × Unit) × Unit)) :=
  .bnd (octet_Reader_take_T x0 x1) fun y1 =>
  .bnd (.loop (fun v => octet_Reader_number_L3_step ((strI y1.1).length : Int) y1.2.1.1 (strI y1.1) v.1 v.2) (0, 0)) fun r2 =>
  .ret (r2, ((y1.2.1.1, ()), ()))

def octet_Reader_number_g : MSig := ⟨39, (.cons (.ref 0 0) (.cons (.val false (.int .i64)) .nil)), (.cells 78 (.cons (.flat tOctet_Reader) .nil) .nil), [], (.val false (.int .i64)), (.cells 78 (.cons (.flat tOctet_Reader) .nil) .nil), none, fun z => octet_Reader_number_T z.1.2.1 z.2.1.1⟩

theorem octet_Reader_number_ok : octet_Reader_number_g.ok Tryd.prog := by
  refine MSig.lift mix tabOk nms _ Tryd.func39 (c := (bodyOf Tryd.f39)) (by kernel_rfl) (o := orM [] [octet_Reader_take_g] [octet_Reader_number_L3] noFz) (orM_sound trivial ⟨octet_Reader_take_ok, trivial⟩) (allLp_ofM [nthC (loopsOf (bodyOf Tryd.f39)) 0] (by kernel_rfl) ⟨octet_Reader_number_L3_ok, trivial⟩ (by kernel_rfl)) (fun _ => rfl) ?_
  intro z; kernel_rfl

def octet_Reader_Count_T (x0 : Int) (x1 : Octet_Reader) : Tree (Int × ((Octet_Reader × Unit) × Unit)) :=
  .bnd (octet_Reader_number_T 4 x1) fun y1 =>
  .ite (decide (x0 < y1.1)) (
    .bnd (octet_Reader_spoil_T y1.2.1.1) fun y2 =>
    .ret (0, ((y2.2.1.1, ()), ()))) (
    .ret (y1.1, ((y1.2.1.1, ()), ())))

def octet_Reader_Count_g : MSig := ⟨38, (.cons (.ref 0 0) (.cons (.val false (.int .i64)) .nil)), (.cells 78 (.cons (.flat tOctet_Reader) .nil) .nil), [], (.val false (.int .i64)), (.cells 78 (.cons (.flat tOctet_Reader) .nil) .nil), none, fun z => octet_Reader_Count_T z.1.2.1 z.2.1.1⟩

theorem octet_Reader_Count_ok : octet_Reader_Count_g.ok Tryd.prog := by
  refine MSig.lift mix tabOk nms _ Tryd.func38 (c := (bodyOf Tryd.f38)) (by kernel_rfl) (o := orM [] [octet_Reader_number_g, octet_Reader_spoil_g] [] noFz) (orM_sound trivial ⟨octet_Reader_number_ok, ⟨octet_Reader_spoil_ok, trivial⟩⟩) (allLp_ofM [] (by kernel_rfl) trivial rfl) (fun _ => rfl) ?_
  intro z; kernel_rfl

def octet_Reader_Text_T (x0 : Octet_Reader) : Tree (Str × ((Octet_Reader × Unit) × Unit)) :=
  .bnd (octet_Reader_Count_T 1048576 x0) fun y1 =>
  .bnd (octet_Reader_take_T y1.1 y1.2.1.1) fun y2 =>
  .ret (y2.1, ((y2.2.1.1, ()), ()))

def octet_Reader_Text_g : MSig := ⟨20, (.cons (.ref 0 0) .nil), (.cells 78 (.cons (.flat tOctet_Reader) .nil) .nil), [], (.val false .str), (.cells 78 (.cons (.flat tOctet_Reader) .nil) .nil), none, fun z => octet_Reader_Text_T z.2.1.1⟩

theorem octet_Reader_Text_ok : octet_Reader_Text_g.ok Tryd.prog := by
  refine MSig.lift mix tabOk nms _ Tryd.func20 (c := (bodyOf Tryd.f20)) (by kernel_rfl) (o := orM [] [octet_Reader_Count_g, octet_Reader_take_g] [] noFz) (orM_sound trivial ⟨octet_Reader_Count_ok, ⟨octet_Reader_take_ok, trivial⟩⟩) (allLp_ofM [] (by kernel_rfl) trivial rfl) (fun _ => rfl) ?_
  intro z; kernel_rfl

def octet_Reader_Int_T (x0 : Octet_Reader) : Tree (Int × ((Octet_Reader × Unit) × Unit)) :=
  .bnd (octet_Reader_number_T 8 x0) fun y1 =>
  .ret (y1.1, ((y1.2.1.1, ()), ()))

def octet_Reader_Int_g : MSig := ⟨21, (.cons (.ref 0 0) .nil), (.cells 78 (.cons (.flat tOctet_Reader) .nil) .nil), [], (.val false (.int .i64)), (.cells 78 (.cons (.flat tOctet_Reader) .nil) .nil), none, fun z => octet_Reader_Int_T z.2.1.1⟩

theorem octet_Reader_Int_ok : octet_Reader_Int_g.ok Tryd.prog := by
  refine MSig.lift mix tabOk nms _ Tryd.func21 (c := (bodyOf Tryd.f21)) (by kernel_rfl) (o := orM [] [octet_Reader_number_g] [] noFz) (orM_sound trivial ⟨octet_Reader_number_ok, trivial⟩) (allLp_ofM [] (by kernel_rfl) trivial rfl) (fun _ => rfl) ?_
  intro z; kernel_rfl

def octet_Reader_Bad_T (x0 : Octet_Reader) : Tree Bool :=
  .ret (false || (!x0.2))

def octet_Reader_Bad_g : Sig := ⟨40, (.cons (.ptr tOctet_Reader) .nil), .vals (.val false .bool), fun z => octet_Reader_Bad_T z.1, false⟩

theorem octet_Reader_Bad_ok : octet_Reader_Bad_g.ok Tryd.prog := by
  refine Sig.lift mix tabOk nms _ Tryd.func40 (c := (bodyOf Tryd.f40)) (by kernel_rfl) (o := orT [] [] noFz) (orT_sound trivial) (allLp_of [] (by kernel_rfl) trivial rfl) ?_
  intro z; kernel_rfl

def octet_Reader_Done_T (x0 : Octet_Reader) : Tree Bool :=
  .bnd (octet_Reader_Bad_T x0) fun y1 =>
  .ret ((!y1) && (x0.1 == ([] : Str)))

def octet_Reader_Done_g : Sig := ⟨22, (.cons (.ptr tOctet_Reader) .nil), .vals (.val false .bool), fun z => octet_Reader_Done_T z.1, false⟩

theorem octet_Reader_Done_ok : octet_Reader_Done_g.ok Tryd.prog := by
  refine Sig.lift mix tabOk nms _ Tryd.func22 (c := (bodyOf Tryd.f22)) (by kernel_rfl) (o := orT [octet_Reader_Bad_g] [] noFz) (orT_sound ⟨octet_Reader_Bad_ok, trivial⟩) (allLp_of [] (by kernel_rfl) trivial rfl) ?_
  intro z; kernel_rfl

def token_Read_T (x0 : Str) : Tree (Str × Str × Int × Bool × Unit) :=
  .ite (decide ((x0.length : Int) < 32)) (
    .ret (([] : Str), ([] : Str), 0, false, ())) (
    ask (inbe (w64 ((x0.length : Int) - 32)) x0.length) <|
    .bnd (octet_New_T (subS x0 0 (w64 ((x0.length : Int) - 32)).toNat)) fun y1 =>
    .bnd (octet_Reader_Text_T y1.2.1.1) fun y2 =>
    .bnd (octet_Reader_Text_T y2.2.1.1) fun y3 =>
    .bnd (octet_Reader_Int_T y3.2.1.1) fun y4 =>
    .bnd (octet_Reader_Done_T y4.2.1.1) fun y5 =>
    .ite (!y5) (
      .ret (([] : Str), ([] : Str), 0, false, ())) (
      .ret (y2.1, y3.1, y4.1, true, ())))

def token_Read_g : Sig := ⟨10, (.cons (.val false .str) .nil), .vals (.cons (.val false .str) (.cons (.val false .str) (.cons (.val false (.int .i64)) (.cons (.val false .bool) .nil)))), fun z => token_Read_T z.1, (([] : Str), ([] : Str), (0 : Int), false, ())⟩

theorem token_Read_ok : token_Read_g.ok Tryd.prog := by
  refine Sig.lift mix tabOk nms _ Tryd.func10 (c := (bodyOf Tryd.f10)) (by kernel_rfl) (o := orM [octet_Reader_Done_g] [octet_New_g, octet_Reader_Text_g, octet_Reader_Int_g] [] noFz) (orM_sound ⟨octet_Reader_Done_ok, trivial⟩ ⟨octet_New_ok, ⟨octet_Reader_Text_ok, ⟨octet_Reader_Int_ok, trivial⟩⟩⟩) (allLp_ofM [] (by kernel_rfl) trivial rfl) ?_
  intro z; kernel_rfl

def name_isLetter_T (x0 : Int) : Tree Bool :=
  .ret ((((decide ((97 : Int) ≤ x0)) && (decide (x0 ≤ 122))) || ((decide ((48 : Int) ≤ x0)) && (decide (x0 ≤ 57)))) || (decide (x0 = 45)))

def name_isLetter_g : Sig := ⟨36, (.cons (.val false (.int .i32)) .nil), .vals (.val false .bool), fun z => name_isLetter_T z.1, false⟩

theorem name_isLetter_ok : name_isLetter_g.ok Tryd.prog := by
  refine Sig.lift mix tabOk nms _ Tryd.func36 (c := (bodyOf Tryd.f36)) (by kernel_rfl) (o := orT [] [] noFz) (orT_sound trivial) (allLp_of [] (by kernel_rfl) trivial rfl) ?_
  intro z; kernel_rfl

def name_Is_L4_step (str : Str) (pos : Nat) : Tree (Nat ⊕ (Bool ⊕ Unit)) :=
  .ite (decide ((pos : Int) < (str.length : Int))) (
    ask (decide ((pos : Int) < (str.length : Int))) <|
    .bnd (name_isLetter_T (std.rune str pos)) fun y1 =>
    .ite (!y1) (
      .ret (.inr (.inl false))) (
      .ret (.inl (std.npos str pos)))) (
    .ret (.inr (.inr ())))

def name_Is_L4 : Lp := ⟨4, [], [], (ca (ca4 (ca8 (.cons (.ref 0 0) (ca2 (ca4 .nil)))))), (.siter .nil), 0, .more 0 [] (ca2 (.cons (.val false .bool) (ca (ca16 .nil)))) .nil (.one 1 [] (ca4 (ca16 .nil)) .nil), fun z => .bnd (.loop (fun v => name_Is_L4_step z.2.1.1 v) z.2.1.2) fun r => .sum r (fun a0 => .ret (.inl ((cu2 (a0, (cu (cu16 ())))), ()))) (fun b0 => .ret (.inr ((cu4 (cu16 ())), ())))⟩

theorem name_Is_L4_ok : name_Is_L4.ok Tryd.prog (nthC (loopsOf (bodyOf Tryd.f16)) 0) := by
  refine Lp.lift (π := Str) (V := Nat) (ρ := (Bool ⊕ Unit)) mix tabOk name_Is_L4 (o := orT [name_isLetter_g] [] noFz) (orT_sound ⟨name_isLetter_ok, trivial⟩) (allLp_of [] (by kernel_rfl) trivial rfl) (fun x v => ((cu (cu4 (cu8 ((), (cu2 (cu4 ())))))), ((x, v), ()))) (fun x r => match r with | .inl a0 => .inl ((cu2 (a0, (cu (cu16 ())))), ()) | .inr b0 => (.inr ((cu4 (cu16 ())), ()))) (fun x v => name_Is_L4_step x v) (fun x r => .sum r (fun a0 => .ret (.inl ((cu2 (a0, (cu (cu16 ())))), ()))) (fun b0 => .ret (.inr ((cu4 (cu16 ())), ())))) (fun z => z.2.1.1) (fun z => z.2.1.2) (fun _ => rfl) (fun _ => rfl) (fun x r Q h => match r, h with | .inl _, h => h | .inr b0, h => (h)) ?_
  intro x v; kernel_rfl

def name_Is_T (x0 : Str) : Tree Bool :=
  .ite ((x0 == ([] : Str)) || (decide ((16 : Int) < (x0.length : Int)))) (
    .ret false) (
    .bnd (.loop (fun v => name_Is_L4_step x0 v) 0) fun r1 =>
    .sum r1 (fun r2 =>
      .ret r2) (fun r3 =>
      .ret true))

def name_Is_g : Sig := ⟨16, (.cons (.val false .str) .nil), .vals (.val false .bool), fun z => name_Is_T z.1, false⟩

theorem name_Is_ok : name_Is_g.ok Tryd.prog := by
  refine Sig.lift mix tabOk nms _ Tryd.func16 (c := (bodyOf Tryd.f16)) (by kernel_rfl) (o := orT [name_isLetter_g] [name_Is_L4] noFz) (orT_sound ⟨name_isLetter_ok, trivial⟩) (allLp_of [nthC (loopsOf (bodyOf Tryd.f16)) 0] (by kernel_rfl) ⟨name_Is_L4_ok, trivial⟩ (by kernel_rfl)) ?_
  intro z; kernel_rfl

def strings_Join_T (x0 : List Str) (x1 : Str) : Tree Str :=
  joinT x0 x1

def strings_Join_g : Sig := ⟨54, (.cons (.val false (.list .str)) (.cons (.val false .str) .nil)), .vals (.val false .str), fun z => strings_Join_T z.1 z.2.1, ([] : Str)⟩

theorem strings_Join_ok : strings_Join_g.ok Tryd.prog :=
  strings_Join_sig (enters_of Tryd.func54 (by kernel_rfl) rfl) (fun a c sep w => Tryd.strings_Join_none a c sep w) (fun bk o c xs sep w h1 h2 h3 h4 h5 => Tryd.strings_Join bk o c xs sep w h1 h2 h3 h4 h5)

def name_Path_T (x0 : List Str) : Tree Str :=
  .bnd (strings_Join_T x0 ([47] : Str)) fun y1 =>
  .ret y1

def name_Path_g : Sig := ⟨46, (.cons (.val false (.list .str)) .nil), .vals (.val false .str), fun z => name_Path_T z.1, ([] : Str)⟩

theorem name_Path_ok : name_Path_g.ok Tryd.prog := by
  refine Sig.lift mix tabOk nms _ Tryd.func46 (c := (bodyOf Tryd.f46)) (by kernel_rfl) (o := orT [strings_Join_g] [] noFz) (orT_sound ⟨strings_Join_ok, trivial⟩) (allLp_of [] (by kernel_rfl) trivial rfl) ?_
  intro z; kernel_rfl

def tenant_Key_T (x0 : Str) (x1 : Str) : Tree Str :=
  .bnd (name_Path_T [([116, 101, 110, 97, 110, 116] : Str), x0, x1]) fun y1 =>
  .ret y1

def tenant_Key_g : Sig := ⟨31, (.cons (.val false .str) (.cons (.val false .str) .nil)), .vals (.val false .str), fun z => tenant_Key_T z.1 z.2.1, ([] : Str)⟩

theorem tenant_Key_ok : tenant_Key_g.ok Tryd.prog := by
  refine Sig.lift mix tabOk nms _ Tryd.func31 (c := (bodyOf Tryd.f31)) (by kernel_rfl) (o := orT [name_Path_g] [] noFz) (orT_sound ⟨name_Path_ok, trivial⟩) (allLp_of [] (by kernel_rfl) trivial rfl) ?_
  intro z; kernel_rfl

def registry_Get_1_T (x0 : Entry) (x1 : Str) : Tree Bool :=
  .ret (x0.1 == x1)

def registry_Get_1_g : Sig := ⟨45, (.cons (.val true tEntry) (.cons (.ptr .str) .nil)), .vals (.val false .bool), fun z => registry_Get_1_T z.1 z.2.1, false⟩

theorem registry_Get_1_ok : registry_Get_1_g.ok Tryd.prog := by
  refine Sig.lift mix tabOk nms _ Tryd.func45 (c := (bodyOf Tryd.f45)) (by kernel_rfl) (o := orT [] [] noFz) (orT_sound trivial) (allLp_of [] (by kernel_rfl) trivial rfl) ?_
  intro z; kernel_rfl

def slices_IndexFunc_Entry_registry_Get_1_L2_step (s_ : List Entry) (f : Str) (t : Int) (t2 : Int) : Tree (Int ⊕ (Int ⊕ Unit)) :=
  .ite (decide (t2 < t)) (
    ask (inb t2 s_.length) <|
    .bnd (registry_Get_1_T (s_.getD t2.toNat (dfl tEntry : Entry)) f) fun y1 =>
    .ite y1 (
      .ret (.inr (.inl t2))) (
      .ret (.inl (w64 (t2 + 1))))) (
    .ret (.inr (.inr ())))

def slices_IndexFunc_Entry_registry_Get_1_L2 : Lp := ⟨2, [], [], (.cons (.val false (.list tEntry)) (.cons (.fn 45 .nil (.cons (.ptr .str) .nil)) (ca (ca4 (.cons (.val false (.int .i64)) (.cons (.val false (.int .i64)) (ca2 (ca8 .nil)))))))), .nil, 0, .more 0 [] (ca4 (.cons (.val false (.int .i64)) (ca2 (ca4 (ca8 .nil))))) .nil (.one 1 [] (ca (ca2 (ca16 .nil))) .nil), fun z => .bnd (.loop (fun v => slices_IndexFunc_Entry_registry_Get_1_L2_step z.1.1 z.1.2.1.2.1 z.1.2.2.2.2.2.2.2.1 v) z.1.2.2.2.2.2.2.2.2.1) fun r => .sum r (fun a0 => .ret (.inl ((cu4 (a0, (cu2 (cu4 (cu8 ()))))), ()))) (fun b0 => .ret (.inr ((cu (cu2 (cu16 ()))), ())))⟩

theorem slices_IndexFunc_Entry_registry_Get_1_L2_ok : slices_IndexFunc_Entry_registry_Get_1_L2.ok Tryd.prog (nthC (loopsOf (bodyOf Tryd.f44)) 0) := by
  refine Lp.lift (π := ((List Entry) × Str × Int)) (V := Int) (ρ := (Int ⊕ Unit)) mix tabOk slices_IndexFunc_Entry_registry_Get_1_L2 (o := orT [registry_Get_1_g] [] noFz) (orT_sound ⟨registry_Get_1_ok, trivial⟩) (allLp_of [] (by kernel_rfl) trivial rfl) (fun x v => ((x.1, (((), (x.2.1, ())), (cu (cu4 (x.2.2, (v, (cu2 (cu8 ())))))))), ())) (fun x r => match r with | .inl a0 => .inl ((cu4 (a0, (cu2 (cu4 (cu8 ()))))), ()) | .inr b0 => (.inr ((cu (cu2 (cu16 ()))), ()))) (fun x v => slices_IndexFunc_Entry_registry_Get_1_L2_step x.1 x.2.1 x.2.2 v) (fun x r => .sum r (fun a0 => .ret (.inl ((cu4 (a0, (cu2 (cu4 (cu8 ()))))), ()))) (fun b0 => .ret (.inr ((cu (cu2 (cu16 ()))), ())))) (fun z => (z.1.1, z.1.2.1.2.1, z.1.2.2.2.2.2.2.2.1)) (fun z => z.1.2.2.2.2.2.2.2.2.1) (fun _ => rfl) (fun _ => rfl) (fun x r Q h => match r, h with | .inl _, h => h | .inr b0, h => (h)) ?_
  intro x v; kernel_rfl

def slices_IndexFunc_Entry_registry_Get_1_T (x0 : List Entry) (x1 : Str) : Tree Int :=
  .bnd (.loop (fun v => slices_IndexFunc_Entry_registry_Get_1_L2_step x0 x1 (x0.length : Int) v) 0) fun r1 =>
  .sum r1 (fun r2 =>
    .ret r2) (fun r3 =>
    .ret (-1))

def slices_IndexFunc_Entry_registry_Get_1_g : Sig := ⟨44, (.cons (.val false (.list tEntry)) (.cons (.fn 45 .nil (.cons (.ptr .str) .nil)) .nil)), .vals (.val false (.int .i64)), fun z => slices_IndexFunc_Entry_registry_Get_1_T z.1 z.2.1.2.1, (0 : Int)⟩

theorem slices_IndexFunc_Entry_registry_Get_1_ok : slices_IndexFunc_Entry_registry_Get_1_g.ok Tryd.prog := by
  refine Sig.lift mix tabOk nms _ Tryd.func44 (c := (bodyOf Tryd.f44)) (by kernel_rfl) (o := orT [registry_Get_1_g] [slices_IndexFunc_Entry_registry_Get_1_L2] noFz) (orT_sound ⟨registry_Get_1_ok, trivial⟩) (allLp_of [nthC (loopsOf (bodyOf Tryd.f44)) 0] (by kernel_rfl) ⟨slices_IndexFunc_Entry_registry_Get_1_L2_ok, trivial⟩ (by kernel_rfl)) ?_
  intro z; kernel_rfl

def registry_Get_T (x0 : List Entry) (x1 : Str) : Tree Reg :=
  .bnd (slices_IndexFunc_Entry_registry_Get_1_T x0 x1) fun y1 =>
  .ite (decide (y1 < 0)) (
    .ret (0, ([], []))) (
    ask (inb y1 x0.length) <|
    .ret (x0.getD y1.toNat (dfl tEntry : Entry)).2)

def registry_Get_g : Sig := ⟨30, (.cons (.val false (.list tEntry)) (.cons (.val false .str) .nil)), .vals (.val true tReg), fun z => registry_Get_T z.1 z.2.1, (dfl tReg : Reg)⟩

theorem registry_Get_ok : registry_Get_g.ok Tryd.prog := by
  refine Sig.lift mix tabOk nms _ Tryd.func30 (c := (bodyOf Tryd.f30)) (by kernel_rfl) (o := orT [slices_IndexFunc_Entry_registry_Get_1_g] [] noFz) (orT_sound ⟨slices_IndexFunc_Entry_registry_Get_1_ok, trivial⟩) (allLp_of [] (by kernel_rfl) trivial rfl) ?_
  intro z; kernel_rfl

def tenant_Of_1_T (x0 : Str) (x1 : List Entry) (x2 : Str) : Tree Str :=
  .bnd (tenant_Key_T x2 x0) fun y1 =>
  .bnd (registry_Get_T x1 y1) fun y2 =>
  .ret y2.2.2

def tenant_Of_1_g : Sig := ⟨29, (.cons (.val false .str) (.cons (.ptr (.list tEntry)) (.cons (.ptr .str) .nil))), .vals (.val false .str), fun z => tenant_Of_1_T z.1 z.2.1 z.2.2.1, ([] : Str)⟩

theorem tenant_Of_1_ok : tenant_Of_1_g.ok Tryd.prog := by
  refine Sig.lift mix tabOk nms _ Tryd.func29 (c := (bodyOf Tryd.f29)) (by kernel_rfl) (o := orT [tenant_Key_g, registry_Get_g] [] noFz) (orT_sound ⟨tenant_Key_ok, ⟨registry_Get_ok, trivial⟩⟩) (allLp_of [] (by kernel_rfl) trivial rfl) ?_
  intro z; kernel_rfl

def tenant_isSecret_T (x0 : Str) : Tree Bool :=
  .ret ((!(x0 == ([] : Str))) && (decide ((x0.length : Int) ≤ 64)))

def tenant_isSecret_g : Sig := ⟨35, (.cons (.val false .str) .nil), .vals (.val false .bool), fun z => tenant_isSecret_T z.1, false⟩

theorem tenant_isSecret_ok : tenant_isSecret_g.ok Tryd.prog := by
  refine Sig.lift mix tabOk nms _ Tryd.func35 (c := (bodyOf Tryd.f35)) (by kernel_rfl) (o := orT [] [] noFz) (orT_sound trivial) (allLp_of [] (by kernel_rfl) trivial rfl) ?_
  intro z; kernel_rfl

def tenant_bounds_T (x0 : Str) : Tree (Tenant_bound × Bool × Unit) :=
  .ite (x0 == ([98, 121, 116, 101, 115] : Str)) (
    .ret ((1099511627776, 1048576), true, ())) (
    .ite (x0 == ([114, 97, 116, 101] : Str)) (
      .ret ((1048576, 8), true, ())) (
      .ite (x0 == ([98, 117, 114, 115, 116] : Str)) (
        .ret ((1048576, 16), true, ())) (
        .ite (x0 == ([113, 117, 101, 117, 101] : Str)) (
          .ret ((64, 16), true, ())) (
          .ret ((0, 0), false, ())))))

def tenant_bounds_g : Sig := ⟨33, (.cons (.val false .str) .nil), .vals (.cons (.val true tTenant_bound) (.cons (.val false .bool) .nil)), fun z => tenant_bounds_T z.1, ((dfl tTenant_bound : Tenant_bound), false, ())⟩

theorem tenant_bounds_ok : tenant_bounds_g.ok Tryd.prog := by
  refine Sig.lift mix tabOk nms _ Tryd.func33 (c := (bodyOf Tryd.f33)) (by kernel_rfl) (o := orT [] [] noFz) (orT_sound trivial) (allLp_of [] (by kernel_rfl) trivial rfl) ?_
  intro z; kernel_rfl

def name_Num_T (x0 : Str) : Tree (Int × Bool × Unit) :=
  numT x0

def name_Num_g : Sig := ⟨34, (.cons (.val false .str) .nil), .vals (.cons (.val false (.int .i64)) (.cons (.val false .bool) .nil)), fun z => name_Num_T z.1, ((0 : Int), false, ())⟩

theorem name_Num_ok : name_Num_g.ok Tryd.prog :=
  name_Num_sig (enters_of Tryd.func34 (by kernel_rfl) rfl) name_Num_walk

def tenant_Of_2_T (x0 : Str) (x1 : List Entry) (x2 : Str) : Tree Int :=
  .bnd (tenant_bounds_T x0) fun y1 =>
  .bnd (tenant_Of_1_T x0 x1 x2) fun y2 =>
  .bnd (name_Num_T y2) fun y3 =>
  .ite (((!y3.2.1) || (decide (y3.1 < 0))) || (decide (y1.1.1 < y3.1))) (
    .ret y1.1.2) (
    .ret y3.1)

def tenant_Of_2_g : Sig := ⟨32, (.cons (.val false .str) (.cons (.cp (.cons (.fn 29 .nil (.cons (.ptr (.list tEntry)) (.cons (.ptr .str) .nil))) .nil)) .nil)), .vals (.val false (.int .i64)), fun z => tenant_Of_2_T z.1 z.2.1.1.2.1 z.2.1.1.2.2.1, (0 : Int)⟩

theorem tenant_Of_2_ok : tenant_Of_2_g.ok Tryd.prog := by
  refine Sig.lift mix tabOk nms _ Tryd.func32 (c := (bodyOf Tryd.f32)) (by kernel_rfl) (o := orT [tenant_bounds_g, tenant_Of_1_g, name_Num_g] [] noFz) (orT_sound ⟨tenant_bounds_ok, ⟨tenant_Of_1_ok, ⟨name_Num_ok, trivial⟩⟩⟩) (allLp_of [] (by kernel_rfl) trivial rfl) ?_
  intro z; kernel_rfl

def tenant_Of_fz : Nat → List Pre
  | 5 => [.two]
  | _ => []

def tenant_Of_T (x0 : List Entry) (x1 : Str) : Tree (Tenant × Bool × Unit) :=
  .bnd (name_Is_T x1) fun y1 =>
  .grd (!(!y1)) (tenant_Of_1_T ([115, 101, 99, 114, 101, 116] : Str) x0 x1) ([] : Str) fun y2 =>
  .grd (!(!y1)) (tenant_isSecret_T y2) false fun y3 =>
  .ite ((!y1) || (!y3)) (
    .ret (([], ([], (0, (0, (0, 0))))), false, ())) (
    .bnd (tenant_Of_1_T ([115, 101, 99, 114, 101, 116] : Str) x0 x1) fun y4 =>
    .bnd (tenant_Of_2_T ([98, 121, 116, 101, 115] : Str) x0 x1) fun y5 =>
    .bnd (tenant_Of_2_T ([114, 97, 116, 101] : Str) x0 x1) fun y6 =>
    .bnd (tenant_Of_2_T ([98, 117, 114, 115, 116] : Str) x0 x1) fun y7 =>
    .bnd (tenant_Of_2_T ([113, 117, 101, 117, 101] : Str) x0 x1) fun y8 =>
    .ret ((x1, (y4, (y5, (y6, (y7, y8))))), true, ()))

def tenant_Of_g : Sig := ⟨15, (.cons (.val false (.list tEntry)) (.cons (.val false .str) .nil)), .vals (.cons (.val true tTenant) (.cons (.val false .bool) .nil)), fun z => tenant_Of_T z.1 z.2.1, ((dfl tTenant : Tenant), false, ())⟩

theorem tenant_Of_ok : tenant_Of_g.ok Tryd.prog := by
  refine Sig.lift mix tabOk nms _ Tryd.func15 (c := (bodyOf Tryd.f15)) (by kernel_rfl) (o := orT [name_Is_g, tenant_Of_1_g, tenant_isSecret_g, tenant_Of_2_g] [] tenant_Of_fz) (orT_sound ⟨name_Is_ok, ⟨tenant_Of_1_ok, ⟨tenant_isSecret_ok, ⟨tenant_Of_2_ok, trivial⟩⟩⟩⟩) (allLp_of [] (by kernel_rfl) trivial rfl) ?_
  intro z; kernel_rfl

def strings_Builder_copyCheck_T (x0 : List Int) : Tree (Unit × ((Unit × (Unit × Unit)) × ((List Int) × Unit))) :=
  .ret ((), (((), ((), ())), (x0, ())))

def strings_Builder_copyCheck_g : MSig := ⟨41, (.cons (.ref 0 0) .nil), (.cells 40 (.cons (.selfp 0) (.cons (.own 1) .nil)) (.rows 5 (.int .u8) .nil)), [], .nil, (.cells 40 (.cons (.selfp 0) (.cons (.own 1) .nil)) (.rows 5 (.int .u8) .nil)), none, fun z => strings_Builder_copyCheck_T z.2.2.1⟩

theorem strings_Builder_copyCheck_ok : strings_Builder_copyCheck_g.ok Tryd.prog := copyCheck_msig 40 (by kernel_rfl)

def strings_Builder_WriteByte_T (x0 : Int) (x1 : List Int) : Tree (Unit × ((Unit × (Unit × Unit)) × ((List Int) × Unit))) :=
  .bnd (strings_Builder_copyCheck_T x1) fun y1 =>
  ask (decide ((y1.2.2.1 ++ [x0]).length * 1 ≤ roomNat)) <|
  .ret ((), (((), ((), ())), ((y1.2.2.1 ++ [x0]), ())))

def strings_Builder_WriteByte_g : MSig := ⟨42, (.cons (.ref 0 0) (.cons (.val false (.int .u8)) .nil)), (.cells 40 (.cons (.selfp 0) (.cons (.own 1) .nil)) (.rows 5 (.int .u8) .nil)), [], .any, (.cells 40 (.cons (.selfp 0) (.cons (.own 1) .nil)) (.rows 5 (.int .u8) .nil)), some 1, fun z => strings_Builder_WriteByte_T z.1.2.1 z.2.2.1⟩

theorem strings_Builder_WriteByte_ok : strings_Builder_WriteByte_g.ok Tryd.prog := by
  refine MSig.lift mix tabOk nms _ Tryd.func42 (c := (bodyOf Tryd.f42)) (by kernel_rfl) (o := orM [] [strings_Builder_copyCheck_g] [] noFz) (orM_sound trivial ⟨strings_Builder_copyCheck_ok, trivial⟩) (allLp_ofM [] (by kernel_rfl) trivial rfl) (fun _ => rfl) ?_
  intro z; kernel_rfl

def octet_Writer_low_fz : Nat → List Pre
  | 4 => [.two]
  | _ => []

def octet_Writer_low_L2_step (n : Int) (k : Int) (rows : List Int) : Tree ((Int × (List Int)) ⊕ (List Int)) :=
  .ite (decide ((0 : Int) ≤ k)) (
    ask (decide ((0 : Int) ≤ (w64 ((8 : Int) * k)))) <|
    .bnd (strings_Builder_WriteByte_T (IntKind.wrap .u8 ((stdShift .shr .i64 n (w64 ((8 : Int) * k))))) rows) fun y1 =>
    .ret (.inl ((w64 (k - 1)), y1.2.2.1))) (
    .ret (.inr rows))

def octet_Writer_low_L2 : Lp := ⟨2, [], [], (.cons (.ref 0 0) (.cons (.val false (.int .i64)) (ca4 (.cons (.val false (.int .i64)) (ca (ca16 .nil)))))), (.cells 40 (.cons (.selfp 0) (.cons (.own 1) .nil)) (.rows 5 (.int .u8) .nil)), 2, .one 1 [] (ca8 (ca16 .nil)) (.cells 40 (.cons (.selfp 0) (.cons (.own 1) .nil)) (.rows 5 (.int .u8) .nil)), fun z => .bnd (.loop (fun v => octet_Writer_low_L2_step z.1.2.1 v.1 v.2) (z.1.2.2.2.2.2.2.1, z.2.2.1)) fun r => .ret ((cu8 (cu16 ())), (((), ((), ())), (r, ())))⟩

theorem octet_Writer_low_L2_ok : octet_Writer_low_L2.ok Tryd.prog (nthC (loopsOf (bodyOf Tryd.f25)) 0) := by
  refine Lp.lift (π := Int) (V := (Int × (List Int))) (ρ := List Int) mix tabOk octet_Writer_low_L2 (o := orM [] [strings_Builder_WriteByte_g] [] octet_Writer_low_fz) (orM_sound trivial ⟨strings_Builder_WriteByte_ok, trivial⟩) (allLp_ofM [] (by kernel_rfl) trivial rfl) (fun x v => (((), (x, (cu4 (v.1, (cu (cu16 ())))))), (((), ((), ())), (v.2, ())))) (fun x r => ((cu8 (cu16 ())), (((), ((), ())), (r, ())))) (fun x v => octet_Writer_low_L2_step x v.1 v.2) (fun x r => .ret ((cu8 (cu16 ())), (((), ((), ())), (r, ())))) (fun z => z.1.2.1) (fun z => (z.1.2.2.2.2.2.2.1, z.2.2.1)) (fun _ => rfl) (fun _ => rfl) (fun _ _ _ h => h) ?_
  intro x v; kernel_rfl

def octet_Writer_low_T (x0 : Int) (x1 : Int) (x2 : List Int) : Tree (Unit × ((Unit × (Unit × Unit)) × ((List Int) × Unit))) :=
  .ite false (
    .ret ((), (((), ((), ())), (x2, ())))) (
    .bnd (.loop (fun v => octet_Writer_low_L2_step x0 v.1 v.2) ((w64 (x1 - 1)), x2)) fun r1 =>
    .ret ((), (((), ((), ())), (r1, ()))))

def octet_Writer_low_g : MSig := ⟨25, (.cons (.ref 0 0) (.cons (.val false (.int .i64)) (.cons (.val false (.int .i64)) .nil))), (.cells 40 (.cons (.selfp 0) (.cons (.own 1) .nil)) (.rows 5 (.int .u8) .nil)), [], .nil, (.cells 40 (.cons (.selfp 0) (.cons (.own 1) .nil)) (.rows 5 (.int .u8) .nil)), some 1, fun z => octet_Writer_low_T z.1.2.1 z.1.2.2.1 z.2.2.1⟩

theorem octet_Writer_low_ok : octet_Writer_low_g.ok Tryd.prog := by
  refine MSig.lift mix tabOk nms _ Tryd.func25 (c := (bodyOf Tryd.f25)) (by kernel_rfl) (o := orM [] [strings_Builder_WriteByte_g] [octet_Writer_low_L2] octet_Writer_low_fz) (orM_sound trivial ⟨strings_Builder_WriteByte_ok, trivial⟩) (allLp_ofM [nthC (loopsOf (bodyOf Tryd.f25)) 0] (by kernel_rfl) ⟨octet_Writer_low_L2_ok, trivial⟩ (by kernel_rfl)) (fun _ => rfl) ?_
  intro z; kernel_rfl

def octet_Writer_Int_T (x0 : Int) (x1 : List Int) : Tree (Unit × ((Unit × (Unit × Unit)) × ((List Int) × Unit))) :=
  .bnd (octet_Writer_low_T x0 8 x1) fun y1 =>
  .ret ((), (((), ((), ())), (y1.2.2.1, ())))

def octet_Writer_Int_g : MSig := ⟨12, (.cons (.ref 0 0) (.cons (.val false (.int .i64)) .nil)), (.cells 40 (.cons (.selfp 0) (.cons (.own 1) .nil)) (.rows 5 (.int .u8) .nil)), [], .nil, (.cells 40 (.cons (.selfp 0) (.cons (.own 1) .nil)) (.rows 5 (.int .u8) .nil)), some 1, fun z => octet_Writer_Int_T z.1.2.1 z.2.2.1⟩

theorem octet_Writer_Int_ok : octet_Writer_Int_g.ok Tryd.prog := by
  refine MSig.lift mix tabOk nms _ Tryd.func12 (c := (bodyOf Tryd.f12)) (by kernel_rfl) (o := orM [] [octet_Writer_low_g] [] noFz) (orM_sound trivial ⟨octet_Writer_low_ok, trivial⟩) (allLp_ofM [] (by kernel_rfl) trivial rfl) (fun _ => rfl) ?_
  intro z; kernel_rfl

def strings_Builder_String_T (x0 : List Int) : Tree (Str × ((Unit × (Unit × Unit)) × ((List Int) × Unit))) :=
  ask (decide (0 < x0.length)) <|
  .ret (strB x0, (((), ((), ())), (x0, ())))

def strings_Builder_String_g : MSig := ⟨26, (.cons (.ref 0 0) .nil), (.cells 40 (.cons (.selfp 0) (.cons (.own 1) .nil)) (.rows 5 (.int .u8) .nil)), [], .val false .str, (.cells 40 (.cons (.selfp 0) (.cons (.own 1) .nil)) (.fro 5 (.int .u8) .nil)), none, fun z => strings_Builder_String_T z.2.2.1⟩

theorem strings_Builder_String_ok : strings_Builder_String_g.ok Tryd.prog := builder_String_msigF 40

def octet_Writer_Bytes_T (x0 : List Int) : Tree (Str × ((Unit × (Unit × Unit)) × ((List Int) × Unit))) :=
  .ite false (
    .fail) (
    .bnd (strings_Builder_String_T x0) fun y1 =>
    .ret (y1.1, (((), ((), ())), (y1.2.2.1, ()))))

def octet_Writer_Bytes_g : MSig := ⟨13, (.cons (.ref 0 0) .nil), (.cells 40 (.cons (.selfp 0) (.cons (.own 1) .nil)) (.rows 5 (.int .u8) .nil)), [], (.val false .str), (.cells 40 (.cons (.selfp 0) (.cons (.own 1) .nil)) (.fro 5 (.int .u8) .nil)), some 1, fun z => octet_Writer_Bytes_T z.2.2.1⟩

theorem octet_Writer_Bytes_ok : octet_Writer_Bytes_g.ok Tryd.prog := by
  refine MSig.lift mix tabOk nms _ Tryd.func13 (c := (bodyOf Tryd.f13)) (by kernel_rfl) (o := orM [] [strings_Builder_String_g] [] noFz) (orM_sound trivial ⟨strings_Builder_String_ok, trivial⟩) (allLp_ofM [] (by kernel_rfl) trivial rfl) (fun _ => rfl) ?_
  intro z; kernel_rfl

def bits_RotateLeft32_T (x0 : Int) (x1 : Int) : Tree Int :=
  ask (decide ((0 : Int) ≤ (stdArith .and .u64 (IntKind.wrap .u64 (x1)) 31))) <|
  ask (decide ((0 : Int) ≤ (IntKind.wrap .u64 ((32 : Int) - (stdArith .and .u64 (IntKind.wrap .u64 (x1)) 31))))) <|
  .ret (stdArith .or .u32 (stdShift .shl .u32 x0 (stdArith .and .u64 (IntKind.wrap .u64 (x1)) 31)) (stdShift .shr .u32 x0 (IntKind.wrap .u64 ((32 : Int) - (stdArith .and .u64 (IntKind.wrap .u64 (x1)) 31)))))

def bits_RotateLeft32_g : Sig := ⟨59, (.cons (.val false (.int .u32)) (.cons (.val false (.int .i64)) .nil)), .vals (.val false (.int .u32)), fun z => bits_RotateLeft32_T z.1 z.2.1, (0 : Int)⟩

theorem bits_RotateLeft32_ok : bits_RotateLeft32_g.ok Tryd.prog := by
  refine Sig.lift mix tabOk nms _ Tryd.func59 (c := (bodyOf Tryd.f59)) (by kernel_rfl) (o := orT [] [] noFz) (orT_sound trivial) (allLp_of [] (by kernel_rfl) trivial rfl) ?_
  intro z; kernel_rfl

def sha_small_T (x0 : Int) (x1 : Int) (x2 : Int) (x3 : Int) : Tree Int :=
  .bnd (bits_RotateLeft32_T x0 (w64 ((0 : Int) - x1))) fun y1 =>
  .bnd (bits_RotateLeft32_T x0 (w64 ((0 : Int) - x2))) fun y2 =>
  ask (decide ((0 : Int) ≤ x3)) <|
  .ret (stdArith .xor .u32 (stdArith .xor .u32 y1 y2) (stdShift .shr .u32 x0 x3))

def sha_small_g : Sig := ⟨58, (.cons (.val false (.int .u32)) (.cons (.val false (.int .i64)) (.cons (.val false (.int .i64)) (.cons (.val false (.int .i64)) .nil)))), .vals (.val false (.int .u32)), fun z => sha_small_T z.1 z.2.1 z.2.2.1 z.2.2.2.1, (0 : Int)⟩

theorem sha_small_ok : sha_small_g.ok Tryd.prog := by
  refine Sig.lift mix tabOk nms _ Tryd.func58 (c := (bodyOf Tryd.f58)) (by kernel_rfl) (o := orT [bits_RotateLeft32_g] [] noFz) (orT_sound ⟨bits_RotateLeft32_ok, trivial⟩) (allLp_of [] (by kernel_rfl) trivial rfl) ?_
  intro z; kernel_rfl

def sha_spread_fz : Nat → List Pre
  | 6 => [.two]
  | 7 => [.two]
  | _ => []

def sha_spread_L3_step (b : List Int) (c : A64u32) (t : Int) (w : List Int) : Tree ((Int × (List Int)) ⊕ (List Int)) :=
  .ite (decide (t < 64)) (
    .ite (decide (t < 16)) (
      ask (inb (w64 ((4 : Int) * t)) b.length) <|
      ask (decide ((0 : Int) ≤ 24)) <|
      ask (inb (w64 ((w64 ((4 : Int) * t)) + 1)) b.length) <|
      ask (decide ((0 : Int) ≤ 16)) <|
      ask (inb (w64 ((w64 ((4 : Int) * t)) + 2)) b.length) <|
      ask (decide ((0 : Int) ≤ 8)) <|
      ask (inb (w64 ((w64 ((4 : Int) * t)) + 3)) b.length) <|
      ask (inb t 64) <|
      ask (Nat.ble (t.toNat + 1) w.length) <|
      .ret (.inl ((w64 (t + 1)), (w.set t.toNat (stdArith .or .u32 (stdArith .or .u32 (stdArith .or .u32 (stdShift .shl .u32 (IntKind.wrap .u32 ((b.getD ((w64 ((4 : Int) * t)).toNat) (0 : Int)))) 24) (stdShift .shl .u32 (IntKind.wrap .u32 ((b.getD ((w64 ((w64 ((4 : Int) * t)) + 1)).toNat) (0 : Int)))) 16)) (stdShift .shl .u32 (IntKind.wrap .u32 ((b.getD ((w64 ((w64 ((4 : Int) * t)) + 2)).toNat) (0 : Int)))) 8)) (IntKind.wrap .u32 ((b.getD ((w64 ((w64 ((4 : Int) * t)) + 3)).toNat) (0 : Int))))))))) (
      ask (inb (w64 (t - 2)) 64) <|
      ask (Nat.ble ((w64 (t - 2)).toNat + 1) w.length) <|
      .bnd (sha_small_T (w.getD ((w64 (t - 2)).toNat) (0 : Int)) 17 19 10) fun y1 =>
      ask (inb (w64 (t - 7)) 64) <|
      ask (Nat.ble ((w64 (t - 7)).toNat + 1) w.length) <|
      ask (inb (w64 (t - 15)) 64) <|
      ask (Nat.ble ((w64 (t - 15)).toNat + 1) w.length) <|
      .bnd (sha_small_T (w.getD ((w64 (t - 15)).toNat) (0 : Int)) 7 18 3) fun y2 =>
      ask (inb (w64 (t - 16)) 64) <|
      ask (Nat.ble ((w64 (t - 16)).toNat + 1) w.length) <|
      ask (inb t 64) <|
      ask (Nat.ble (t.toNat + 1) w.length) <|
      .ret (.inl ((w64 (t + 1)), (w.set t.toNat (IntKind.wrap .u32 ((IntKind.wrap .u32 ((IntKind.wrap .u32 (y1 + (w.getD ((w64 (t - 7)).toNat) (0 : Int)))) + y2)) + (w.getD ((w64 (t - 16)).toNat) (0 : Int))))))))) (
    .ret (.inr w))

def sha_spread_L3 : Lp := ⟨3, [.arr 1 (.int .u32)], [], (.cons (.val false (.list (.int .u8))) (ca (.cons (.ref 0 0) (.cons (.ref 1 0) (ca (.cons (.val false (.int .i64)) (ca32 (ca32 .nil)))))))), (.cells 92 (.cons (.flat tA64u32) .nil) (.arr 92 (.int .u32) .nil)), 0, .one 1 [] (ca2 (.cons (.ref 0 0) (.cons (.ref 1 0) (ca2 (ca32 (ca32 .nil)))))) (.cells 92 (.cons (.flat tA64u32) .nil) (.arr 92 (.int .u32) .nil)), fun z => .bnd (.loop (fun v => sha_spread_L3_step z.1.1 z.2.1.1 v.1 v.2) (z.1.2.2.2.2.2.1, z.2.2.1)) fun r => .ret ((cu2 ((), ((), (cu2 (cu32 (cu32 ())))))), ((z.2.1.1, ()), (r, ())))⟩

theorem sha_spread_L3_ok : sha_spread_L3.ok Tryd.prog (nthC (loopsOf (bodyOf Tryd.f51)) 0) := by
  refine Lp.lift (π := ((List Int) × A64u32)) (V := (Int × (List Int))) (ρ := List Int) mix tabOk sha_spread_L3 (o := orT [sha_small_g] [] sha_spread_fz) (orT_sound ⟨sha_small_ok, trivial⟩) (allLp_of [] (by kernel_rfl) trivial rfl) (fun x v => ((x.1, (cu ((), ((), (cu (v.1, (cu32 (cu32 ())))))))), ((x.2, ()), (v.2, ())))) (fun x r => ((cu2 ((), ((), (cu2 (cu32 (cu32 ())))))), ((x.2, ()), (r, ())))) (fun x v => sha_spread_L3_step x.1 x.2 v.1 v.2) (fun x r => .ret ((cu2 ((), ((), (cu2 (cu32 (cu32 ())))))), ((x.2, ()), (r, ())))) (fun z => (z.1.1, z.2.1.1)) (fun z => (z.1.2.2.2.2.2.1, z.2.2.1)) (fun _ => rfl) (fun _ => rfl) (fun _ _ _ h => h) ?_
  intro x v; kernel_rfl

def sha_spread_T (x0 : List Int) : Tree A64u32 :=
  .bnd (.loop (fun v => sha_spread_L3_step x0 (0, (0, (0, (0, (0, (0, (0, (0, (0, (0, (0, (0, (0, (0, (0, (0, (0, (0, (0, (0, (0, (0, (0, (0, (0, (0, (0, (0, (0, (0, (0, (0, (0, (0, (0, (0, (0, (0, (0, (0, (0, (0, (0, (0, (0, (0, (0, (0, (0, (0, (0, (0, (0, (0, (0, (0, (0, (0, (0, (0, (0, (0, (0, 0))))))))))))))))))))))))))))))))))))))))))))))))))))))))))))))) v.1 v.2) (0, [0, 0, 0, 0, 0, 0, 0, 0, 0, 0, 0, 0, 0, 0, 0, 0, 0, 0, 0, 0, 0, 0, 0, 0, 0, 0, 0, 0, 0, 0, 0, 0, 0, 0, 0, 0, 0, 0, 0, 0, 0, 0, 0, 0, 0, 0, 0, 0, 0, 0, 0, 0, 0, 0, 0, 0, 0, 0, 0, 0, 0, 0, 0, 0])) fun r1 =>
  ask (Nat.ble (0 + 64) r1.length) <|
  .ret ((r1.getD 0 (0 : Int)), ((r1.getD 1 (0 : Int)), ((r1.getD 2 (0 : Int)), ((r1.getD 3 (0 : Int)), ((r1.getD 4 (0 : Int)), ((r1.getD 5 (0 : Int)), ((r1.getD 6 (0 : Int)), ((r1.getD 7 (0 : Int)), ((r1.getD 8 (0 : Int)), ((r1.getD 9 (0 : Int)), ((r1.getD 10 (0 : Int)), ((r1.getD 11 (0 : Int)), ((r1.getD 12 (0 : Int)), ((r1.getD 13 (0 : Int)), ((r1.getD 14 (0 : Int)), ((r1.getD 15 (0 : Int)), ((r1.getD 16 (0 : Int)), ((r1.getD 17 (0 : Int)), ((r1.getD 18 (0 : Int)), ((r1.getD 19 (0 : Int)), ((r1.getD 20 (0 : Int)), ((r1.getD 21 (0 : Int)), ((r1.getD 22 (0 : Int)), ((r1.getD 23 (0 : Int)), ((r1.getD 24 (0 : Int)), ((r1.getD 25 (0 : Int)), ((r1.getD 26 (0 : Int)), ((r1.getD 27 (0 : Int)), ((r1.getD 28 (0 : Int)), ((r1.getD 29 (0 : Int)), ((r1.getD 30 (0 : Int)), ((r1.getD 31 (0 : Int)), ((r1.getD 32 (0 : Int)), ((r1.getD 33 (0 : Int)), ((r1.getD 34 (0 : Int)), ((r1.getD 35 (0 : Int)), ((r1.getD 36 (0 : Int)), ((r1.getD 37 (0 : Int)), ((r1.getD 38 (0 : Int)), ((r1.getD 39 (0 : Int)), ((r1.getD 40 (0 : Int)), ((r1.getD 41 (0 : Int)), ((r1.getD 42 (0 : Int)), ((r1.getD 43 (0 : Int)), ((r1.getD 44 (0 : Int)), ((r1.getD 45 (0 : Int)), ((r1.getD 46 (0 : Int)), ((r1.getD 47 (0 : Int)), ((r1.getD 48 (0 : Int)), ((r1.getD 49 (0 : Int)), ((r1.getD 50 (0 : Int)), ((r1.getD 51 (0 : Int)), ((r1.getD 52 (0 : Int)), ((r1.getD 53 (0 : Int)), ((r1.getD 54 (0 : Int)), ((r1.getD 55 (0 : Int)), ((r1.getD 56 (0 : Int)), ((r1.getD 57 (0 : Int)), ((r1.getD 58 (0 : Int)), ((r1.getD 59 (0 : Int)), ((r1.getD 60 (0 : Int)), ((r1.getD 61 (0 : Int)), ((r1.getD 62 (0 : Int)), (r1.getD 63 (0 : Int)))))))))))))))))))))))))))))))))))))))))))))))))))))))))))))))))

def sha_spread_g : Sig := ⟨51, (.cons (.val false (.list (.int .u8))) .nil), .vals (.val true tA64u32), fun z => sha_spread_T z.1, (dfl tA64u32 : A64u32)⟩

theorem sha_spread_ok : sha_spread_g.ok Tryd.prog := by
  refine Sig.lift mix tabOk nms _ Tryd.func51 (c := (bodyOf Tryd.f51)) (by kernel_rfl) (o := orT [sha_small_g] [sha_spread_L3] sha_spread_fz) (orT_sound ⟨sha_small_ok, trivial⟩) (allLp_of [nthC (loopsOf (bodyOf Tryd.f51)) 0] (by kernel_rfl) ⟨sha_spread_L3_ok, trivial⟩ (by kernel_rfl)) ?_
  intro z; kernel_rfl

def sha_rounds_T  : Tree A64u32 :=
  .ret (1116352408, (1899447441, (3049323471, (3921009573, (961987163, (1508970993, (2453635748, (2870763221, (3624381080, (310598401, (607225278, (1426881987, (1925078388, (2162078206, (2614888103, (3248222580, (3835390401, (4022224774, (264347078, (604807628, (770255983, (1249150122, (1555081692, (1996064986, (2554220882, (2821834349, (2952996808, (3210313671, (3336571891, (3584528711, (113926993, (338241895, (666307205, (773529912, (1294757372, (1396182291, (1695183700, (1986661051, (2177026350, (2456956037, (2730485921, (2820302411, (3259730800, (3345764771, (3516065817, (3600352804, (4094571909, (275423344, (430227734, (506948616, (659060556, (883997877, (958139571, (1322822218, (1537002063, (1747873779, (1955562222, (2024104815, (2227730452, (2361852424, (2428436474, (2756734187, (3204031479, 3329325298)))))))))))))))))))))))))))))))))))))))))))))))))))))))))))))))

def sha_rounds_g : Sig := ⟨52, .nil, .vals (.val true tA64u32), fun z => sha_rounds_T, (dfl tA64u32 : A64u32)⟩

theorem sha_rounds_ok : sha_rounds_g.ok Tryd.prog := by
  refine Sig.lift mix tabOk nms _ Tryd.func52 (c := (bodyOf Tryd.f52)) (by kernel_rfl) (o := orT [] [] noFz) (orT_sound trivial) (allLp_of [] (by kernel_rfl) trivial rfl) ?_
  intro z; kernel_rfl

def sha_turns_T (x0 : Int) (x1 : Int) (x2 : Int) (x3 : Int) : Tree Int :=
  .bnd (bits_RotateLeft32_T x0 (w64 ((0 : Int) - x1))) fun y1 =>
  .bnd (bits_RotateLeft32_T x0 (w64 ((0 : Int) - x2))) fun y2 =>
  .bnd (bits_RotateLeft32_T x0 (w64 ((0 : Int) - x3))) fun y3 =>
  .ret (stdArith .xor .u32 (stdArith .xor .u32 y1 y2) y3)

def sha_turns_g : Sig := ⟨53, (.cons (.val false (.int .u32)) (.cons (.val false (.int .i64)) (.cons (.val false (.int .i64)) (.cons (.val false (.int .i64)) .nil)))), .vals (.val false (.int .u32)), fun z => sha_turns_T z.1 z.2.1 z.2.2.1 z.2.2.2.1, (0 : Int)⟩

theorem sha_turns_ok : sha_turns_g.ok Tryd.prog := by
  refine Sig.lift mix tabOk nms _ Tryd.func53 (c := (bodyOf Tryd.f53)) (by kernel_rfl) (o := orT [bits_RotateLeft32_g] [] noFz) (orT_sound ⟨bits_RotateLeft32_ok, trivial⟩) (allLp_of [] (by kernel_rfl) trivial rfl) ?_
  intro z; kernel_rfl

def sha_take_fz : Nat → List Pre
  | 13 => [.spl 99 8]
  | _ => []

def sha_take_L5_step (state : (Int × (Int × (Int × (Int × (Int × (Int × (Int × Int)))))))) (c2 : (Int × (Int × (Int × (Int × (Int × (Int × (Int × Int)))))))) (w : List Int) (k : List Int) (a : Int) (c : Int) (d : Int) (e : Int) (f : Int) (g : Int) (h : Int) (i : Int) (t : Int) : Tree ((Int × Int × Int × Int × Int × Int × Int × Int × Int) ⊕ (Int × Int × Int × Int × Int × Int × Int × Int)) :=
  .ite (decide (t < 64)) (
    .bnd (sha_turns_T f 6 11 25) fun y1 =>
    ask (inb t 64) <|
    ask (Nat.ble (t.toNat + 1) k.length) <|
    ask (inb t 64) <|
    ask (Nat.ble (t.toNat + 1) w.length) <|
    .bnd (sha_turns_T a 2 13 22) fun y2 =>
    .ret (.inl ((IntKind.wrap .u32 ((IntKind.wrap .u32 ((IntKind.wrap .u32 ((IntKind.wrap .u32 ((IntKind.wrap .u32 (i + y1)) + (stdArith .xor .u32 (stdArith .and .u32 f g) (stdArith .and .u32 (stdArith .xor .u32 4294967295 f) h)))) + (k.getD t.toNat (0 : Int)))) + (w.getD t.toNat (0 : Int)))) + (IntKind.wrap .u32 (y2 + (stdArith .xor .u32 (stdArith .xor .u32 (stdArith .and .u32 a c) (stdArith .and .u32 a d)) (stdArith .and .u32 c d)))))), a, c, d, (IntKind.wrap .u32 (e + (IntKind.wrap .u32 ((IntKind.wrap .u32 ((IntKind.wrap .u32 ((IntKind.wrap .u32 (i + y1)) + (stdArith .xor .u32 (stdArith .and .u32 f g) (stdArith .and .u32 (stdArith .xor .u32 4294967295 f) h)))) + (k.getD t.toNat (0 : Int)))) + (w.getD t.toNat (0 : Int)))))), f, g, h, (w64 (t + 1))))) (
    .ret (.inr (a, c, d, e, f, g, h, i)))

def sha_take_L5 : Lp := ⟨5, [.arr 3 (.int .u32), .arr 2 (.int .u32)], [], (ca2 (.cons (.ref 0 0) (ca (.cons (.ref 1 0) (.cons (.ref 2 0) (.cons (.ref 3 0) (.cons (.val false (.int .u32)) (.cons (.val false (.int .u32)) (.cons (.val false (.int .u32)) (.cons (.val false (.int .u32)) (.cons (.val false (.int .u32)) (.cons (.val false (.int .u32)) (.cons (.val false (.int .u32)) (.cons (.val false (.int .u32)) (ca8 (ca16 (.cons (.val false (.int .i64)) (ca (ca2 (ca4 (ca32 (ca32 .nil)))))))))))))))))))))), (.cells 84 (.cons (.flat (.pair (.int .u32) (.pair (.int .u32) (.pair (.int .u32) (.pair (.int .u32) (.pair (.int .u32) (.pair (.int .u32) (.pair (.int .u32) (.int .u32))))))))) .nil) (.cells 84 (.cons (.flat (.pair (.int .u32) (.pair (.int .u32) (.pair (.int .u32) (.pair (.int .u32) (.pair (.int .u32) (.pair (.int .u32) (.pair (.int .u32) (.int .u32))))))))) .nil) (.arr 92 (.int .u32) (.arr 92 (.int .u32) .nil)))), 0, .one 1 [] (ca2 (.cons (.ref 0 0) (ca (.cons (.ref 1 0) (ca2 (.cons (.val false (.int .u32)) (.cons (.val false (.int .u32)) (.cons (.val false (.int .u32)) (.cons (.val false (.int .u32)) (.cons (.val false (.int .u32)) (.cons (.val false (.int .u32)) (.cons (.val false (.int .u32)) (.cons (.val false (.int .u32)) (ca32 (ca32 (ca32 .nil)))))))))))))))) (.cells 84 (.cons (.flat (.pair (.int .u32) (.pair (.int .u32) (.pair (.int .u32) (.pair (.int .u32) (.pair (.int .u32) (.pair (.int .u32) (.pair (.int .u32) (.int .u32))))))))) .nil) (.cells 84 (.cons (.flat (.pair (.int .u32) (.pair (.int .u32) (.pair (.int .u32) (.pair (.int .u32) (.pair (.int .u32) (.pair (.int .u32) (.pair (.int .u32) (.int .u32))))))))) .nil) .nil)), fun z => .bnd (.loop (fun v => sha_take_L5_step z.2.1.1 z.2.2.1.1 z.2.2.2.1 z.2.2.2.2.1 v.1 v.2.1 v.2.2.1 v.2.2.2.1 v.2.2.2.2.1 v.2.2.2.2.2.1 v.2.2.2.2.2.2.1 v.2.2.2.2.2.2.2.1 v.2.2.2.2.2.2.2.2) (z.1.2.2.2.2.2.2.2.1, z.1.2.2.2.2.2.2.2.2.1, z.1.2.2.2.2.2.2.2.2.2.1, z.1.2.2.2.2.2.2.2.2.2.2.1, z.1.2.2.2.2.2.2.2.2.2.2.2.1, z.1.2.2.2.2.2.2.2.2.2.2.2.2.1, z.1.2.2.2.2.2.2.2.2.2.2.2.2.2.1, z.1.2.2.2.2.2.2.2.2.2.2.2.2.2.2.1, z.1.2.2.2.2.2.2.2.2.2.2.2.2.2.2.2.2.2.2.2.2.2.2.2.2.2.2.2.2.2.2.2.2.2.2.2.2.2.2.2.1)) fun r => .ret ((cu2 ((), (cu ((), (cu2 (r.1, (r.2.1, (r.2.2.1, (r.2.2.2.1, (r.2.2.2.2.1, (r.2.2.2.2.2.1, (r.2.2.2.2.2.2.1, (r.2.2.2.2.2.2.2, (cu32 (cu32 (cu32 ())))))))))))))))), ((z.2.1.1, ()), ((z.2.2.1.1, ()), ())))⟩

theorem sha_take_L5_ok : sha_take_L5.ok Tryd.prog (nthC (loopsOf (bodyOf Tryd.f43)) 0) := by
  refine Lp.lift (π := ((Int × (Int × (Int × (Int × (Int × (Int × (Int × Int))))))) × (Int × (Int × (Int × (Int × (Int × (Int × (Int × Int))))))) × (List Int) × (List Int))) (V := (Int × Int × Int × Int × Int × Int × Int × Int × Int)) (ρ := (Int × Int × Int × Int × Int × Int × Int × Int)) mix tabOk sha_take_L5 (o := orT [sha_spread_g, sha_rounds_g, sha_turns_g] [] sha_take_fz) (orT_sound ⟨sha_spread_ok, ⟨sha_rounds_ok, ⟨sha_turns_ok, trivial⟩⟩⟩) (allLp_of [] (by kernel_rfl) trivial rfl) (fun x v => ((cu2 ((), (cu ((), ((), ((), (v.1, (v.2.1, (v.2.2.1, (v.2.2.2.1, (v.2.2.2.2.1, (v.2.2.2.2.2.1, (v.2.2.2.2.2.2.1, (v.2.2.2.2.2.2.2.1, (cu8 (cu16 (v.2.2.2.2.2.2.2.2, (cu (cu2 (cu4 (cu32 (cu32 ())))))))))))))))))))))), ((x.1, ()), ((x.2.1, ()), (x.2.2.1, (x.2.2.2, ())))))) (fun x r => ((cu2 ((), (cu ((), (cu2 (r.1, (r.2.1, (r.2.2.1, (r.2.2.2.1, (r.2.2.2.2.1, (r.2.2.2.2.2.1, (r.2.2.2.2.2.2.1, (r.2.2.2.2.2.2.2, (cu32 (cu32 (cu32 ())))))))))))))))), ((x.1, ()), ((x.2.1, ()), ())))) (fun x v => sha_take_L5_step x.1 x.2.1 x.2.2.1 x.2.2.2 v.1 v.2.1 v.2.2.1 v.2.2.2.1 v.2.2.2.2.1 v.2.2.2.2.2.1 v.2.2.2.2.2.2.1 v.2.2.2.2.2.2.2.1 v.2.2.2.2.2.2.2.2) (fun x r => .ret ((cu2 ((), (cu ((), (cu2 (r.1, (r.2.1, (r.2.2.1, (r.2.2.2.1, (r.2.2.2.2.1, (r.2.2.2.2.2.1, (r.2.2.2.2.2.2.1, (r.2.2.2.2.2.2.2, (cu32 (cu32 (cu32 ())))))))))))))))), ((x.1, ()), ((x.2.1, ()), ())))) (fun z => (z.2.1.1, z.2.2.1.1, z.2.2.2.1, z.2.2.2.2.1)) (fun z => (z.1.2.2.2.2.2.2.2.1, z.1.2.2.2.2.2.2.2.2.1, z.1.2.2.2.2.2.2.2.2.2.1, z.1.2.2.2.2.2.2.2.2.2.2.1, z.1.2.2.2.2.2.2.2.2.2.2.2.1, z.1.2.2.2.2.2.2.2.2.2.2.2.2.1, z.1.2.2.2.2.2.2.2.2.2.2.2.2.2.1, z.1.2.2.2.2.2.2.2.2.2.2.2.2.2.2.1, z.1.2.2.2.2.2.2.2.2.2.2.2.2.2.2.2.2.2.2.2.2.2.2.2.2.2.2.2.2.2.2.2.2.2.2.2.2.2.2.2.1)) (fun _ => rfl) (fun _ => rfl) (fun _ _ _ h => h) ?_
  intro x v; kernel_rfl

def sha_take_L12_step (t : (Int × (Int × (Int × (Int × (Int × (Int × (Int × Int)))))))) (c : (Int × (Int × (Int × (Int × (Int × (Int × (Int × Int)))))))) (t2 : Int) (state : (Int × (Int × (Int × (Int × (Int × (Int × (Int × Int)))))))) : Tree ((Int × (Int × (Int × (Int × (Int × (Int × (Int × (Int × Int)))))))) ⊕ (Int × (Int × (Int × (Int × (Int × (Int × (Int × Int)))))))) :=
  .ite (decide (t2 < 8)) (
    .ite (decide (t2 = 0)) (
      ask (inb 0 8) <|
      ask (inb 0 8) <|
      ask (inb 0 8) <|
      .ret (.inl ((w64 ((0 : Int) + 1)), ((IntKind.wrap .u32 (state.1 + t.1)), state.2)))) (
      .ite (decide (t2 = 1)) (
        ask (inb 1 8) <|
        ask (inb 1 8) <|
        ask (inb 1 8) <|
        .ret (.inl ((w64 ((1 : Int) + 1)), (state.1, ((IntKind.wrap .u32 (state.2.1 + t.2.1)), state.2.2))))) (
        .ite (decide (t2 = 2)) (
          ask (inb 2 8) <|
          ask (inb 2 8) <|
          ask (inb 2 8) <|
          .ret (.inl ((w64 ((2 : Int) + 1)), (state.1, (state.2.1, ((IntKind.wrap .u32 (state.2.2.1 + t.2.2.1)), state.2.2.2)))))) (
          .ite (decide (t2 = 3)) (
            ask (inb 3 8) <|
            ask (inb 3 8) <|
            ask (inb 3 8) <|
            .ret (.inl ((w64 ((3 : Int) + 1)), (state.1, (state.2.1, (state.2.2.1, ((IntKind.wrap .u32 (state.2.2.2.1 + t.2.2.2.1)), state.2.2.2.2))))))) (
            .ite (decide (t2 = 4)) (
              ask (inb 4 8) <|
              ask (inb 4 8) <|
              ask (inb 4 8) <|
              .ret (.inl ((w64 ((4 : Int) + 1)), (state.1, (state.2.1, (state.2.2.1, (state.2.2.2.1, ((IntKind.wrap .u32 (state.2.2.2.2.1 + t.2.2.2.2.1)), state.2.2.2.2.2)))))))) (
              .ite (decide (t2 = 5)) (
                ask (inb 5 8) <|
                ask (inb 5 8) <|
                ask (inb 5 8) <|
                .ret (.inl ((w64 ((5 : Int) + 1)), (state.1, (state.2.1, (state.2.2.1, (state.2.2.2.1, (state.2.2.2.2.1, ((IntKind.wrap .u32 (state.2.2.2.2.2.1 + t.2.2.2.2.2.1)), state.2.2.2.2.2.2))))))))) (
                .ite (decide (t2 = 6)) (
                  ask (inb 6 8) <|
                  ask (inb 6 8) <|
                  ask (inb 6 8) <|
                  .ret (.inl ((w64 ((6 : Int) + 1)), (state.1, (state.2.1, (state.2.2.1, (state.2.2.2.1, (state.2.2.2.2.1, (state.2.2.2.2.2.1, ((IntKind.wrap .u32 (state.2.2.2.2.2.2.1 + t.2.2.2.2.2.2.1)), state.2.2.2.2.2.2.2)))))))))) (
                  .ite (decide (t2 = 7)) (
                    ask (inb 7 8) <|
                    ask (inb 7 8) <|
                    ask (inb 7 8) <|
                    .ret (.inl ((w64 ((7 : Int) + 1)), (state.1, (state.2.1, (state.2.2.1, (state.2.2.2.1, (state.2.2.2.2.1, (state.2.2.2.2.2.1, (state.2.2.2.2.2.2.1, (IntKind.wrap .u32 (state.2.2.2.2.2.2.2 + t.2.2.2.2.2.2.2)))))))))))) (
                    .fail))))))))) (
    .ret (.inr state))

def sha_take_L12 : Lp := ⟨12, [], [], (ca2 (.cons (.ref 0 0) (ca (.cons (.ref 1 0) (ca (ca4 (ca8 (ca16 (ca32 (ca32 (.cons (.val true (.pair (.int .u32) (.pair (.int .u32) (.pair (.int .u32) (.pair (.int .u32) (.pair (.int .u32) (.pair (.int .u32) (.pair (.int .u32) (.int .u32))))))))) (.cons (.val false (.int .i64)) (ca (ca2 (ca8 .nil))))))))))))))), (.cells 84 (.cons (.flat (.pair (.int .u32) (.pair (.int .u32) (.pair (.int .u32) (.pair (.int .u32) (.pair (.int .u32) (.pair (.int .u32) (.pair (.int .u32) (.int .u32))))))))) .nil) (.cells 84 (.cons (.flat (.pair (.int .u32) (.pair (.int .u32) (.pair (.int .u32) (.pair (.int .u32) (.pair (.int .u32) (.pair (.int .u32) (.pair (.int .u32) (.int .u32))))))))) .nil) .nil)), 0, .one 3 [] (ca2 (.cons (.ref 0 0) (ca (.cons (.ref 1 0) (ca2 (ca8 (ca32 (ca32 (ca32 .nil))))))))) (.cells 84 (.cons (.flat (.pair (.int .u32) (.pair (.int .u32) (.pair (.int .u32) (.pair (.int .u32) (.pair (.int .u32) (.pair (.int .u32) (.pair (.int .u32) (.int .u32))))))))) .nil) (.cells 84 (.cons (.flat (.pair (.int .u32) (.pair (.int .u32) (.pair (.int .u32) (.pair (.int .u32) (.pair (.int .u32) (.pair (.int .u32) (.pair (.int .u32) (.int .u32))))))))) .nil) .nil)), fun z => .bnd (.loop (fun v => sha_take_L12_step z.1.2.2.2.2.2.2.2.2.2.2.2.2.2.2.2.2.2.2.2.2.2.2.2.2.2.2.2.2.2.2.2.2.2.2.2.2.2.2.2.2.2.2.2.2.2.2.2.2.2.2.2.2.2.2.2.2.2.2.2.2.2.2.2.2.2.2.2.2.2.2.2.2.2.2.2.2.2.2.2.2.2.2.2.2.2.2.2.2.2.2.2.2.2.2.2.2.2.2.1 z.2.2.1.1 v.1 v.2) (z.1.2.2.2.2.2.2.2.2.2.2.2.2.2.2.2.2.2.2.2.2.2.2.2.2.2.2.2.2.2.2.2.2.2.2.2.2.2.2.2.2.2.2.2.2.2.2.2.2.2.2.2.2.2.2.2.2.2.2.2.2.2.2.2.2.2.2.2.2.2.2.2.2.2.2.2.2.2.2.2.2.2.2.2.2.2.2.2.2.2.2.2.2.2.2.2.2.2.2.2.1, z.2.1.1)) fun r => .ret ((cu2 ((), (cu ((), (cu2 (cu8 (cu32 (cu32 (cu32 ()))))))))), ((r, ()), ((z.2.2.1.1, ()), ())))⟩

theorem sha_take_L12_ok : sha_take_L12.ok Tryd.prog (nthC (loopsOf (bodyOf Tryd.f43)) 1) := by
  refine Lp.lift (π := ((Int × (Int × (Int × (Int × (Int × (Int × (Int × Int))))))) × (Int × (Int × (Int × (Int × (Int × (Int × (Int × Int))))))))) (V := (Int × (Int × (Int × (Int × (Int × (Int × (Int × (Int × Int))))))))) (ρ := (Int × (Int × (Int × (Int × (Int × (Int × (Int × Int)))))))) mix tabOk sha_take_L12 (o := orT [sha_spread_g, sha_rounds_g, sha_turns_g] [] sha_take_fz) (orT_sound ⟨sha_spread_ok, ⟨sha_rounds_ok, ⟨sha_turns_ok, trivial⟩⟩⟩) (allLp_of [] (by kernel_rfl) trivial rfl) (fun x v => ((cu2 ((), (cu ((), (cu (cu4 (cu8 (cu16 (cu32 (cu32 (x.1, (v.1, (cu (cu2 (cu8 ()))))))))))))))), ((v.2, ()), ((x.2, ()), ())))) (fun x r => ((cu2 ((), (cu ((), (cu2 (cu8 (cu32 (cu32 (cu32 ()))))))))), ((r, ()), ((x.2, ()), ())))) (fun x v => sha_take_L12_step x.1 x.2 v.1 v.2) (fun x r => .ret ((cu2 ((), (cu ((), (cu2 (cu8 (cu32 (cu32 (cu32 ()))))))))), ((r, ()), ((x.2, ()), ())))) (fun z => (z.1.2.2.2.2.2.2.2.2.2.2.2.2.2.2.2.2.2.2.2.2.2.2.2.2.2.2.2.2.2.2.2.2.2.2.2.2.2.2.2.2.2.2.2.2.2.2.2.2.2.2.2.2.2.2.2.2.2.2.2.2.2.2.2.2.2.2.2.2.2.2.2.2.2.2.2.2.2.2.2.2.2.2.2.2.2.2.2.2.2.2.2.2.2.2.2.2.2.2.1, z.2.2.1.1)) (fun z => (z.1.2.2.2.2.2.2.2.2.2.2.2.2.2.2.2.2.2.2.2.2.2.2.2.2.2.2.2.2.2.2.2.2.2.2.2.2.2.2.2.2.2.2.2.2.2.2.2.2.2.2.2.2.2.2.2.2.2.2.2.2.2.2.2.2.2.2.2.2.2.2.2.2.2.2.2.2.2.2.2.2.2.2.2.2.2.2.2.2.2.2.2.2.2.2.2.2.2.2.2.1, z.2.1.1)) (fun _ => rfl) (fun _ => rfl) (fun _ _ _ h => h) ?_
  intro x v; kernel_rfl

def sha_take_T (x0 : (Int × (Int × (Int × (Int × (Int × (Int × (Int × Int)))))))) (x1 : List Int) : Tree (Int × (Int × (Int × (Int × (Int × (Int × (Int × Int))))))) :=
  .bnd (sha_spread_T x1) fun y1 =>
  .bnd sha_rounds_T fun y2 =>
  ask (inb 0 8) <|
  ask (inb 1 8) <|
  ask (inb 2 8) <|
  ask (inb 3 8) <|
  ask (inb 4 8) <|
  ask (inb 5 8) <|
  ask (inb 6 8) <|
  ask (inb 7 8) <|
  .bnd (.loop (fun v => sha_take_L5_step x0 (0, (0, (0, (0, (0, (0, (0, 0))))))) [y1.1, y1.2.1, y1.2.2.1, y1.2.2.2.1, y1.2.2.2.2.1, y1.2.2.2.2.2.1, y1.2.2.2.2.2.2.1, y1.2.2.2.2.2.2.2.1, y1.2.2.2.2.2.2.2.2.1, y1.2.2.2.2.2.2.2.2.2.1, y1.2.2.2.2.2.2.2.2.2.2.1, y1.2.2.2.2.2.2.2.2.2.2.2.1, y1.2.2.2.2.2.2.2.2.2.2.2.2.1, y1.2.2.2.2.2.2.2.2.2.2.2.2.2.1, y1.2.2.2.2.2.2.2.2.2.2.2.2.2.2.1, y1.2.2.2.2.2.2.2.2.2.2.2.2.2.2.2.1, y1.2.2.2.2.2.2.2.2.2.2.2.2.2.2.2.2.1, y1.2.2.2.2.2.2.2.2.2.2.2.2.2.2.2.2.2.1, y1.2.2.2.2.2.2.2.2.2.2.2.2.2.2.2.2.2.2.1, y1.2.2.2.2.2.2.2.2.2.2.2.2.2.2.2.2.2.2.2.1, y1.2.2.2.2.2.2.2.2.2.2.2.2.2.2.2.2.2.2.2.2.1, y1.2.2.2.2.2.2.2.2.2.2.2.2.2.2.2.2.2.2.2.2.2.1, y1.2.2.2.2.2.2.2.2.2.2.2.2.2.2.2.2.2.2.2.2.2.2.1, y1.2.2.2.2.2.2.2.2.2.2.2.2.2.2.2.2.2.2.2.2.2.2.2.1, y1.2.2.2.2.2.2.2.2.2.2.2.2.2.2.2.2.2.2.2.2.2.2.2.2.1, y1.2.2.2.2.2.2.2.2.2.2.2.2.2.2.2.2.2.2.2.2.2.2.2.2.2.1, y1.2.2.2.2.2.2.2.2.2.2.2.2.2.2.2.2.2.2.2.2.2.2.2.2.2.2.1, y1.2.2.2.2.2.2.2.2.2.2.2.2.2.2.2.2.2.2.2.2.2.2.2.2.2.2.2.1, y1.2.2.2.2.2.2.2.2.2.2.2.2.2.2.2.2.2.2.2.2.2.2.2.2.2.2.2.2.1, y1.2.2.2.2.2.2.2.2.2.2.2.2.2.2.2.2.2.2.2.2.2.2.2.2.2.2.2.2.2.1, y1.2.2.2.2.2.2.2.2.2.2.2.2.2.2.2.2.2.2.2.2.2.2.2.2.2.2.2.2.2.2.1, y1.2.2.2.2.2.2.2.2.2.2.2.2.2.2.2.2.2.2.2.2.2.2.2.2.2.2.2.2.2.2.2.1, y1.2.2.2.2.2.2.2.2.2.2.2.2.2.2.2.2.2.2.2.2.2.2.2.2.2.2.2.2.2.2.2.2.1, y1.2.2.2.2.2.2.2.2.2.2.2.2.2.2.2.2.2.2.2.2.2.2.2.2.2.2.2.2.2.2.2.2.2.1, y1.2.2.2.2.2.2.2.2.2.2.2.2.2.2.2.2.2.2.2.2.2.2.2.2.2.2.2.2.2.2.2.2.2.2.1, y1.2.2.2.2.2.2.2.2.2.2.2.2.2.2.2.2.2.2.2.2.2.2.2.2.2.2.2.2.2.2.2.2.2.2.2.1, y1.2.2.2.2.2.2.2.2.2.2.2.2.2.2.2.2.2.2.2.2.2.2.2.2.2.2.2.2.2.2.2.2.2.2.2.2.1, y1.2.2.2.2.2.2.2.2.2.2.2.2.2.2.2.2.2.2.2.2.2.2.2.2.2.2.2.2.2.2.2.2.2.2.2.2.2.1, y1.2.2.2.2.2.2.2.2.2.2.2.2.2.2.2.2.2.2.2.2.2.2.2.2.2.2.2.2.2.2.2.2.2.2.2.2.2.2.1, y1.2.2.2.2.2.2.2.2.2.2.2.2.2.2.2.2.2.2.2.2.2.2.2.2.2.2.2.2.2.2.2.2.2.2.2.2.2.2.2.1, y1.2.2.2.2.2.2.2.2.2.2.2.2.2.2.2.2.2.2.2.2.2.2.2.2.2.2.2.2.2.2.2.2.2.2.2.2.2.2.2.2.1, y1.2.2.2.2.2.2.2.2.2.2.2.2.2.2.2.2.2.2.2.2.2.2.2.2.2.2.2.2.2.2.2.2.2.2.2.2.2.2.2.2.2.1, y1.2.2.2.2.2.2.2.2.2.2.2.2.2.2.2.2.2.2.2.2.2.2.2.2.2.2.2.2.2.2.2.2.2.2.2.2.2.2.2.2.2.2.1, y1.2.2.2.2.2.2.2.2.2.2.2.2.2.2.2.2.2.2.2.2.2.2.2.2.2.2.2.2.2.2.2.2.2.2.2.2.2.2.2.2.2.2.2.1, y1.2.2.2.2.2.2.2.2.2.2.2.2.2.2.2.2.2.2.2.2.2.2.2.2.2.2.2.2.2.2.2.2.2.2.2.2.2.2.2.2.2.2.2.2.1, y1.2.2.2.2.2.2.2.2.2.2.2.2.2.2.2.2.2.2.2.2.2.2.2.2.2.2.2.2.2.2.2.2.2.2.2.2.2.2.2.2.2.2.2.2.2.1, y1.2.2.2.2.2.2.2.2.2.2.2.2.2.2.2.2.2.2.2.2.2.2.2.2.2.2.2.2.2.2.2.2.2.2.2.2.2.2.2.2.2.2.2.2.2.2.1, y1.2.2.2.2.2.2.2.2.2.2.2.2.2.2.2.2.2.2.2.2.2.2.2.2.2.2.2.2.2.2.2.2.2.2.2.2.2.2.2.2.2.2.2.2.2.2.2.1, y1.2.2.2.2.2.2.2.2.2.2.2.2.2.2.2.2.2.2.2.2.2.2.2.2.2.2.2.2.2.2.2.2.2.2.2.2.2.2.2.2.2.2.2.2.2.2.2.2.1, y1.2.2.2.2.2.2.2.2.2.2.2.2.2.2.2.2.2.2.2.2.2.2.2.2.2.2.2.2.2.2.2.2.2.2.2.2.2.2.2.2.2.2.2.2.2.2.2.2.2.1, y1.2.2.2.2.2.2.2.2.2.2.2.2.2.2.2.2.2.2.2.2.2.2.2.2.2.2.2.2.2.2.2.2.2.2.2.2.2.2.2.2.2.2.2.2.2.2.2.2.2.2.1, y1.2.2.2.2.2.2.2.2.2.2.2.2.2.2.2.2.2.2.2.2.2.2.2.2.2.2.2.2.2.2.2.2.2.2.2.2.2.2.2.2.2.2.2.2.2.2.2.2.2.2.2.1, y1.2.2.2.2.2.2.2.2.2.2.2.2.2.2.2.2.2.2.2.2.2.2.2.2.2.2.2.2.2.2.2.2.2.2.2.2.2.2.2.2.2.2.2.2.2.2.2.2.2.2.2.2.1, y1.2.2.2.2.2.2.2.2.2.2.2.2.2.2.2.2.2.2.2.2.2.2.2.2.2.2.2.2.2.2.2.2.2.2.2.2.2.2.2.2.2.2.2.2.2.2.2.2.2.2.2.2.2.1, y1.2.2.2.2.2.2.2.2.2.2.2.2.2.2.2.2.2.2.2.2.2.2.2.2.2.2.2.2.2.2.2.2.2.2.2.2.2.2.2.2.2.2.2.2.2.2.2.2.2.2.2.2.2.2.1, y1.2.2.2.2.2.2.2.2.2.2.2.2.2.2.2.2.2.2.2.2.2.2.2.2.2.2.2.2.2.2.2.2.2.2.2.2.2.2.2.2.2.2.2.2.2.2.2.2.2.2.2.2.2.2.2.1, y1.2.2.2.2.2.2.2.2.2.2.2.2.2.2.2.2.2.2.2.2.2.2.2.2.2.2.2.2.2.2.2.2.2.2.2.2.2.2.2.2.2.2.2.2.2.2.2.2.2.2.2.2.2.2.2.2.1, y1.2.2.2.2.2.2.2.2.2.2.2.2.2.2.2.2.2.2.2.2.2.2.2.2.2.2.2.2.2.2.2.2.2.2.2.2.2.2.2.2.2.2.2.2.2.2.2.2.2.2.2.2.2.2.2.2.2.1, y1.2.2.2.2.2.2.2.2.2.2.2.2.2.2.2.2.2.2.2.2.2.2.2.2.2.2.2.2.2.2.2.2.2.2.2.2.2.2.2.2.2.2.2.2.2.2.2.2.2.2.2.2.2.2.2.2.2.2.1, y1.2.2.2.2.2.2.2.2.2.2.2.2.2.2.2.2.2.2.2.2.2.2.2.2.2.2.2.2.2.2.2.2.2.2.2.2.2.2.2.2.2.2.2.2.2.2.2.2.2.2.2.2.2.2.2.2.2.2.2.1, y1.2.2.2.2.2.2.2.2.2.2.2.2.2.2.2.2.2.2.2.2.2.2.2.2.2.2.2.2.2.2.2.2.2.2.2.2.2.2.2.2.2.2.2.2.2.2.2.2.2.2.2.2.2.2.2.2.2.2.2.2.1, y1.2.2.2.2.2.2.2.2.2.2.2.2.2.2.2.2.2.2.2.2.2.2.2.2.2.2.2.2.2.2.2.2.2.2.2.2.2.2.2.2.2.2.2.2.2.2.2.2.2.2.2.2.2.2.2.2.2.2.2.2.2.1, y1.2.2.2.2.2.2.2.2.2.2.2.2.2.2.2.2.2.2.2.2.2.2.2.2.2.2.2.2.2.2.2.2.2.2.2.2.2.2.2.2.2.2.2.2.2.2.2.2.2.2.2.2.2.2.2.2.2.2.2.2.2.2.1, y1.2.2.2.2.2.2.2.2.2.2.2.2.2.2.2.2.2.2.2.2.2.2.2.2.2.2.2.2.2.2.2.2.2.2.2.2.2.2.2.2.2.2.2.2.2.2.2.2.2.2.2.2.2.2.2.2.2.2.2.2.2.2.2] [y2.1, y2.2.1, y2.2.2.1, y2.2.2.2.1, y2.2.2.2.2.1, y2.2.2.2.2.2.1, y2.2.2.2.2.2.2.1, y2.2.2.2.2.2.2.2.1, y2.2.2.2.2.2.2.2.2.1, y2.2.2.2.2.2.2.2.2.2.1, y2.2.2.2.2.2.2.2.2.2.2.1, y2.2.2.2.2.2.2.2.2.2.2.2.1, y2.2.2.2.2.2.2.2.2.2.2.2.2.1, y2.2.2.2.2.2.2.2.2.2.2.2.2.2.1, y2.2.2.2.2.2.2.2.2.2.2.2.2.2.2.1, y2.2.2.2.2.2.2.2.2.2.2.2.2.2.2.2.1, y2.2.2.2.2.2.2.2.2.2.2.2.2.2.2.2.2.1, y2.2.2.2.2.2.2.2.2.2.2.2.2.2.2.2.2.2.1, y2.2.2.2.2.2.2.2.2.2.2.2.2.2.2.2.2.2.2.1, y2.2.2.2.2.2.2.2.2.2.2.2.2.2.2.2.2.2.2.2.1, y2.2.2.2.2.2.2.2.2.2.2.2.2.2.2.2.2.2.2.2.2.1, y2.2.2.2.2.2.2.2.2.2.2.2.2.2.2.2.2.2.2.2.2.2.1, y2.2.2.2.2.2.2.2.2.2.2.2.2.2.2.2.2.2.2.2.2.2.2.1, y2.2.2.2.2.2.2.2.2.2.2.2.2.2.2.2.2.2.2.2.2.2.2.2.1, y2.2.2.2.2.2.2.2.2.2.2.2.2.2.2.2.2.2.2.2.2.2.2.2.2.1, y2.2.2.2.2.2.2.2.2.2.2.2.2.2.2.2.2.2.2.2.2.2.2.2.2.2.1, y2.2.2.2.2.2.2.2.2.2.2.2.2.2.2.2.2.2.2.2.2.2.2.2.2.2.2.1, y2.2.2.2.2.2.2.2.2.2.2.2.2.2.2.2.2.2.2.2.2.2.2.2.2.2.2.2.1, y2.2.2.2.2.2.2.2.2.2.2.2.2.2.2.2.2.2.2.2.2.2.2.2.2.2.2.2.2.1, y2.2.2.2.2.2.2.2.2.2.2.2.2.2.2.2.2.2.2.2.2.2.2.2.2.2.2.2.2.2.1, y2.2.2.2.2.2.2.2.2.2.2.2.2.2.2.2.2.2.2.2.2.2.2.2.2.2.2.2.2.2.2.1, y2.2.2.2.2.2.2.2.2.2.2.2.2.2.2.2.2.2.2.2.2.2.2.2.2.2.2.2.2.2.2.2.1, y2.2.2.2.2.2.2.2.2.2.2.2.2.2.2.2.2.2.2.2.2.2.2.2.2.2.2.2.2.2.2.2.2.1, y2.2.2.2.2.2.2.2.2.2.2.2.2.2.2.2.2.2.2.2.2.2.2.2.2.2.2.2.2.2.2.2.2.2.1, y2.2.2.2.2.2.2.2.2.2.2.2.2.2.2.2.2.2.2.2.2.2.2.2.2.2.2.2.2.2.2.2.2.2.2.1, y2.2.2.2.2.2.2.2.2.2.2.2.2.2.2.2.2.2.2.2.2.2.2.2.2.2.2.2.2.2.2.2.2.2.2.2.1, y2.2.2.2.2.2.2.2.2.2.2.2.2.2.2.2.2.2.2.2.2.2.2.2.2.2.2.2.2.2.2.2.2.2.2.2.2.1, y2.2.2.2.2.2.2.2.2.2.2.2.2.2.2.2.2.2.2.2.2.2.2.2.2.2.2.2.2.2.2.2.2.2.2.2.2.2.1, y2.2.2.2.2.2.2.2.2.2.2.2.2.2.2.2.2.2.2.2.2.2.2.2.2.2.2.2.2.2.2.2.2.2.2.2.2.2.2.1, y2.2.2.2.2.2.2.2.2.2.2.2.2.2.2.2.2.2.2.2.2.2.2.2.2.2.2.2.2.2.2.2.2.2.2.2.2.2.2.2.1, y2.2.2.2.2.2.2.2.2.2.2.2.2.2.2.2.2.2.2.2.2.2.2.2.2.2.2.2.2.2.2.2.2.2.2.2.2.2.2.2.2.1, y2.2.2.2.2.2.2.2.2.2.2.2.2.2.2.2.2.2.2.2.2.2.2.2.2.2.2.2.2.2.2.2.2.2.2.2.2.2.2.2.2.2.1, y2.2.2.2.2.2.2.2.2.2.2.2.2.2.2.2.2.2.2.2.2.2.2.2.2.2.2.2.2.2.2.2.2.2.2.2.2.2.2.2.2.2.2.1, y2.2.2.2.2.2.2.2.2.2.2.2.2.2.2.2.2.2.2.2.2.2.2.2.2.2.2.2.2.2.2.2.2.2.2.2.2.2.2.2.2.2.2.2.1, y2.2.2.2.2.2.2.2.2.2.2.2.2.2.2.2.2.2.2.2.2.2.2.2.2.2.2.2.2.2.2.2.2.2.2.2.2.2.2.2.2.2.2.2.2.1, y2.2.2.2.2.2.2.2.2.2.2.2.2.2.2.2.2.2.2.2.2.2.2.2.2.2.2.2.2.2.2.2.2.2.2.2.2.2.2.2.2.2.2.2.2.2.1, y2.2.2.2.2.2.2.2.2.2.2.2.2.2.2.2.2.2.2.2.2.2.2.2.2.2.2.2.2.2.2.2.2.2.2.2.2.2.2.2.2.2.2.2.2.2.2.1, y2.2.2.2.2.2.2.2.2.2.2.2.2.2.2.2.2.2.2.2.2.2.2.2.2.2.2.2.2.2.2.2.2.2.2.2.2.2.2.2.2.2.2.2.2.2.2.2.1, y2.2.2.2.2.2.2.2.2.2.2.2.2.2.2.2.2.2.2.2.2.2.2.2.2.2.2.2.2.2.2.2.2.2.2.2.2.2.2.2.2.2.2.2.2.2.2.2.2.1, y2.2.2.2.2.2.2.2.2.2.2.2.2.2.2.2.2.2.2.2.2.2.2.2.2.2.2.2.2.2.2.2.2.2.2.2.2.2.2.2.2.2.2.2.2.2.2.2.2.2.1, y2.2.2.2.2.2.2.2.2.2.2.2.2.2.2.2.2.2.2.2.2.2.2.2.2.2.2.2.2.2.2.2.2.2.2.2.2.2.2.2.2.2.2.2.2.2.2.2.2.2.2.1, y2.2.2.2.2.2.2.2.2.2.2.2.2.2.2.2.2.2.2.2.2.2.2.2.2.2.2.2.2.2.2.2.2.2.2.2.2.2.2.2.2.2.2.2.2.2.2.2.2.2.2.2.1, y2.2.2.2.2.2.2.2.2.2.2.2.2.2.2.2.2.2.2.2.2.2.2.2.2.2.2.2.2.2.2.2.2.2.2.2.2.2.2.2.2.2.2.2.2.2.2.2.2.2.2.2.2.1, y2.2.2.2.2.2.2.2.2.2.2.2.2.2.2.2.2.2.2.2.2.2.2.2.2.2.2.2.2.2.2.2.2.2.2.2.2.2.2.2.2.2.2.2.2.2.2.2.2.2.2.2.2.2.1, y2.2.2.2.2.2.2.2.2.2.2.2.2.2.2.2.2.2.2.2.2.2.2.2.2.2.2.2.2.2.2.2.2.2.2.2.2.2.2.2.2.2.2.2.2.2.2.2.2.2.2.2.2.2.2.1, y2.2.2.2.2.2.2.2.2.2.2.2.2.2.2.2.2.2.2.2.2.2.2.2.2.2.2.2.2.2.2.2.2.2.2.2.2.2.2.2.2.2.2.2.2.2.2.2.2.2.2.2.2.2.2.2.1, y2.2.2.2.2.2.2.2.2.2.2.2.2.2.2.2.2.2.2.2.2.2.2.2.2.2.2.2.2.2.2.2.2.2.2.2.2.2.2.2.2.2.2.2.2.2.2.2.2.2.2.2.2.2.2.2.2.1, y2.2.2.2.2.2.2.2.2.2.2.2.2.2.2.2.2.2.2.2.2.2.2.2.2.2.2.2.2.2.2.2.2.2.2.2.2.2.2.2.2.2.2.2.2.2.2.2.2.2.2.2.2.2.2.2.2.2.1, y2.2.2.2.2.2.2.2.2.2.2.2.2.2.2.2.2.2.2.2.2.2.2.2.2.2.2.2.2.2.2.2.2.2.2.2.2.2.2.2.2.2.2.2.2.2.2.2.2.2.2.2.2.2.2.2.2.2.2.1, y2.2.2.2.2.2.2.2.2.2.2.2.2.2.2.2.2.2.2.2.2.2.2.2.2.2.2.2.2.2.2.2.2.2.2.2.2.2.2.2.2.2.2.2.2.2.2.2.2.2.2.2.2.2.2.2.2.2.2.2.1, y2.2.2.2.2.2.2.2.2.2.2.2.2.2.2.2.2.2.2.2.2.2.2.2.2.2.2.2.2.2.2.2.2.2.2.2.2.2.2.2.2.2.2.2.2.2.2.2.2.2.2.2.2.2.2.2.2.2.2.2.2.1, y2.2.2.2.2.2.2.2.2.2.2.2.2.2.2.2.2.2.2.2.2.2.2.2.2.2.2.2.2.2.2.2.2.2.2.2.2.2.2.2.2.2.2.2.2.2.2.2.2.2.2.2.2.2.2.2.2.2.2.2.2.2.1, y2.2.2.2.2.2.2.2.2.2.2.2.2.2.2.2.2.2.2.2.2.2.2.2.2.2.2.2.2.2.2.2.2.2.2.2.2.2.2.2.2.2.2.2.2.2.2.2.2.2.2.2.2.2.2.2.2.2.2.2.2.2.2.1, y2.2.2.2.2.2.2.2.2.2.2.2.2.2.2.2.2.2.2.2.2.2.2.2.2.2.2.2.2.2.2.2.2.2.2.2.2.2.2.2.2.2.2.2.2.2.2.2.2.2.2.2.2.2.2.2.2.2.2.2.2.2.2.2] v.1 v.2.1 v.2.2.1 v.2.2.2.1 v.2.2.2.2.1 v.2.2.2.2.2.1 v.2.2.2.2.2.2.1 v.2.2.2.2.2.2.2.1 v.2.2.2.2.2.2.2.2) (x0.1, x0.2.1, x0.2.2.1, x0.2.2.2.1, x0.2.2.2.2.1, x0.2.2.2.2.2.1, x0.2.2.2.2.2.2.1, x0.2.2.2.2.2.2.2, 0)) fun r3 =>
  .bnd (.loop (fun v => sha_take_L12_step r3 (0, (0, (0, (0, (0, (0, (0, 0))))))) v.1 v.2) (0, x0)) fun r4 =>
  .ret r4

def sha_take_g : Sig := ⟨43, (.cons (.val true (.pair (.int .u32) (.pair (.int .u32) (.pair (.int .u32) (.pair (.int .u32) (.pair (.int .u32) (.pair (.int .u32) (.pair (.int .u32) (.int .u32))))))))) (.cons (.val false (.list (.int .u8))) .nil)), .vals (.val true (.pair (.int .u32) (.pair (.int .u32) (.pair (.int .u32) (.pair (.int .u32) (.pair (.int .u32) (.pair (.int .u32) (.pair (.int .u32) (.int .u32))))))))), fun z => sha_take_T z.1 z.2.1, (dfl (.pair (.int .u32) (.pair (.int .u32) (.pair (.int .u32) (.pair (.int .u32) (.pair (.int .u32) (.pair (.int .u32) (.pair (.int .u32) (.int .u32)))))))) : (Int × (Int × (Int × (Int × (Int × (Int × (Int × Int))))))))⟩

theorem sha_take_ok : sha_take_g.ok Tryd.prog := by
  refine Sig.lift mix tabOk nms _ Tryd.func43 (c := (bodyOf Tryd.f43)) (by kernel_rfl) (o := orT [sha_spread_g, sha_rounds_g, sha_turns_g] [sha_take_L5, sha_take_L12] sha_take_fz) (orT_sound ⟨sha_spread_ok, ⟨sha_rounds_ok, ⟨sha_turns_ok, trivial⟩⟩⟩) (allLp_of [nthC (loopsOf (bodyOf Tryd.f43)) 0, nthC (loopsOf (bodyOf Tryd.f43)) 1] (by kernel_rfl) ⟨sha_take_L5_ok, ⟨sha_take_L12_ok, trivial⟩⟩ (by kernel_rfl)) ?_
  intro z; kernel_rfl

def octet_Writer_Count_T (x0 : Int) (x1 : List Int) : Tree (Unit × ((Unit × (Unit × Unit)) × ((List Int) × Unit))) :=
  .bnd (octet_Writer_low_T x0 4 x1) fun y1 =>
  .ret ((), (((), ((), ())), (y1.2.2.1, ())))

def octet_Writer_Count_g : MSig := ⟨23, (.cons (.ref 0 0) (.cons (.val false (.int .i64)) .nil)), (.cells 40 (.cons (.selfp 0) (.cons (.own 1) .nil)) (.rows 5 (.int .u8) .nil)), [], .nil, (.cells 40 (.cons (.selfp 0) (.cons (.own 1) .nil)) (.rows 5 (.int .u8) .nil)), some 1, fun z => octet_Writer_Count_T z.1.2.1 z.2.2.1⟩

theorem octet_Writer_Count_ok : octet_Writer_Count_g.ok Tryd.prog := by
  refine MSig.lift mix tabOk nms _ Tryd.func23 (c := (bodyOf Tryd.f23)) (by kernel_rfl) (o := orM [] [octet_Writer_low_g] [] noFz) (orM_sound trivial ⟨octet_Writer_low_ok, trivial⟩) (allLp_ofM [] (by kernel_rfl) trivial rfl) (fun _ => rfl) ?_
  intro z; kernel_rfl

def sha_Sum_fz : Nat → List Pre
  | 5 => [.ownC 1 1 5 (.int .u8)]
  | 10 => [.two]
  | 14 => [.spl 44 8]
  | _ => []

def sha_Sum_L2_step (s_ : Str) (all : List Int) : Tree (List Int ⊕ (List Int)) :=
  ask (!decide ((64 : Int) = 0)) <|
  .ite (!decide (((all.length : Int).tmod 64) = 56)) (
    ask (decide ((all ++ [0]).length * 1 ≤ roomNat)) <|
    .ret (.inl (all ++ [0]))) (
    .ret (.inr all))

def sha_Sum_L2 : Lp := ⟨2, [], [], (.cons (.val false .str) (ca2 (.cons (.own 0) (ca2 (ca16 (ca32 .nil)))))), (.rows 5 (.int .u8) .nil), 0, .one 1 [] (.cons (.val false .str) (ca2 (.cons (.own 0) (ca2 (ca16 (ca32 .nil)))))) (.rows 5 (.int .u8) .nil), fun z => .bnd (.loop (fun v => sha_Sum_L2_step z.1.1 v) z.2.1) fun r => .ret ((z.1.1, (cu2 ((), (cu2 (cu16 (cu32 ())))))), (r, ()))⟩

theorem sha_Sum_L2_ok : sha_Sum_L2.ok Tryd.prog (nthC (loopsOf (bodyOf Tryd.f27)) 0) := by
  refine Lp.lift (π := Str) (V := List Int) (ρ := List Int) mix tabOk sha_Sum_L2 (o := orM [sha_take_g] [octet_Writer_Int_g, octet_Writer_Bytes_g, octet_Writer_Count_g] [] sha_Sum_fz) (orM_sound ⟨sha_take_ok, trivial⟩ ⟨octet_Writer_Int_ok, ⟨octet_Writer_Bytes_ok, ⟨octet_Writer_Count_ok, trivial⟩⟩⟩) (allLp_ofM [] (by kernel_rfl) trivial rfl) (fun x v => ((x, (cu2 ((), (cu2 (cu16 (cu32 ())))))), (v, ()))) (fun x r => ((x, (cu2 ((), (cu2 (cu16 (cu32 ())))))), (r, ()))) (fun x v => sha_Sum_L2_step x v) (fun x r => .ret ((x, (cu2 ((), (cu2 (cu16 (cu32 ())))))), (r, ()))) (fun z => z.1.1) (fun z => z.2.1) (fun _ => rfl) (fun _ => rfl) (fun _ _ _ h => h) ?_
  intro x v; kernel_rfl

def sha_Sum_L8_step (all : List Int) (state : (Int × (Int × (Int × (Int × (Int × (Int × (Int × Int)))))))) : Tree (((List Int) × (Int × (Int × (Int × (Int × (Int × (Int × (Int × Int)))))))) ⊕ (Int × (Int × (Int × (Int × (Int × (Int × (Int × Int)))))))) :=
  .ite (decide ((0 : Int) < (all.length : Int))) (
    ask (inbe 64 all.length) <|
    .bnd (sha_take_T state (all.take (64 : Int).toNat)) fun y1 =>
    ask (inbe 64 all.length) <|
    .ret (.inl ((all.drop (64 : Int).toNat), y1))) (
    .ret (.inr state))

def sha_Sum_L8 : Lp := ⟨8, [.frz 0], [], (ca (ca2 (.cons (.val false (.list (.int .u8))) (ca (.cons (.ref 3 0) (ca16 (ca32 .nil))))))), (.dead (.cells 40 (ca2 .nil) (.dead (.cells 84 (.cons (.flat (.pair (.int .u32) (.pair (.int .u32) (.pair (.int .u32) (.pair (.int .u32) (.pair (.int .u32) (.pair (.int .u32) (.pair (.int .u32) (.int .u32))))))))) .nil) .nil)))), 0, .one 3 [] (ca (ca4 (.cons (.ref 3 0) (ca16 (ca32 .nil))))) (.dead (.cells 40 (ca2 .nil) (.dead (.cells 84 (.cons (.flat (.pair (.int .u32) (.pair (.int .u32) (.pair (.int .u32) (.pair (.int .u32) (.pair (.int .u32) (.pair (.int .u32) (.pair (.int .u32) (.int .u32))))))))) .nil) .nil)))), fun z => .bnd (.loop (fun v => sha_Sum_L8_step v.1 v.2) (z.1.2.2.2.1, z.2.2.1.1)) fun r => .ret ((cu (cu4 ((), (cu16 (cu32 ()))))), ((cu2 ()), ((r, ()), ())))⟩

theorem sha_Sum_L8_ok : sha_Sum_L8.ok Tryd.prog (nthC (loopsOf (bodyOf Tryd.f27)) 1) := by
  refine Lp.lift (π := Unit) (V := ((List Int) × (Int × (Int × (Int × (Int × (Int × (Int × (Int × Int))))))))) (ρ := (Int × (Int × (Int × (Int × (Int × (Int × (Int × Int)))))))) mix tabOk sha_Sum_L8 (o := orM [sha_take_g] [octet_Writer_Int_g, octet_Writer_Bytes_g, octet_Writer_Count_g] [] sha_Sum_fz) (orM_sound ⟨sha_take_ok, trivial⟩ ⟨octet_Writer_Int_ok, ⟨octet_Writer_Bytes_ok, ⟨octet_Writer_Count_ok, trivial⟩⟩⟩) (allLp_ofM [] (by kernel_rfl) trivial rfl) (fun x v => ((cu (cu2 (v.1, (cu ((), (cu16 (cu32 ()))))))), ((cu2 ()), ((v.2, ()), ())))) (fun x r => ((cu (cu4 ((), (cu16 (cu32 ()))))), ((cu2 ()), ((r, ()), ())))) (fun x v => sha_Sum_L8_step v.1 v.2) (fun x r => .ret ((cu (cu4 ((), (cu16 (cu32 ()))))), ((cu2 ()), ((r, ()), ())))) (fun z => ()) (fun z => (z.1.2.2.2.1, z.2.2.1.1)) (fun _ => rfl) (fun _ => rfl) (fun _ _ _ h => h) ?_
  intro x v; kernel_rfl

def sha_Sum_L13_step (t : (Int × (Int × (Int × (Int × (Int × (Int × (Int × Int)))))))) (t2 : Int) (rows : List Int) : Tree ((Int × (List Int)) ⊕ (List Int)) :=
  .ite (decide (t2 < 8)) (
    .ite (decide (t2 = 0)) (
      ask (inb 0 8) <|
      .bnd (octet_Writer_Count_T (w64 (t.1)) rows) fun y8 =>
      .ret (.inl ((w64 ((0 : Int) + 1)), y8.2.2.1))) (
      .ite (decide (t2 = 1)) (
        ask (inb 1 8) <|
        .bnd (octet_Writer_Count_T (w64 (t.2.1)) rows) fun y7 =>
        .ret (.inl ((w64 ((1 : Int) + 1)), y7.2.2.1))) (
        .ite (decide (t2 = 2)) (
          ask (inb 2 8) <|
          .bnd (octet_Writer_Count_T (w64 (t.2.2.1)) rows) fun y6 =>
          .ret (.inl ((w64 ((2 : Int) + 1)), y6.2.2.1))) (
          .ite (decide (t2 = 3)) (
            ask (inb 3 8) <|
            .bnd (octet_Writer_Count_T (w64 (t.2.2.2.1)) rows) fun y5 =>
            .ret (.inl ((w64 ((3 : Int) + 1)), y5.2.2.1))) (
            .ite (decide (t2 = 4)) (
              ask (inb 4 8) <|
              .bnd (octet_Writer_Count_T (w64 (t.2.2.2.2.1)) rows) fun y4 =>
              .ret (.inl ((w64 ((4 : Int) + 1)), y4.2.2.1))) (
              .ite (decide (t2 = 5)) (
                ask (inb 5 8) <|
                .bnd (octet_Writer_Count_T (w64 (t.2.2.2.2.2.1)) rows) fun y3 =>
                .ret (.inl ((w64 ((5 : Int) + 1)), y3.2.2.1))) (
                .ite (decide (t2 = 6)) (
                  ask (inb 6 8) <|
                  .bnd (octet_Writer_Count_T (w64 (t.2.2.2.2.2.2.1)) rows) fun y2 =>
                  .ret (.inl ((w64 ((6 : Int) + 1)), y2.2.2.1))) (
                  .ite (decide (t2 = 7)) (
                    ask (inb 7 8) <|
                    .bnd (octet_Writer_Count_T (w64 (t.2.2.2.2.2.2.2)) rows) fun y1 =>
                    .ret (.inl ((w64 ((7 : Int) + 1)), y1.2.2.1))) (
                    .fail))))))))) (
    .ret (.inr rows))

def sha_Sum_L13 : Lp := ⟨13, [.ownC 4 1 5 (.int .u8)], [], (ca2 (ca4 (.cons (.ref 4 0) (ca4 (ca32 (.cons (.val true (.pair (.int .u32) (.pair (.int .u32) (.pair (.int .u32) (.pair (.int .u32) (.pair (.int .u32) (.pair (.int .u32) (.pair (.int .u32) (.int .u32))))))))) (.cons (.val false (.int .i64)) (ca (ca8 .nil))))))))), (.dead (.cells 40 (ca2 .nil) (.dead (.cells 84 (ca8 .nil) (.cells 40 (.cons (.selfp 4) (.cons (.own 5) .nil)) (.rows 5 (.int .u8) .nil)))))), 0, .one 5 [] (ca2 (ca4 (.cons (.ref 4 0) (ca (ca2 (ca4 (ca8 (ca32 .nil)))))))) (.dead (.cells 40 (ca2 .nil) (.dead (.cells 84 (ca8 .nil) (.cells 40 (.cons (.selfp 4) (.cons (.own 5) .nil)) (.rows 5 (.int .u8) .nil)))))), fun z => .bnd (.loop (fun v => sha_Sum_L13_step z.1.2.2.2.2.2.2.2.2.2.2.2.2.2.2.2.2.2.2.2.2.2.2.2.2.2.2.2.2.2.2.2.2.2.2.2.2.2.2.2.2.2.2.2.1 v.1 v.2) (z.1.2.2.2.2.2.2.2.2.2.2.2.2.2.2.2.2.2.2.2.2.2.2.2.2.2.2.2.2.2.2.2.2.2.2.2.2.2.2.2.2.2.2.2.2.1, z.2.2.2.2.1)) fun r => .ret ((cu2 (cu4 ((), (cu (cu2 (cu4 (cu8 (cu32 ())))))))), ((cu2 ()), ((cu8 ()), (((), ((), ())), (r, ())))))⟩

theorem sha_Sum_L13_ok : sha_Sum_L13.ok Tryd.prog (nthC (loopsOf (bodyOf Tryd.f27)) 2) := by
  refine Lp.lift (π := (Int × (Int × (Int × (Int × (Int × (Int × (Int × Int)))))))) (V := (Int × (List Int))) (ρ := List Int) mix tabOk sha_Sum_L13 (o := orM [sha_take_g] [octet_Writer_Int_g, octet_Writer_Bytes_g, octet_Writer_Count_g] [] sha_Sum_fz) (orM_sound ⟨sha_take_ok, trivial⟩ ⟨octet_Writer_Int_ok, ⟨octet_Writer_Bytes_ok, ⟨octet_Writer_Count_ok, trivial⟩⟩⟩) (allLp_ofM [] (by kernel_rfl) trivial rfl) (fun x v => ((cu2 (cu4 ((), (cu4 (cu32 (x, (v.1, (cu (cu8 ()))))))))), ((cu2 ()), ((cu8 ()), (((), ((), ())), (v.2, ())))))) (fun x r => ((cu2 (cu4 ((), (cu (cu2 (cu4 (cu8 (cu32 ())))))))), ((cu2 ()), ((cu8 ()), (((), ((), ())), (r, ())))))) (fun x v => sha_Sum_L13_step x v.1 v.2) (fun x r => .ret ((cu2 (cu4 ((), (cu (cu2 (cu4 (cu8 (cu32 ())))))))), ((cu2 ()), ((cu8 ()), (((), ((), ())), (r, ())))))) (fun z => z.1.2.2.2.2.2.2.2.2.2.2.2.2.2.2.2.2.2.2.2.2.2.2.2.2.2.2.2.2.2.2.2.2.2.2.2.2.2.2.2.2.2.2.2.1) (fun z => (z.1.2.2.2.2.2.2.2.2.2.2.2.2.2.2.2.2.2.2.2.2.2.2.2.2.2.2.2.2.2.2.2.2.2.2.2.2.2.2.2.2.2.2.2.2.1, z.2.2.2.2.1)) (fun _ => rfl) (fun _ => rfl) (fun _ _ _ h => h) ?_
  intro x v; kernel_rfl

def sha_Sum_T (x0 : Str) : Tree Str :=
  ask (decide (((strI x0) ++ [128]).length * 1 ≤ roomNat)) <|
  .bnd (.loop (fun v => sha_Sum_L2_step x0 v) ((strI x0) ++ [128])) fun r1 =>
  .bnd (octet_Writer_Int_T (w64 ((8 : Int) * (x0.length : Int))) ([] : List Int)) fun y2 =>
  .bnd (octet_Writer_Bytes_T y2.2.2.1) fun y3 =>
  ask (decide ((r1 ++ strI y3.1).length * 1 ≤ roomNat)) <|
  .bnd (.loop (fun v => sha_Sum_L8_step v.1 v.2) ((r1 ++ strI y3.1), (1779033703, (3144134277, (1013904242, (2773480762, (1359893119, (2600822924, (528734635, 1541459225))))))))) fun r4 =>
  .bnd (.loop (fun v => sha_Sum_L13_step r4 v.1 v.2) (0, ([] : List Int))) fun r5 =>
  .bnd (octet_Writer_Bytes_T r5) fun y6 =>
  .ret y6.1

def sha_Sum_g : Sig := ⟨27, (.cons (.val false .str) .nil), .vals (.val false .str), fun z => sha_Sum_T z.1, ([] : Str)⟩

theorem sha_Sum_ok : sha_Sum_g.ok Tryd.prog := by
  refine Sig.lift mix tabOk nms _ Tryd.func27 (c := (bodyOf Tryd.f27)) (by kernel_rfl) (o := orM [sha_take_g] [octet_Writer_Int_g, octet_Writer_Bytes_g, octet_Writer_Count_g] [sha_Sum_L2, sha_Sum_L8, sha_Sum_L13] sha_Sum_fz) (orM_sound ⟨sha_take_ok, trivial⟩ ⟨octet_Writer_Int_ok, ⟨octet_Writer_Bytes_ok, ⟨octet_Writer_Count_ok, trivial⟩⟩⟩) (allLp_ofM [nthC (loopsOf (bodyOf Tryd.f27)) 0, nthC (loopsOf (bodyOf Tryd.f27)) 1, nthC (loopsOf (bodyOf Tryd.f27)) 2] (by kernel_rfl) ⟨sha_Sum_L2_ok, ⟨sha_Sum_L8_ok, ⟨sha_Sum_L13_ok, trivial⟩⟩⟩ (by kernel_rfl)) ?_
  intro z; kernel_rfl

def mac_Sum_1_L3_step (by_ : Int) (t : Int) (mixed : List Int) : Tree ((Int × (List Int)) ⊕ (List Int)) :=
  .ite (decide (t < 64)) (
    ask (inb t 64) <|
    ask (Nat.ble (t.toNat + 1) mixed.length) <|
    ask (inb t 64) <|
    ask (Nat.ble (t.toNat + 1) mixed.length) <|
    .ret (.inl ((w64 (t + 1)), (mixed.set t.toNat (stdArith .xor .u8 (mixed.getD t.toNat (0 : Int)) by_))))) (
    .ret (.inr mixed))

def mac_Sum_1_L3 : Lp := ⟨3, [.arr 0 (.int .u8)], [], (.cons (.val false (.int .u8)) (ca (ca2 (.cons (.ref 0 0) (ca2 (.cons (.val false (.int .i64)) (ca (ca2 (ca8 .nil))))))))), (.arr 65 (.int .u8) .nil), 0, .one 1 [] (ca4 (.cons (.ref 0 0) (ca2 (ca4 (ca8 .nil))))) (.arr 65 (.int .u8) .nil), fun z => .bnd (.loop (fun v => mac_Sum_1_L3_step z.1.1 v.1 v.2) (z.1.2.2.2.2.2.2.2.1, z.2.1)) fun r => .ret ((cu4 ((), (cu2 (cu4 (cu8 ()))))), (r, ()))⟩

theorem mac_Sum_1_L3_ok : mac_Sum_1_L3.ok Tryd.prog (nthC (loopsOf (bodyOf Tryd.f28)) 0) := by
  refine Lp.lift (π := Int) (V := (Int × (List Int))) (ρ := List Int) mix tabOk mac_Sum_1_L3 (o := orT [] [] noFz) (orT_sound trivial) (allLp_of [] (by kernel_rfl) trivial rfl) (fun x v => ((x, (cu (cu2 ((), (cu2 (v.1, (cu (cu2 (cu8 ()))))))))), (v.2, ()))) (fun x r => ((cu4 ((), (cu2 (cu4 (cu8 ()))))), (r, ()))) (fun x v => mac_Sum_1_L3_step x v.1 v.2) (fun x r => .ret ((cu4 ((), (cu2 (cu4 (cu8 ()))))), (r, ()))) (fun z => z.1.1) (fun z => (z.1.2.2.2.2.2.2.2.1, z.2.1)) (fun _ => rfl) (fun _ => rfl) (fun _ _ _ h => h) ?_
  intro x v; kernel_rfl

def mac_Sum_1_T (x0 : Int) (x1 : A64u8) : Tree Str :=
  .bnd (.loop (fun v => mac_Sum_1_L3_step x0 v.1 v.2) (0, [x1.1, x1.2.1, x1.2.2.1, x1.2.2.2.1, x1.2.2.2.2.1, x1.2.2.2.2.2.1, x1.2.2.2.2.2.2.1, x1.2.2.2.2.2.2.2.1, x1.2.2.2.2.2.2.2.2.1, x1.2.2.2.2.2.2.2.2.2.1, x1.2.2.2.2.2.2.2.2.2.2.1, x1.2.2.2.2.2.2.2.2.2.2.2.1, x1.2.2.2.2.2.2.2.2.2.2.2.2.1, x1.2.2.2.2.2.2.2.2.2.2.2.2.2.1, x1.2.2.2.2.2.2.2.2.2.2.2.2.2.2.1, x1.2.2.2.2.2.2.2.2.2.2.2.2.2.2.2.1, x1.2.2.2.2.2.2.2.2.2.2.2.2.2.2.2.2.1, x1.2.2.2.2.2.2.2.2.2.2.2.2.2.2.2.2.2.1, x1.2.2.2.2.2.2.2.2.2.2.2.2.2.2.2.2.2.2.1, x1.2.2.2.2.2.2.2.2.2.2.2.2.2.2.2.2.2.2.2.1, x1.2.2.2.2.2.2.2.2.2.2.2.2.2.2.2.2.2.2.2.2.1, x1.2.2.2.2.2.2.2.2.2.2.2.2.2.2.2.2.2.2.2.2.2.1, x1.2.2.2.2.2.2.2.2.2.2.2.2.2.2.2.2.2.2.2.2.2.2.1, x1.2.2.2.2.2.2.2.2.2.2.2.2.2.2.2.2.2.2.2.2.2.2.2.1, x1.2.2.2.2.2.2.2.2.2.2.2.2.2.2.2.2.2.2.2.2.2.2.2.2.1, x1.2.2.2.2.2.2.2.2.2.2.2.2.2.2.2.2.2.2.2.2.2.2.2.2.2.1, x1.2.2.2.2.2.2.2.2.2.2.2.2.2.2.2.2.2.2.2.2.2.2.2.2.2.2.1, x1.2.2.2.2.2.2.2.2.2.2.2.2.2.2.2.2.2.2.2.2.2.2.2.2.2.2.2.1, x1.2.2.2.2.2.2.2.2.2.2.2.2.2.2.2.2.2.2.2.2.2.2.2.2.2.2.2.2.1, x1.2.2.2.2.2.2.2.2.2.2.2.2.2.2.2.2.2.2.2.2.2.2.2.2.2.2.2.2.2.1, x1.2.2.2.2.2.2.2.2.2.2.2.2.2.2.2.2.2.2.2.2.2.2.2.2.2.2.2.2.2.2.1, x1.2.2.2.2.2.2.2.2.2.2.2.2.2.2.2.2.2.2.2.2.2.2.2.2.2.2.2.2.2.2.2.1, x1.2.2.2.2.2.2.2.2.2.2.2.2.2.2.2.2.2.2.2.2.2.2.2.2.2.2.2.2.2.2.2.2.1, x1.2.2.2.2.2.2.2.2.2.2.2.2.2.2.2.2.2.2.2.2.2.2.2.2.2.2.2.2.2.2.2.2.2.1, x1.2.2.2.2.2.2.2.2.2.2.2.2.2.2.2.2.2.2.2.2.2.2.2.2.2.2.2.2.2.2.2.2.2.2.1, x1.2.2.2.2.2.2.2.2.2.2.2.2.2.2.2.2.2.2.2.2.2.2.2.2.2.2.2.2.2.2.2.2.2.2.2.1, x1.2.2.2.2.2.2.2.2.2.2.2.2.2.2.2.2.2.2.2.2.2.2.2.2.2.2.2.2.2.2.2.2.2.2.2.2.1, x1.2.2.2.2.2.2.2.2.2.2.2.2.2.2.2.2.2.2.2.2.2.2.2.2.2.2.2.2.2.2.2.2.2.2.2.2.2.1, x1.2.2.2.2.2.2.2.2.2.2.2.2.2.2.2.2.2.2.2.2.2.2.2.2.2.2.2.2.2.2.2.2.2.2.2.2.2.2.1, x1.2.2.2.2.2.2.2.2.2.2.2.2.2.2.2.2.2.2.2.2.2.2.2.2.2.2.2.2.2.2.2.2.2.2.2.2.2.2.2.1, x1.2.2.2.2.2.2.2.2.2.2.2.2.2.2.2.2.2.2.2.2.2.2.2.2.2.2.2.2.2.2.2.2.2.2.2.2.2.2.2.2.1, x1.2.2.2.2.2.2.2.2.2.2.2.2.2.2.2.2.2.2.2.2.2.2.2.2.2.2.2.2.2.2.2.2.2.2.2.2.2.2.2.2.2.1, x1.2.2.2.2.2.2.2.2.2.2.2.2.2.2.2.2.2.2.2.2.2.2.2.2.2.2.2.2.2.2.2.2.2.2.2.2.2.2.2.2.2.2.1, x1.2.2.2.2.2.2.2.2.2.2.2.2.2.2.2.2.2.2.2.2.2.2.2.2.2.2.2.2.2.2.2.2.2.2.2.2.2.2.2.2.2.2.2.1, x1.2.2.2.2.2.2.2.2.2.2.2.2.2.2.2.2.2.2.2.2.2.2.2.2.2.2.2.2.2.2.2.2.2.2.2.2.2.2.2.2.2.2.2.2.1, x1.2.2.2.2.2.2.2.2.2.2.2.2.2.2.2.2.2.2.2.2.2.2.2.2.2.2.2.2.2.2.2.2.2.2.2.2.2.2.2.2.2.2.2.2.2.1, x1.2.2.2.2.2.2.2.2.2.2.2.2.2.2.2.2.2.2.2.2.2.2.2.2.2.2.2.2.2.2.2.2.2.2.2.2.2.2.2.2.2.2.2.2.2.2.1, x1.2.2.2.2.2.2.2.2.2.2.2.2.2.2.2.2.2.2.2.2.2.2.2.2.2.2.2.2.2.2.2.2.2.2.2.2.2.2.2.2.2.2.2.2.2.2.2.1, x1.2.2.2.2.2.2.2.2.2.2.2.2.2.2.2.2.2.2.2.2.2.2.2.2.2.2.2.2.2.2.2.2.2.2.2.2.2.2.2.2.2.2.2.2.2.2.2.2.1, x1.2.2.2.2.2.2.2.2.2.2.2.2.2.2.2.2.2.2.2.2.2.2.2.2.2.2.2.2.2.2.2.2.2.2.2.2.2.2.2.2.2.2.2.2.2.2.2.2.2.1, x1.2.2.2.2.2.2.2.2.2.2.2.2.2.2.2.2.2.2.2.2.2.2.2.2.2.2.2.2.2.2.2.2.2.2.2.2.2.2.2.2.2.2.2.2.2.2.2.2.2.2.1, x1.2.2.2.2.2.2.2.2.2.2.2.2.2.2.2.2.2.2.2.2.2.2.2.2.2.2.2.2.2.2.2.2.2.2.2.2.2.2.2.2.2.2.2.2.2.2.2.2.2.2.2.1, x1.2.2.2.2.2.2.2.2.2.2.2.2.2.2.2.2.2.2.2.2.2.2.2.2.2.2.2.2.2.2.2.2.2.2.2.2.2.2.2.2.2.2.2.2.2.2.2.2.2.2.2.2.1, x1.2.2.2.2.2.2.2.2.2.2.2.2.2.2.2.2.2.2.2.2.2.2.2.2.2.2.2.2.2.2.2.2.2.2.2.2.2.2.2.2.2.2.2.2.2.2.2.2.2.2.2.2.2.1, x1.2.2.2.2.2.2.2.2.2.2.2.2.2.2.2.2.2.2.2.2.2.2.2.2.2.2.2.2.2.2.2.2.2.2.2.2.2.2.2.2.2.2.2.2.2.2.2.2.2.2.2.2.2.2.1, x1.2.2.2.2.2.2.2.2.2.2.2.2.2.2.2.2.2.2.2.2.2.2.2.2.2.2.2.2.2.2.2.2.2.2.2.2.2.2.2.2.2.2.2.2.2.2.2.2.2.2.2.2.2.2.2.1, x1.2.2.2.2.2.2.2.2.2.2.2.2.2.2.2.2.2.2.2.2.2.2.2.2.2.2.2.2.2.2.2.2.2.2.2.2.2.2.2.2.2.2.2.2.2.2.2.2.2.2.2.2.2.2.2.2.1, x1.2.2.2.2.2.2.2.2.2.2.2.2.2.2.2.2.2.2.2.2.2.2.2.2.2.2.2.2.2.2.2.2.2.2.2.2.2.2.2.2.2.2.2.2.2.2.2.2.2.2.2.2.2.2.2.2.2.1, x1.2.2.2.2.2.2.2.2.2.2.2.2.2.2.2.2.2.2.2.2.2.2.2.2.2.2.2.2.2.2.2.2.2.2.2.2.2.2.2.2.2.2.2.2.2.2.2.2.2.2.2.2.2.2.2.2.2.2.1, x1.2.2.2.2.2.2.2.2.2.2.2.2.2.2.2.2.2.2.2.2.2.2.2.2.2.2.2.2.2.2.2.2.2.2.2.2.2.2.2.2.2.2.2.2.2.2.2.2.2.2.2.2.2.2.2.2.2.2.2.1, x1.2.2.2.2.2.2.2.2.2.2.2.2.2.2.2.2.2.2.2.2.2.2.2.2.2.2.2.2.2.2.2.2.2.2.2.2.2.2.2.2.2.2.2.2.2.2.2.2.2.2.2.2.2.2.2.2.2.2.2.2.1, x1.2.2.2.2.2.2.2.2.2.2.2.2.2.2.2.2.2.2.2.2.2.2.2.2.2.2.2.2.2.2.2.2.2.2.2.2.2.2.2.2.2.2.2.2.2.2.2.2.2.2.2.2.2.2.2.2.2.2.2.2.2.1, x1.2.2.2.2.2.2.2.2.2.2.2.2.2.2.2.2.2.2.2.2.2.2.2.2.2.2.2.2.2.2.2.2.2.2.2.2.2.2.2.2.2.2.2.2.2.2.2.2.2.2.2.2.2.2.2.2.2.2.2.2.2.2.1, x1.2.2.2.2.2.2.2.2.2.2.2.2.2.2.2.2.2.2.2.2.2.2.2.2.2.2.2.2.2.2.2.2.2.2.2.2.2.2.2.2.2.2.2.2.2.2.2.2.2.2.2.2.2.2.2.2.2.2.2.2.2.2.2])) fun r1 =>
  ask (decide (64 ≤ 9223372036854775807)) <|
  ask (decide (r1.length = 64)) <|
  .ret (strB r1)

def mac_Sum_1_g : Sig := ⟨28, (.cons (.val false (.int .u8)) (.cons (.ptr tA64u8) .nil)), .vals (.val false .str), fun z => mac_Sum_1_T z.1 z.2.1, ([] : Str)⟩

theorem mac_Sum_1_ok : mac_Sum_1_g.ok Tryd.prog := by
  refine Sig.lift mix tabOk nms _ Tryd.func28 (c := (bodyOf Tryd.f28)) (by kernel_rfl) (o := orT [] [mac_Sum_1_L3] noFz) (orT_sound trivial) (allLp_of [nthC (loopsOf (bodyOf Tryd.f28)) 0] (by kernel_rfl) ⟨mac_Sum_1_L3_ok, trivial⟩ (by kernel_rfl)) ?_
  intro z; kernel_rfl

def mac_Sum_T (x0 : Str) (x1 : Str) : Tree Str :=
  .ite (decide ((64 : Int) < (x0.length : Int))) (
    .bnd (sha_Sum_T x0) fun y1 =>
    ask (decide (64 ≤ 9223372036854775807)) <|
    .bnd (mac_Sum_1_T 92 ((cpB y1 0 0), ((cpB y1 1 0), ((cpB y1 2 0), ((cpB y1 3 0), ((cpB y1 4 0), ((cpB y1 5 0), ((cpB y1 6 0), ((cpB y1 7 0), ((cpB y1 8 0), ((cpB y1 9 0), ((cpB y1 10 0), ((cpB y1 11 0), ((cpB y1 12 0), ((cpB y1 13 0), ((cpB y1 14 0), ((cpB y1 15 0), ((cpB y1 16 0), ((cpB y1 17 0), ((cpB y1 18 0), ((cpB y1 19 0), ((cpB y1 20 0), ((cpB y1 21 0), ((cpB y1 22 0), ((cpB y1 23 0), ((cpB y1 24 0), ((cpB y1 25 0), ((cpB y1 26 0), ((cpB y1 27 0), ((cpB y1 28 0), ((cpB y1 29 0), ((cpB y1 30 0), ((cpB y1 31 0), ((cpB y1 32 0), ((cpB y1 33 0), ((cpB y1 34 0), ((cpB y1 35 0), ((cpB y1 36 0), ((cpB y1 37 0), ((cpB y1 38 0), ((cpB y1 39 0), ((cpB y1 40 0), ((cpB y1 41 0), ((cpB y1 42 0), ((cpB y1 43 0), ((cpB y1 44 0), ((cpB y1 45 0), ((cpB y1 46 0), ((cpB y1 47 0), ((cpB y1 48 0), ((cpB y1 49 0), ((cpB y1 50 0), ((cpB y1 51 0), ((cpB y1 52 0), ((cpB y1 53 0), ((cpB y1 54 0), ((cpB y1 55 0), ((cpB y1 56 0), ((cpB y1 57 0), ((cpB y1 58 0), ((cpB y1 59 0), ((cpB y1 60 0), ((cpB y1 61 0), ((cpB y1 62 0), (cpB y1 63 0))))))))))))))))))))))))))))))))))))))))))))))))))))))))))))))))) fun y2 =>
    .bnd (mac_Sum_1_T 54 ((cpB y1 0 0), ((cpB y1 1 0), ((cpB y1 2 0), ((cpB y1 3 0), ((cpB y1 4 0), ((cpB y1 5 0), ((cpB y1 6 0), ((cpB y1 7 0), ((cpB y1 8 0), ((cpB y1 9 0), ((cpB y1 10 0), ((cpB y1 11 0), ((cpB y1 12 0), ((cpB y1 13 0), ((cpB y1 14 0), ((cpB y1 15 0), ((cpB y1 16 0), ((cpB y1 17 0), ((cpB y1 18 0), ((cpB y1 19 0), ((cpB y1 20 0), ((cpB y1 21 0), ((cpB y1 22 0), ((cpB y1 23 0), ((cpB y1 24 0), ((cpB y1 25 0), ((cpB y1 26 0), ((cpB y1 27 0), ((cpB y1 28 0), ((cpB y1 29 0), ((cpB y1 30 0), ((cpB y1 31 0), ((cpB y1 32 0), ((cpB y1 33 0), ((cpB y1 34 0), ((cpB y1 35 0), ((cpB y1 36 0), ((cpB y1 37 0), ((cpB y1 38 0), ((cpB y1 39 0), ((cpB y1 40 0), ((cpB y1 41 0), ((cpB y1 42 0), ((cpB y1 43 0), ((cpB y1 44 0), ((cpB y1 45 0), ((cpB y1 46 0), ((cpB y1 47 0), ((cpB y1 48 0), ((cpB y1 49 0), ((cpB y1 50 0), ((cpB y1 51 0), ((cpB y1 52 0), ((cpB y1 53 0), ((cpB y1 54 0), ((cpB y1 55 0), ((cpB y1 56 0), ((cpB y1 57 0), ((cpB y1 58 0), ((cpB y1 59 0), ((cpB y1 60 0), ((cpB y1 61 0), ((cpB y1 62 0), (cpB y1 63 0))))))))))))))))))))))))))))))))))))))))))))))))))))))))))))))))) fun y3 =>
    ask (decide (y3.length + x1.length ≤ 9223372036854775807)) <|
    .bnd (sha_Sum_T (y3 ++ x1)) fun y4 =>
    ask (decide (y2.length + y4.length ≤ 9223372036854775807)) <|
    .bnd (sha_Sum_T (y2 ++ y4)) fun y5 =>
    .ret y5) (
    ask (decide (64 ≤ 9223372036854775807)) <|
    .bnd (mac_Sum_1_T 92 ((cpB x0 0 0), ((cpB x0 1 0), ((cpB x0 2 0), ((cpB x0 3 0), ((cpB x0 4 0), ((cpB x0 5 0), ((cpB x0 6 0), ((cpB x0 7 0), ((cpB x0 8 0), ((cpB x0 9 0), ((cpB x0 10 0), ((cpB x0 11 0), ((cpB x0 12 0), ((cpB x0 13 0), ((cpB x0 14 0), ((cpB x0 15 0), ((cpB x0 16 0), ((cpB x0 17 0), ((cpB x0 18 0), ((cpB x0 19 0), ((cpB x0 20 0), ((cpB x0 21 0), ((cpB x0 22 0), ((cpB x0 23 0), ((cpB x0 24 0), ((cpB x0 25 0), ((cpB x0 26 0), ((cpB x0 27 0), ((cpB x0 28 0), ((cpB x0 29 0), ((cpB x0 30 0), ((cpB x0 31 0), ((cpB x0 32 0), ((cpB x0 33 0), ((cpB x0 34 0), ((cpB x0 35 0), ((cpB x0 36 0), ((cpB x0 37 0), ((cpB x0 38 0), ((cpB x0 39 0), ((cpB x0 40 0), ((cpB x0 41 0), ((cpB x0 42 0), ((cpB x0 43 0), ((cpB x0 44 0), ((cpB x0 45 0), ((cpB x0 46 0), ((cpB x0 47 0), ((cpB x0 48 0), ((cpB x0 49 0), ((cpB x0 50 0), ((cpB x0 51 0), ((cpB x0 52 0), ((cpB x0 53 0), ((cpB x0 54 0), ((cpB x0 55 0), ((cpB x0 56 0), ((cpB x0 57 0), ((cpB x0 58 0), ((cpB x0 59 0), ((cpB x0 60 0), ((cpB x0 61 0), ((cpB x0 62 0), (cpB x0 63 0))))))))))))))))))))))))))))))))))))))))))))))))))))))))))))))))) fun y6 =>
    .bnd (mac_Sum_1_T 54 ((cpB x0 0 0), ((cpB x0 1 0), ((cpB x0 2 0), ((cpB x0 3 0), ((cpB x0 4 0), ((cpB x0 5 0), ((cpB x0 6 0), ((cpB x0 7 0), ((cpB x0 8 0), ((cpB x0 9 0), ((cpB x0 10 0), ((cpB x0 11 0), ((cpB x0 12 0), ((cpB x0 13 0), ((cpB x0 14 0), ((cpB x0 15 0), ((cpB x0 16 0), ((cpB x0 17 0), ((cpB x0 18 0), ((cpB x0 19 0), ((cpB x0 20 0), ((cpB x0 21 0), ((cpB x0 22 0), ((cpB x0 23 0), ((cpB x0 24 0), ((cpB x0 25 0), ((cpB x0 26 0), ((cpB x0 27 0), ((cpB x0 28 0), ((cpB x0 29 0), ((cpB x0 30 0), ((cpB x0 31 0), ((cpB x0 32 0), ((cpB x0 33 0), ((cpB x0 34 0), ((cpB x0 35 0), ((cpB x0 36 0), ((cpB x0 37 0), ((cpB x0 38 0), ((cpB x0 39 0), ((cpB x0 40 0), ((cpB x0 41 0), ((cpB x0 42 0), ((cpB x0 43 0), ((cpB x0 44 0), ((cpB x0 45 0), ((cpB x0 46 0), ((cpB x0 47 0), ((cpB x0 48 0), ((cpB x0 49 0), ((cpB x0 50 0), ((cpB x0 51 0), ((cpB x0 52 0), ((cpB x0 53 0), ((cpB x0 54 0), ((cpB x0 55 0), ((cpB x0 56 0), ((cpB x0 57 0), ((cpB x0 58 0), ((cpB x0 59 0), ((cpB x0 60 0), ((cpB x0 61 0), ((cpB x0 62 0), (cpB x0 63 0))))))))))))))))))))))))))))))))))))))))))))))))))))))))))))))))) fun y7 =>
    ask (decide (y7.length + x1.length ≤ 9223372036854775807)) <|
    .bnd (sha_Sum_T (y7 ++ x1)) fun y8 =>
    ask (decide (y6.length + y8.length ≤ 9223372036854775807)) <|
    .bnd (sha_Sum_T (y6 ++ y8)) fun y9 =>
    .ret y9)

def mac_Sum_g : Sig := ⟨14, (.cons (.val false .str) (.cons (.val false .str) .nil)), .vals (.val false .str), fun z => mac_Sum_T z.1 z.2.1, ([] : Str)⟩

theorem mac_Sum_ok : mac_Sum_g.ok Tryd.prog := by
  refine Sig.lift mix tabOk nms _ Tryd.func14 (c := (bodyOf Tryd.f14)) (by kernel_rfl) (o := orT [sha_Sum_g, mac_Sum_1_g] [] noFz) (orT_sound ⟨sha_Sum_ok, ⟨mac_Sum_1_ok, trivial⟩⟩) (allLp_of [] (by kernel_rfl) trivial rfl) ?_
  intro z; kernel_rfl

def mac_Is_L6_step (sum : Str) (want : Str) (t : Int) (unlike : Int) (t2 : Int) : Tree ((Int × Int) ⊕ Int) :=
  .ite (decide (t2 < t)) (
    ask (inb t2 want.length) <|
    ask (inb t2 sum.length) <|
    .ret (.inl ((stdArith .or .u8 unlike (stdArith .xor .u8 (sgetI want t2) (sgetI sum t2))), (w64 (t2 + 1))))) (
    .ret (.inr unlike))

def mac_Is_L6 : Lp := ⟨6, [], [], (ca2 (.cons (.val false .str) (ca4 (.cons (.val false .str) (.cons (.val false (.int .u8)) (ca2 (ca8 (.cons (.val false (.int .i64)) (.cons (.val false (.int .i64)) (ca2 (ca4 (ca8 .nil)))))))))))), .nil, 0, .one 1 [] (ca8 (.cons (.val false (.int .u8)) (ca2 (ca8 (ca16 .nil))))) .nil, fun z => .bnd (.loop (fun v => mac_Is_L6_step z.1.2.2.1 z.1.2.2.2.2.2.2.2.1 z.1.2.2.2.2.2.2.2.2.2.2.2.2.2.2.2.2.2.2.2.1 v.1 v.2) (z.1.2.2.2.2.2.2.2.2.1, z.1.2.2.2.2.2.2.2.2.2.2.2.2.2.2.2.2.2.2.2.2.1)) fun r => .ret ((cu8 (r, (cu2 (cu8 (cu16 ()))))), ())⟩

theorem mac_Is_L6_ok : mac_Is_L6.ok Tryd.prog (nthC (loopsOf (bodyOf Tryd.f17)) 0) := by
  refine Lp.lift (π := (Str × Str × Int)) (V := (Int × Int)) (ρ := Int) mix tabOk mac_Is_L6 (o := orT [mac_Sum_g] [] noFz) (orT_sound ⟨mac_Sum_ok, trivial⟩) (allLp_of [] (by kernel_rfl) trivial rfl) (fun x v => ((cu2 (x.1, (cu4 (x.2.1, (v.1, (cu2 (cu8 (x.2.2, (v.2, (cu2 (cu4 (cu8 ())))))))))))), ())) (fun x r => ((cu8 (r, (cu2 (cu8 (cu16 ()))))), ())) (fun x v => mac_Is_L6_step x.1 x.2.1 x.2.2 v.1 v.2) (fun x r => .ret ((cu8 (r, (cu2 (cu8 (cu16 ()))))), ())) (fun z => (z.1.2.2.1, z.1.2.2.2.2.2.2.2.1, z.1.2.2.2.2.2.2.2.2.2.2.2.2.2.2.2.2.2.2.2.1)) (fun z => (z.1.2.2.2.2.2.2.2.2.1, z.1.2.2.2.2.2.2.2.2.2.2.2.2.2.2.2.2.2.2.2.2.1)) (fun _ => rfl) (fun _ => rfl) (fun _ _ _ h => h) ?_
  intro x v; kernel_rfl

def mac_Is_T (x0 : Str) (x1 : Str) (x2 : Str) : Tree Bool :=
  .bnd (mac_Sum_T x0 x1) fun y1 =>
  .ite (!decide ((y1.length : Int) = (x2.length : Int))) (
    .ret false) (
    .bnd (.loop (fun v => mac_Is_L6_step x2 y1 (x2.length : Int) v.1 v.2) (0, 0)) fun r2 =>
    .ret (decide (r2 = 0)))

def mac_Is_g : Sig := ⟨17, (.cons (.val false .str) (.cons (.val false .str) (.cons (.val false .str) .nil))), .vals (.val false .bool), fun z => mac_Is_T z.1 z.2.1 z.2.2.1, false⟩

theorem mac_Is_ok : mac_Is_g.ok Tryd.prog := by
  refine Sig.lift mix tabOk nms _ Tryd.func17 (c := (bodyOf Tryd.f17)) (by kernel_rfl) (o := orT [mac_Sum_g] [mac_Is_L6] noFz) (orT_sound ⟨mac_Sum_ok, trivial⟩) (allLp_of [nthC (loopsOf (bodyOf Tryd.f17)) 0] (by kernel_rfl) ⟨mac_Is_L6_ok, trivial⟩ (by kernel_rfl)) ?_
  intro z; kernel_rfl

def token_Check_T (x0 : List Entry) (x1 : Str) (x2 : Int) : Tree (Str × Str × Int × Unit) :=
  .bnd (token_Read_T x1) fun y1 =>
  .bnd (tenant_Of_T x0 y1.1) fun y2 =>
  .ite (!y1.2.2.2.1) (
    .ite (!y1.2.2.2.1) (
      .ret (([] : Str), ([] : Str), 7, ())) (
      ask (inbe (w64 ((x1.length : Int) - 32)) x1.length) <|
      ask (inbe (w64 ((x1.length : Int) - 32)) x1.length) <|
      .bnd (mac_Is_T y2.1.2.1 (subS x1 0 (w64 ((x1.length : Int) - 32)).toNat) (subS x1 (w64 ((x1.length : Int) - 32)).toNat x1.length)) fun y3 =>
      .ite (!y3) (
        .ret (([] : Str), ([] : Str), 7, ())) (
        .ret (y1.1, y1.2.1, 0, ())))) (
    .ite (!y2.2.1) (
      .ite (!y2.2.1) (
        .ret (([] : Str), ([] : Str), 7, ())) (
        ask (inbe (w64 ((x1.length : Int) - 32)) x1.length) <|
        ask (inbe (w64 ((x1.length : Int) - 32)) x1.length) <|
        .bnd (mac_Is_T y2.1.2.1 (subS x1 0 (w64 ((x1.length : Int) - 32)).toNat) (subS x1 (w64 ((x1.length : Int) - 32)).toNat x1.length)) fun y4 =>
        .ite (!y4) (
          .ret (([] : Str), ([] : Str), 7, ())) (
          .ret (y1.1, y1.2.1, 0, ())))) (
      .bnd (name_Is_T y1.2.1) fun y5 =>
      .ite (!y5) (
        .ite (!y5) (
          .ret (([] : Str), ([] : Str), 7, ())) (
          ask (inbe (w64 ((x1.length : Int) - 32)) x1.length) <|
          ask (inbe (w64 ((x1.length : Int) - 32)) x1.length) <|
          .bnd (mac_Is_T y2.1.2.1 (subS x1 0 (w64 ((x1.length : Int) - 32)).toNat) (subS x1 (w64 ((x1.length : Int) - 32)).toNat x1.length)) fun y6 =>
          .ite (!y6) (
            .ret (([] : Str), ([] : Str), 7, ())) (
            .ret (y1.1, y1.2.1, 0, ())))) (
        .ite (decide (y1.2.2.1 < x2)) (
          .ret (([] : Str), ([] : Str), 7, ())) (
          ask (inbe (w64 ((x1.length : Int) - 32)) x1.length) <|
          ask (inbe (w64 ((x1.length : Int) - 32)) x1.length) <|
          .bnd (mac_Is_T y2.1.2.1 (subS x1 0 (w64 ((x1.length : Int) - 32)).toNat) (subS x1 (w64 ((x1.length : Int) - 32)).toNat x1.length)) fun y7 =>
          .ite (!y7) (
            .ret (([] : Str), ([] : Str), 7, ())) (
            .ret (y1.1, y1.2.1, 0, ()))))))

def token_Check_g : Sig := ⟨8, (.cons (.val false (.list tEntry)) (.cons (.val false .str) (.cons (.val false (.int .i64)) .nil))), .vals (.cons (.val false .str) (.cons (.val false .str) (.cons (.val false (.int .i64)) .nil))), fun z => token_Check_T z.1 z.2.1 z.2.2.1, (([] : Str), ([] : Str), (0 : Int), ())⟩

theorem token_Check_ok : token_Check_g.ok Tryd.prog := by
  refine Sig.lift mix tabOk nms _ Tryd.func8 (c := (bodyOf Tryd.f8)) (by kernel_rfl) (o := orT [token_Read_g, tenant_Of_g, mac_Is_g, name_Is_g] [] noFz) (orT_sound ⟨token_Read_ok, ⟨tenant_Of_ok, ⟨mac_Is_ok, ⟨name_Is_ok, trivial⟩⟩⟩⟩) (allLp_of [] (by kernel_rfl) trivial rfl) ?_
  intro z; kernel_rfl

def r05_Is_L2_step (s_ : Str) (i : Int) : Tree (Int ⊕ (Bool ⊕ Unit)) :=
  .ite (decide (i < (s_.length : Int))) (
    ask (inb i s_.length) <|
    ask ((!(!(decide ((sgetI s_ i) < 97)))) || inb i s_.length) <|
    ask ((!((decide ((sgetI s_ i) < 97)) || (decide ((122 : Int) < (sgetI s_ i))))) || inb i s_.length) <|
    ask ((!(((decide ((sgetI s_ i) < 97)) || (decide ((122 : Int) < (sgetI s_ i)))) && (!(decide ((sgetI s_ i) < 48))))) || inb i s_.length) <|
    ask ((!(((decide ((sgetI s_ i) < 97)) || (decide ((122 : Int) < (sgetI s_ i)))) && ((decide ((sgetI s_ i) < 48)) || (decide ((57 : Int) < (sgetI s_ i)))))) || inb i s_.length) <|
    .ite ((((decide ((sgetI s_ i) < 97)) || (decide ((122 : Int) < (sgetI s_ i)))) && ((decide ((sgetI s_ i) < 48)) || (decide ((57 : Int) < (sgetI s_ i))))) && (!decide ((sgetI s_ i) = 45))) (
      .ret (.inr (.inl false))) (
      .ret (.inl (w64 (i + 1))))) (
    .ret (.inr (.inr ())))

def r05_Is_L2 : Lp := ⟨2, [], [], (.cons (.val false .str) (ca2 (.cons (.val false (.int .i64)) (ca2 (ca8 (ca32 .nil)))))), .nil, 0, .more 0 [] (ca2 (.cons (.val false .bool) (ca (ca2 (ca8 (ca32 .nil)))))) .nil (.one 1 [] (.cons (.val false .str) (ca (ca4 (ca8 (ca32 .nil))))) .nil), fun z => .bnd (.loop (fun v => r05_Is_L2_step z.1.1 v) z.1.2.2.2.1) fun r => .sum r (fun a0 => .ret (.inl ((cu2 (a0, (cu (cu2 (cu8 (cu32 ())))))), ()))) (fun b0 => .ret (.inr ((z.1.1, (cu (cu4 (cu8 (cu32 ()))))), ())))⟩

theorem r05_Is_L2_ok : r05_Is_L2.ok Tryd.prog (nthC (loopsOf (bodyOf Tryd.f5)) 0) := by
  refine Lp.lift (π := Str) (V := Int) (ρ := (Bool ⊕ Unit)) mix tabOk r05_Is_L2 (o := orT [] [] noFz) (orT_sound trivial) (allLp_of [] (by kernel_rfl) trivial rfl) (fun x v => ((x, (cu2 (v, (cu2 (cu8 (cu32 ())))))), ())) (fun x r => match r with | .inl a0 => .inl ((cu2 (a0, (cu (cu2 (cu8 (cu32 ())))))), ()) | .inr b0 => (.inr ((x, (cu (cu4 (cu8 (cu32 ()))))), ()))) (fun x v => r05_Is_L2_step x v) (fun x r => .sum r (fun a0 => .ret (.inl ((cu2 (a0, (cu (cu2 (cu8 (cu32 ())))))), ()))) (fun b0 => .ret (.inr ((x, (cu (cu4 (cu8 (cu32 ()))))), ())))) (fun z => z.1.1) (fun z => z.1.2.2.2.1) (fun _ => rfl) (fun _ => rfl) (fun x r Q h => match r, h with | .inl _, h => h | .inr b0, h => (h)) ?_
  intro x v; kernel_rfl

def r05_Is_T (x0 : Str) : Tree Bool :=
  .bnd (.loop (fun v => r05_Is_L2_step x0 v) 0) fun r1 =>
  .sum r1 (fun r2 =>
    .ret r2) (fun r3 =>
    .ret ((decide ((1 : Int) ≤ (x0.length : Int))) && (decide ((x0.length : Int) ≤ 16))))

def r05_Is_g : Sig := ⟨5, (.cons (.val false .str) .nil), .vals (.val false .bool), fun z => r05_Is_T z.1, false⟩

theorem r05_Is_ok : r05_Is_g.ok Tryd.prog := by
  refine Sig.lift mix tabOk nms _ Tryd.func5 (c := (bodyOf Tryd.f5)) (by kernel_rfl) (o := orT [] [r05_Is_L2] noFz) (orT_sound trivial) (allLp_of [nthC (loopsOf (bodyOf Tryd.f5)) 0] (by kernel_rfl) ⟨r05_Is_L2_ok, trivial⟩ (by kernel_rfl)) ?_
  intro z; kernel_rfl

def strings_Builder_copyCheck__T (x0 : List Int) : Tree (Unit × ((Unit × (Unit × Unit)) × ((List Int) × Unit))) :=
  .ret ((), (((), ((), ())), (x0, ())))

def strings_Builder_copyCheck__g : MSig := ⟨41, (.cons (.ref 0 0) .nil), (.cells 42 (.cons (.selfp 0) (.cons (.own 1) .nil)) (.rows 5 (.int .u8) .nil)), [], .nil, (.cells 42 (.cons (.selfp 0) (.cons (.own 1) .nil)) (.rows 5 (.int .u8) .nil)), none, fun z => strings_Builder_copyCheck__T z.2.2.1⟩

theorem strings_Builder_copyCheck__ok : strings_Builder_copyCheck__g.ok Tryd.prog := copyCheck_msig 42 (by kernel_rfl)

def strings_Builder_WriteByte__T (x0 : Int) (x1 : List Int) : Tree (Unit × ((Unit × (Unit × Unit)) × ((List Int) × Unit))) :=
  .bnd (strings_Builder_copyCheck__T x1) fun y1 =>
  ask (decide ((y1.2.2.1 ++ [x0]).length * 1 ≤ roomNat)) <|
  .ret ((), (((), ((), ())), ((y1.2.2.1 ++ [x0]), ())))

def strings_Builder_WriteByte__g : MSig := ⟨42, (.cons (.ref 0 0) (.cons (.val false (.int .u8)) .nil)), (.cells 42 (.cons (.selfp 0) (.cons (.own 1) .nil)) (.rows 5 (.int .u8) .nil)), [], .any, (.cells 42 (.cons (.selfp 0) (.cons (.own 1) .nil)) (.rows 5 (.int .u8) .nil)), some 1, fun z => strings_Builder_WriteByte__T z.1.2.1 z.2.2.1⟩

theorem strings_Builder_WriteByte__ok : strings_Builder_WriteByte__g.ok Tryd.prog := by
  refine MSig.lift mix tabOk nms _ Tryd.func42 (c := (bodyOf Tryd.f42)) (by kernel_rfl) (o := orM [] [strings_Builder_copyCheck__g] [] noFz) (orM_sound trivial ⟨strings_Builder_copyCheck__ok, trivial⟩) (allLp_ofM [] (by kernel_rfl) trivial rfl) (fun _ => rfl) ?_
  intro z; kernel_rfl

def octet_Writer_low__fz : Nat → List Pre
  | 4 => [.two]
  | _ => []

def octet_Writer_low__L2_step (n : Int) (k : Int) (rows : List Int) : Tree ((Int × (List Int)) ⊕ (List Int)) :=
  .ite (decide ((0 : Int) ≤ k)) (
    ask (decide ((0 : Int) ≤ (w64 ((8 : Int) * k)))) <|
    .bnd (strings_Builder_WriteByte__T (IntKind.wrap .u8 ((stdShift .shr .i64 n (w64 ((8 : Int) * k))))) rows) fun y1 =>
    .ret (.inl ((w64 (k - 1)), y1.2.2.1))) (
    .ret (.inr rows))

def octet_Writer_low__L2 : Lp := ⟨2, [], [], (.cons (.ref 0 0) (.cons (.val false (.int .i64)) (ca4 (.cons (.val false (.int .i64)) (ca (ca16 .nil)))))), (.cells 42 (.cons (.selfp 0) (.cons (.own 1) .nil)) (.rows 5 (.int .u8) .nil)), 2, .one 1 [] (ca8 (ca16 .nil)) (.cells 42 (.cons (.selfp 0) (.cons (.own 1) .nil)) (.rows 5 (.int .u8) .nil)), fun z => .bnd (.loop (fun v => octet_Writer_low__L2_step z.1.2.1 v.1 v.2) (z.1.2.2.2.2.2.2.1, z.2.2.1)) fun r => .ret ((cu8 (cu16 ())), (((), ((), ())), (r, ())))⟩

theorem octet_Writer_low__L2_ok : octet_Writer_low__L2.ok Tryd.prog (nthC (loopsOf (bodyOf Tryd.f25)) 0) := by
  refine Lp.lift (π := Int) (V := (Int × (List Int))) (ρ := List Int) mix tabOk octet_Writer_low__L2 (o := orM [] [strings_Builder_WriteByte__g] [] octet_Writer_low__fz) (orM_sound trivial ⟨strings_Builder_WriteByte__ok, trivial⟩) (allLp_ofM [] (by kernel_rfl) trivial rfl) (fun x v => (((), (x, (cu4 (v.1, (cu (cu16 ())))))), (((), ((), ())), (v.2, ())))) (fun x r => ((cu8 (cu16 ())), (((), ((), ())), (r, ())))) (fun x v => octet_Writer_low__L2_step x v.1 v.2) (fun x r => .ret ((cu8 (cu16 ())), (((), ((), ())), (r, ())))) (fun z => z.1.2.1) (fun z => (z.1.2.2.2.2.2.2.1, z.2.2.1)) (fun _ => rfl) (fun _ => rfl) (fun _ _ _ h => h) ?_
  intro x v; kernel_rfl

def octet_Writer_low__T (x0 : Int) (x1 : Int) (x2 : List Int) : Tree (Unit × ((Unit × (Unit × Unit)) × ((List Int) × Unit))) :=
  .ite false (
    .ret ((), (((), ((), ())), (x2, ())))) (
    .bnd (.loop (fun v => octet_Writer_low__L2_step x0 v.1 v.2) ((w64 (x1 - 1)), x2)) fun r1 =>
    .ret ((), (((), ((), ())), (r1, ()))))

def octet_Writer_low__g : MSig := ⟨25, (.cons (.ref 0 0) (.cons (.val false (.int .i64)) (.cons (.val false (.int .i64)) .nil))), (.cells 42 (.cons (.selfp 0) (.cons (.own 1) .nil)) (.rows 5 (.int .u8) .nil)), [], .nil, (.cells 42 (.cons (.selfp 0) (.cons (.own 1) .nil)) (.rows 5 (.int .u8) .nil)), some 1, fun z => octet_Writer_low__T z.1.2.1 z.1.2.2.1 z.2.2.1⟩

theorem octet_Writer_low__ok : octet_Writer_low__g.ok Tryd.prog := by
  refine MSig.lift mix tabOk nms _ Tryd.func25 (c := (bodyOf Tryd.f25)) (by kernel_rfl) (o := orM [] [strings_Builder_WriteByte__g] [octet_Writer_low__L2] octet_Writer_low__fz) (orM_sound trivial ⟨strings_Builder_WriteByte__ok, trivial⟩) (allLp_ofM [nthC (loopsOf (bodyOf Tryd.f25)) 0] (by kernel_rfl) ⟨octet_Writer_low__L2_ok, trivial⟩ (by kernel_rfl)) (fun _ => rfl) ?_
  intro z; kernel_rfl

def octet_Writer_Count__T (x0 : Int) (x1 : List Int) : Tree (Unit × ((Unit × (Unit × Unit)) × ((List Int) × Unit))) :=
  .bnd (octet_Writer_low__T x0 4 x1) fun y1 =>
  .ret ((), (((), ((), ())), (y1.2.2.1, ())))

def octet_Writer_Count__g : MSig := ⟨23, (.cons (.ref 0 0) (.cons (.val false (.int .i64)) .nil)), (.cells 42 (.cons (.selfp 0) (.cons (.own 1) .nil)) (.rows 5 (.int .u8) .nil)), [], .nil, (.cells 42 (.cons (.selfp 0) (.cons (.own 1) .nil)) (.rows 5 (.int .u8) .nil)), some 1, fun z => octet_Writer_Count__T z.1.2.1 z.2.2.1⟩

theorem octet_Writer_Count__ok : octet_Writer_Count__g.ok Tryd.prog := by
  refine MSig.lift mix tabOk nms _ Tryd.func23 (c := (bodyOf Tryd.f23)) (by kernel_rfl) (o := orM [] [octet_Writer_low__g] [] noFz) (orM_sound trivial ⟨octet_Writer_low__ok, trivial⟩) (allLp_ofM [] (by kernel_rfl) trivial rfl) (fun _ => rfl) ?_
  intro z; kernel_rfl

def strings_Builder_WriteString_T (x0 : Str) (x1 : List Int) : Tree ((Int × (Unit × Unit)) × ((Unit × (Unit × Unit)) × ((List Int) × Unit))) :=
  .bnd (strings_Builder_copyCheck__T x1) fun y1 =>
  ask (decide ((y1.2.2.1 ++ strI x0).length * 1 ≤ roomNat)) <|
  .ret (((x0.length : Int), ((), ())), (((), ((), ())), ((y1.2.2.1 ++ strI x0), ())))

def strings_Builder_WriteString_g : MSig := ⟨24, (.cons (.ref 0 0) (.cons (.val false .str) .nil)), (.cells 42 (.cons (.selfp 0) (.cons (.own 1) .nil)) (.rows 5 (.int .u8) .nil)), [], (.cons (.val false (.int .i64)) (ca .nil)), (.cells 42 (.cons (.selfp 0) (.cons (.own 1) .nil)) (.rows 5 (.int .u8) .nil)), some 1, fun z => strings_Builder_WriteString_T z.1.2.1 z.2.2.1⟩

theorem strings_Builder_WriteString_ok : strings_Builder_WriteString_g.ok Tryd.prog := by
  refine MSig.lift mix tabOk nms _ Tryd.func24 (c := (bodyOf Tryd.f24)) (by kernel_rfl) (o := orM [] [strings_Builder_copyCheck__g] [] noFz) (orM_sound trivial ⟨strings_Builder_copyCheck__ok, trivial⟩) (allLp_ofM [] (by kernel_rfl) trivial rfl) (fun _ => rfl) ?_
  intro z; kernel_rfl

def octet_Writer_Text_T (x0 : Str) (x1 : List Int) : Tree (Unit × ((Unit × (Unit × Unit)) × ((List Int) × Unit))) :=
  .bnd (octet_Writer_Count__T (x0.length : Int) x1) fun y1 =>
  .ite true (
    .bnd (strings_Builder_WriteString_T x0 y1.2.2.1) fun y2 =>
    .ret ((), (((), ((), ())), (y2.2.2.1, ())))) (
    .ret ((), (((), ((), ())), (y1.2.2.1, ()))))

def octet_Writer_Text_g : MSig := ⟨11, (.cons (.ref 0 0) (.cons (.val false .str) .nil)), (.cells 42 (.cons (.selfp 0) (.cons (.own 1) .nil)) (.rows 5 (.int .u8) .nil)), [], .nil, (.cells 42 (.cons (.selfp 0) (.cons (.own 1) .nil)) (.rows 5 (.int .u8) .nil)), some 1, fun z => octet_Writer_Text_T z.1.2.1 z.2.2.1⟩

theorem octet_Writer_Text_ok : octet_Writer_Text_g.ok Tryd.prog := by
  refine MSig.lift mix tabOk nms _ Tryd.func11 (c := (bodyOf Tryd.f11)) (by kernel_rfl) (o := orM [] [octet_Writer_Count__g, strings_Builder_WriteString_g] [] noFz) (orM_sound trivial ⟨octet_Writer_Count__ok, ⟨strings_Builder_WriteString_ok, trivial⟩⟩) (allLp_ofM [] (by kernel_rfl) trivial rfl) (fun _ => rfl) ?_
  intro z; kernel_rfl

def octet_Writer_Int__T (x0 : Int) (x1 : List Int) : Tree (Unit × ((Unit × (Unit × Unit)) × ((List Int) × Unit))) :=
  .bnd (octet_Writer_low__T x0 8 x1) fun y1 =>
  .ret ((), (((), ((), ())), (y1.2.2.1, ())))

def octet_Writer_Int__g : MSig := ⟨12, (.cons (.ref 0 0) (.cons (.val false (.int .i64)) .nil)), (.cells 42 (.cons (.selfp 0) (.cons (.own 1) .nil)) (.rows 5 (.int .u8) .nil)), [], .nil, (.cells 42 (.cons (.selfp 0) (.cons (.own 1) .nil)) (.rows 5 (.int .u8) .nil)), some 1, fun z => octet_Writer_Int__T z.1.2.1 z.2.2.1⟩

theorem octet_Writer_Int__ok : octet_Writer_Int__g.ok Tryd.prog := by
  refine MSig.lift mix tabOk nms _ Tryd.func12 (c := (bodyOf Tryd.f12)) (by kernel_rfl) (o := orM [] [octet_Writer_low__g] [] noFz) (orM_sound trivial ⟨octet_Writer_low__ok, trivial⟩) (allLp_ofM [] (by kernel_rfl) trivial rfl) (fun _ => rfl) ?_
  intro z; kernel_rfl

def strings_Builder_String__T (x0 : List Int) : Tree (Str × ((Unit × (Unit × Unit)) × ((List Int) × Unit))) :=
  ask (decide (0 < x0.length)) <|
  .ret (strB x0, (((), ((), ())), (x0, ())))

def strings_Builder_String__g : MSig := ⟨26, (.cons (.ref 0 0) .nil), (.cells 42 (.cons (.selfp 0) (.cons (.own 1) .nil)) (.rows 5 (.int .u8) .nil)), [], .val false .str, (.cells 42 (.cons (.selfp 0) (.cons (.own 1) .nil)) (.fro 5 (.int .u8) .nil)), none, fun z => strings_Builder_String__T z.2.2.1⟩

theorem strings_Builder_String__ok : strings_Builder_String__g.ok Tryd.prog := builder_String_msigF 42

def octet_Writer_Bytes__T (x0 : List Int) : Tree (Str × ((Unit × (Unit × Unit)) × ((List Int) × Unit))) :=
  .ite false (
    .fail) (
    .bnd (strings_Builder_String__T x0) fun y1 =>
    .ret (y1.1, (((), ((), ())), (y1.2.2.1, ()))))

def octet_Writer_Bytes__g : MSig := ⟨13, (.cons (.ref 0 0) .nil), (.cells 42 (.cons (.selfp 0) (.cons (.own 1) .nil)) (.rows 5 (.int .u8) .nil)), [], (.val false .str), (.cells 42 (.cons (.selfp 0) (.cons (.own 1) .nil)) (.fro 5 (.int .u8) .nil)), some 1, fun z => octet_Writer_Bytes__T z.2.2.1⟩

theorem octet_Writer_Bytes__ok : octet_Writer_Bytes__g.ok Tryd.prog := by
  refine MSig.lift mix tabOk nms _ Tryd.func13 (c := (bodyOf Tryd.f13)) (by kernel_rfl) (o := orM [] [strings_Builder_String__g] [] noFz) (orM_sound trivial ⟨strings_Builder_String__ok, trivial⟩) (allLp_ofM [] (by kernel_rfl) trivial rfl) (fun _ => rfl) ?_
  intro z; kernel_rfl

def strings_Builder_String___T (x0 : List Int) : Tree (Str × ((Unit × (Unit × Unit)) × ((List Int) × Unit))) :=
  ask (decide (0 < x0.length)) <|
  .ret (strB x0, (((), ((), ())), (x0, ())))

def strings_Builder_String___g : MSig := ⟨26, (.cons (.ref 0 0) .nil), (.cells 42 (.cons (.selfp 0) (.cons (.own 1) .nil)) (.fro 5 (.int .u8) .nil)), [], .val false .str, (.cells 42 (.cons (.selfp 0) (.cons (.own 1) .nil)) (.fro 5 (.int .u8) .nil)), none, fun z => strings_Builder_String___T z.2.2.1⟩

theorem strings_Builder_String___ok : strings_Builder_String___g.ok Tryd.prog := builder_String_msigG 42

def octet_Writer_Bytes___T (x0 : List Int) : Tree (Str × ((Unit × (Unit × Unit)) × ((List Int) × Unit))) :=
  .ite false (
    .ret (([] : Str), (((), ((), ())), (x0, ())))) (
    .bnd (strings_Builder_String___T x0) fun y1 =>
    .ret (y1.1, (((), ((), ())), (y1.2.2.1, ()))))

def octet_Writer_Bytes___g : MSig := ⟨13, (.cons (.ref 0 0) .nil), (.cells 42 (.cons (.selfp 0) (.cons (.own 1) .nil)) (.fro 5 (.int .u8) .nil)), [], (.val false .str), (.cells 42 (.cons (.selfp 0) (.cons (.own 1) .nil)) (.fro 5 (.int .u8) .nil)), some 1, fun z => octet_Writer_Bytes___T z.2.2.1⟩

theorem octet_Writer_Bytes___ok : octet_Writer_Bytes___g.ok Tryd.prog := by
  refine MSig.lift mix tabOk nms _ Tryd.func13 (c := (bodyOf Tryd.f13)) (by kernel_rfl) (o := orM [] [strings_Builder_String___g] [] noFz) (orM_sound trivial ⟨strings_Builder_String___ok, trivial⟩) (allLp_ofM [] (by kernel_rfl) trivial rfl) (fun _ => rfl) ?_
  intro z; kernel_rfl

def token_Make_fz : Nat → List Pre
  | 2 => [.ownC 0 1 5 (.int .u8)]
  | _ => []

def token_Make_T (x0 : Str) (x1 : Str) (x2 : Str) (x3 : Int) : Tree Str :=
  .bnd (octet_Writer_Text_T x1 ([] : List Int)) fun y1 =>
  .bnd (octet_Writer_Text_T x2 y1.2.2.1) fun y2 =>
  .bnd (octet_Writer_Int__T x3 y2.2.2.1) fun y3 =>
  .bnd (octet_Writer_Bytes__T y3.2.2.1) fun y4 =>
  .bnd (octet_Writer_Bytes___T y4.2.2.1) fun y5 =>
  .bnd (mac_Sum_T x0 y5.1) fun y6 =>
  ask (decide (y4.1.length + y6.length ≤ 9223372036854775807)) <|
  .ret (y4.1 ++ y6)

def token_Make_g : Sig := ⟨7, (.cons (.val false .str) (.cons (.val false .str) (.cons (.val false .str) (.cons (.val false (.int .i64)) .nil)))), .vals (.val false .str), fun z => token_Make_T z.1 z.2.1 z.2.2.1 z.2.2.2.1, ([] : Str)⟩

theorem token_Make_ok : token_Make_g.ok Tryd.prog := by
  refine Sig.lift mix tabOk nms _ Tryd.func7 (c := (bodyOf Tryd.f7)) (by kernel_rfl) (o := orM [mac_Sum_g] [octet_Writer_Text_g, octet_Writer_Int__g, octet_Writer_Bytes__g, octet_Writer_Bytes___g] [] token_Make_fz) (orM_sound ⟨mac_Sum_ok, trivial⟩ ⟨octet_Writer_Text_ok, ⟨octet_Writer_Int__ok, ⟨octet_Writer_Bytes__ok, ⟨octet_Writer_Bytes___ok, trivial⟩⟩⟩⟩) (allLp_ofM [] (by kernel_rfl) trivial rfl) ?_
  intro z; kernel_rfl

def r23_Key_T (x0 : Str) (x1 : Str) : Tree Str :=
  ask (decide (([116, 101, 110, 97, 110, 116, 47] : Str).length + x0.length ≤ 9223372036854775807)) <|
  ask (decide ((([116, 101, 110, 97, 110, 116, 47] : Str) ++ x0).length + ([47] : Str).length ≤ 9223372036854775807)) <|
  ask (decide (((([116, 101, 110, 97, 110, 116, 47] : Str) ++ x0) ++ ([47] : Str)).length + x1.length ≤ 9223372036854775807)) <|
  .ret (((([116, 101, 110, 97, 110, 116, 47] : Str) ++ x0) ++ ([47] : Str)) ++ x1)

def r23_Key_g : Sig := ⟨18, (.cons (.val false .str) (.cons (.val false .str) .nil)), .vals (.val false .str), fun z => r23_Key_T z.1 z.2.1, ([] : Str)⟩

theorem r23_Key_ok : r23_Key_g.ok Tryd.prog := by
  refine Sig.lift mix tabOk nms _ Tryd.func18 (c := (bodyOf Tryd.f18)) (by kernel_rfl) (o := orT [] [] noFz) (orT_sound trivial) (allLp_of [] (by kernel_rfl) trivial rfl) ?_
  intro z; kernel_rfl

def l24_known_T (x0 : Str) (x1 : Str) : Tree (List Entry) :=
  .bnd (r23_Key_T x0 ([115, 101, 99, 114, 101, 116] : Str)) fun y1 =>
  .ret [(y1, (1, ([], x1)))]

def l24_known_g : Sig := ⟨9, (.cons (.val false .str) (.cons (.val false .str) .nil)), .vals (.val false (.list tEntry)), fun z => l24_known_T z.1 z.2.1, ([] : List Entry)⟩

theorem l24_known_ok : l24_known_g.ok Tryd.prog := by
  refine Sig.lift mix tabOk nms _ Tryd.func9 (c := (bodyOf Tryd.f9)) (by kernel_rfl) (o := orT [r23_Key_g] [] noFz) (orT_sound ⟨r23_Key_ok, trivial⟩) (allLp_of [] (by kernel_rfl) trivial rfl) ?_
  intro z; kernel_rfl

def l24_awake_T  : Tree Bool :=
  .bnd (token_Make_T ([107, 101, 121] : Str) ([116] : Str) ([97, 110, 110] : Str) 5) fun y1 =>
  .bnd (token_Read_T y1) fun y2 =>
  .bnd (l24_known_T ([116] : Str) ([107, 101, 121] : Str)) fun y3 =>
  .bnd (token_Check_T y3 y1 5) fun y4 =>
  .bnd (l24_known_T ([116] : Str) ([107, 101, 121] : Str)) fun y5 =>
  .bnd (token_Check_T y5 y1 6) fun y6 =>
  .bnd (l24_known_T ([116] : Str) ([111, 116, 104, 101, 114] : Str)) fun y7 =>
  .bnd (token_Check_T y7 y1 5) fun y8 =>
  .ret (((((((((y2.1 == ([116] : Str)) && (y2.2.1 == ([97, 110, 110] : Str))) && (decide (y2.2.2.1 = 5))) && y2.2.2.2.1) && (y4.1 == ([116] : Str))) && (y4.2.1 == ([97, 110, 110] : Str))) && (decide (y4.2.2.1 = 0))) && (decide (y6.2.2.1 = 7))) && (decide (y8.2.2.1 = 7)))

def l24_awake_g : Sig := ⟨6, .nil, .vals (.val false .bool), fun z => l24_awake_T, false⟩

theorem l24_awake_ok : l24_awake_g.ok Tryd.prog := by
  refine Sig.lift mix tabOk nms _ Tryd.func6 (c := (bodyOf Tryd.f6)) (by kernel_rfl) (o := orT [token_Make_g, token_Read_g, l24_known_g, token_Check_g] [] noFz) (orT_sound ⟨token_Make_ok, ⟨token_Read_ok, ⟨l24_known_ok, ⟨token_Check_ok, trivial⟩⟩⟩⟩) (allLp_of [] (by kernel_rfl) trivial rfl) ?_
  intro z; kernel_rfl

def l24_TokenGood_T (x0 : (Str × (Str × Str))) (x1 : Int) (x2 : Int) : Tree Bool :=
  ask (inb 0 3) <|
  .bnd (r05_Is_T x0.1) fun y1 =>
  ask ((!(!(!y1))) || inb 1 3) <|
  .grd (!(!y1)) (r05_Is_T x0.2.1) false fun y2 =>
  ask ((!(!((!y1) || (!y2)))) || inb 2 3) <|
  ask ((!(!(((!y1) || (!y2)) || (decide ((x0.2.2.length : Int) < 1))))) || inb 2 3) <|
  .ite ((((!y1) || (!y2)) || (decide ((x0.2.2.length : Int) < 1))) || (decide ((64 : Int) < (x0.2.2.length : Int)))) (
    .bnd l24_awake_T fun y3 =>
    .ret y3) (
    ask (inb 2 3) <|
    ask (inb 0 3) <|
    ask (inb 1 3) <|
    .bnd (token_Make_T x0.2.2 x0.1 x0.2.1 x1) fun y4 =>
    ask (inb 0 3) <|
    ask (inb 2 3) <|
    .bnd (l24_known_T x0.1 x0.2.2) fun y5 =>
    .bnd (token_Check_T y5 y4 x2) fun y6 =>
    .ite (decide (x1 < x2)) (
      .grd (((decide (y6.2.2.1 = 7)) && (y6.1 == ([] : Str))) && (y6.2.1 == ([] : Str))) l24_awake_T false fun y7 =>
      .ret ((((decide (y6.2.2.1 = 7)) && (y6.1 == ([] : Str))) && (y6.2.1 == ([] : Str))) && y7)) (
      .bnd (token_Check_T [] y4 x2) fun y8 =>
      ask ((!(decide (y6.2.2.1 = 0))) || inb 0 3) <|
      ask ((!((decide (y6.2.2.1 = 0)) && (y6.1 == x0.1))) || inb 1 3) <|
      .grd ((((decide (y6.2.2.1 = 0)) && (y6.1 == x0.1)) && (y6.2.1 == x0.2.1)) && (decide (y8.2.2.1 = 7))) l24_awake_T false fun y9 =>
      .ret (((((decide (y6.2.2.1 = 0)) && (y6.1 == x0.1)) && (y6.2.1 == x0.2.1)) && (decide (y8.2.2.1 = 7))) && y9)))

def l24_TokenGood_g : Sig := ⟨3, (.cons (.val true (.pair .str (.pair .str .str))) (.cons (.val false (.int .i64)) (.cons (.val false (.int .i64)) .nil))), .vals (.val false .bool), fun z => l24_TokenGood_T z.1 z.2.1 z.2.2.1, false⟩

theorem l24_TokenGood_ok : l24_TokenGood_g.ok Tryd.prog := by
  refine Sig.lift mix tabOk nms _ Tryd.func3 (c := (bodyOf Tryd.f3)) (by kernel_rfl) (o := orT [r05_Is_g, l24_awake_g, token_Make_g, l24_known_g, token_Check_g] [] noFz) (orT_sound ⟨r05_Is_ok, ⟨l24_awake_ok, ⟨token_Make_ok, ⟨l24_known_ok, ⟨token_Check_ok, trivial⟩⟩⟩⟩⟩) (allLp_of [] (by kernel_rfl) trivial rfl) ?_
  intro z; kernel_rfl

def l24_TokenChanged_T (x0 : (Str × (Str × Str))) (x1 : Int) (x2 : Int) : Tree Bool :=
  ask (inb 0 3) <|
  .bnd (r05_Is_T x0.1) fun y1 =>
  ask ((!(!(!y1))) || inb 1 3) <|
  .grd (!(!y1)) (r05_Is_T x0.2.1) false fun y2 =>
  ask ((!(!((!y1) || (!y2)))) || inb 2 3) <|
  ask ((!(!(((!y1) || (!y2)) || (decide ((x0.2.2.length : Int) < 1))))) || inb 2 3) <|
  .ite ((((!y1) || (!y2)) || (decide ((x0.2.2.length : Int) < 1))) || (decide ((64 : Int) < (x0.2.2.length : Int)))) (
    .bnd l24_awake_T fun y3 =>
    .ret y3) (
    ask (inb 2 3) <|
    ask (inb 0 3) <|
    ask (inb 1 3) <|
    .bnd (token_Make_T x0.2.2 x0.1 x0.2.1 9) fun y4 =>
    .ite (decide ((y4.length : Int) < 33)) (
      .ret false) (
      ask (inb (w64 ((w64 (((strI y4).length : Int) - 1)) - (w64 ((stdArith .and .u8 x1 31))))) (strI y4).length) <|
      ask (inb (w64 ((w64 (((strI y4).length : Int) - 1)) - (w64 ((stdArith .and .u8 x1 31))))) (strI y4).length) <|
      ask (inb 0 3) <|
      ask (inb 2 3) <|
      .bnd (l24_known_T x0.1 x0.2.2) fun y5 =>
      .bnd (token_Check_T y5 (strB ((strI y4).set ((w64 ((w64 (((strI y4).length : Int) - 1)) - (w64 ((stdArith .and .u8 x1 31))))).toNat) (stdArith .xor .u8 ((strI y4).getD ((w64 ((w64 (((strI y4).length : Int) - 1)) - (w64 ((stdArith .and .u8 x1 31))))).toNat) (0 : Int)) x2))) 9) fun y6 =>
      ask (inb 0 3) <|
      ask (inb 2 3) <|
      .bnd (l24_known_T x0.1 x0.2.2) fun y7 =>
      ask (inbe 31 y4.length) <|
      .bnd (token_Check_T y7 (subS y4 0 (31 : Int).toNat) 9) fun y8 =>
      .grd (((decide (y6.2.2.1 = 0)) == (decide (x2 = 0))) && (decide (y8.2.2.1 = 7))) l24_awake_T false fun y9 =>
      .ret ((((decide (y6.2.2.1 = 0)) == (decide (x2 = 0))) && (decide (y8.2.2.1 = 7))) && y9)))

def l24_TokenChanged_g : Sig := ⟨4, (.cons (.val true (.pair .str (.pair .str .str))) (.cons (.val false (.int .u8)) (.cons (.val false (.int .u8)) .nil))), .vals (.val false .bool), fun z => l24_TokenChanged_T z.1 z.2.1 z.2.2.1, false⟩

theorem l24_TokenChanged_ok : l24_TokenChanged_g.ok Tryd.prog := by
  refine Sig.lift mix tabOk nms _ Tryd.func4 (c := (bodyOf Tryd.f4)) (by kernel_rfl) (o := orT [r05_Is_g, l24_awake_g, token_Make_g, l24_known_g, token_Check_g] [] noFz) (orT_sound ⟨r05_Is_ok, ⟨l24_awake_ok, ⟨token_Make_ok, ⟨l24_known_ok, ⟨token_Check_ok, trivial⟩⟩⟩⟩⟩) (allLp_of [] (by kernel_rfl) trivial rfl) ?_
  intro z; kernel_rfl

end Go.Eng
