/- Lifted: 111 functions, part 1. -/
import Derived.Test.YteoafkipoapjlaaGreatDoorTrG
import Derived.Test.YteoafkipoapjlaaGreatDoorTrF
import Derived.Test.YteoafkipoapjlaaGreatDoorEngT
import Derived.Test.YteoafkipoapjlaaGreatDoorGlb
import Derived.Test.YteoafkipoapjlaaGreatDoorShf
import Derived.Test.YteoafkipoapjlaaGreatDoorTrL
import Derived.Test.YteoafkipoapjlaaGreatDoorTrW
namespace Go.Eng
open Go Go.Proofs
set_option maxRecDepth 100000
abbrev Seen : Type := (Str × (Int × List Int))
abbrev tSeen : Ty := (.pair .str (.pair (.int .i64) (.list (.int .i64))))

abbrev Call : Type := (Int × (Str × (Str × (Str × (Str × (List Seen × Int))))))
abbrev tCall : Ty := (.pair (.int .i64) (.pair .str (.pair .str (.pair .str (.pair .str (.pair (.list tSeen) (.int .i64)))))))

abbrev Reg : Type := (Int × (Str × Str))
abbrev tReg : Ty := (.pair (.int .i64) (.pair .str .str))

abbrev Entry : Type := (Str × Reg)
abbrev tEntry : Ty := (.pair .str tReg)

abbrev R01_Reader : Type := (Str × Bool)
abbrev tR01_Reader : Ty := (.pair .str .bool)

abbrev Tenant_bound : Type := (Int × Int)
abbrev tTenant_bound : Ty := (.pair (.int .i64) (.int .i64))

abbrev Tenant : Type := (Str × (Str × (Int × (Int × Tenant_bound))))
abbrev tTenant : Ty := (.pair .str (.pair .str (.pair (.int .i64) (.pair (.int .i64) tTenant_bound))))

abbrev A24u8 : Type := (Int × (Int × (Int × (Int × (Int × (Int × (Int × (Int × (Int × (Int × (Int × (Int × (Int × (Int × (Int × (Int × (Int × (Int × (Int × (Int × (Int × (Int × (Int × Int)))))))))))))))))))))))
abbrev tA24u8 : Ty := (.pair (.int .u8) (.pair (.int .u8) (.pair (.int .u8) (.pair (.int .u8) (.pair (.int .u8) (.pair (.int .u8) (.pair (.int .u8) (.pair (.int .u8) (.pair (.int .u8) (.pair (.int .u8) (.pair (.int .u8) (.pair (.int .u8) (.pair (.int .u8) (.pair (.int .u8) (.pair (.int .u8) (.pair (.int .u8) (.pair (.int .u8) (.pair (.int .u8) (.pair (.int .u8) (.pair (.int .u8) (.pair (.int .u8) (.pair (.int .u8) (.pair (.int .u8) (.int .u8))))))))))))))))))))))))

abbrev A32u8 : Type := (Int × (Int × (Int × (Int × (Int × (Int × (Int × (Int × A24u8))))))))
abbrev tA32u8 : Ty := (.pair (.int .u8) (.pair (.int .u8) (.pair (.int .u8) (.pair (.int .u8) (.pair (.int .u8) (.pair (.int .u8) (.pair (.int .u8) (.pair (.int .u8) tA24u8))))))))

abbrev A64u8 : Type := (Int × (Int × (Int × (Int × (Int × (Int × (Int × (Int × (Int × (Int × (Int × (Int × (Int × (Int × (Int × (Int × (Int × (Int × (Int × (Int × (Int × (Int × (Int × (Int × (Int × (Int × (Int × (Int × (Int × (Int × (Int × (Int × A32u8))))))))))))))))))))))))))))))))
abbrev tA64u8 : Ty := (.pair (.int .u8) (.pair (.int .u8) (.pair (.int .u8) (.pair (.int .u8) (.pair (.int .u8) (.pair (.int .u8) (.pair (.int .u8) (.pair (.int .u8) (.pair (.int .u8) (.pair (.int .u8) (.pair (.int .u8) (.pair (.int .u8) (.pair (.int .u8) (.pair (.int .u8) (.pair (.int .u8) (.pair (.int .u8) (.pair (.int .u8) (.pair (.int .u8) (.pair (.int .u8) (.pair (.int .u8) (.pair (.int .u8) (.pair (.int .u8) (.pair (.int .u8) (.pair (.int .u8) (.pair (.int .u8) (.pair (.int .u8) (.pair (.int .u8) (.pair (.int .u8) (.pair (.int .u8) (.pair (.int .u8) (.pair (.int .u8) (.pair (.int .u8) tA32u8))))))))))))))))))))))))))))))))

abbrev A64i64 : Type := (Int × (Int × (Int × (Int × (Int × (Int × (Int × (Int × (Int × (Int × (Int × (Int × (Int × (Int × (Int × (Int × (Int × (Int × (Int × (Int × (Int × (Int × (Int × (Int × (Int × (Int × (Int × (Int × (Int × (Int × (Int × (Int × (Int × (Int × (Int × (Int × (Int × (Int × (Int × (Int × (Int × (Int × (Int × (Int × (Int × (Int × (Int × (Int × (Int × (Int × (Int × (Int × (Int × (Int × (Int × (Int × (Int × (Int × (Int × (Int × (Int × (Int × Tenant_bound))))))))))))))))))))))))))))))))))))))))))))))))))))))))))))))
abbrev tA64i64 : Ty := (.pair (.int .i64) (.pair (.int .i64) (.pair (.int .i64) (.pair (.int .i64) (.pair (.int .i64) (.pair (.int .i64) (.pair (.int .i64) (.pair (.int .i64) (.pair (.int .i64) (.pair (.int .i64) (.pair (.int .i64) (.pair (.int .i64) (.pair (.int .i64) (.pair (.int .i64) (.pair (.int .i64) (.pair (.int .i64) (.pair (.int .i64) (.pair (.int .i64) (.pair (.int .i64) (.pair (.int .i64) (.pair (.int .i64) (.pair (.int .i64) (.pair (.int .i64) (.pair (.int .i64) (.pair (.int .i64) (.pair (.int .i64) (.pair (.int .i64) (.pair (.int .i64) (.pair (.int .i64) (.pair (.int .i64) (.pair (.int .i64) (.pair (.int .i64) (.pair (.int .i64) (.pair (.int .i64) (.pair (.int .i64) (.pair (.int .i64) (.pair (.int .i64) (.pair (.int .i64) (.pair (.int .i64) (.pair (.int .i64) (.pair (.int .i64) (.pair (.int .i64) (.pair (.int .i64) (.pair (.int .i64) (.pair (.int .i64) (.pair (.int .i64) (.pair (.int .i64) (.pair (.int .i64) (.pair (.int .i64) (.pair (.int .i64) (.pair (.int .i64) (.pair (.int .i64) (.pair (.int .i64) (.pair (.int .i64) (.pair (.int .i64) (.pair (.int .i64) (.pair (.int .i64) (.pair (.int .i64) (.pair (.int .i64) (.pair (.int .i64) (.pair (.int .i64) (.pair (.int .i64) tTenant_bound))))))))))))))))))))))))))))))))))))))))))))))))))))))))))))))

abbrev A64u32 : Type := (Int × (Int × (Int × (Int × (Int × (Int × (Int × (Int × (Int × (Int × (Int × (Int × (Int × (Int × (Int × (Int × (Int × (Int × (Int × (Int × (Int × (Int × (Int × (Int × (Int × (Int × (Int × (Int × (Int × (Int × (Int × (Int × (Int × (Int × (Int × (Int × (Int × (Int × (Int × (Int × (Int × (Int × (Int × (Int × (Int × (Int × (Int × (Int × (Int × (Int × (Int × (Int × (Int × (Int × (Int × (Int × (Int × (Int × (Int × (Int × (Int × (Int × (Int × Int)))))))))))))))))))))))))))))))))))))))))))))))))))))))))))))))
abbrev tA64u32 : Ty := (.pair (.int .u32) (.pair (.int .u32) (.pair (.int .u32) (.pair (.int .u32) (.pair (.int .u32) (.pair (.int .u32) (.pair (.int .u32) (.pair (.int .u32) (.pair (.int .u32) (.pair (.int .u32) (.pair (.int .u32) (.pair (.int .u32) (.pair (.int .u32) (.pair (.int .u32) (.pair (.int .u32) (.pair (.int .u32) (.pair (.int .u32) (.pair (.int .u32) (.pair (.int .u32) (.pair (.int .u32) (.pair (.int .u32) (.pair (.int .u32) (.pair (.int .u32) (.pair (.int .u32) (.pair (.int .u32) (.pair (.int .u32) (.pair (.int .u32) (.pair (.int .u32) (.pair (.int .u32) (.pair (.int .u32) (.pair (.int .u32) (.pair (.int .u32) (.pair (.int .u32) (.pair (.int .u32) (.pair (.int .u32) (.pair (.int .u32) (.pair (.int .u32) (.pair (.int .u32) (.pair (.int .u32) (.pair (.int .u32) (.pair (.int .u32) (.pair (.int .u32) (.pair (.int .u32) (.pair (.int .u32) (.pair (.int .u32) (.pair (.int .u32) (.pair (.int .u32) (.pair (.int .u32) (.pair (.int .u32) (.pair (.int .u32) (.pair (.int .u32) (.pair (.int .u32) (.pair (.int .u32) (.pair (.int .u32) (.pair (.int .u32) (.pair (.int .u32) (.pair (.int .u32) (.pair (.int .u32) (.pair (.int .u32) (.pair (.int .u32) (.pair (.int .u32) (.pair (.int .u32) (.pair (.int .u32) (.int .u32))))))))))))))))))))))))))))))))))))))))))))))))))))))))))))))))

def octet_New_T (x0 : Str) : Tree (Unit × ((R01_Reader × Unit) × Unit)) :=
 .ret ((), (((x0, true), ()), ()))

def octet_New_g : MSig := ⟨62, (.cons (.val false .str) .nil), .nil, [], (.ref 0 0), (.cells 95 (.cons (.flat tR01_Reader) .nil) .nil), none, fun z => octet_New_T z.1.1⟩

theorem octet_New_ok : octet_New_g.ok Tryz.prog := by
  refine MSig.lift mix tabOk nms _ Tryz.func62 (c := (bodyOf Tryz.f62)) (by kernel_rfl) (o := orT [] [] noFz) (orT_sound trivial) (allLp_of [] (by kernel_rfl) trivial rfl) (fun _ => rfl) ?_
  intro z; kernel_rfl

def octet_Reader_spoil_T (x0 : R01_Reader) : Tree (Unit × ((R01_Reader × Unit) × Unit)) :=
 .ite true (
 .ret ((), (((x0.1, false), ()), ()))) (
 .ret ((), ((x0, ()), ())))

def octet_Reader_spoil_g : MSig := ⟨101, (.cons (.ref 0 0) .nil), (.cells 95 (.cons (.flat tR01_Reader) .nil) .nil), [], .nil, (.cells 95 (.cons (.flat tR01_Reader) .nil) .nil), none, fun z => octet_Reader_spoil_T z.2.1.1⟩

theorem octet_Reader_spoil_ok : octet_Reader_spoil_g.ok Tryz.prog := by
  refine MSig.lift mix tabOk nms _ Tryz.func101 (c := (bodyOf Tryz.f101)) (by kernel_rfl) (o := orT [] [] noFz) (orT_sound trivial) (allLp_of [] (by kernel_rfl) trivial rfl) (fun _ => rfl) ?_
  intro z; kernel_rfl

def octet_Reader_take_T (x0 : Int) (x1 : R01_Reader) : Tree (Str × ((R01_Reader × Unit) × Unit)) :=
 .ite ((false || (!x1.2)) || (decide ((x1.1.length : Int) < x0))) (
 .bnd (octet_Reader_spoil_T x1) fun y1 =>
 .ret (([] : Str), ((y1.2.1.1, ()), ()))) (
 ask (inbe x0 x1.1.length) <|
 ask (inbe x0 x1.1.length) <|
 .ret ((subS x1.1 0 x0.toNat), ((((subS x1.1 x0.toNat x1.1.length), x1.2), ()), ())))

def octet_Reader_take_g : MSig := ⟨85, (.cons (.ref 0 0) (.cons (.val false (.int .i64)) .nil)), (.cells 95 (.cons (.flat tR01_Reader) .nil) .nil), [], (.val false .str), (.cells 95 (.cons (.flat tR01_Reader) .nil) .nil), none, fun z => octet_Reader_take_T z.1.2.1 z.2.1.1⟩

theorem octet_Reader_take_ok : octet_Reader_take_g.ok Tryz.prog := by
  refine MSig.lift mix tabOk nms _ Tryz.func85 (c := (bodyOf Tryz.f85)) (by kernel_rfl) (o := orM [] [octet_Reader_spoil_g] [] noFz) (orM_sound trivial ⟨octet_Reader_spoil_ok, trivial⟩) (allLp_ofM [] (by kernel_rfl) trivial rfl) (fun _ => rfl) ?_
  intro z; kernel_rfl

def octet_Reader_number_L3_step (t : Int) (r : R01_Reader) (rows : List Int) (n : Int) (t2 : Int) : Tree ((Int × Int) ⊕ Int) :=
 .ite (decide (t2 < t)) (
 ask (inb t2 rows.length) <|
 ask (decide ((0 : Int) ≤ 8)) <|
 .ret (.inl ((stdArith .or .i64 (stdShift .shl .i64 n 8) (w64 ((rows.getD t2.toNat (0 : Int))))), (w64 (t2 + 1))))) (
 .ret (.inr n))

def octet_Reader_number_L3 : Lp := ⟨3, [], [], (ca (ca4 (.cons (.val false (.int .i64)) (ca (ca4 (.cons (.own 1) (.cons (.val false (.int .i64)) (.cons (.val false (.int .i64)) (ca2 (ca8 .nil)))))))))), (.cells 95 (.cons (.flat tR01_Reader) .nil) (.rows 5 (.int .u8) .nil)), 1, .one 1 [] (ca (ca4 (.cons (.val false (.int .i64)) (ca2 (ca16 .nil))))) (.cells 95 (.cons (.flat tR01_Reader) .nil) .nil), fun z => .bnd (.loop (fun v => octet_Reader_number_L3_step z.1.2.2.2.2.2.2.2.2.2.2.2.2.1 z.2.1.1 z.2.2.1 v.1 v.2) (z.1.2.2.2.2.2.1, z.1.2.2.2.2.2.2.2.2.2.2.2.2.2.1)) fun r => .ret ((cu (cu4 (r, (cu2 (cu16 ()))))), ((z.2.1.1, ()), ()))⟩

theorem octet_Reader_number_L3_ok : octet_Reader_number_L3.ok Tryz.prog (nthC (loopsOf (bodyOf Tryz.f87)) 0) := by
  refine Lp.lift (π := (Int × R01_Reader × (List Int))) (V := (Int × Int)) (ρ := Int) mix tabOk octet_Reader_number_L3 (o := orM [] [octet_Reader_take_g] [] noFz) (orM_sound trivial ⟨octet_Reader_take_ok, trivial⟩) (allLp_ofM [] (by kernel_rfl) trivial rfl) (fun x v => ((cu (cu4 (v.1, (cu (cu4 ((), (x.1, (v.2, (cu2 (cu8 ())))))))))), ((x.2.1, ()), (x.2.2, ())))) (fun x r => ((cu (cu4 (r, (cu2 (cu16 ()))))), ((x.2.1, ()), ()))) (fun x v => octet_Reader_number_L3_step x.1 x.2.1 x.2.2 v.1 v.2) (fun x r => .ret ((cu (cu4 (r, (cu2 (cu16 ()))))), ((x.2.1, ()), ()))) (fun z => (z.1.2.2.2.2.2.2.2.2.2.2.2.2.1, z.2.1.1, z.2.2.1)) (fun z => (z.1.2.2.2.2.2.1, z.1.2.2.2.2.2.2.2.2.2.2.2.2.2.1)) (fun _ => rfl) (fun _ => rfl) (fun _ _ _ h => h) ?_
  intro x v; kernel_rfl

def octet_Reader_number_T (x0 : Int) (x1 : R01_Reader) : Tree (Int × ((R01_Reader × Unit) × Unit)) :=
 .bnd (octet_Reader_take_T x0 x1) fun y1 =>
 .bnd (.loop (fun v => octet_Reader_number_L3_step ((strI y1.1).length : Int) y1.2.1.1 (strI y1.1) v.1 v.2) (0, 0)) fun r2 =>
 .ret (r2, ((y1.2.1.1, ()), ()))

def octet_Reader_number_g : MSig := ⟨87, (.cons (.ref 0 0) (.cons (.val false (.int .i64)) .nil)), (.cells 95 (.cons (.flat tR01_Reader) .nil) .nil), [], (.val false (.int .i64)), (.cells 95 (.cons (.flat tR01_Reader) .nil) .nil), none, fun z => octet_Reader_number_T z.1.2.1 z.2.1.1⟩

theorem octet_Reader_number_ok : octet_Reader_number_g.ok Tryz.prog := by
  refine MSig.lift mix tabOk nms _ Tryz.func87 (c := (bodyOf Tryz.f87)) (by kernel_rfl) (o := orM [] [octet_Reader_take_g] [octet_Reader_number_L3] noFz) (orM_sound trivial ⟨octet_Reader_take_ok, trivial⟩) (allLp_ofM [nthC (loopsOf (bodyOf Tryz.f87)) 0] (by kernel_rfl) ⟨octet_Reader_number_L3_ok, trivial⟩ (by kernel_rfl)) (fun _ => rfl) ?_
  intro z; kernel_rfl

def octet_Reader_Count_T (x0 : Int) (x1 : R01_Reader) : Tree (Int × ((R01_Reader × Unit) × Unit)) :=
 .bnd (octet_Reader_number_T 4 x1) fun y1 =>
 .ite (decide (x0 < y1.1)) (
 .bnd (octet_Reader_spoil_T y1.2.1.1) fun y2 =>
 .ret (0, ((y2.2.1.1, ()), ()))) (
 .ret (y1.1, ((y1.2.1.1, ()), ())))

def octet_Reader_Count_g : MSig := ⟨86, (.cons (.ref 0 0) (.cons (.val false (.int .i64)) .nil)), (.cells 95 (.cons (.flat tR01_Reader) .nil) .nil), [], (.val false (.int .i64)), (.cells 95 (.cons (.flat tR01_Reader) .nil) .nil), none, fun z => octet_Reader_Count_T z.1.2.1 z.2.1.1⟩

theorem octet_Reader_Count_ok : octet_Reader_Count_g.ok Tryz.prog := by
  refine MSig.lift mix tabOk nms _ Tryz.func86 (c := (bodyOf Tryz.f86)) (by kernel_rfl) (o := orM [] [octet_Reader_number_g, octet_Reader_spoil_g] [] noFz) (orM_sound trivial ⟨octet_Reader_number_ok, ⟨octet_Reader_spoil_ok, trivial⟩⟩) (allLp_ofM [] (by kernel_rfl) trivial rfl) (fun _ => rfl) ?_
  intro z; kernel_rfl

def octet_Reader_Text_T (x0 : R01_Reader) : Tree (Str × ((R01_Reader × Unit) × Unit)) :=
 .bnd (octet_Reader_Count_T 1048576 x0) fun y1 =>
 .bnd (octet_Reader_take_T y1.1 y1.2.1.1) fun y2 =>
 .ret (y2.1, ((y2.2.1.1, ()), ()))

def octet_Reader_Text_g : MSig := ⟨63, (.cons (.ref 0 0) .nil), (.cells 95 (.cons (.flat tR01_Reader) .nil) .nil), [], (.val false .str), (.cells 95 (.cons (.flat tR01_Reader) .nil) .nil), none, fun z => octet_Reader_Text_T z.2.1.1⟩

theorem octet_Reader_Text_ok : octet_Reader_Text_g.ok Tryz.prog := by
  refine MSig.lift mix tabOk nms _ Tryz.func63 (c := (bodyOf Tryz.f63)) (by kernel_rfl) (o := orM [] [octet_Reader_Count_g, octet_Reader_take_g] [] noFz) (orM_sound trivial ⟨octet_Reader_Count_ok, ⟨octet_Reader_take_ok, trivial⟩⟩) (allLp_ofM [] (by kernel_rfl) trivial rfl) (fun _ => rfl) ?_
  intro z; kernel_rfl

def octet_Reader_Int_T (x0 : R01_Reader) : Tree (Int × ((R01_Reader × Unit) × Unit)) :=
 .bnd (octet_Reader_number_T 8 x0) fun y1 =>
 .ret (y1.1, ((y1.2.1.1, ()), ()))

def octet_Reader_Int_g : MSig := ⟨64, (.cons (.ref 0 0) .nil), (.cells 95 (.cons (.flat tR01_Reader) .nil) .nil), [], (.val false (.int .i64)), (.cells 95 (.cons (.flat tR01_Reader) .nil) .nil), none, fun z => octet_Reader_Int_T z.2.1.1⟩

theorem octet_Reader_Int_ok : octet_Reader_Int_g.ok Tryz.prog := by
  refine MSig.lift mix tabOk nms _ Tryz.func64 (c := (bodyOf Tryz.f64)) (by kernel_rfl) (o := orM [] [octet_Reader_number_g] [] noFz) (orM_sound trivial ⟨octet_Reader_number_ok, trivial⟩) (allLp_ofM [] (by kernel_rfl) trivial rfl) (fun _ => rfl) ?_
  intro z; kernel_rfl

def octet_Reader_Bad_T (x0 : R01_Reader) : Tree Bool :=
 .ret (false || (!x0.2))

def octet_Reader_Bad_g : Sig := ⟨88, (.cons (.ptr tR01_Reader) .nil), .vals (.val false .bool), fun z => octet_Reader_Bad_T z.1, false⟩

theorem octet_Reader_Bad_ok : octet_Reader_Bad_g.ok Tryz.prog := by
  refine Sig.lift mix tabOk nms _ Tryz.func88 (c := (bodyOf Tryz.f88)) (by kernel_rfl) (o := orT [] [] noFz) (orT_sound trivial) (allLp_of [] (by kernel_rfl) trivial rfl) ?_
  intro z; kernel_rfl

def octet_Reader_Done_T (x0 : R01_Reader) : Tree Bool :=
 .bnd (octet_Reader_Bad_T x0) fun y1 =>
 .ret ((!y1) && (x0.1 == ([] : Str)))

def octet_Reader_Done_g : Sig := ⟨65, (.cons (.ptr tR01_Reader) .nil), .vals (.val false .bool), fun z => octet_Reader_Done_T z.1, false⟩

theorem octet_Reader_Done_ok : octet_Reader_Done_g.ok Tryz.prog := by
  refine Sig.lift mix tabOk nms _ Tryz.func65 (c := (bodyOf Tryz.f65)) (by kernel_rfl) (o := orT [octet_Reader_Bad_g] [] noFz) (orT_sound ⟨octet_Reader_Bad_ok, trivial⟩) (allLp_of [] (by kernel_rfl) trivial rfl) ?_
  intro z; kernel_rfl

def token_Read_T (x0 : Str) : Tree (Str × Str × Int × Bool × Unit) :=
 .ite (decide ((x0.length : Int) < 32)) (
 .ret (([] : Str), ([] : Str), 0, false, ())) (
 ask (inbe (w64 ((x0.length : Int) - 32)) x0.length) <|
 .bnd (octet_New_T (subS x0 0 (w64 ((x0.length : Int) - 32)).toNat)) fun y1 =>
 .bnd (octet_Reader_Text_T y1.2.1.1) fun y2 =>
 .bnd (octet_Reader_Text_T y2.2.1.1) fun y3 =>
 .bnd (octet_Reader_Int_T y3.2.1.1) fun y4 =>
 .bnd (octet_Reader_Done_T y4.2.1.1) fun y5 =>
 .ite (!y5) (
 .ret (([] : Str), ([] : Str), 0, false, ())) (
 .ret (y2.1, y3.1, y4.1, true, ())))

def token_Read_g : Sig := ⟨45, (.cons (.val false .str) .nil), .vals (.cons (.val false .str) (.cons (.val false .str) (.cons (.val false (.int .i64)) (.cons (.val false .bool) .nil)))), fun z => token_Read_T z.1, (([] : Str), ([] : Str), (0 : Int), false, ())⟩

theorem token_Read_ok : token_Read_g.ok Tryz.prog := by
  refine Sig.lift mix tabOk nms _ Tryz.func45 (c := (bodyOf Tryz.f45)) (by kernel_rfl) (o := orM [octet_Reader_Done_g] [octet_New_g, octet_Reader_Text_g, octet_Reader_Int_g] [] noFz) (orM_sound ⟨octet_Reader_Done_ok, trivial⟩ ⟨octet_New_ok, ⟨octet_Reader_Text_ok, ⟨octet_Reader_Int_ok, trivial⟩⟩⟩) (allLp_ofM [] (by kernel_rfl) trivial rfl) ?_
  intro z; kernel_rfl

def name_isLetter_T (x0 : Int) : Tree Bool :=
 .ret ((((decide ((97 : Int) ≤ x0)) && (decide (x0 ≤ 122))) || ((decide ((48 : Int) ≤ x0)) && (decide (x0 ≤ 57)))) || (decide (x0 = 45)))

def name_isLetter_g : Sig := ⟨43, (.cons (.val false (.int .i32)) .nil), .vals (.val false .bool), fun z => name_isLetter_T z.1, false⟩

theorem name_isLetter_ok : name_isLetter_g.ok Tryz.prog := by
  refine Sig.lift mix tabOk nms _ Tryz.func43 (c := (bodyOf Tryz.f43)) (by kernel_rfl) (o := orT [] [] noFz) (orT_sound trivial) (allLp_of [] (by kernel_rfl) trivial rfl) ?_
  intro z; kernel_rfl

def name_Is_L4_step (str : Str) (pos : Nat) : Tree (Nat ⊕ (Bool ⊕ Unit)) :=
 .ite (decide ((pos : Int) < (str.length : Int))) (
 ask (decide ((pos : Int) < (str.length : Int))) <|
 .bnd (name_isLetter_T (std.rune str pos)) fun y1 =>
 .ite (!y1) (
 .ret (.inr (.inl false))) (
 .ret (.inl (std.npos str pos)))) (
 .ret (.inr (.inr ())))

def name_Is_L4 : Lp := ⟨4, [], [], (ca (ca4 (ca8 (.cons (.ref 0 0) (ca2 (ca4 .nil)))))), (.siter .nil), 0, .more 0 [] (ca2 (.cons (.val false .bool) (ca (ca16 .nil)))) .nil (.one 1 [] (ca4 (ca16 .nil)) .nil), fun z => .bnd (.loop (fun v => name_Is_L4_step z.2.1.1 v) z.2.1.2) fun r => .sum r (fun a0 => .ret (.inl ((cu2 (a0, (cu (cu16 ())))), ()))) (fun b0 => .ret (.inr ((cu4 (cu16 ())), ())))⟩

theorem name_Is_L4_ok : name_Is_L4.ok Tryz.prog (nthC (loopsOf (bodyOf Tryz.f23)) 0) := by
  refine Lp.lift (π := Str) (V := Nat) (ρ := (Bool ⊕ Unit)) mix tabOk name_Is_L4 (o := orT [name_isLetter_g] [] noFz) (orT_sound ⟨name_isLetter_ok, trivial⟩) (allLp_of [] (by kernel_rfl) trivial rfl) (fun x v => ((cu (cu4 (cu8 ((), (cu2 (cu4 ())))))), ((x, v), ()))) (fun x r => match r with | .inl a0 => .inl ((cu2 (a0, (cu (cu16 ())))), ()) | .inr b0 => (.inr ((cu4 (cu16 ())), ()))) (fun x v => name_Is_L4_step x v) (fun x r => .sum r (fun a0 => .ret (.inl ((cu2 (a0, (cu (cu16 ())))), ()))) (fun b0 => .ret (.inr ((cu4 (cu16 ())), ())))) (fun z => z.2.1.1) (fun z => z.2.1.2) (fun _ => rfl) (fun _ => rfl) (fun x r Q h => match r, h with | .inl _, h => h | .inr b0, h => (h)) ?_
  intro x v; kernel_rfl

def name_Is_T (x0 : Str) : Tree Bool :=
 .ite ((x0 == ([] : Str)) || (decide ((16 : Int) < (x0.length : Int)))) (
 .ret false) (
 .bnd (.loop (fun v => name_Is_L4_step x0 v) 0) fun r1 =>
 .sum r1 (fun r2 =>
 .ret r2) (fun r3 =>
 .ret true))

def name_Is_g : Sig := ⟨23, (.cons (.val false .str) .nil), .vals (.val false .bool), fun z => name_Is_T z.1, false⟩

theorem name_Is_ok : name_Is_g.ok Tryz.prog := by
  refine Sig.lift mix tabOk nms _ Tryz.func23 (c := (bodyOf Tryz.f23)) (by kernel_rfl) (o := orT [name_isLetter_g] [name_Is_L4] noFz) (orT_sound ⟨name_isLetter_ok, trivial⟩) (allLp_of [nthC (loopsOf (bodyOf Tryz.f23)) 0] (by kernel_rfl) ⟨name_Is_L4_ok, trivial⟩ (by kernel_rfl)) ?_
  intro z; kernel_rfl

def strings_Join_T (x0 : List Str) (x1 : Str) : Tree Str :=
 joinT x0 x1

def strings_Join_g : Sig := ⟨94, (.cons (.val false (.list .str)) (.cons (.val false .str) .nil)), .vals (.val false .str), fun z => strings_Join_T z.1 z.2.1, ([] : Str)⟩

theorem strings_Join_ok : strings_Join_g.ok Tryz.prog :=
  strings_Join_sig (enters_of Tryz.func94 (by kernel_rfl) rfl) (fun a c sep w => Tryz.strings_Join_none a c sep w) (fun bk o c xs sep w h1 h2 h3 h4 h5 => Tryz.strings_Join bk o c xs sep w h1 h2 h3 h4 h5)

def name_Path_T (x0 : List Str) : Tree Str :=
 .bnd (strings_Join_T x0 ([47] : Str)) fun y1 =>
 .ret y1

def name_Path_g : Sig := ⟨76, (.cons (.val false (.list .str)) .nil), .vals (.val false .str), fun z => name_Path_T z.1, ([] : Str)⟩

theorem name_Path_ok : name_Path_g.ok Tryz.prog := by
  refine Sig.lift mix tabOk nms _ Tryz.func76 (c := (bodyOf Tryz.f76)) (by kernel_rfl) (o := orT [strings_Join_g] [] noFz) (orT_sound ⟨strings_Join_ok, trivial⟩) (allLp_of [] (by kernel_rfl) trivial rfl) ?_
  intro z; kernel_rfl

def tenant_Key_T (x0 : Str) (x1 : Str) : Tree Str :=
 .bnd (name_Path_T [([116, 101, 110, 97, 110, 116] : Str), x0, x1]) fun y1 =>
 .ret y1

def tenant_Key_g : Sig := ⟨67, (.cons (.val false .str) (.cons (.val false .str) .nil)), .vals (.val false .str), fun z => tenant_Key_T z.1 z.2.1, ([] : Str)⟩

theorem tenant_Key_ok : tenant_Key_g.ok Tryz.prog := by
  refine Sig.lift mix tabOk nms _ Tryz.func67 (c := (bodyOf Tryz.f67)) (by kernel_rfl) (o := orT [name_Path_g] [] noFz) (orT_sound ⟨name_Path_ok, trivial⟩) (allLp_of [] (by kernel_rfl) trivial rfl) ?_
  intro z; kernel_rfl

def registry_Get_1_T (x0 : Entry) (x1 : Str) : Tree Bool :=
 .ret (x0.1 == x1)

def registry_Get_1_g : Sig := ⟨75, (.cons (.val true tEntry) (.cons (.ptr .str) .nil)), .vals (.val false .bool), fun z => registry_Get_1_T z.1 z.2.1, false⟩

theorem registry_Get_1_ok : registry_Get_1_g.ok Tryz.prog := by
  refine Sig.lift mix tabOk nms _ Tryz.func75 (c := (bodyOf Tryz.f75)) (by kernel_rfl) (o := orT [] [] noFz) (orT_sound trivial) (allLp_of [] (by kernel_rfl) trivial rfl) ?_
  intro z; kernel_rfl

def slices_IndexFunc_Entry_registry_Get_1_L2_step (s_ : List Entry) (f : Str) (t : Int) (t2 : Int) : Tree (Int ⊕ (Int ⊕ Unit)) :=
 .ite (decide (t2 < t)) (
 ask (inb t2 s_.length) <|
 .bnd (registry_Get_1_T (s_.getD t2.toNat (dfl tEntry : Entry)) f) fun y1 =>
 .ite y1 (
 .ret (.inr (.inl t2))) (
 .ret (.inl (w64 (t2 + 1))))) (
 .ret (.inr (.inr ())))

def slices_IndexFunc_Entry_registry_Get_1_L2 : Lp := ⟨2, [], [], (.cons (.val false (.list tEntry)) (.cons (.fn 75 .nil (.cons (.ptr .str) .nil)) (ca (ca4 (.cons (.val false (.int .i64)) (.cons (.val false (.int .i64)) (ca2 (ca8 .nil)))))))), .nil, 0, .more 0 [] (ca4 (.cons (.val false (.int .i64)) (ca2 (ca4 (ca8 .nil))))) .nil (.one 1 [] (ca (ca2 (ca16 .nil))) .nil), fun z => .bnd (.loop (fun v => slices_IndexFunc_Entry_registry_Get_1_L2_step z.1.1 z.1.2.1.2.1 z.1.2.2.2.2.2.2.2.1 v) z.1.2.2.2.2.2.2.2.2.1) fun r => .sum r (fun a0 => .ret (.inl ((cu4 (a0, (cu2 (cu4 (cu8 ()))))), ()))) (fun b0 => .ret (.inr ((cu (cu2 (cu16 ()))), ())))⟩

theorem slices_IndexFunc_Entry_registry_Get_1_L2_ok : slices_IndexFunc_Entry_registry_Get_1_L2.ok Tryz.prog (nthC (loopsOf (bodyOf Tryz.f74)) 0) := by
  refine Lp.lift (π := ((List Entry) × Str × Int)) (V := Int) (ρ := (Int ⊕ Unit)) mix tabOk slices_IndexFunc_Entry_registry_Get_1_L2 (o := orT [registry_Get_1_g] [] noFz) (orT_sound ⟨registry_Get_1_ok, trivial⟩) (allLp_of [] (by kernel_rfl) trivial rfl) (fun x v => ((x.1, (((), (x.2.1, ())), (cu (cu4 (x.2.2, (v, (cu2 (cu8 ())))))))), ())) (fun x r => match r with | .inl a0 => .inl ((cu4 (a0, (cu2 (cu4 (cu8 ()))))), ()) | .inr b0 => (.inr ((cu (cu2 (cu16 ()))), ()))) (fun x v => slices_IndexFunc_Entry_registry_Get_1_L2_step x.1 x.2.1 x.2.2 v) (fun x r => .sum r (fun a0 => .ret (.inl ((cu4 (a0, (cu2 (cu4 (cu8 ()))))), ()))) (fun b0 => .ret (.inr ((cu (cu2 (cu16 ()))), ())))) (fun z => (z.1.1, z.1.2.1.2.1, z.1.2.2.2.2.2.2.2.1)) (fun z => z.1.2.2.2.2.2.2.2.2.1) (fun _ => rfl) (fun _ => rfl) (fun x r Q h => match r, h with | .inl _, h => h | .inr b0, h => (h)) ?_
  intro x v; kernel_rfl

def slices_IndexFunc_Entry_registry_Get_1_T (x0 : List Entry) (x1 : Str) : Tree Int :=
 .bnd (.loop (fun v => slices_IndexFunc_Entry_registry_Get_1_L2_step x0 x1 (x0.length : Int) v) 0) fun r1 =>
 .sum r1 (fun r2 =>
 .ret r2) (fun r3 =>
 .ret (-1))

def slices_IndexFunc_Entry_registry_Get_1_g : Sig := ⟨74, (.cons (.val false (.list tEntry)) (.cons (.fn 75 .nil (.cons (.ptr .str) .nil)) .nil)), .vals (.val false (.int .i64)), fun z => slices_IndexFunc_Entry_registry_Get_1_T z.1 z.2.1.2.1, (0 : Int)⟩

theorem slices_IndexFunc_Entry_registry_Get_1_ok : slices_IndexFunc_Entry_registry_Get_1_g.ok Tryz.prog := by
  refine Sig.lift mix tabOk nms _ Tryz.func74 (c := (bodyOf Tryz.f74)) (by kernel_rfl) (o := orT [registry_Get_1_g] [slices_IndexFunc_Entry_registry_Get_1_L2] noFz) (orT_sound ⟨registry_Get_1_ok, trivial⟩) (allLp_of [nthC (loopsOf (bodyOf Tryz.f74)) 0] (by kernel_rfl) ⟨slices_IndexFunc_Entry_registry_Get_1_L2_ok, trivial⟩ (by kernel_rfl)) ?_
  intro z; kernel_rfl

def registry_Get_T (x0 : List Entry) (x1 : Str) : Tree Reg :=
 .bnd (slices_IndexFunc_Entry_registry_Get_1_T x0 x1) fun y1 =>
 .ite (decide (y1 < 0)) (
 .ret (0, ([], []))) (
 ask (inb y1 x0.length) <|
 .ret (x0.getD y1.toNat (dfl tEntry : Entry)).2)

def registry_Get_g : Sig := ⟨49, (.cons (.val false (.list tEntry)) (.cons (.val false .str) .nil)), .vals (.val true tReg), fun z => registry_Get_T z.1 z.2.1, (dfl tReg : Reg)⟩

theorem registry_Get_ok : registry_Get_g.ok Tryz.prog := by
  refine Sig.lift mix tabOk nms _ Tryz.func49 (c := (bodyOf Tryz.f49)) (by kernel_rfl) (o := orT [slices_IndexFunc_Entry_registry_Get_1_g] [] noFz) (orT_sound ⟨slices_IndexFunc_Entry_registry_Get_1_ok, trivial⟩) (allLp_of [] (by kernel_rfl) trivial rfl) ?_
  intro z; kernel_rfl

def tenant_Of_1_T (x0 : Str) (x1 : List Entry) (x2 : Str) : Tree Str :=
 .bnd (tenant_Key_T x2 x0) fun y1 =>
 .bnd (registry_Get_T x1 y1) fun y2 =>
 .ret y2.2.2

def tenant_Of_1_g : Sig := ⟨66, (.cons (.val false .str) (.cons (.ptr (.list tEntry)) (.cons (.ptr .str) .nil))), .vals (.val false .str), fun z => tenant_Of_1_T z.1 z.2.1 z.2.2.1, ([] : Str)⟩

theorem tenant_Of_1_ok : tenant_Of_1_g.ok Tryz.prog := by
  refine Sig.lift mix tabOk nms _ Tryz.func66 (c := (bodyOf Tryz.f66)) (by kernel_rfl) (o := orT [tenant_Key_g, registry_Get_g] [] noFz) (orT_sound ⟨tenant_Key_ok, ⟨registry_Get_ok, trivial⟩⟩) (allLp_of [] (by kernel_rfl) trivial rfl) ?_
  intro z; kernel_rfl

def tenant_isSecret_T (x0 : Str) : Tree Bool :=
 .ret ((!(x0 == ([] : Str))) && (decide ((x0.length : Int) ≤ 64)))

def tenant_isSecret_g : Sig := ⟨71, (.cons (.val false .str) .nil), .vals (.val false .bool), fun z => tenant_isSecret_T z.1, false⟩

theorem tenant_isSecret_ok : tenant_isSecret_g.ok Tryz.prog := by
  refine Sig.lift mix tabOk nms _ Tryz.func71 (c := (bodyOf Tryz.f71)) (by kernel_rfl) (o := orT [] [] noFz) (orT_sound trivial) (allLp_of [] (by kernel_rfl) trivial rfl) ?_
  intro z; kernel_rfl

def tenant_bounds_T (x0 : Str) : Tree (Tenant_bound × Bool × Unit) :=
 .ite (x0 == ([98, 121, 116, 101, 115] : Str)) (
 .ret ((1099511627776, 1048576), true, ())) (
 .ite (x0 == ([114, 97, 116, 101] : Str)) (
 .ret ((1048576, 8), true, ())) (
 .ite (x0 == ([98, 117, 114, 115, 116] : Str)) (
 .ret ((1048576, 16), true, ())) (
 .ite (x0 == ([113, 117, 101, 117, 101] : Str)) (
 .ret ((64, 16), true, ())) (
 .ret ((0, 0), false, ())))))

def tenant_bounds_g : Sig := ⟨69, (.cons (.val false .str) .nil), .vals (.cons (.val true tTenant_bound) (.cons (.val false .bool) .nil)), fun z => tenant_bounds_T z.1, ((dfl tTenant_bound : Tenant_bound), false, ())⟩

theorem tenant_bounds_ok : tenant_bounds_g.ok Tryz.prog := by
  refine Sig.lift mix tabOk nms _ Tryz.func69 (c := (bodyOf Tryz.f69)) (by kernel_rfl) (o := orT [] [] noFz) (orT_sound trivial) (allLp_of [] (by kernel_rfl) trivial rfl) ?_
  intro z; kernel_rfl

def name_Num_T (x0 : Str) : Tree (Int × Bool × Unit) :=
 numT x0

def name_Num_g : Sig := ⟨70, (.cons (.val false .str) .nil), .vals (.cons (.val false (.int .i64)) (.cons (.val false .bool) .nil)), fun z => name_Num_T z.1, ((0 : Int), false, ())⟩

theorem name_Num_ok : name_Num_g.ok Tryz.prog :=
  name_Num_sig (enters_of Tryz.func70 (by kernel_rfl) rfl) name_Num_walk

def tenant_Of_2_T (x0 : Str) (x1 : List Entry) (x2 : Str) : Tree Int :=
 .bnd (tenant_bounds_T x0) fun y1 =>
 .bnd (tenant_Of_1_T x0 x1 x2) fun y2 =>
 .bnd (name_Num_T y2) fun y3 =>
 .ite (((!y3.2.1) || (decide (y3.1 < 0))) || (decide (y1.1.1 < y3.1))) (
 .ret y1.1.2) (
 .ret y3.1)

def tenant_Of_2_g : Sig := ⟨68, (.cons (.val false .str) (.cons (.cp (.cons (.fn 66 .nil (.cons (.ptr (.list tEntry)) (.cons (.ptr .str) .nil))) .nil)) .nil)), .vals (.val false (.int .i64)), fun z => tenant_Of_2_T z.1 z.2.1.1.2.1 z.2.1.1.2.2.1, (0 : Int)⟩

theorem tenant_Of_2_ok : tenant_Of_2_g.ok Tryz.prog := by
  refine Sig.lift mix tabOk nms _ Tryz.func68 (c := (bodyOf Tryz.f68)) (by kernel_rfl) (o := orT [tenant_bounds_g, tenant_Of_1_g, name_Num_g] [] noFz) (orT_sound ⟨tenant_bounds_ok, ⟨tenant_Of_1_ok, ⟨name_Num_ok, trivial⟩⟩⟩) (allLp_of [] (by kernel_rfl) trivial rfl) ?_
  intro z; kernel_rfl

def tenant_Of_fz : Nat → List Pre
  | 5 => [.two]
  | _ => []

def tenant_Of_T (x0 : List Entry) (x1 : Str) : Tree (Tenant × Bool × Unit) :=
 .bnd (name_Is_T x1) fun y1 =>
 .grd (!(!y1)) (tenant_Of_1_T ([115, 101, 99, 114, 101, 116] : Str) x0 x1) ([] : Str) fun y2 =>
 .grd (!(!y1)) (tenant_isSecret_T y2) false fun y3 =>
 .ite ((!y1) || (!y3)) (
 .ret (([], ([], (0, (0, (0, 0))))), false, ())) (
 .bnd (tenant_Of_1_T ([115, 101, 99, 114, 101, 116] : Str) x0 x1) fun y4 =>
 .bnd (tenant_Of_2_T ([98, 121, 116, 101, 115] : Str) x0 x1) fun y5 =>
 .bnd (tenant_Of_2_T ([114, 97, 116, 101] : Str) x0 x1) fun y6 =>
 .bnd (tenant_Of_2_T ([98, 117, 114, 115, 116] : Str) x0 x1) fun y7 =>
 .bnd (tenant_Of_2_T ([113, 117, 101, 117, 101] : Str) x0 x1) fun y8 =>
 .ret ((x1, (y4, (y5, (y6, (y7, y8))))), true, ()))

def tenant_Of_g : Sig := ⟨46, (.cons (.val false (.list tEntry)) (.cons (.val false .str) .nil)), .vals (.cons (.val true tTenant) (.cons (.val false .bool) .nil)), fun z => tenant_Of_T z.1 z.2.1, ((dfl tTenant : Tenant), false, ())⟩

theorem tenant_Of_ok : tenant_Of_g.ok Tryz.prog := by
  refine Sig.lift mix tabOk nms _ Tryz.func46 (c := (bodyOf Tryz.f46)) (by kernel_rfl) (o := orT [name_Is_g, tenant_Of_1_g, tenant_isSecret_g, tenant_Of_2_g] [] tenant_Of_fz) (orT_sound ⟨name_Is_ok, ⟨tenant_Of_1_ok, ⟨tenant_isSecret_ok, ⟨tenant_Of_2_ok, trivial⟩⟩⟩⟩) (allLp_of [] (by kernel_rfl) trivial rfl) ?_
  intro z; kernel_rfl

def strings_Builder_copyCheck_T (x0 : List Int) : Tree (Unit × ((Unit × (Unit × Unit)) × ((List Int) × Unit))) :=
 .ret ((), (((), ((), ())), (x0, ())))

def strings_Builder_copyCheck_g : MSig := ⟨123, (.cons (.ref 0 0) .nil), (.cells 118 (.cons (.selfp 0) (.cons (.own 1) .nil)) (.rows 5 (.int .u8) .nil)), [], .nil, (.cells 118 (.cons (.selfp 0) (.cons (.own 1) .nil)) (.rows 5 (.int .u8) .nil)), none, fun z => strings_Builder_copyCheck_T z.2.2.1⟩

theorem strings_Builder_copyCheck_ok : strings_Builder_copyCheck_g.ok Tryz.prog := copyCheck_msig 118 (by kernel_rfl)

def strings_Builder_WriteByte_T (x0 : Int) (x1 : List Int) : Tree (Unit × ((Unit × (Unit × Unit)) × ((List Int) × Unit))) :=
 .bnd (strings_Builder_copyCheck_T x1) fun y1 =>
 ask (decide ((y1.2.2.1 ++ [x0]).length * 1 ≤ roomNat)) <|
 .ret ((), (((), ((), ())), ((y1.2.2.1 ++ [x0]), ())))

def strings_Builder_WriteByte_g : MSig := ⟨132, (.cons (.ref 0 0) (.cons (.val false (.int .u8)) .nil)), (.cells 118 (.cons (.selfp 0) (.cons (.own 1) .nil)) (.rows 5 (.int .u8) .nil)), [], .any, (.cells 118 (.cons (.selfp 0) (.cons (.own 1) .nil)) (.rows 5 (.int .u8) .nil)), some 1, fun z => strings_Builder_WriteByte_T z.1.2.1 z.2.2.1⟩

theorem strings_Builder_WriteByte_ok : strings_Builder_WriteByte_g.ok Tryz.prog := by
  refine MSig.lift mix tabOk nms _ Tryz.func132 (c := (bodyOf Tryz.f132)) (by kernel_rfl) (o := orM [] [strings_Builder_copyCheck_g] [] noFz) (orM_sound trivial ⟨strings_Builder_copyCheck_ok, trivial⟩) (allLp_ofM [] (by kernel_rfl) trivial rfl) (fun _ => rfl) ?_
  intro z; kernel_rfl

def octet_Writer_low_fz : Nat → List Pre
  | 4 => [.two]
  | _ => []

def octet_Writer_low_L2_step (n : Int) (k : Int) (rows : List Int) : Tree ((Int × (List Int)) ⊕ (List Int)) :=
 .ite (decide ((0 : Int) ≤ k)) (
 ask (decide ((0 : Int) ≤ (w64 ((8 : Int) * k)))) <|
 .bnd (strings_Builder_WriteByte_T (IntKind.wrap .u8 ((stdShift .shr .i64 n (w64 ((8 : Int) * k))))) rows) fun y1 =>
 .ret (.inl ((w64 (k - 1)), y1.2.2.1))) (
 .ret (.inr rows))

def octet_Writer_low_L2 : Lp := ⟨2, [], [], (.cons (.ref 0 0) (.cons (.val false (.int .i64)) (ca4 (.cons (.val false (.int .i64)) (ca (ca16 .nil)))))), (.cells 118 (.cons (.selfp 0) (.cons (.own 1) .nil)) (.rows 5 (.int .u8) .nil)), 2, .one 1 [] (ca8 (ca16 .nil)) (.cells 118 (.cons (.selfp 0) (.cons (.own 1) .nil)) (.rows 5 (.int .u8) .nil)), fun z => .bnd (.loop (fun v => octet_Writer_low_L2_step z.1.2.1 v.1 v.2) (z.1.2.2.2.2.2.2.1, z.2.2.1)) fun r => .ret ((cu8 (cu16 ())), (((), ((), ())), (r, ())))⟩

theorem octet_Writer_low_L2_ok : octet_Writer_low_L2.ok Tryz.prog (nthC (loopsOf (bodyOf Tryz.f119)) 0) := by
  refine Lp.lift (π := Int) (V := (Int × (List Int))) (ρ := List Int) mix tabOk octet_Writer_low_L2 (o := orM [] [strings_Builder_WriteByte_g] [] octet_Writer_low_fz) (orM_sound trivial ⟨strings_Builder_WriteByte_ok, trivial⟩) (allLp_ofM [] (by kernel_rfl) trivial rfl) (fun x v => (((), (x, (cu4 (v.1, (cu (cu16 ())))))), (((), ((), ())), (v.2, ())))) (fun x r => ((cu8 (cu16 ())), (((), ((), ())), (r, ())))) (fun x v => octet_Writer_low_L2_step x v.1 v.2) (fun x r => .ret ((cu8 (cu16 ())), (((), ((), ())), (r, ())))) (fun z => z.1.2.1) (fun z => (z.1.2.2.2.2.2.2.1, z.2.2.1)) (fun _ => rfl) (fun _ => rfl) (fun _ _ _ h => h) ?_
  intro x v; kernel_rfl

def octet_Writer_low_T (x0 : Int) (x1 : Int) (x2 : List Int) : Tree (Unit × ((Unit × (Unit × Unit)) × ((List Int) × Unit))) :=
 .ite false (
 .ret ((), (((), ((), ())), (x2, ())))) (
 .bnd (.loop (fun v => octet_Writer_low_L2_step x0 v.1 v.2) ((w64 (x1 - 1)), x2)) fun r1 =>
 .ret ((), (((), ((), ())), (r1, ()))))

def octet_Writer_low_g : MSig := ⟨119, (.cons (.ref 0 0) (.cons (.val false (.int .i64)) (.cons (.val false (.int .i64)) .nil))), (.cells 118 (.cons (.selfp 0) (.cons (.own 1) .nil)) (.rows 5 (.int .u8) .nil)), [], .nil, (.cells 118 (.cons (.selfp 0) (.cons (.own 1) .nil)) (.rows 5 (.int .u8) .nil)), some 1, fun z => octet_Writer_low_T z.1.2.1 z.1.2.2.1 z.2.2.1⟩

theorem octet_Writer_low_ok : octet_Writer_low_g.ok Tryz.prog := by
  refine MSig.lift mix tabOk nms _ Tryz.func119 (c := (bodyOf Tryz.f119)) (by kernel_rfl) (o := orM [] [strings_Builder_WriteByte_g] [octet_Writer_low_L2] octet_Writer_low_fz) (orM_sound trivial ⟨strings_Builder_WriteByte_ok, trivial⟩) (allLp_ofM [nthC (loopsOf (bodyOf Tryz.f119)) 0] (by kernel_rfl) ⟨octet_Writer_low_L2_ok, trivial⟩ (by kernel_rfl)) (fun _ => rfl) ?_
  intro z; kernel_rfl

def octet_Writer_Int_T (x0 : Int) (x1 : List Int) : Tree (Unit × ((Unit × (Unit × Unit)) × ((List Int) × Unit))) :=
 .bnd (octet_Writer_low_T x0 8 x1) fun y1 =>
 .ret ((), (((), ((), ())), (y1.2.2.1, ())))

def octet_Writer_Int_g : MSig := ⟨105, (.cons (.ref 0 0) (.cons (.val false (.int .i64)) .nil)), (.cells 118 (.cons (.selfp 0) (.cons (.own 1) .nil)) (.rows 5 (.int .u8) .nil)), [], .nil, (.cells 118 (.cons (.selfp 0) (.cons (.own 1) .nil)) (.rows 5 (.int .u8) .nil)), some 1, fun z => octet_Writer_Int_T z.1.2.1 z.2.2.1⟩

theorem octet_Writer_Int_ok : octet_Writer_Int_g.ok Tryz.prog := by
  refine MSig.lift mix tabOk nms _ Tryz.func105 (c := (bodyOf Tryz.f105)) (by kernel_rfl) (o := orM [] [octet_Writer_low_g] [] noFz) (orM_sound trivial ⟨octet_Writer_low_ok, trivial⟩) (allLp_ofM [] (by kernel_rfl) trivial rfl) (fun _ => rfl) ?_
  intro z; kernel_rfl

def strings_Builder_String_T (x0 : List Int) : Tree (Str × ((Unit × (Unit × Unit)) × ((List Int) × Unit))) :=
 ask (decide (0 < x0.length)) <|
 .ret (strB x0, (((), ((), ())), (x0, ())))

def strings_Builder_String_g : MSig := ⟨111, (.cons (.ref 0 0) .nil), (.cells 118 (.cons (.selfp 0) (.cons (.own 1) .nil)) (.rows 5 (.int .u8) .nil)), [], .val false .str, (.cells 118 (.cons (.selfp 0) (.cons (.own 1) .nil)) (.fro 5 (.int .u8) .nil)), none, fun z => strings_Builder_String_T z.2.2.1⟩

theorem strings_Builder_String_ok : strings_Builder_String_g.ok Tryz.prog := builder_String_msigF 118

def octet_Writer_Bytes_T (x0 : List Int) : Tree (Str × ((Unit × (Unit × Unit)) × ((List Int) × Unit))) :=
 .ite false (
 .fail) (
 .bnd (strings_Builder_String_T x0) fun y1 =>
 .ret (y1.1, (((), ((), ())), (y1.2.2.1, ()))))

def octet_Writer_Bytes_g : MSig := ⟨106, (.cons (.ref 0 0) .nil), (.cells 118 (.cons (.selfp 0) (.cons (.own 1) .nil)) (.rows 5 (.int .u8) .nil)), [], (.val false .str), (.cells 118 (.cons (.selfp 0) (.cons (.own 1) .nil)) (.fro 5 (.int .u8) .nil)), some 1, fun z => octet_Writer_Bytes_T z.2.2.1⟩

theorem octet_Writer_Bytes_ok : octet_Writer_Bytes_g.ok Tryz.prog := by
  refine MSig.lift mix tabOk nms _ Tryz.func106 (c := (bodyOf Tryz.f106)) (by kernel_rfl) (o := orM [] [strings_Builder_String_g] [] noFz) (orM_sound trivial ⟨strings_Builder_String_ok, trivial⟩) (allLp_ofM [] (by kernel_rfl) trivial rfl) (fun _ => rfl) ?_
  intro z; kernel_rfl

def bits_RotateLeft32_T (x0 : Int) (x1 : Int) : Tree Int :=
 ask (decide ((0 : Int) ≤ (stdArith .and .u64 (IntKind.wrap .u64 (x1)) 31))) <|
 ask (decide ((0 : Int) ≤ (IntKind.wrap .u64 ((32 : Int) - (stdArith .and .u64 (IntKind.wrap .u64 (x1)) 31))))) <|
 .ret (stdArith .or .u32 (stdShift .shl .u32 x0 (stdArith .and .u64 (IntKind.wrap .u64 (x1)) 31)) (stdShift .shr .u32 x0 (IntKind.wrap .u64 ((32 : Int) - (stdArith .and .u64 (IntKind.wrap .u64 (x1)) 31)))))

def bits_RotateLeft32_g : Sig := ⟨134, (.cons (.val false (.int .u32)) (.cons (.val false (.int .i64)) .nil)), .vals (.val false (.int .u32)), fun z => bits_RotateLeft32_T z.1 z.2.1, (0 : Int)⟩

theorem bits_RotateLeft32_ok : bits_RotateLeft32_g.ok Tryz.prog := by
  refine Sig.lift mix tabOk nms _ Tryz.func134 (c := (bodyOf Tryz.f134)) (by kernel_rfl) (o := orT [] [] noFz) (orT_sound trivial) (allLp_of [] (by kernel_rfl) trivial rfl) ?_
  intro z; kernel_rfl

def sha_small_T (x0 : Int) (x1 : Int) (x2 : Int) (x3 : Int) : Tree Int :=
 .bnd (bits_RotateLeft32_T x0 (w64 ((0 : Int) - x1))) fun y1 =>
 .bnd (bits_RotateLeft32_T x0 (w64 ((0 : Int) - x2))) fun y2 =>
 ask (decide ((0 : Int) ≤ x3)) <|
 .ret (stdArith .xor .u32 (stdArith .xor .u32 y1 y2) (stdShift .shr .u32 x0 x3))

def sha_small_g : Sig := ⟨133, (.cons (.val false (.int .u32)) (.cons (.val false (.int .i64)) (.cons (.val false (.int .i64)) (.cons (.val false (.int .i64)) .nil)))), .vals (.val false (.int .u32)), fun z => sha_small_T z.1 z.2.1 z.2.2.1 z.2.2.2.1, (0 : Int)⟩

theorem sha_small_ok : sha_small_g.ok Tryz.prog := by
  refine Sig.lift mix tabOk nms _ Tryz.func133 (c := (bodyOf Tryz.f133)) (by kernel_rfl) (o := orT [bits_RotateLeft32_g] [] noFz) (orT_sound ⟨bits_RotateLeft32_ok, trivial⟩) (allLp_of [] (by kernel_rfl) trivial rfl) ?_
  intro z; kernel_rfl

def sha_spread_fz : Nat → List Pre
  | 6 => [.two]
  | 7 => [.two]
  | _ => []

def sha_spread_L3_step (b : List Int) (c : A64u32) (t : Int) (w : List Int) : Tree ((Int × (List Int)) ⊕ (List Int)) :=
 .ite (decide (t < 64)) (
 .ite (decide (t < 16)) (
 ask (inb (w64 ((4 : Int) * t)) b.length) <|
 ask (decide ((0 : Int) ≤ 24)) <|
 ask (inb (w64 ((w64 ((4 : Int) * t)) + 1)) b.length) <|
 ask (decide ((0 : Int) ≤ 16)) <|
 ask (inb (w64 ((w64 ((4 : Int) * t)) + 2)) b.length) <|
 ask (decide ((0 : Int) ≤ 8)) <|
 ask (inb (w64 ((w64 ((4 : Int) * t)) + 3)) b.length) <|
 ask (inb t 64) <|
 ask (Nat.ble (t.toNat + 1) w.length) <|
 .ret (.inl ((w64 (t + 1)), (w.set t.toNat (stdArith .or .u32 (stdArith .or .u32 (stdArith .or .u32 (stdShift .shl .u32 (IntKind.wrap .u32 ((b.getD ((w64 ((4 : Int) * t)).toNat) (0 : Int)))) 24) (stdShift .shl .u32 (IntKind.wrap .u32 ((b.getD ((w64 ((w64 ((4 : Int) * t)) + 1)).toNat) (0 : Int)))) 16)) (stdShift .shl .u32 (IntKind.wrap .u32 ((b.getD ((w64 ((w64 ((4 : Int) * t)) + 2)).toNat) (0 : Int)))) 8)) (IntKind.wrap .u32 ((b.getD ((w64 ((w64 ((4 : Int) * t)) + 3)).toNat) (0 : Int))))))))) (
 ask (inb (w64 (t - 2)) 64) <|
 ask (Nat.ble ((w64 (t - 2)).toNat + 1) w.length) <|
 .bnd (sha_small_T (w.getD ((w64 (t - 2)).toNat) (0 : Int)) 17 19 10) fun y1 =>
 ask (inb (w64 (t - 7)) 64) <|
 ask (Nat.ble ((w64 (t - 7)).toNat + 1) w.length) <|
 ask (inb (w64 (t - 15)) 64) <|
 ask (Nat.ble ((w64 (t - 15)).toNat + 1) w.length) <|
 .bnd (sha_small_T (w.getD ((w64 (t - 15)).toNat) (0 : Int)) 7 18 3) fun y2 =>
 ask (inb (w64 (t - 16)) 64) <|
 ask (Nat.ble ((w64 (t - 16)).toNat + 1) w.length) <|
 ask (inb t 64) <|
 ask (Nat.ble (t.toNat + 1) w.length) <|
 .ret (.inl ((w64 (t + 1)), (w.set t.toNat (IntKind.wrap .u32 ((IntKind.wrap .u32 ((IntKind.wrap .u32 (y1 + (w.getD ((w64 (t - 7)).toNat) (0 : Int)))) + y2)) + (w.getD ((w64 (t - 16)).toNat) (0 : Int))))))))) (
 .ret (.inr w))

def sha_spread_L3 : Lp := ⟨3, [.arr 1 (.int .u32)], [], (.cons (.val false (.list (.int .u8))) (ca (.cons (.ref 0 0) (.cons (.ref 1 0) (ca (.cons (.val false (.int .i64)) (ca32 (ca32 .nil)))))))), (.cells 131 (.cons (.flat tA64u32) .nil) (.arr 131 (.int .u32) .nil)), 0, .one 1 [] (ca2 (.cons (.ref 0 0) (.cons (.ref 1 0) (ca2 (ca32 (ca32 .nil)))))) (.cells 131 (.cons (.flat tA64u32) .nil) (.arr 131 (.int .u32) .nil)), fun z => .bnd (.loop (fun v => sha_spread_L3_step z.1.1 z.2.1.1 v.1 v.2) (z.1.2.2.2.2.2.1, z.2.2.1)) fun r => .ret ((cu2 ((), ((), (cu2 (cu32 (cu32 ())))))), ((z.2.1.1, ()), (r, ())))⟩

theorem sha_spread_L3_ok : sha_spread_L3.ok Tryz.prog (nthC (loopsOf (bodyOf Tryz.f120)) 0) := by
  refine Lp.lift (π := ((List Int) × A64u32)) (V := (Int × (List Int))) (ρ := List Int) mix tabOk sha_spread_L3 (o := orT [sha_small_g] [] sha_spread_fz) (orT_sound ⟨sha_small_ok, trivial⟩) (allLp_of [] (by kernel_rfl) trivial rfl) (fun x v => ((x.1, (cu ((), ((), (cu (v.1, (cu32 (cu32 ())))))))), ((x.2, ()), (v.2, ())))) (fun x r => ((cu2 ((), ((), (cu2 (cu32 (cu32 ())))))), ((x.2, ()), (r, ())))) (fun x v => sha_spread_L3_step x.1 x.2 v.1 v.2) (fun x r => .ret ((cu2 ((), ((), (cu2 (cu32 (cu32 ())))))), ((x.2, ()), (r, ())))) (fun z => (z.1.1, z.2.1.1)) (fun z => (z.1.2.2.2.2.2.1, z.2.2.1)) (fun _ => rfl) (fun _ => rfl) (fun _ _ _ h => h) ?_
  intro x v; kernel_rfl

def sha_spread_T (x0 : List Int) : Tree A64u32 :=
 .bnd (.loop (fun v => sha_spread_L3_step x0 (0, (0, (0, (0, (0, (0, (0, (0, (0, (0, (0, (0, (0, (0, (0, (0, (0, (0, (0, (0, (0, (0, (0, (0, (0, (0, (0, (0, (0, (0, (0, (0, (0, (0, (0, (0, (0, (0, (0, (0, (0, (0, (0, (0, (0, (0, (0, (0, (0, (0, (0, (0, (0, (0, (0, (0, (0, (0, (0, (0, (0, (0, (0, 0))))))))))))))))))))))))))))))))))))))))))))))))))))))))))))))) v.1 v.2) (0, [0, 0, 0, 0, 0, 0, 0, 0, 0, 0, 0, 0, 0, 0, 0, 0, 0, 0, 0, 0, 0, 0, 0, 0, 0, 0, 0, 0, 0, 0, 0, 0, 0, 0, 0, 0, 0, 0, 0, 0, 0, 0, 0, 0, 0, 0, 0, 0, 0, 0, 0, 0, 0, 0, 0, 0, 0, 0, 0, 0, 0, 0, 0, 0])) fun r1 =>
 ask (Nat.ble (0 + 64) r1.length) <|
 .ret ((r1.getD 0 (0 : Int)), ((r1.getD 1 (0 : Int)), ((r1.getD 2 (0 : Int)), ((r1.getD 3 (0 : Int)), ((r1.getD 4 (0 : Int)), ((r1.getD 5 (0 : Int)), ((r1.getD 6 (0 : Int)), ((r1.getD 7 (0 : Int)), ((r1.getD 8 (0 : Int)), ((r1.getD 9 (0 : Int)), ((r1.getD 10 (0 : Int)), ((r1.getD 11 (0 : Int)), ((r1.getD 12 (0 : Int)), ((r1.getD 13 (0 : Int)), ((r1.getD 14 (0 : Int)), ((r1.getD 15 (0 : Int)), ((r1.getD 16 (0 : Int)), ((r1.getD 17 (0 : Int)), ((r1.getD 18 (0 : Int)), ((r1.getD 19 (0 : Int)), ((r1.getD 20 (0 : Int)), ((r1.getD 21 (0 : Int)), ((r1.getD 22 (0 : Int)), ((r1.getD 23 (0 : Int)), ((r1.getD 24 (0 : Int)), ((r1.getD 25 (0 : Int)), ((r1.getD 26 (0 : Int)), ((r1.getD 27 (0 : Int)), ((r1.getD 28 (0 : Int)), ((r1.getD 29 (0 : Int)), ((r1.getD 30 (0 : Int)), ((r1.getD 31 (0 : Int)), ((r1.getD 32 (0 : Int)), ((r1.getD 33 (0 : Int)), ((r1.getD 34 (0 : Int)), ((r1.getD 35 (0 : Int)), ((r1.getD 36 (0 : Int)), ((r1.getD 37 (0 : Int)), ((r1.getD 38 (0 : Int)), ((r1.getD 39 (0 : Int)), ((r1.getD 40 (0 : Int)), ((r1.getD 41 (0 : Int)), ((r1.getD 42 (0 : Int)), ((r1.getD 43 (0 : Int)), ((r1.getD 44 (0 : Int)), ((r1.getD 45 (0 : Int)), ((r1.getD 46 (0 : Int)), ((r1.getD 47 (0 : Int)), ((r1.getD 48 (0 : Int)), ((r1.getD 49 (0 : Int)), ((r1.getD 50 (0 : Int)), ((r1.getD 51 (0 : Int)), ((r1.getD 52 (0 : Int)), ((r1.getD 53 (0 : Int)), ((r1.getD 54 (0 : Int)), ((r1.getD 55 (0 : Int)), ((r1.getD 56 (0 : Int)), ((r1.getD 57 (0 : Int)), ((r1.getD 58 (0 : Int)), ((r1.getD 59 (0 : Int)), ((r1.getD 60 (0 : Int)), ((r1.getD 61 (0 : Int)), ((r1.getD 62 (0 : Int)), (r1.getD 63 (0 : Int)))))))))))))))))))))))))))))))))))))))))))))))))))))))))))))))))

def sha_spread_g : Sig := ⟨120, (.cons (.val false (.list (.int .u8))) .nil), .vals (.val true tA64u32), fun z => sha_spread_T z.1, (dfl tA64u32 : A64u32)⟩

theorem sha_spread_ok : sha_spread_g.ok Tryz.prog := by
  refine Sig.lift mix tabOk nms _ Tryz.func120 (c := (bodyOf Tryz.f120)) (by kernel_rfl) (o := orT [sha_small_g] [sha_spread_L3] sha_spread_fz) (orT_sound ⟨sha_small_ok, trivial⟩) (allLp_of [nthC (loopsOf (bodyOf Tryz.f120)) 0] (by kernel_rfl) ⟨sha_spread_L3_ok, trivial⟩ (by kernel_rfl)) ?_
  intro z; kernel_rfl

def sha_rounds_T  : Tree A64u32 :=
 .ret (1116352408, (1899447441, (3049323471, (3921009573, (961987163, (1508970993, (2453635748, (2870763221, (3624381080, (310598401, (607225278, (1426881987, (1925078388, (2162078206, (2614888103, (3248222580, (3835390401, (4022224774, (264347078, (604807628, (770255983, (1249150122, (1555081692, (1996064986, (2554220882, (2821834349, (2952996808, (3210313671, (3336571891, (3584528711, (113926993, (338241895, (666307205, (773529912, (1294757372, (1396182291, (1695183700, (1986661051, (2177026350, (2456956037, (2730485921, (2820302411, (3259730800, (3345764771, (3516065817, (3600352804, (4094571909, (275423344, (430227734, (506948616, (659060556, (883997877, (958139571, (1322822218, (1537002063, (1747873779, (1955562222, (2024104815, (2227730452, (2361852424, (2428436474, (2756734187, (3204031479, 3329325298)))))))))))))))))))))))))))))))))))))))))))))))))))))))))))))))

def sha_rounds_g : Sig := ⟨121, .nil, .vals (.val true tA64u32), fun z => sha_rounds_T, (dfl tA64u32 : A64u32)⟩

theorem sha_rounds_ok : sha_rounds_g.ok Tryz.prog := by
  refine Sig.lift mix tabOk nms _ Tryz.func121 (c := (bodyOf Tryz.f121)) (by kernel_rfl) (o := orT [] [] noFz) (orT_sound trivial) (allLp_of [] (by kernel_rfl) trivial rfl) ?_
  intro z; kernel_rfl

def sha_turns_T (x0 : Int) (x1 : Int) (x2 : Int) (x3 : Int) : Tree Int :=
 .bnd (bits_RotateLeft32_T x0 (w64 ((0 : Int) - x1))) fun y1 =>
 .bnd (bits_RotateLeft32_T x0 (w64 ((0 : Int) - x2))) fun y2 =>
 .bnd (bits_RotateLeft32_T x0 (w64 ((0 : Int) - x3))) fun y3 =>
 .ret (stdArith .xor .u32 (stdArith .xor .u32 y1 y2) y3)

def sha_turns_g : Sig := ⟨122, (.cons (.val false (.int .u32)) (.cons (.val false (.int .i64)) (.cons (.val false (.int .i64)) (.cons (.val false (.int .i64)) .nil)))), .vals (.val false (.int .u32)), fun z => sha_turns_T z.1 z.2.1 z.2.2.1 z.2.2.2.1, (0 : Int)⟩

theorem sha_turns_ok : sha_turns_g.ok Tryz.prog := by
  refine Sig.lift mix tabOk nms _ Tryz.func122 (c := (bodyOf Tryz.f122)) (by kernel_rfl) (o := orT [bits_RotateLeft32_g] [] noFz) (orT_sound ⟨bits_RotateLeft32_ok, trivial⟩) (allLp_of [] (by kernel_rfl) trivial rfl) ?_
  intro z; kernel_rfl

def sha_take_fz : Nat → List Pre
  | 13 => [.spl 99 8]
  | _ => []

def sha_take_L5_step (state : (Int × (Int × (Int × (Int × (Int × (Int × (Int × Int)))))))) (c2 : (Int × (Int × (Int × (Int × (Int × (Int × (Int × Int)))))))) (w : List Int) (k : List Int) (a : Int) (c : Int) (d : Int) (e : Int) (f : Int) (g : Int) (h : Int) (i : Int) (t : Int) : Tree ((Int × Int × Int × Int × Int × Int × Int × Int × Int) ⊕ (Int × Int × Int × Int × Int × Int × Int × Int)) :=
 .ite (decide (t < 64)) (
 .bnd (sha_turns_T f 6 11 25) fun y1 =>
 ask (inb t 64) <|
 ask (Nat.ble (t.toNat + 1) k.length) <|
 ask (inb t 64) <|
 ask (Nat.ble (t.toNat + 1) w.length) <|
 .bnd (sha_turns_T a 2 13 22) fun y2 =>
 .ret (.inl ((IntKind.wrap .u32 ((IntKind.wrap .u32 ((IntKind.wrap .u32 ((IntKind.wrap .u32 ((IntKind.wrap .u32 (i + y1)) + (stdArith .xor .u32 (stdArith .and .u32 f g) (stdArith .and .u32 (stdArith .xor .u32 4294967295 f) h)))) + (k.getD t.toNat (0 : Int)))) + (w.getD t.toNat (0 : Int)))) + (IntKind.wrap .u32 (y2 + (stdArith .xor .u32 (stdArith .xor .u32 (stdArith .and .u32 a c) (stdArith .and .u32 a d)) (stdArith .and .u32 c d)))))), a, c, d, (IntKind.wrap .u32 (e + (IntKind.wrap .u32 ((IntKind.wrap .u32 ((IntKind.wrap .u32 ((IntKind.wrap .u32 (i + y1)) + (stdArith .xor .u32 (stdArith .and .u32 f g) (stdArith .and .u32 (stdArith .xor .u32 4294967295 f) h)))) + (k.getD t.toNat (0 : Int)))) + (w.getD t.toNat (0 : Int)))))), f, g, h, (w64 (t + 1))))) (
 .ret (.inr (a, c, d, e, f, g, h, i)))

def sha_take_L5 : Lp := ⟨5, [.arr 3 (.int .u32), .arr 2 (.int .u32)], [], (ca2 (.cons (.ref 0 0) (ca (.cons (.ref 1 0) (.cons (.ref 2 0) (.cons (.ref 3 0) (.cons (.val false (.int .u32)) (.cons (.val false (.int .u32)) (.cons (.val false (.int .u32)) (.cons (.val false (.int .u32)) (.cons (.val false (.int .u32)) (.cons (.val false (.int .u32)) (.cons (.val false (.int .u32)) (.cons (.val false (.int .u32)) (ca8 (ca16 (.cons (.val false (.int .i64)) (ca (ca2 (ca4 (ca32 (ca32 .nil)))))))))))))))))))))), (.cells 121 (.cons (.flat (.pair (.int .u32) (.pair (.int .u32) (.pair (.int .u32) (.pair (.int .u32) (.pair (.int .u32) (.pair (.int .u32) (.pair (.int .u32) (.int .u32))))))))) .nil) (.cells 121 (.cons (.flat (.pair (.int .u32) (.pair (.int .u32) (.pair (.int .u32) (.pair (.int .u32) (.pair (.int .u32) (.pair (.int .u32) (.pair (.int .u32) (.int .u32))))))))) .nil) (.arr 131 (.int .u32) (.arr 131 (.int .u32) .nil)))), 0, .one 1 [] (ca2 (.cons (.ref 0 0) (ca (.cons (.ref 1 0) (ca2 (.cons (.val false (.int .u32)) (.cons (.val false (.int .u32)) (.cons (.val false (.int .u32)) (.cons (.val false (.int .u32)) (.cons (.val false (.int .u32)) (.cons (.val false (.int .u32)) (.cons (.val false (.int .u32)) (.cons (.val false (.int .u32)) (ca32 (ca32 (ca32 .nil)))))))))))))))) (.cells 121 (.cons (.flat (.pair (.int .u32) (.pair (.int .u32) (.pair (.int .u32) (.pair (.int .u32) (.pair (.int .u32) (.pair (.int .u32) (.pair (.int .u32) (.int .u32))))))))) .nil) (.cells 121 (.cons (.flat (.pair (.int .u32) (.pair (.int .u32) (.pair (.int .u32) (.pair (.int .u32) (.pair (.int .u32) (.pair (.int .u32) (.pair (.int .u32) (.int .u32))))))))) .nil) .nil)), fun z => .bnd (.loop (fun v => sha_take_L5_step z.2.1.1 z.2.2.1.1 z.2.2.2.1 z.2.2.2.2.1 v.1 v.2.1 v.2.2.1 v.2.2.2.1 v.2.2.2.2.1 v.2.2.2.2.2.1 v.2.2.2.2.2.2.1 v.2.2.2.2.2.2.2.1 v.2.2.2.2.2.2.2.2) (z.1.2.2.2.2.2.2.2.1, z.1.2.2.2.2.2.2.2.2.1, z.1.2.2.2.2.2.2.2.2.2.1, z.1.2.2.2.2.2.2.2.2.2.2.1, z.1.2.2.2.2.2.2.2.2.2.2.2.1, z.1.2.2.2.2.2.2.2.2.2.2.2.2.1, z.1.2.2.2.2.2.2.2.2.2.2.2.2.2.1, z.1.2.2.2.2.2.2.2.2.2.2.2.2.2.2.1, z.1.2.2.2.2.2.2.2.2.2.2.2.2.2.2.2.2.2.2.2.2.2.2.2.2.2.2.2.2.2.2.2.2.2.2.2.2.2.2.2.1)) fun r => .ret ((cu2 ((), (cu ((), (cu2 (r.1, (r.2.1, (r.2.2.1, (r.2.2.2.1, (r.2.2.2.2.1, (r.2.2.2.2.2.1, (r.2.2.2.2.2.2.1, (r.2.2.2.2.2.2.2, (cu32 (cu32 (cu32 ())))))))))))))))), ((z.2.1.1, ()), ((z.2.2.1.1, ()), ())))⟩

theorem sha_take_L5_ok : sha_take_L5.ok Tryz.prog (nthC (loopsOf (bodyOf Tryz.f107)) 0) := by
  refine Lp.lift (π := ((Int × (Int × (Int × (Int × (Int × (Int × (Int × Int))))))) × (Int × (Int × (Int × (Int × (Int × (Int × (Int × Int))))))) × (List Int) × (List Int))) (V := (Int × Int × Int × Int × Int × Int × Int × Int × Int)) (ρ := (Int × Int × Int × Int × Int × Int × Int × Int)) mix tabOk sha_take_L5 (o := orT [sha_spread_g, sha_rounds_g, sha_turns_g] [] sha_take_fz) (orT_sound ⟨sha_spread_ok, ⟨sha_rounds_ok, ⟨sha_turns_ok, trivial⟩⟩⟩) (allLp_of [] (by kernel_rfl) trivial rfl) (fun x v => ((cu2 ((), (cu ((), ((), ((), (v.1, (v.2.1, (v.2.2.1, (v.2.2.2.1, (v.2.2.2.2.1, (v.2.2.2.2.2.1, (v.2.2.2.2.2.2.1, (v.2.2.2.2.2.2.2.1, (cu8 (cu16 (v.2.2.2.2.2.2.2.2, (cu (cu2 (cu4 (cu32 (cu32 ())))))))))))))))))))))), ((x.1, ()), ((x.2.1, ()), (x.2.2.1, (x.2.2.2, ())))))) (fun x r => ((cu2 ((), (cu ((), (cu2 (r.1, (r.2.1, (r.2.2.1, (r.2.2.2.1, (r.2.2.2.2.1, (r.2.2.2.2.2.1, (r.2.2.2.2.2.2.1, (r.2.2.2.2.2.2.2, (cu32 (cu32 (cu32 ())))))))))))))))), ((x.1, ()), ((x.2.1, ()), ())))) (fun x v => sha_take_L5_step x.1 x.2.1 x.2.2.1 x.2.2.2 v.1 v.2.1 v.2.2.1 v.2.2.2.1 v.2.2.2.2.1 v.2.2.2.2.2.1 v.2.2.2.2.2.2.1 v.2.2.2.2.2.2.2.1 v.2.2.2.2.2.2.2.2) (fun x r => .ret ((cu2 ((), (cu ((), (cu2 (r.1, (r.2.1, (r.2.2.1, (r.2.2.2.1, (r.2.2.2.2.1, (r.2.2.2.2.2.1, (r.2.2.2.2.2.2.1, (r.2.2.2.2.2.2.2, (cu32 (cu32 (cu32 ())))))))))))))))), ((x.1, ()), ((x.2.1, ()), ())))) (fun z => (z.2.1.1, z.2.2.1.1, z.2.2.2.1, z.2.2.2.2.1)) (fun z => (z.1.2.2.2.2.2.2.2.1, z.1.2.2.2.2.2.2.2.2.1, z.1.2.2.2.2.2.2.2.2.2.1, z.1.2.2.2.2.2.2.2.2.2.2.1, z.1.2.2.2.2.2.2.2.2.2.2.2.1, z.1.2.2.2.2.2.2.2.2.2.2.2.2.1, z.1.2.2.2.2.2.2.2.2.2.2.2.2.2.1, z.1.2.2.2.2.2.2.2.2.2.2.2.2.2.2.1, z.1.2.2.2.2.2.2.2.2.2.2.2.2.2.2.2.2.2.2.2.2.2.2.2.2.2.2.2.2.2.2.2.2.2.2.2.2.2.2.2.1)) (fun _ => rfl) (fun _ => rfl) (fun _ _ _ h => h) ?_
  intro x v; kernel_rfl

def sha_take_L12_step (t : (Int × (Int × (Int × (Int × (Int × (Int × (Int × Int)))))))) (c : (Int × (Int × (Int × (Int × (Int × (Int × (Int × Int)))))))) (t2 : Int) (state : (Int × (Int × (Int × (Int × (Int × (Int × (Int × Int)))))))) : Tree ((Int × (Int × (Int × (Int × (Int × (Int × (Int × (Int × Int)))))))) ⊕ (Int × (Int × (Int × (Int × (Int × (Int × (Int × Int)))))))) :=
 .ite (decide (t2 < 8)) (
 .ite (decide (t2 = 0)) (
 ask (inb 0 8) <|
 ask (inb 0 8) <|
 ask (inb 0 8) <|
 .ret (.inl ((w64 ((0 : Int) + 1)), ((IntKind.wrap .u32 (state.1 + t.1)), state.2)))) (
 .ite (decide (t2 = 1)) (
 ask (inb 1 8) <|
 ask (inb 1 8) <|
 ask (inb 1 8) <|
 .ret (.inl ((w64 ((1 : Int) + 1)), (state.1, ((IntKind.wrap .u32 (state.2.1 + t.2.1)), state.2.2))))) (
 .ite (decide (t2 = 2)) (
 ask (inb 2 8) <|
 ask (inb 2 8) <|
 ask (inb 2 8) <|
 .ret (.inl ((w64 ((2 : Int) + 1)), (state.1, (state.2.1, ((IntKind.wrap .u32 (state.2.2.1 + t.2.2.1)), state.2.2.2)))))) (
 .ite (decide (t2 = 3)) (
 ask (inb 3 8) <|
 ask (inb 3 8) <|
 ask (inb 3 8) <|
 .ret (.inl ((w64 ((3 : Int) + 1)), (state.1, (state.2.1, (state.2.2.1, ((IntKind.wrap .u32 (state.2.2.2.1 + t.2.2.2.1)), state.2.2.2.2))))))) (
 .ite (decide (t2 = 4)) (
 ask (inb 4 8) <|
 ask (inb 4 8) <|
 ask (inb 4 8) <|
 .ret (.inl ((w64 ((4 : Int) + 1)), (state.1, (state.2.1, (state.2.2.1, (state.2.2.2.1, ((IntKind.wrap .u32 (state.2.2.2.2.1 + t.2.2.2.2.1)), state.2.2.2.2.2)))))))) (
 .ite (decide (t2 = 5)) (
 ask (inb 5 8) <|
 ask (inb 5 8) <|
 ask (inb 5 8) <|
 .ret (.inl ((w64 ((5 : Int) + 1)), (state.1, (state.2.1, (state.2.2.1, (state.2.2.2.1, (state.2.2.2.2.1, ((IntKind.wrap .u32 (state.2.2.2.2.2.1 + t.2.2.2.2.2.1)), state.2.2.2.2.2.2))))))))) (
 .ite (decide (t2 = 6)) (
 ask (inb 6 8) <|
 ask (inb 6 8) <|
 ask (inb 6 8) <|
 .ret (.inl ((w64 ((6 : Int) + 1)), (state.1, (state.2.1, (state.2.2.1, (state.2.2.2.1, (state.2.2.2.2.1, (state.2.2.2.2.2.1, ((IntKind.wrap .u32 (state.2.2.2.2.2.2.1 + t.2.2.2.2.2.2.1)), state.2.2.2.2.2.2.2)))))))))) (
 .ite (decide (t2 = 7)) (
 ask (inb 7 8) <|
 ask (inb 7 8) <|
 ask (inb 7 8) <|
 .ret (.inl ((w64 ((7 : Int) + 1)), (state.1, (state.2.1, (state.2.2.1, (state.2.2.2.1, (state.2.2.2.2.1, (state.2.2.2.2.2.1, (state.2.2.2.2.2.2.1, (IntKind.wrap .u32 (state.2.2.2.2.2.2.2 + t.2.2.2.2.2.2.2)))))))))))) (
 .fail))))))))) (
 .ret (.inr state))

def sha_take_L12 : Lp := ⟨12, [], [], (ca2 (.cons (.ref 0 0) (ca (.cons (.ref 1 0) (ca (ca4 (ca8 (ca16 (ca32 (ca32 (.cons (.val true (.pair (.int .u32) (.pair (.int .u32) (.pair (.int .u32) (.pair (.int .u32) (.pair (.int .u32) (.pair (.int .u32) (.pair (.int .u32) (.int .u32))))))))) (.cons (.val false (.int .i64)) (ca (ca2 (ca8 .nil))))))))))))))), (.cells 121 (.cons (.flat (.pair (.int .u32) (.pair (.int .u32) (.pair (.int .u32) (.pair (.int .u32) (.pair (.int .u32) (.pair (.int .u32) (.pair (.int .u32) (.int .u32))))))))) .nil) (.cells 121 (.cons (.flat (.pair (.int .u32) (.pair (.int .u32) (.pair (.int .u32) (.pair (.int .u32) (.pair (.int .u32) (.pair (.int .u32) (.pair (.int .u32) (.int .u32))))))))) .nil) .nil)), 0, .one 3 [] (ca2 (.cons (.ref 0 0) (ca (.cons (.ref 1 0) (ca2 (ca8 (ca32 (ca32 (ca32 .nil))))))))) (.cells 121 (.cons (.flat (.pair (.int .u32) (.pair (.int .u32) (.pair (.int .u32) (.pair (.int .u32) (.pair (.int .u32) (.pair (.int .u32) (.pair (.int .u32) (.int .u32))))))))) .nil) (.cells 121 (.cons (.flat (.pair (.int .u32) (.pair (.int .u32) (.pair (.int .u32) (.pair (.int .u32) (.pair (.int .u32) (.pair (.int .u32) (.pair (.int .u32) (.int .u32))))))))) .nil) .nil)), fun z => .bnd (.loop (fun v => sha_take_L12_step z.1.2.2.2.2.2.2.2.2.2.2.2.2.2.2.2.2.2.2.2.2.2.2.2.2.2.2.2.2.2.2.2.2.2.2.2.2.2.2.2.2.2.2.2.2.2.2.2.2.2.2.2.2.2.2.2.2.2.2.2.2.2.2.2.2.2.2.2.2.2.2.2.2.2.2.2.2.2.2.2.2.2.2.2.2.2.2.2.2.2.2.2.2.2.2.2.2.2.2.1 z.2.2.1.1 v.1 v.2) (z.1.2.2.2.2.2.2.2.2.2.2.2.2.2.2.2.2.2.2.2.2.2.2.2.2.2.2.2.2.2.2.2.2.2.2.2.2.2.2.2.2.2.2.2.2.2.2.2.2.2.2.2.2.2.2.2.2.2.2.2.2.2.2.2.2.2.2.2.2.2.2.2.2.2.2.2.2.2.2.2.2.2.2.2.2.2.2.2.2.2.2.2.2.2.2.2.2.2.2.2.1, z.2.1.1)) fun r => .ret ((cu2 ((), (cu ((), (cu2 (cu8 (cu32 (cu32 (cu32 ()))))))))), ((r, ()), ((z.2.2.1.1, ()), ())))⟩

theorem sha_take_L12_ok : sha_take_L12.ok Tryz.prog (nthC (loopsOf (bodyOf Tryz.f107)) 1) := by
  refine Lp.lift (π := ((Int × (Int × (Int × (Int × (Int × (Int × (Int × Int))))))) × (Int × (Int × (Int × (Int × (Int × (Int × (Int × Int))))))))) (V := (Int × (Int × (Int × (Int × (Int × (Int × (Int × (Int × Int))))))))) (ρ := (Int × (Int × (Int × (Int × (Int × (Int × (Int × Int)))))))) mix tabOk sha_take_L12 (o := orT [sha_spread_g, sha_rounds_g, sha_turns_g] [] sha_take_fz) (orT_sound ⟨sha_spread_ok, ⟨sha_rounds_ok, ⟨sha_turns_ok, trivial⟩⟩⟩) (allLp_of [] (by kernel_rfl) trivial rfl) (fun x v => ((cu2 ((), (cu ((), (cu (cu4 (cu8 (cu16 (cu32 (cu32 (x.1, (v.1, (cu (cu2 (cu8 ()))))))))))))))), ((v.2, ()), ((x.2, ()), ())))) (fun x r => ((cu2 ((), (cu ((), (cu2 (cu8 (cu32 (cu32 (cu32 ()))))))))), ((r, ()), ((x.2, ()), ())))) (fun x v => sha_take_L12_step x.1 x.2 v.1 v.2) (fun x r => .ret ((cu2 ((), (cu ((), (cu2 (cu8 (cu32 (cu32 (cu32 ()))))))))), ((r, ()), ((x.2, ()), ())))) (fun z => (z.1.2.2.2.2.2.2.2.2.2.2.2.2.2.2.2.2.2.2.2.2.2.2.2.2.2.2.2.2.2.2.2.2.2.2.2.2.2.2.2.2.2.2.2.2.2.2.2.2.2.2.2.2.2.2.2.2.2.2.2.2.2.2.2.2.2.2.2.2.2.2.2.2.2.2.2.2.2.2.2.2.2.2.2.2.2.2.2.2.2.2.2.2.2.2.2.2.2.2.1, z.2.2.1.1)) (fun z => (z.1.2.2.2.2.2.2.2.2.2.2.2.2.2.2.2.2.2.2.2.2.2.2.2.2.2.2.2.2.2.2.2.2.2.2.2.2.2.2.2.2.2.2.2.2.2.2.2.2.2.2.2.2.2.2.2.2.2.2.2.2.2.2.2.2.2.2.2.2.2.2.2.2.2.2.2.2.2.2.2.2.2.2.2.2.2.2.2.2.2.2.2.2.2.2.2.2.2.2.2.1, z.2.1.1)) (fun _ => rfl) (fun _ => rfl) (fun _ _ _ h => h) ?_
  intro x v; kernel_rfl

def sha_take_T (x0 : (Int × (Int × (Int × (Int × (Int × (Int × (Int × Int)))))))) (x1 : List Int) : Tree (Int × (Int × (Int × (Int × (Int × (Int × (Int × Int))))))) :=
 .bnd (sha_spread_T x1) fun y1 =>
 .bnd sha_rounds_T fun y2 =>
 ask (inb 0 8) <|
 ask (inb 1 8) <|
 ask (inb 2 8) <|
 ask (inb 3 8) <|
 ask (inb 4 8) <|
 ask (inb 5 8) <|
 ask (inb 6 8) <|
 ask (inb 7 8) <|
 .bnd (.loop (fun v => sha_take_L5_step x0 (0, (0, (0, (0, (0, (0, (0, 0))))))) [y1.1, y1.2.1, y1.2.2.1, y1.2.2.2.1, y1.2.2.2.2.1, y1.2.2.2.2.2.1, y1.2.2.2.2.2.2.1, y1.2.2.2.2.2.2.2.1, y1.2.2.2.2.2.2.2.2.1, y1.2.2.2.2.2.2.2.2.2.1, y1.2.2.2.2.2.2.2.2.2.2.1, y1.2.2.2.2.2.2.2.2.2.2.2.1, y1.2.2.2.2.2.2.2.2.2.2.2.2.1, y1.2.2.2.2.2.2.2.2.2.2.2.2.2.1, y1.2.2.2.2.2.2.2.2.2.2.2.2.2.2.1, y1.2.2.2.2.2.2.2.2.2.2.2.2.2.2.2.1, y1.2.2.2.2.2.2.2.2.2.2.2.2.2.2.2.2.1, y1.2.2.2.2.2.2.2.2.2.2.2.2.2.2.2.2.2.1, y1.2.2.2.2.2.2.2.2.2.2.2.2.2.2.2.2.2.2.1, y1.2.2.2.2.2.2.2.2.2.2.2.2.2.2.2.2.2.2.2.1, y1.2.2.2.2.2.2.2.2.2.2.2.2.2.2.2.2.2.2.2.2.1, y1.2.2.2.2.2.2.2.2.2.2.2.2.2.2.2.2.2.2.2.2.2.1, y1.2.2.2.2.2.2.2.2.2.2.2.2.2.2.2.2.2.2.2.2.2.2.1, y1.2.2.2.2.2.2.2.2.2.2.2.2.2.2.2.2.2.2.2.2.2.2.2.1, y1.2.2.2.2.2.2.2.2.2.2.2.2.2.2.2.2.2.2.2.2.2.2.2.2.1, y1.2.2.2.2.2.2.2.2.2.2.2.2.2.2.2.2.2.2.2.2.2.2.2.2.2.1, y1.2.2.2.2.2.2.2.2.2.2.2.2.2.2.2.2.2.2.2.2.2.2.2.2.2.2.1, y1.2.2.2.2.2.2.2.2.2.2.2.2.2.2.2.2.2.2.2.2.2.2.2.2.2.2.2.1, y1.2.2.2.2.2.2.2.2.2.2.2.2.2.2.2.2.2.2.2.2.2.2.2.2.2.2.2.2.1, y1.2.2.2.2.2.2.2.2.2.2.2.2.2.2.2.2.2.2.2.2.2.2.2.2.2.2.2.2.2.1, y1.2.2.2.2.2.2.2.2.2.2.2.2.2.2.2.2.2.2.2.2.2.2.2.2.2.2.2.2.2.2.1, y1.2.2.2.2.2.2.2.2.2.2.2.2.2.2.2.2.2.2.2.2.2.2.2.2.2.2.2.2.2.2.2.1, y1.2.2.2.2.2.2.2.2.2.2.2.2.2.2.2.2.2.2.2.2.2.2.2.2.2.2.2.2.2.2.2.2.1, y1.2.2.2.2.2.2.2.2.2.2.2.2.2.2.2.2.2.2.2.2.2.2.2.2.2.2.2.2.2.2.2.2.2.1, y1.2.2.2.2.2.2.2.2.2.2.2.2.2.2.2.2.2.2.2.2.2.2.2.2.2.2.2.2.2.2.2.2.2.2.1, y1.2.2.2.2.2.2.2.2.2.2.2.2.2.2.2.2.2.2.2.2.2.2.2.2.2.2.2.2.2.2.2.2.2.2.2.1, y1.2.2.2.2.2.2.2.2.2.2.2.2.2.2.2.2.2.2.2.2.2.2.2.2.2.2.2.2.2.2.2.2.2.2.2.2.1, y1.2.2.2.2.2.2.2.2.2.2.2.2.2.2.2.2.2.2.2.2.2.2.2.2.2.2.2.2.2.2.2.2.2.2.2.2.2.1, y1.2.2.2.2.2.2.2.2.2.2.2.2.2.2.2.2.2.2.2.2.2.2.2.2.2.2.2.2.2.2.2.2.2.2.2.2.2.2.1, y1.2.2.2.2.2.2.2.2.2.2.2.2.2.2.2.2.2.2.2.2.2.2.2.2.2.2.2.2.2.2.2.2.2.2.2.2.2.2.2.1, y1.2.2.2.2.2.2.2.2.2.2.2.2.2.2.2.2.2.2.2.2.2.2.2.2.2.2.2.2.2.2.2.2.2.2.2.2.2.2.2.2.1, y1.2.2.2.2.2.2.2.2.2.2.2.2.2.2.2.2.2.2.2.2.2.2.2.2.2.2.2.2.2.2.2.2.2.2.2.2.2.2.2.2.2.1, y1.2.2.2.2.2.2.2.2.2.2.2.2.2.2.2.2.2.2.2.2.2.2.2.2.2.2.2.2.2.2.2.2.2.2.2.2.2.2.2.2.2.2.1, y1.2.2.2.2.2.2.2.2.2.2.2.2.2.2.2.2.2.2.2.2.2.2.2.2.2.2.2.2.2.2.2.2.2.2.2.2.2.2.2.2.2.2.2.1, y1.2.2.2.2.2.2.2.2.2.2.2.2.2.2.2.2.2.2.2.2.2.2.2.2.2.2.2.2.2.2.2.2.2.2.2.2.2.2.2.2.2.2.2.2.1, y1.2.2.2.2.2.2.2.2.2.2.2.2.2.2.2.2.2.2.2.2.2.2.2.2.2.2.2.2.2.2.2.2.2.2.2.2.2.2.2.2.2.2.2.2.2.1, y1.2.2.2.2.2.2.2.2.2.2.2.2.2.2.2.2.2.2.2.2.2.2.2.2.2.2.2.2.2.2.2.2.2.2.2.2.2.2.2.2.2.2.2.2.2.2.1, y1.2.2.2.2.2.2.2.2.2.2.2.2.2.2.2.2.2.2.2.2.2.2.2.2.2.2.2.2.2.2.2.2.2.2.2.2.2.2.2.2.2.2.2.2.2.2.2.1, y1.2.2.2.2.2.2.2.2.2.2.2.2.2.2.2.2.2.2.2.2.2.2.2.2.2.2.2.2.2.2.2.2.2.2.2.2.2.2.2.2.2.2.2.2.2.2.2.2.1, y1.2.2.2.2.2.2.2.2.2.2.2.2.2.2.2.2.2.2.2.2.2.2.2.2.2.2.2.2.2.2.2.2.2.2.2.2.2.2.2.2.2.2.2.2.2.2.2.2.2.1, y1.2.2.2.2.2.2.2.2.2.2.2.2.2.2.2.2.2.2.2.2.2.2.2.2.2.2.2.2.2.2.2.2.2.2.2.2.2.2.2.2.2.2.2.2.2.2.2.2.2.2.1, y1.2.2.2.2.2.2.2.2.2.2.2.2.2.2.2.2.2.2.2.2.2.2.2.2.2.2.2.2.2.2.2.2.2.2.2.2.2.2.2.2.2.2.2.2.2.2.2.2.2.2.2.1, y1.2.2.2.2.2.2.2.2.2.2.2.2.2.2.2.2.2.2.2.2.2.2.2.2.2.2.2.2.2.2.2.2.2.2.2.2.2.2.2.2.2.2.2.2.2.2.2.2.2.2.2.2.1, y1.2.2.2.2.2.2.2.2.2.2.2.2.2.2.2.2.2.2.2.2.2.2.2.2.2.2.2.2.2.2.2.2.2.2.2.2.2.2.2.2.2.2.2.2.2.2.2.2.2.2.2.2.2.1, y1.2.2.2.2.2.2.2.2.2.2.2.2.2.2.2.2.2.2.2.2.2.2.2.2.2.2.2.2.2.2.2.2.2.2.2.2.2.2.2.2.2.2.2.2.2.2.2.2.2.2.2.2.2.2.1, y1.2.2.2.2.2.2.2.2.2.2.2.2.2.2.2.2.2.2.2.2.2.2.2.2.2.2.2.2.2.2.2.2.2.2.2.2.2.2.2.2.2.2.2.2.2.2.2.2.2.2.2.2.2.2.2.1, y1.2.2.2.2.2.2.2.2.2.2.2.2.2.2.2.2.2.2.2.2.2.2.2.2.2.2.2.2.2.2.2.2.2.2.2.2.2.2.2.2.2.2.2.2.2.2.2.2.2.2.2.2.2.2.2.2.1, y1.2.2.2.2.2.2.2.2.2.2.2.2.2.2.2.2.2.2.2.2.2.2.2.2.2.2.2.2.2.2.2.2.2.2.2.2.2.2.2.2.2.2.2.2.2.2.2.2.2.2.2.2.2.2.2.2.2.1, y1.2.2.2.2.2.2.2.2.2.2.2.2.2.2.2.2.2.2.2.2.2.2.2.2.2.2.2.2.2.2.2.2.2.2.2.2.2.2.2.2.2.2.2.2.2.2.2.2.2.2.2.2.2.2.2.2.2.2.1, y1.2.2.2.2.2.2.2.2.2.2.2.2.2.2.2.2.2.2.2.2.2.2.2.2.2.2.2.2.2.2.2.2.2.2.2.2.2.2.2.2.2.2.2.2.2.2.2.2.2.2.2.2.2.2.2.2.2.2.2.1, y1.2.2.2.2.2.2.2.2.2.2.2.2.2.2.2.2.2.2.2.2.2.2.2.2.2.2.2.2.2.2.2.2.2.2.2.2.2.2.2.2.2.2.2.2.2.2.2.2.2.2.2.2.2.2.2.2.2.2.2.2.1, y1.2.2.2.2.2.2.2.2.2.2.2.2.2.2.2.2.2.2.2.2.2.2.2.2.2.2.2.2.2.2.2.2.2.2.2.2.2.2.2.2.2.2.2.2.2.2.2.2.2.2.2.2.2.2.2.2.2.2.2.2.2.1, y1.2.2.2.2.2.2.2.2.2.2.2.2.2.2.2.2.2.2.2.2.2.2.2.2.2.2.2.2.2.2.2.2.2.2.2.2.2.2.2.2.2.2.2.2.2.2.2.2.2.2.2.2.2.2.2.2.2.2.2.2.2.2.1, y1.2.2.2.2.2.2.2.2.2.2.2.2.2.2.2.2.2.2.2.2.2.2.2.2.2.2.2.2.2.2.2.2.2.2.2.2.2.2.2.2.2.2.2.2.2.2.2.2.2.2.2.2.2.2.2.2.2.2.2.2.2.2.2] [y2.1, y2.2.1, y2.2.2.1, y2.2.2.2.1, y2.2.2.2.2.1, y2.2.2.2.2.2.1, y2.2.2.2.2.2.2.1, y2.2.2.2.2.2.2.2.1, y2.2.2.2.2.2.2.2.2.1, y2.2.2.2.2.2.2.2.2.2.1, y2.2.2.2.2.2.2.2.2.2.2.1, y2.2.2.2.2.2.2.2.2.2.2.2.1, y2.2.2.2.2.2.2.2.2.2.2.2.2.1, y2.2.2.2.2.2.2.2.2.2.2.2.2.2.1, y2.2.2.2.2.2.2.2.2.2.2.2.2.2.2.1, y2.2.2.2.2.2.2.2.2.2.2.2.2.2.2.2.1, y2.2.2.2.2.2.2.2.2.2.2.2.2.2.2.2.2.1, y2.2.2.2.2.2.2.2.2.2.2.2.2.2.2.2.2.2.1, y2.2.2.2.2.2.2.2.2.2.2.2.2.2.2.2.2.2.2.1, y2.2.2.2.2.2.2.2.2.2.2.2.2.2.2.2.2.2.2.2.1, y2.2.2.2.2.2.2.2.2.2.2.2.2.2.2.2.2.2.2.2.2.1, y2.2.2.2.2.2.2.2.2.2.2.2.2.2.2.2.2.2.2.2.2.2.1, y2.2.2.2.2.2.2.2.2.2.2.2.2.2.2.2.2.2.2.2.2.2.2.1, y2.2.2.2.2.2.2.2.2.2.2.2.2.2.2.2.2.2.2.2.2.2.2.2.1, y2.2.2.2.2.2.2.2.2.2.2.2.2.2.2.2.2.2.2.2.2.2.2.2.2.1, y2.2.2.2.2.2.2.2.2.2.2.2.2.2.2.2.2.2.2.2.2.2.2.2.2.2.1, y2.2.2.2.2.2.2.2.2.2.2.2.2.2.2.2.2.2.2.2.2.2.2.2.2.2.2.1, y2.2.2.2.2.2.2.2.2.2.2.2.2.2.2.2.2.2.2.2.2.2.2.2.2.2.2.2.1, y2.2.2.2.2.2.2.2.2.2.2.2.2.2.2.2.2.2.2.2.2.2.2.2.2.2.2.2.2.1, y2.2.2.2.2.2.2.2.2.2.2.2.2.2.2.2.2.2.2.2.2.2.2.2.2.2.2.2.2.2.1, y2.2.2.2.2.2.2.2.2.2.2.2.2.2.2.2.2.2.2.2.2.2.2.2.2.2.2.2.2.2.2.1, y2.2.2.2.2.2.2.2.2.2.2.2.2.2.2.2.2.2.2.2.2.2.2.2.2.2.2.2.2.2.2.2.1, y2.2.2.2.2.2.2.2.2.2.2.2.2.2.2.2.2.2.2.2.2.2.2.2.2.2.2.2.2.2.2.2.2.1, y2.2.2.2.2.2.2.2.2.2.2.2.2.2.2.2.2.2.2.2.2.2.2.2.2.2.2.2.2.2.2.2.2.2.1, y2.2.2.2.2.2.2.2.2.2.2.2.2.2.2.2.2.2.2.2.2.2.2.2.2.2.2.2.2.2.2.2.2.2.2.1, y2.2.2.2.2.2.2.2.2.2.2.2.2.2.2.2.2.2.2.2.2.2.2.2.2.2.2.2.2.2.2.2.2.2.2.2.1, y2.2.2.2.2.2.2.2.2.2.2.2.2.2.2.2.2.2.2.2.2.2.2.2.2.2.2.2.2.2.2.2.2.2.2.2.2.1, y2.2.2.2.2.2.2.2.2.2.2.2.2.2.2.2.2.2.2.2.2.2.2.2.2.2.2.2.2.2.2.2.2.2.2.2.2.2.1, y2.2.2.2.2.2.2.2.2.2.2.2.2.2.2.2.2.2.2.2.2.2.2.2.2.2.2.2.2.2.2.2.2.2.2.2.2.2.2.1, y2.2.2.2.2.2.2.2.2.2.2.2.2.2.2.2.2.2.2.2.2.2.2.2.2.2.2.2.2.2.2.2.2.2.2.2.2.2.2.2.1, y2.2.2.2.2.2.2.2.2.2.2.2.2.2.2.2.2.2.2.2.2.2.2.2.2.2.2.2.2.2.2.2.2.2.2.2.2.2.2.2.2.1, y2.2.2.2.2.2.2.2.2.2.2.2.2.2.2.2.2.2.2.2.2.2.2.2.2.2.2.2.2.2.2.2.2.2.2.2.2.2.2.2.2.2.1, y2.2.2.2.2.2.2.2.2.2.2.2.2.2.2.2.2.2.2.2.2.2.2.2.2.2.2.2.2.2.2.2.2.2.2.2.2.2.2.2.2.2.2.1, y2.2.2.2.2.2.2.2.2.2.2.2.2.2.2.2.2.2.2.2.2.2.2.2.2.2.2.2.2.2.2.2.2.2.2.2.2.2.2.2.2.2.2.2.1, y2.2.2.2.2.2.2.2.2.2.2.2.2.2.2.2.2.2.2.2.2.2.2.2.2.2.2.2.2.2.2.2.2.2.2.2.2.2.2.2.2.2.2.2.2.1, y2.2.2.2.2.2.2.2.2.2.2.2.2.2.2.2.2.2.2.2.2.2.2.2.2.2.2.2.2.2.2.2.2.2.2.2.2.2.2.2.2.2.2.2.2.2.1, y2.2.2.2.2.2.2.2.2.2.2.2.2.2.2.2.2.2.2.2.2.2.2.2.2.2.2.2.2.2.2.2.2.2.2.2.2.2.2.2.2.2.2.2.2.2.2.1, y2.2.2.2.2.2.2.2.2.2.2.2.2.2.2.2.2.2.2.2.2.2.2.2.2.2.2.2.2.2.2.2.2.2.2.2.2.2.2.2.2.2.2.2.2.2.2.2.1, y2.2.2.2.2.2.2.2.2.2.2.2.2.2.2.2.2.2.2.2.2.2.2.2.2.2.2.2.2.2.2.2.2.2.2.2.2.2.2.2.2.2.2.2.2.2.2.2.2.1, y2.2.2.2.2.2.2.2.2.2.2.2.2.2.2.2.2.2.2.2.2.2.2.2.2.2.2.2.2.2.2.2.2.2.2.2.2.2.2.2.2.2.2.2.2.2.2.2.2.2.1, y2.2.2.2.2.2.2.2.2.2.2.2.2.2.2.2.2.2.2.2.2.2.2.2.2.2.2.2.2.2.2.2.2.2.2.2.2.2.2.2.2.2.2.2.2.2.2.2.2.2.2.1, y2.2.2.2.2.2.2.2.2.2.2.2.2.2.2.2.2.2.2.2.2.2.2.2.2.2.2.2.2.2.2.2.2.2.2.2.2.2.2.2.2.2.2.2.2.2.2.2.2.2.2.2.1, y2.2.2.2.2.2.2.2.2.2.2.2.2.2.2.2.2.2.2.2.2.2.2.2.2.2.2.2.2.2.2.2.2.2.2.2.2.2.2.2.2.2.2.2.2.2.2.2.2.2.2.2.2.1, y2.2.2.2.2.2.2.2.2.2.2.2.2.2.2.2.2.2.2.2.2.2.2.2.2.2.2.2.2.2.2.2.2.2.2.2.2.2.2.2.2.2.2.2.2.2.2.2.2.2.2.2.2.2.1, y2.2.2.2.2.2.2.2.2.2.2.2.2.2.2.2.2.2.2.2.2.2.2.2.2.2.2.2.2.2.2.2.2.2.2.2.2.2.2.2.2.2.2.2.2.2.2.2.2.2.2.2.2.2.2.1, y2.2.2.2.2.2.2.2.2.2.2.2.2.2.2.2.2.2.2.2.2.2.2.2.2.2.2.2.2.2.2.2.2.2.2.2.2.2.2.2.2.2.2.2.2.2.2.2.2.2.2.2.2.2.2.2.1, y2.2.2.2.2.2.2.2.2.2.2.2.2.2.2.2.2.2.2.2.2.2.2.2.2.2.2.2.2.2.2.2.2.2.2.2.2.2.2.2.2.2.2.2.2.2.2.2.2.2.2.2.2.2.2.2.2.1, y2.2.2.2.2.2.2.2.2.2.2.2.2.2.2.2.2.2.2.2.2.2.2.2.2.2.2.2.2.2.2.2.2.2.2.2.2.2.2.2.2.2.2.2.2.2.2.2.2.2.2.2.2.2.2.2.2.2.1, y2.2.2.2.2.2.2.2.2.2.2.2.2.2.2.2.2.2.2.2.2.2.2.2.2.2.2.2.2.2.2.2.2.2.2.2.2.2.2.2.2.2.2.2.2.2.2.2.2.2.2.2.2.2.2.2.2.2.2.1, y2.2.2.2.2.2.2.2.2.2.2.2.2.2.2.2.2.2.2.2.2.2.2.2.2.2.2.2.2.2.2.2.2.2.2.2.2.2.2.2.2.2.2.2.2.2.2.2.2.2.2.2.2.2.2.2.2.2.2.2.1, y2.2.2.2.2.2.2.2.2.2.2.2.2.2.2.2.2.2.2.2.2.2.2.2.2.2.2.2.2.2.2.2.2.2.2.2.2.2.2.2.2.2.2.2.2.2.2.2.2.2.2.2.2.2.2.2.2.2.2.2.2.1, y2.2.2.2.2.2.2.2.2.2.2.2.2.2.2.2.2.2.2.2.2.2.2.2.2.2.2.2.2.2.2.2.2.2.2.2.2.2.2.2.2.2.2.2.2.2.2.2.2.2.2.2.2.2.2.2.2.2.2.2.2.2.1, y2.2.2.2.2.2.2.2.2.2.2.2.2.2.2.2.2.2.2.2.2.2.2.2.2.2.2.2.2.2.2.2.2.2.2.2.2.2.2.2.2.2.2.2.2.2.2.2.2.2.2.2.2.2.2.2.2.2.2.2.2.2.2.1, y2.2.2.2.2.2.2.2.2.2.2.2.2.2.2.2.2.2.2.2.2.2.2.2.2.2.2.2.2.2.2.2.2.2.2.2.2.2.2.2.2.2.2.2.2.2.2.2.2.2.2.2.2.2.2.2.2.2.2.2.2.2.2.2] v.1 v.2.1 v.2.2.1 v.2.2.2.1 v.2.2.2.2.1 v.2.2.2.2.2.1 v.2.2.2.2.2.2.1 v.2.2.2.2.2.2.2.1 v.2.2.2.2.2.2.2.2) (x0.1, x0.2.1, x0.2.2.1, x0.2.2.2.1, x0.2.2.2.2.1, x0.2.2.2.2.2.1, x0.2.2.2.2.2.2.1, x0.2.2.2.2.2.2.2, 0)) fun r3 =>
 .bnd (.loop (fun v => sha_take_L12_step r3 (0, (0, (0, (0, (0, (0, (0, 0))))))) v.1 v.2) (0, x0)) fun r4 =>
 .ret r4

def sha_take_g : Sig := ⟨107, (.cons (.val true (.pair (.int .u32) (.pair (.int .u32) (.pair (.int .u32) (.pair (.int .u32) (.pair (.int .u32) (.pair (.int .u32) (.pair (.int .u32) (.int .u32))))))))) (.cons (.val false (.list (.int .u8))) .nil)), .vals (.val true (.pair (.int .u32) (.pair (.int .u32) (.pair (.int .u32) (.pair (.int .u32) (.pair (.int .u32) (.pair (.int .u32) (.pair (.int .u32) (.int .u32))))))))), fun z => sha_take_T z.1 z.2.1, (dfl (.pair (.int .u32) (.pair (.int .u32) (.pair (.int .u32) (.pair (.int .u32) (.pair (.int .u32) (.pair (.int .u32) (.pair (.int .u32) (.int .u32)))))))) : (Int × (Int × (Int × (Int × (Int × (Int × (Int × Int))))))))⟩

theorem sha_take_ok : sha_take_g.ok Tryz.prog := by
  refine Sig.lift mix tabOk nms _ Tryz.func107 (c := (bodyOf Tryz.f107)) (by kernel_rfl) (o := orT [sha_spread_g, sha_rounds_g, sha_turns_g] [sha_take_L5, sha_take_L12] sha_take_fz) (orT_sound ⟨sha_spread_ok, ⟨sha_rounds_ok, ⟨sha_turns_ok, trivial⟩⟩⟩) (allLp_of [nthC (loopsOf (bodyOf Tryz.f107)) 0, nthC (loopsOf (bodyOf Tryz.f107)) 1] (by kernel_rfl) ⟨sha_take_L5_ok, ⟨sha_take_L12_ok, trivial⟩⟩ (by kernel_rfl)) ?_
  intro z; kernel_rfl

def octet_Writer_Count_T (x0 : Int) (x1 : List Int) : Tree (Unit × ((Unit × (Unit × Unit)) × ((List Int) × Unit))) :=
 .bnd (octet_Writer_low_T x0 4 x1) fun y1 =>
 .ret ((), (((), ((), ())), (y1.2.2.1, ())))

def octet_Writer_Count_g : MSig := ⟨108, (.cons (.ref 0 0) (.cons (.val false (.int .i64)) .nil)), (.cells 118 (.cons (.selfp 0) (.cons (.own 1) .nil)) (.rows 5 (.int .u8) .nil)), [], .nil, (.cells 118 (.cons (.selfp 0) (.cons (.own 1) .nil)) (.rows 5 (.int .u8) .nil)), some 1, fun z => octet_Writer_Count_T z.1.2.1 z.2.2.1⟩

theorem octet_Writer_Count_ok : octet_Writer_Count_g.ok Tryz.prog := by
  refine MSig.lift mix tabOk nms _ Tryz.func108 (c := (bodyOf Tryz.f108)) (by kernel_rfl) (o := orM [] [octet_Writer_low_g] [] noFz) (orM_sound trivial ⟨octet_Writer_low_ok, trivial⟩) (allLp_ofM [] (by kernel_rfl) trivial rfl) (fun _ => rfl) ?_
  intro z; kernel_rfl

def sha_Sum_fz : Nat → List Pre
  | 5 => [.ownC 1 1 5 (.int .u8)]
  | 10 => [.two]
  | 14 => [.spl 44 8]
  | _ => []

def sha_Sum_L2_step (s_ : Str) (all : List Int) : Tree (List Int ⊕ (List Int)) :=
 ask (!decide ((64 : Int) = 0)) <|
 .ite (!decide (((all.length : Int).tmod 64) = 56)) (
 ask (decide ((all ++ [0]).length * 1 ≤ roomNat)) <|
 .ret (.inl (all ++ [0]))) (
 .ret (.inr all))

def sha_Sum_L2 : Lp := ⟨2, [], [], (.cons (.val false .str) (ca2 (.cons (.own 0) (ca2 (ca16 (ca32 .nil)))))), (.rows 5 (.int .u8) .nil), 0, .one 1 [] (.cons (.val false .str) (ca2 (.cons (.own 0) (ca2 (ca16 (ca32 .nil)))))) (.rows 5 (.int .u8) .nil), fun z => .bnd (.loop (fun v => sha_Sum_L2_step z.1.1 v) z.2.1) fun r => .ret ((z.1.1, (cu2 ((), (cu2 (cu16 (cu32 ())))))), (r, ()))⟩

theorem sha_Sum_L2_ok : sha_Sum_L2.ok Tryz.prog (nthC (loopsOf (bodyOf Tryz.f91)) 0) := by
  refine Lp.lift (π := Str) (V := List Int) (ρ := List Int) mix tabOk sha_Sum_L2 (o := orM [sha_take_g] [octet_Writer_Int_g, octet_Writer_Bytes_g, octet_Writer_Count_g] [] sha_Sum_fz) (orM_sound ⟨sha_take_ok, trivial⟩ ⟨octet_Writer_Int_ok, ⟨octet_Writer_Bytes_ok, ⟨octet_Writer_Count_ok, trivial⟩⟩⟩) (allLp_ofM [] (by kernel_rfl) trivial rfl) (fun x v => ((x, (cu2 ((), (cu2 (cu16 (cu32 ())))))), (v, ()))) (fun x r => ((x, (cu2 ((), (cu2 (cu16 (cu32 ())))))), (r, ()))) (fun x v => sha_Sum_L2_step x v) (fun x r => .ret ((x, (cu2 ((), (cu2 (cu16 (cu32 ())))))), (r, ()))) (fun z => z.1.1) (fun z => z.2.1) (fun _ => rfl) (fun _ => rfl) (fun _ _ _ h => h) ?_
  intro x v; kernel_rfl

def sha_Sum_L8_step (all : List Int) (state : (Int × (Int × (Int × (Int × (Int × (Int × (Int × Int)))))))) : Tree (((List Int) × (Int × (Int × (Int × (Int × (Int × (Int × (Int × Int)))))))) ⊕ (Int × (Int × (Int × (Int × (Int × (Int × (Int × Int)))))))) :=
 .ite (decide ((0 : Int) < (all.length : Int))) (
 ask (inbe 64 all.length) <|
 .bnd (sha_take_T state (all.take (64 : Int).toNat)) fun y1 =>
 ask (inbe 64 all.length) <|
 .ret (.inl ((all.drop (64 : Int).toNat), y1))) (
 .ret (.inr state))

def sha_Sum_L8 : Lp := ⟨8, [.frz 0], [], (ca (ca2 (.cons (.val false (.list (.int .u8))) (ca (.cons (.ref 3 0) (ca16 (ca32 .nil))))))), (.dead (.cells 118 (ca2 .nil) (.dead (.cells 121 (.cons (.flat (.pair (.int .u32) (.pair (.int .u32) (.pair (.int .u32) (.pair (.int .u32) (.pair (.int .u32) (.pair (.int .u32) (.pair (.int .u32) (.int .u32))))))))) .nil) .nil)))), 0, .one 3 [] (ca (ca4 (.cons (.ref 3 0) (ca16 (ca32 .nil))))) (.dead (.cells 118 (ca2 .nil) (.dead (.cells 121 (.cons (.flat (.pair (.int .u32) (.pair (.int .u32) (.pair (.int .u32) (.pair (.int .u32) (.pair (.int .u32) (.pair (.int .u32) (.pair (.int .u32) (.int .u32))))))))) .nil) .nil)))), fun z => .bnd (.loop (fun v => sha_Sum_L8_step v.1 v.2) (z.1.2.2.2.1, z.2.2.1.1)) fun r => .ret ((cu (cu4 ((), (cu16 (cu32 ()))))), ((cu2 ()), ((r, ()), ())))⟩

theorem sha_Sum_L8_ok : sha_Sum_L8.ok Tryz.prog (nthC (loopsOf (bodyOf Tryz.f91)) 1) := by
  refine Lp.lift (π := Unit) (V := ((List Int) × (Int × (Int × (Int × (Int × (Int × (Int × (Int × Int))))))))) (ρ := (Int × (Int × (Int × (Int × (Int × (Int × (Int × Int)))))))) mix tabOk sha_Sum_L8 (o := orM [sha_take_g] [octet_Writer_Int_g, octet_Writer_Bytes_g, octet_Writer_Count_g] [] sha_Sum_fz) (orM_sound ⟨sha_take_ok, trivial⟩ ⟨octet_Writer_Int_ok, ⟨octet_Writer_Bytes_ok, ⟨octet_Writer_Count_ok, trivial⟩⟩⟩) (allLp_ofM [] (by kernel_rfl) trivial rfl) (fun x v => ((cu (cu2 (v.1, (cu ((), (cu16 (cu32 ()))))))), ((cu2 ()), ((v.2, ()), ())))) (fun x r => ((cu (cu4 ((), (cu16 (cu32 ()))))), ((cu2 ()), ((r, ()), ())))) (fun x v => sha_Sum_L8_step v.1 v.2) (fun x r => .ret ((cu (cu4 ((), (cu16 (cu32 ()))))), ((cu2 ()), ((r, ()), ())))) (fun z => ()) (fun z => (z.1.2.2.2.1, z.2.2.1.1)) (fun _ => rfl) (fun _ => rfl) (fun _ _ _ h => h) ?_
  intro x v; kernel_rfl

def sha_Sum_L13_step (t : (Int × (Int × (Int × (Int × (Int × (Int × (Int × Int)))))))) (t2 : Int) (rows : List Int) : Tree ((Int × (List Int)) ⊕ (List Int)) :=
 .ite (decide (t2 < 8)) (
 .ite (decide (t2 = 0)) (
 ask (inb 0 8) <|
 .bnd (octet_Writer_Count_T (w64 (t.1)) rows) fun y8 =>
 .ret (.inl ((w64 ((0 : Int) + 1)), y8.2.2.1))) (
 .ite (decide (t2 = 1)) (
 ask (inb 1 8) <|
 .bnd (octet_Writer_Count_T (w64 (t.2.1)) rows) fun y7 =>
 .ret (.inl ((w64 ((1 : Int) + 1)), y7.2.2.1))) (
 .ite (decide (t2 = 2)) (
 ask (inb 2 8) <|
 .bnd (octet_Writer_Count_T (w64 (t.2.2.1)) rows) fun y6 =>
 .ret (.inl ((w64 ((2 : Int) + 1)), y6.2.2.1))) (
 .ite (decide (t2 = 3)) (
 ask (inb 3 8) <|
 .bnd (octet_Writer_Count_T (w64 (t.2.2.2.1)) rows) fun y5 =>
 .ret (.inl ((w64 ((3 : Int) + 1)), y5.2.2.1))) (
 .ite (decide (t2 = 4)) (
 ask (inb 4 8) <|
 .bnd (octet_Writer_Count_T (w64 (t.2.2.2.2.1)) rows) fun y4 =>
 .ret (.inl ((w64 ((4 : Int) + 1)), y4.2.2.1))) (
 .ite (decide (t2 = 5)) (
 ask (inb 5 8) <|
 .bnd (octet_Writer_Count_T (w64 (t.2.2.2.2.2.1)) rows) fun y3 =>
 .ret (.inl ((w64 ((5 : Int) + 1)), y3.2.2.1))) (
 .ite (decide (t2 = 6)) (
 ask (inb 6 8) <|
 .bnd (octet_Writer_Count_T (w64 (t.2.2.2.2.2.2.1)) rows) fun y2 =>
 .ret (.inl ((w64 ((6 : Int) + 1)), y2.2.2.1))) (
 .ite (decide (t2 = 7)) (
 ask (inb 7 8) <|
 .bnd (octet_Writer_Count_T (w64 (t.2.2.2.2.2.2.2)) rows) fun y1 =>
 .ret (.inl ((w64 ((7 : Int) + 1)), y1.2.2.1))) (
 .fail))))))))) (
 .ret (.inr rows))

def sha_Sum_L13 : Lp := ⟨13, [.ownC 4 1 5 (.int .u8)], [], (ca2 (ca4 (.cons (.ref 4 0) (ca4 (ca32 (.cons (.val true (.pair (.int .u32) (.pair (.int .u32) (.pair (.int .u32) (.pair (.int .u32) (.pair (.int .u32) (.pair (.int .u32) (.pair (.int .u32) (.int .u32))))))))) (.cons (.val false (.int .i64)) (ca (ca8 .nil))))))))), (.dead (.cells 118 (ca2 .nil) (.dead (.cells 121 (ca8 .nil) (.cells 118 (.cons (.selfp 4) (.cons (.own 5) .nil)) (.rows 5 (.int .u8) .nil)))))), 0, .one 5 [] (ca2 (ca4 (.cons (.ref 4 0) (ca (ca2 (ca4 (ca8 (ca32 .nil)))))))) (.dead (.cells 118 (ca2 .nil) (.dead (.cells 121 (ca8 .nil) (.cells 118 (.cons (.selfp 4) (.cons (.own 5) .nil)) (.rows 5 (.int .u8) .nil)))))), fun z => .bnd (.loop (fun v => sha_Sum_L13_step z.1.2.2.2.2.2.2.2.2.2.2.2.2.2.2.2.2.2.2.2.2.2.2.2.2.2.2.2.2.2.2.2.2.2.2.2.2.2.2.2.2.2.2.2.1 v.1 v.2) (z.1.2.2.2.2.2.2.2.2.2.2.2.2.2.2.2.2.2.2.2.2.2.2.2.2.2.2.2.2.2.2.2.2.2.2.2.2.2.2.2.2.2.2.2.2.1, z.2.2.2.2.1)) fun r => .ret ((cu2 (cu4 ((), (cu (cu2 (cu4 (cu8 (cu32 ())))))))), ((cu2 ()), ((cu8 ()), (((), ((), ())), (r, ())))))⟩

theorem sha_Sum_L13_ok : sha_Sum_L13.ok Tryz.prog (nthC (loopsOf (bodyOf Tryz.f91)) 2) := by
  refine Lp.lift (π := (Int × (Int × (Int × (Int × (Int × (Int × (Int × Int)))))))) (V := (Int × (List Int))) (ρ := List Int) mix tabOk sha_Sum_L13 (o := orM [sha_take_g] [octet_Writer_Int_g, octet_Writer_Bytes_g, octet_Writer_Count_g] [] sha_Sum_fz) (orM_sound ⟨sha_take_ok, trivial⟩ ⟨octet_Writer_Int_ok, ⟨octet_Writer_Bytes_ok, ⟨octet_Writer_Count_ok, trivial⟩⟩⟩) (allLp_ofM [] (by kernel_rfl) trivial rfl) (fun x v => ((cu2 (cu4 ((), (cu4 (cu32 (x, (v.1, (cu (cu8 ()))))))))), ((cu2 ()), ((cu8 ()), (((), ((), ())), (v.2, ())))))) (fun x r => ((cu2 (cu4 ((), (cu (cu2 (cu4 (cu8 (cu32 ())))))))), ((cu2 ()), ((cu8 ()), (((), ((), ())), (r, ())))))) (fun x v => sha_Sum_L13_step x v.1 v.2) (fun x r => .ret ((cu2 (cu4 ((), (cu (cu2 (cu4 (cu8 (cu32 ())))))))), ((cu2 ()), ((cu8 ()), (((), ((), ())), (r, ())))))) (fun z => z.1.2.2.2.2.2.2.2.2.2.2.2.2.2.2.2.2.2.2.2.2.2.2.2.2.2.2.2.2.2.2.2.2.2.2.2.2.2.2.2.2.2.2.2.1) (fun z => (z.1.2.2.2.2.2.2.2.2.2.2.2.2.2.2.2.2.2.2.2.2.2.2.2.2.2.2.2.2.2.2.2.2.2.2.2.2.2.2.2.2.2.2.2.2.1, z.2.2.2.2.1)) (fun _ => rfl) (fun _ => rfl) (fun _ _ _ h => h) ?_
  intro x v; kernel_rfl

def sha_Sum_T (x0 : Str) : Tree Str :=
 ask (decide (((strI x0) ++ [128]).length * 1 ≤ roomNat)) <|
 .bnd (.loop (fun v => sha_Sum_L2_step x0 v) ((strI x0) ++ [128])) fun r1 =>
 .bnd (octet_Writer_Int_T (w64 ((8 : Int) * (x0.length : Int))) ([] : List Int)) fun y2 =>
 .bnd (octet_Writer_Bytes_T y2.2.2.1) fun y3 =>
 ask (decide ((r1 ++ strI y3.1).length * 1 ≤ roomNat)) <|
 .bnd (.loop (fun v => sha_Sum_L8_step v.1 v.2) ((r1 ++ strI y3.1), (1779033703, (3144134277, (1013904242, (2773480762, (1359893119, (2600822924, (528734635, 1541459225))))))))) fun r4 =>
 .bnd (.loop (fun v => sha_Sum_L13_step r4 v.1 v.2) (0, ([] : List Int))) fun r5 =>
 .bnd (octet_Writer_Bytes_T r5) fun y6 =>
 .ret y6.1

def sha_Sum_g : Sig := ⟨91, (.cons (.val false .str) .nil), .vals (.val false .str), fun z => sha_Sum_T z.1, ([] : Str)⟩

theorem sha_Sum_ok : sha_Sum_g.ok Tryz.prog := by
  refine Sig.lift mix tabOk nms _ Tryz.func91 (c := (bodyOf Tryz.f91)) (by kernel_rfl) (o := orM [sha_take_g] [octet_Writer_Int_g, octet_Writer_Bytes_g, octet_Writer_Count_g] [sha_Sum_L2, sha_Sum_L8, sha_Sum_L13] sha_Sum_fz) (orM_sound ⟨sha_take_ok, trivial⟩ ⟨octet_Writer_Int_ok, ⟨octet_Writer_Bytes_ok, ⟨octet_Writer_Count_ok, trivial⟩⟩⟩) (allLp_ofM [nthC (loopsOf (bodyOf Tryz.f91)) 0, nthC (loopsOf (bodyOf Tryz.f91)) 1, nthC (loopsOf (bodyOf Tryz.f91)) 2] (by kernel_rfl) ⟨sha_Sum_L2_ok, ⟨sha_Sum_L8_ok, ⟨sha_Sum_L13_ok, trivial⟩⟩⟩ (by kernel_rfl)) ?_
  intro z; kernel_rfl

def mac_Sum_1_L3_step (by_ : Int) (t : Int) (mixed : List Int) : Tree ((Int × (List Int)) ⊕ (List Int)) :=
 .ite (decide (t < 64)) (
 ask (inb t 64) <|
 ask (Nat.ble (t.toNat + 1) mixed.length) <|
 ask (inb t 64) <|
 ask (Nat.ble (t.toNat + 1) mixed.length) <|
 .ret (.inl ((w64 (t + 1)), (mixed.set t.toNat (stdArith .xor .u8 (mixed.getD t.toNat (0 : Int)) by_))))) (
 .ret (.inr mixed))

def mac_Sum_1_L3 : Lp := ⟨3, [.arr 0 (.int .u8)], [], (.cons (.val false (.int .u8)) (ca (ca2 (.cons (.ref 0 0) (ca2 (.cons (.val false (.int .i64)) (ca (ca2 (ca8 .nil))))))))), (.arr 100 (.int .u8) .nil), 0, .one 1 [] (ca4 (.cons (.ref 0 0) (ca2 (ca4 (ca8 .nil))))) (.arr 100 (.int .u8) .nil), fun z => .bnd (.loop (fun v => mac_Sum_1_L3_step z.1.1 v.1 v.2) (z.1.2.2.2.2.2.2.2.1, z.2.1)) fun r => .ret ((cu4 ((), (cu2 (cu4 (cu8 ()))))), (r, ()))⟩

theorem mac_Sum_1_L3_ok : mac_Sum_1_L3.ok Tryz.prog (nthC (loopsOf (bodyOf Tryz.f92)) 0) := by
  refine Lp.lift (π := Int) (V := (Int × (List Int))) (ρ := List Int) mix tabOk mac_Sum_1_L3 (o := orT [] [] noFz) (orT_sound trivial) (allLp_of [] (by kernel_rfl) trivial rfl) (fun x v => ((x, (cu (cu2 ((), (cu2 (v.1, (cu (cu2 (cu8 ()))))))))), (v.2, ()))) (fun x r => ((cu4 ((), (cu2 (cu4 (cu8 ()))))), (r, ()))) (fun x v => mac_Sum_1_L3_step x v.1 v.2) (fun x r => .ret ((cu4 ((), (cu2 (cu4 (cu8 ()))))), (r, ()))) (fun z => z.1.1) (fun z => (z.1.2.2.2.2.2.2.2.1, z.2.1)) (fun _ => rfl) (fun _ => rfl) (fun _ _ _ h => h) ?_
  intro x v; kernel_rfl

def mac_Sum_1_T (x0 : Int) (x1 : A64u8) : Tree Str :=
 .bnd (.loop (fun v => mac_Sum_1_L3_step x0 v.1 v.2) (0, [x1.1, x1.2.1, x1.2.2.1, x1.2.2.2.1, x1.2.2.2.2.1, x1.2.2.2.2.2.1, x1.2.2.2.2.2.2.1, x1.2.2.2.2.2.2.2.1, x1.2.2.2.2.2.2.2.2.1, x1.2.2.2.2.2.2.2.2.2.1, x1.2.2.2.2.2.2.2.2.2.2.1, x1.2.2.2.2.2.2.2.2.2.2.2.1, x1.2.2.2.2.2.2.2.2.2.2.2.2.1, x1.2.2.2.2.2.2.2.2.2.2.2.2.2.1, x1.2.2.2.2.2.2.2.2.2.2.2.2.2.2.1, x1.2.2.2.2.2.2.2.2.2.2.2.2.2.2.2.1, x1.2.2.2.2.2.2.2.2.2.2.2.2.2.2.2.2.1, x1.2.2.2.2.2.2.2.2.2.2.2.2.2.2.2.2.2.1, x1.2.2.2.2.2.2.2.2.2.2.2.2.2.2.2.2.2.2.1, x1.2.2.2.2.2.2.2.2.2.2.2.2.2.2.2.2.2.2.2.1, x1.2.2.2.2.2.2.2.2.2.2.2.2.2.2.2.2.2.2.2.2.1, x1.2.2.2.2.2.2.2.2.2.2.2.2.2.2.2.2.2.2.2.2.2.1, x1.2.2.2.2.2.2.2.2.2.2.2.2.2.2.2.2.2.2.2.2.2.2.1, x1.2.2.2.2.2.2.2.2.2.2.2.2.2.2.2.2.2.2.2.2.2.2.2.1, x1.2.2.2.2.2.2.2.2.2.2.2.2.2.2.2.2.2.2.2.2.2.2.2.2.1, x1.2.2.2.2.2.2.2.2.2.2.2.2.2.2.2.2.2.2.2.2.2.2.2.2.2.1, x1.2.2.2.2.2.2.2.2.2.2.2.2.2.2.2.2.2.2.2.2.2.2.2.2.2.2.1, x1.2.2.2.2.2.2.2.2.2.2.2.2.2.2.2.2.2.2.2.2.2.2.2.2.2.2.2.1, x1.2.2.2.2.2.2.2.2.2.2.2.2.2.2.2.2.2.2.2.2.2.2.2.2.2.2.2.2.1, x1.2.2.2.2.2.2.2.2.2.2.2.2.2.2.2.2.2.2.2.2.2.2.2.2.2.2.2.2.2.1, x1.2.2.2.2.2.2.2.2.2.2.2.2.2.2.2.2.2.2.2.2.2.2.2.2.2.2.2.2.2.2.1, x1.2.2.2.2.2.2.2.2.2.2.2.2.2.2.2.2.2.2.2.2.2.2.2.2.2.2.2.2.2.2.2.1, x1.2.2.2.2.2.2.2.2.2.2.2.2.2.2.2.2.2.2.2.2.2.2.2.2.2.2.2.2.2.2.2.2.1, x1.2.2.2.2.2.2.2.2.2.2.2.2.2.2.2.2.2.2.2.2.2.2.2.2.2.2.2.2.2.2.2.2.2.1, x1.2.2.2.2.2.2.2.2.2.2.2.2.2.2.2.2.2.2.2.2.2.2.2.2.2.2.2.2.2.2.2.2.2.2.1, x1.2.2.2.2.2.2.2.2.2.2.2.2.2.2.2.2.2.2.2.2.2.2.2.2.2.2.2.2.2.2.2.2.2.2.2.1, x1.2.2.2.2.2.2.2.2.2.2.2.2.2.2.2.2.2.2.2.2.2.2.2.2.2.2.2.2.2.2.2.2.2.2.2.2.1, x1.2.2.2.2.2.2.2.2.2.2.2.2.2.2.2.2.2.2.2.2.2.2.2.2.2.2.2.2.2.2.2.2.2.2.2.2.2.1, x1.2.2.2.2.2.2.2.2.2.2.2.2.2.2.2.2.2.2.2.2.2.2.2.2.2.2.2.2.2.2.2.2.2.2.2.2.2.2.1, x1.2.2.2.2.2.2.2.2.2.2.2.2.2.2.2.2.2.2.2.2.2.2.2.2.2.2.2.2.2.2.2.2.2.2.2.2.2.2.2.1, x1.2.2.2.2.2.2.2.2.2.2.2.2.2.2.2.2.2.2.2.2.2.2.2.2.2.2.2.2.2.2.2.2.2.2.2.2.2.2.2.2.1, x1.2.2.2.2.2.2.2.2.2.2.2.2.2.2.2.2.2.2.2.2.2.2.2.2.2.2.2.2.2.2.2.2.2.2.2.2.2.2.2.2.2.1, x1.2.2.2.2.2.2.2.2.2.2.2.2.2.2.2.2.2.2.2.2.2.2.2.2.2.2.2.2.2.2.2.2.2.2.2.2.2.2.2.2.2.2.1, x1.2.2.2.2.2.2.2.2.2.2.2.2.2.2.2.2.2.2.2.2.2.2.2.2.2.2.2.2.2.2.2.2.2.2.2.2.2.2.2.2.2.2.2.1, x1.2.2.2.2.2.2.2.2.2.2.2.2.2.2.2.2.2.2.2.2.2.2.2.2.2.2.2.2.2.2.2.2.2.2.2.2.2.2.2.2.2.2.2.2.1, x1.2.2.2.2.2.2.2.2.2.2.2.2.2.2.2.2.2.2.2.2.2.2.2.2.2.2.2.2.2.2.2.2.2.2.2.2.2.2.2.2.2.2.2.2.2.1, x1.2.2.2.2.2.2.2.2.2.2.2.2.2.2.2.2.2.2.2.2.2.2.2.2.2.2.2.2.2.2.2.2.2.2.2.2.2.2.2.2.2.2.2.2.2.2.1, x1.2.2.2.2.2.2.2.2.2.2.2.2.2.2.2.2.2.2.2.2.2.2.2.2.2.2.2.2.2.2.2.2.2.2.2.2.2.2.2.2.2.2.2.2.2.2.2.1, x1.2.2.2.2.2.2.2.2.2.2.2.2.2.2.2.2.2.2.2.2.2.2.2.2.2.2.2.2.2.2.2.2.2.2.2.2.2.2.2.2.2.2.2.2.2.2.2.2.1, x1.2.2.2.2.2.2.2.2.2.2.2.2.2.2.2.2.2.2.2.2.2.2.2.2.2.2.2.2.2.2.2.2.2.2.2.2.2.2.2.2.2.2.2.2.2.2.2.2.2.1, x1.2.2.2.2.2.2.2.2.2.2.2.2.2.2.2.2.2.2.2.2.2.2.2.2.2.2.2.2.2.2.2.2.2.2.2.2.2.2.2.2.2.2.2.2.2.2.2.2.2.2.1, x1.2.2.2.2.2.2.2.2.2.2.2.2.2.2.2.2.2.2.2.2.2.2.2.2.2.2.2.2.2.2.2.2.2.2.2.2.2.2.2.2.2.2.2.2.2.2.2.2.2.2.2.1, x1.2.2.2.2.2.2.2.2.2.2.2.2.2.2.2.2.2.2.2.2.2.2.2.2.2.2.2.2.2.2.2.2.2.2.2.2.2.2.2.2.2.2.2.2.2.2.2.2.2.2.2.2.1, x1.2.2.2.2.2.2.2.2.2.2.2.2.2.2.2.2.2.2.2.2.2.2.2.2.2.2.2.2.2.2.2.2.2.2.2.2.2.2.2.2.2.2.2.2.2.2.2.2.2.2.2.2.2.1, x1.2.2.2.2.2.2.2.2.2.2.2.2.2.2.2.2.2.2.2.2.2.2.2.2.2.2.2.2.2.2.2.2.2.2.2.2.2.2.2.2.2.2.2.2.2.2.2.2.2.2.2.2.2.2.1, x1.2.2.2.2.2.2.2.2.2.2.2.2.2.2.2.2.2.2.2.2.2.2.2.2.2.2.2.2.2.2.2.2.2.2.2.2.2.2.2.2.2.2.2.2.2.2.2.2.2.2.2.2.2.2.2.1, x1.2.2.2.2.2.2.2.2.2.2.2.2.2.2.2.2.2.2.2.2.2.2.2.2.2.2.2.2.2.2.2.2.2.2.2.2.2.2.2.2.2.2.2.2.2.2.2.2.2.2.2.2.2.2.2.2.1, x1.2.2.2.2.2.2.2.2.2.2.2.2.2.2.2.2.2.2.2.2.2.2.2.2.2.2.2.2.2.2.2.2.2.2.2.2.2.2.2.2.2.2.2.2.2.2.2.2.2.2.2.2.2.2.2.2.2.1, x1.2.2.2.2.2.2.2.2.2.2.2.2.2.2.2.2.2.2.2.2.2.2.2.2.2.2.2.2.2.2.2.2.2.2.2.2.2.2.2.2.2.2.2.2.2.2.2.2.2.2.2.2.2.2.2.2.2.2.1, x1.2.2.2.2.2.2.2.2.2.2.2.2.2.2.2.2.2.2.2.2.2.2.2.2.2.2.2.2.2.2.2.2.2.2.2.2.2.2.2.2.2.2.2.2.2.2.2.2.2.2.2.2.2.2.2.2.2.2.2.1, x1.2.2.2.2.2.2.2.2.2.2.2.2.2.2.2.2.2.2.2.2.2.2.2.2.2.2.2.2.2.2.2.2.2.2.2.2.2.2.2.2.2.2.2.2.2.2.2.2.2.2.2.2.2.2.2.2.2.2.2.2.1, x1.2.2.2.2.2.2.2.2.2.2.2.2.2.2.2.2.2.2.2.2.2.2.2.2.2.2.2.2.2.2.2.2.2.2.2.2.2.2.2.2.2.2.2.2.2.2.2.2.2.2.2.2.2.2.2.2.2.2.2.2.2.1, x1.2.2.2.2.2.2.2.2.2.2.2.2.2.2.2.2.2.2.2.2.2.2.2.2.2.2.2.2.2.2.2.2.2.2.2.2.2.2.2.2.2.2.2.2.2.2.2.2.2.2.2.2.2.2.2.2.2.2.2.2.2.2.1, x1.2.2.2.2.2.2.2.2.2.2.2.2.2.2.2.2.2.2.2.2.2.2.2.2.2.2.2.2.2.2.2.2.2.2.2.2.2.2.2.2.2.2.2.2.2.2.2.2.2.2.2.2.2.2.2.2.2.2.2.2.2.2.2])) fun r1 =>
 ask (decide (64 ≤ 9223372036854775807)) <|
 ask (decide (r1.length = 64)) <|
 .ret (strB r1)

def mac_Sum_1_g : Sig := ⟨92, (.cons (.val false (.int .u8)) (.cons (.ptr tA64u8) .nil)), .vals (.val false .str), fun z => mac_Sum_1_T z.1 z.2.1, ([] : Str)⟩

theorem mac_Sum_1_ok : mac_Sum_1_g.ok Tryz.prog := by
  refine Sig.lift mix tabOk nms _ Tryz.func92 (c := (bodyOf Tryz.f92)) (by kernel_rfl) (o := orT [] [mac_Sum_1_L3] noFz) (orT_sound trivial) (allLp_of [nthC (loopsOf (bodyOf Tryz.f92)) 0] (by kernel_rfl) ⟨mac_Sum_1_L3_ok, trivial⟩ (by kernel_rfl)) ?_
  intro z; kernel_rfl

def mac_Sum_T (x0 : Str) (x1 : Str) : Tree Str :=
 .ite (decide ((64 : Int) < (x0.length : Int))) (
 .bnd (sha_Sum_T x0) fun y1 =>
 ask (decide (64 ≤ 9223372036854775807)) <|
 .bnd (mac_Sum_1_T 92 ((cpB y1 0 0), ((cpB y1 1 0), ((cpB y1 2 0), ((cpB y1 3 0), ((cpB y1 4 0), ((cpB y1 5 0), ((cpB y1 6 0), ((cpB y1 7 0), ((cpB y1 8 0), ((cpB y1 9 0), ((cpB y1 10 0), ((cpB y1 11 0), ((cpB y1 12 0), ((cpB y1 13 0), ((cpB y1 14 0), ((cpB y1 15 0), ((cpB y1 16 0), ((cpB y1 17 0), ((cpB y1 18 0), ((cpB y1 19 0), ((cpB y1 20 0), ((cpB y1 21 0), ((cpB y1 22 0), ((cpB y1 23 0), ((cpB y1 24 0), ((cpB y1 25 0), ((cpB y1 26 0), ((cpB y1 27 0), ((cpB y1 28 0), ((cpB y1 29 0), ((cpB y1 30 0), ((cpB y1 31 0), ((cpB y1 32 0), ((cpB y1 33 0), ((cpB y1 34 0), ((cpB y1 35 0), ((cpB y1 36 0), ((cpB y1 37 0), ((cpB y1 38 0), ((cpB y1 39 0), ((cpB y1 40 0), ((cpB y1 41 0), ((cpB y1 42 0), ((cpB y1 43 0), ((cpB y1 44 0), ((cpB y1 45 0), ((cpB y1 46 0), ((cpB y1 47 0), ((cpB y1 48 0), ((cpB y1 49 0), ((cpB y1 50 0), ((cpB y1 51 0), ((cpB y1 52 0), ((cpB y1 53 0), ((cpB y1 54 0), ((cpB y1 55 0), ((cpB y1 56 0), ((cpB y1 57 0), ((cpB y1 58 0), ((cpB y1 59 0), ((cpB y1 60 0), ((cpB y1 61 0), ((cpB y1 62 0), (cpB y1 63 0))))))))))))))))))))))))))))))))))))))))))))))))))))))))))))))))) fun y2 =>
 .bnd (mac_Sum_1_T 54 ((cpB y1 0 0), ((cpB y1 1 0), ((cpB y1 2 0), ((cpB y1 3 0), ((cpB y1 4 0), ((cpB y1 5 0), ((cpB y1 6 0), ((cpB y1 7 0), ((cpB y1 8 0), ((cpB y1 9 0), ((cpB y1 10 0), ((cpB y1 11 0), ((cpB y1 12 0), ((cpB y1 13 0), ((cpB y1 14 0), ((cpB y1 15 0), ((cpB y1 16 0), ((cpB y1 17 0), ((cpB y1 18 0), ((cpB y1 19 0), ((cpB y1 20 0), ((cpB y1 21 0), ((cpB y1 22 0), ((cpB y1 23 0), ((cpB y1 24 0), ((cpB y1 25 0), ((cpB y1 26 0), ((cpB y1 27 0), ((cpB y1 28 0), ((cpB y1 29 0), ((cpB y1 30 0), ((cpB y1 31 0), ((cpB y1 32 0), ((cpB y1 33 0), ((cpB y1 34 0), ((cpB y1 35 0), ((cpB y1 36 0), ((cpB y1 37 0), ((cpB y1 38 0), ((cpB y1 39 0), ((cpB y1 40 0), ((cpB y1 41 0), ((cpB y1 42 0), ((cpB y1 43 0), ((cpB y1 44 0), ((cpB y1 45 0), ((cpB y1 46 0), ((cpB y1 47 0), ((cpB y1 48 0), ((cpB y1 49 0), ((cpB y1 50 0), ((cpB y1 51 0), ((cpB y1 52 0), ((cpB y1 53 0), ((cpB y1 54 0), ((cpB y1 55 0), ((cpB y1 56 0), ((cpB y1 57 0), ((cpB y1 58 0), ((cpB y1 59 0), ((cpB y1 60 0), ((cpB y1 61 0), ((cpB y1 62 0), (cpB y1 63 0))))))))))))))))))))))))))))))))))))))))))))))))))))))))))))))))) fun y3 =>
 ask (decide (y3.length + x1.length ≤ 9223372036854775807)) <|
 .bnd (sha_Sum_T (y3 ++ x1)) fun y4 =>
 ask (decide (y2.length + y4.length ≤ 9223372036854775807)) <|
 .bnd (sha_Sum_T (y2 ++ y4)) fun y5 =>
 .ret y5) (
 ask (decide (64 ≤ 9223372036854775807)) <|
 .bnd (mac_Sum_1_T 92 ((cpB x0 0 0), ((cpB x0 1 0), ((cpB x0 2 0), ((cpB x0 3 0), ((cpB x0 4 0), ((cpB x0 5 0), ((cpB x0 6 0), ((cpB x0 7 0), ((cpB x0 8 0), ((cpB x0 9 0), ((cpB x0 10 0), ((cpB x0 11 0), ((cpB x0 12 0), ((cpB x0 13 0), ((cpB x0 14 0), ((cpB x0 15 0), ((cpB x0 16 0), ((cpB x0 17 0), ((cpB x0 18 0), ((cpB x0 19 0), ((cpB x0 20 0), ((cpB x0 21 0), ((cpB x0 22 0), ((cpB x0 23 0), ((cpB x0 24 0), ((cpB x0 25 0), ((cpB x0 26 0), ((cpB x0 27 0), ((cpB x0 28 0), ((cpB x0 29 0), ((cpB x0 30 0), ((cpB x0 31 0), ((cpB x0 32 0), ((cpB x0 33 0), ((cpB x0 34 0), ((cpB x0 35 0), ((cpB x0 36 0), ((cpB x0 37 0), ((cpB x0 38 0), ((cpB x0 39 0), ((cpB x0 40 0), ((cpB x0 41 0), ((cpB x0 42 0), ((cpB x0 43 0), ((cpB x0 44 0), ((cpB x0 45 0), ((cpB x0 46 0), ((cpB x0 47 0), ((cpB x0 48 0), ((cpB x0 49 0), ((cpB x0 50 0), ((cpB x0 51 0), ((cpB x0 52 0), ((cpB x0 53 0), ((cpB x0 54 0), ((cpB x0 55 0), ((cpB x0 56 0), ((cpB x0 57 0), ((cpB x0 58 0), ((cpB x0 59 0), ((cpB x0 60 0), ((cpB x0 61 0), ((cpB x0 62 0), (cpB x0 63 0))))))))))))))))))))))))))))))))))))))))))))))))))))))))))))))))) fun y6 =>
 .bnd (mac_Sum_1_T 54 ((cpB x0 0 0), ((cpB x0 1 0), ((cpB x0 2 0), ((cpB x0 3 0), ((cpB x0 4 0), ((cpB x0 5 0), ((cpB x0 6 0), ((cpB x0 7 0), ((cpB x0 8 0), ((cpB x0 9 0), ((cpB x0 10 0), ((cpB x0 11 0), ((cpB x0 12 0), ((cpB x0 13 0), ((cpB x0 14 0), ((cpB x0 15 0), ((cpB x0 16 0), ((cpB x0 17 0), ((cpB x0 18 0), ((cpB x0 19 0), ((cpB x0 20 0), ((cpB x0 21 0), ((cpB x0 22 0), ((cpB x0 23 0), ((cpB x0 24 0), ((cpB x0 25 0), ((cpB x0 26 0), ((cpB x0 27 0), ((cpB x0 28 0), ((cpB x0 29 0), ((cpB x0 30 0), ((cpB x0 31 0), ((cpB x0 32 0), ((cpB x0 33 0), ((cpB x0 34 0), ((cpB x0 35 0), ((cpB x0 36 0), ((cpB x0 37 0), ((cpB x0 38 0), ((cpB x0 39 0), ((cpB x0 40 0), ((cpB x0 41 0), ((cpB x0 42 0), ((cpB x0 43 0), ((cpB x0 44 0), ((cpB x0 45 0), ((cpB x0 46 0), ((cpB x0 47 0), ((cpB x0 48 0), ((cpB x0 49 0), ((cpB x0 50 0), ((cpB x0 51 0), ((cpB x0 52 0), ((cpB x0 53 0), ((cpB x0 54 0), ((cpB x0 55 0), ((cpB x0 56 0), ((cpB x0 57 0), ((cpB x0 58 0), ((cpB x0 59 0), ((cpB x0 60 0), ((cpB x0 61 0), ((cpB x0 62 0), (cpB x0 63 0))))))))))))))))))))))))))))))))))))))))))))))))))))))))))))))))) fun y7 =>
 ask (decide (y7.length + x1.length ≤ 9223372036854775807)) <|
 .bnd (sha_Sum_T (y7 ++ x1)) fun y8 =>
 ask (decide (y6.length + y8.length ≤ 9223372036854775807)) <|
 .bnd (sha_Sum_T (y6 ++ y8)) fun y9 =>
 .ret y9)

def mac_Sum_g : Sig := ⟨72, (.cons (.val false .str) (.cons (.val false .str) .nil)), .vals (.val false .str), fun z => mac_Sum_T z.1 z.2.1, ([] : Str)⟩

theorem mac_Sum_ok : mac_Sum_g.ok Tryz.prog := by
  refine Sig.lift mix tabOk nms _ Tryz.func72 (c := (bodyOf Tryz.f72)) (by kernel_rfl) (o := orT [sha_Sum_g, mac_Sum_1_g] [] noFz) (orT_sound ⟨sha_Sum_ok, ⟨mac_Sum_1_ok, trivial⟩⟩) (allLp_of [] (by kernel_rfl) trivial rfl) ?_
  intro z; kernel_rfl

def mac_Is_L6_step (sum : Str) (want : Str) (t : Int) (unlike : Int) (t2 : Int) : Tree ((Int × Int) ⊕ Int) :=
 .ite (decide (t2 < t)) (
 ask (inb t2 want.length) <|
 ask (inb t2 sum.length) <|
 .ret (.inl ((stdArith .or .u8 unlike (stdArith .xor .u8 (sgetI want t2) (sgetI sum t2))), (w64 (t2 + 1))))) (
 .ret (.inr unlike))

def mac_Is_L6 : Lp := ⟨6, [], [], (ca2 (.cons (.val false .str) (ca4 (.cons (.val false .str) (.cons (.val false (.int .u8)) (ca2 (ca8 (.cons (.val false (.int .i64)) (.cons (.val false (.int .i64)) (ca2 (ca4 (ca8 .nil)))))))))))), .nil, 0, .one 1 [] (ca8 (.cons (.val false (.int .u8)) (ca2 (ca8 (ca16 .nil))))) .nil, fun z => .bnd (.loop (fun v => mac_Is_L6_step z.1.2.2.1 z.1.2.2.2.2.2.2.2.1 z.1.2.2.2.2.2.2.2.2.2.2.2.2.2.2.2.2.2.2.2.1 v.1 v.2) (z.1.2.2.2.2.2.2.2.2.1, z.1.2.2.2.2.2.2.2.2.2.2.2.2.2.2.2.2.2.2.2.2.1)) fun r => .ret ((cu8 (r, (cu2 (cu8 (cu16 ()))))), ())⟩

theorem mac_Is_L6_ok : mac_Is_L6.ok Tryz.prog (nthC (loopsOf (bodyOf Tryz.f47)) 0) := by
  refine Lp.lift (π := (Str × Str × Int)) (V := (Int × Int)) (ρ := Int) mix tabOk mac_Is_L6 (o := orT [mac_Sum_g] [] noFz) (orT_sound ⟨mac_Sum_ok, trivial⟩) (allLp_of [] (by kernel_rfl) trivial rfl) (fun x v => ((cu2 (x.1, (cu4 (x.2.1, (v.1, (cu2 (cu8 (x.2.2, (v.2, (cu2 (cu4 (cu8 ())))))))))))), ())) (fun x r => ((cu8 (r, (cu2 (cu8 (cu16 ()))))), ())) (fun x v => mac_Is_L6_step x.1 x.2.1 x.2.2 v.1 v.2) (fun x r => .ret ((cu8 (r, (cu2 (cu8 (cu16 ()))))), ())) (fun z => (z.1.2.2.1, z.1.2.2.2.2.2.2.2.1, z.1.2.2.2.2.2.2.2.2.2.2.2.2.2.2.2.2.2.2.2.1)) (fun z => (z.1.2.2.2.2.2.2.2.2.1, z.1.2.2.2.2.2.2.2.2.2.2.2.2.2.2.2.2.2.2.2.2.1)) (fun _ => rfl) (fun _ => rfl) (fun _ _ _ h => h) ?_
  intro x v; kernel_rfl

def mac_Is_T (x0 : Str) (x1 : Str) (x2 : Str) : Tree Bool :=
 .bnd (mac_Sum_T x0 x1) fun y1 =>
 .ite (!decide ((y1.length : Int) = (x2.length : Int))) (
 .ret false) (
 .bnd (.loop (fun v => mac_Is_L6_step x2 y1 (x2.length : Int) v.1 v.2) (0, 0)) fun r2 =>
 .ret (decide (r2 = 0)))

def mac_Is_g : Sig := ⟨47, (.cons (.val false .str) (.cons (.val false .str) (.cons (.val false .str) .nil))), .vals (.val false .bool), fun z => mac_Is_T z.1 z.2.1 z.2.2.1, false⟩

theorem mac_Is_ok : mac_Is_g.ok Tryz.prog := by
  refine Sig.lift mix tabOk nms _ Tryz.func47 (c := (bodyOf Tryz.f47)) (by kernel_rfl) (o := orT [mac_Sum_g] [mac_Is_L6] noFz) (orT_sound ⟨mac_Sum_ok, trivial⟩) (allLp_of [nthC (loopsOf (bodyOf Tryz.f47)) 0] (by kernel_rfl) ⟨mac_Is_L6_ok, trivial⟩ (by kernel_rfl)) ?_
  intro z; kernel_rfl

def token_Check_T (x0 : List Entry) (x1 : Str) (x2 : Int) : Tree (Str × Str × Int × Unit) :=
 .bnd (token_Read_T x1) fun y1 =>
 .bnd (tenant_Of_T x0 y1.1) fun y2 =>
 .ite (!y1.2.2.2.1) (
 .ite (!y1.2.2.2.1) (
 .ret (([] : Str), ([] : Str), 7, ())) (
 ask (inbe (w64 ((x1.length : Int) - 32)) x1.length) <|
 ask (inbe (w64 ((x1.length : Int) - 32)) x1.length) <|
 .bnd (mac_Is_T y2.1.2.1 (subS x1 0 (w64 ((x1.length : Int) - 32)).toNat) (subS x1 (w64 ((x1.length : Int) - 32)).toNat x1.length)) fun y3 =>
 .ite (!y3) (
 .ret (([] : Str), ([] : Str), 7, ())) (
 .ret (y1.1, y1.2.1, 0, ())))) (
 .ite (!y2.2.1) (
 .ite (!y2.2.1) (
 .ret (([] : Str), ([] : Str), 7, ())) (
 ask (inbe (w64 ((x1.length : Int) - 32)) x1.length) <|
 ask (inbe (w64 ((x1.length : Int) - 32)) x1.length) <|
 .bnd (mac_Is_T y2.1.2.1 (subS x1 0 (w64 ((x1.length : Int) - 32)).toNat) (subS x1 (w64 ((x1.length : Int) - 32)).toNat x1.length)) fun y4 =>
 .ite (!y4) (
 .ret (([] : Str), ([] : Str), 7, ())) (
 .ret (y1.1, y1.2.1, 0, ())))) (
 .bnd (name_Is_T y1.2.1) fun y5 =>
 .ite (!y5) (
 .ite (!y5) (
 .ret (([] : Str), ([] : Str), 7, ())) (
 ask (inbe (w64 ((x1.length : Int) - 32)) x1.length) <|
 ask (inbe (w64 ((x1.length : Int) - 32)) x1.length) <|
 .bnd (mac_Is_T y2.1.2.1 (subS x1 0 (w64 ((x1.length : Int) - 32)).toNat) (subS x1 (w64 ((x1.length : Int) - 32)).toNat x1.length)) fun y6 =>
 .ite (!y6) (
 .ret (([] : Str), ([] : Str), 7, ())) (
 .ret (y1.1, y1.2.1, 0, ())))) (
 .ite (decide (y1.2.2.1 < x2)) (
 .ret (([] : Str), ([] : Str), 7, ())) (
 ask (inbe (w64 ((x1.length : Int) - 32)) x1.length) <|
 ask (inbe (w64 ((x1.length : Int) - 32)) x1.length) <|
 .bnd (mac_Is_T y2.1.2.1 (subS x1 0 (w64 ((x1.length : Int) - 32)).toNat) (subS x1 (w64 ((x1.length : Int) - 32)).toNat x1.length)) fun y7 =>
 .ite (!y7) (
 .ret (([] : Str), ([] : Str), 7, ())) (
 .ret (y1.1, y1.2.1, 0, ()))))))

def token_Check_g : Sig := ⟨33, (.cons (.val false (.list tEntry)) (.cons (.val false .str) (.cons (.val false (.int .i64)) .nil))), .vals (.cons (.val false .str) (.cons (.val false .str) (.cons (.val false (.int .i64)) .nil))), fun z => token_Check_T z.1 z.2.1 z.2.2.1, (([] : Str), ([] : Str), (0 : Int), ())⟩

theorem token_Check_ok : token_Check_g.ok Tryz.prog := by
  refine Sig.lift mix tabOk nms _ Tryz.func33 (c := (bodyOf Tryz.f33)) (by kernel_rfl) (o := orT [token_Read_g, tenant_Of_g, mac_Is_g, name_Is_g] [] noFz) (orT_sound ⟨token_Read_ok, ⟨tenant_Of_ok, ⟨mac_Is_ok, ⟨name_Is_ok, trivial⟩⟩⟩⟩) (allLp_of [] (by kernel_rfl) trivial rfl) ?_
  intro z; kernel_rfl

def r09_Few_T (x0 : Reg) : Tree Bool :=
 .ret ((decide ((x0.2.1.length : Int) ≤ 100)) && (decide ((x0.2.2.length : Int) ≤ 300)))

def r09_Few_g : Sig := ⟨17, (.cons (.val true tReg) .nil), .vals (.val false .bool), fun z => r09_Few_T z.1, false⟩

theorem r09_Few_ok : r09_Few_g.ok Tryz.prog := by
  refine Sig.lift mix tabOk nms _ Tryz.func17 (c := (bodyOf Tryz.f17)) (by kernel_rfl) (o := orT [] [] noFz) (orT_sound trivial) (allLp_of [] (by kernel_rfl) trivial rfl) ?_
  intro z; kernel_rfl

def r10_Few_L2_step (l : List Entry) (most : Int) (i : Int) : Tree (Int ⊕ (Bool ⊕ Unit)) :=
 .ite ((decide (i < (l.length : Int))) && (decide (i < most))) (
 ask (inb i l.length) <|
 ask ((!(!(decide ((200 : Int) < ((l.getD i.toNat (dfl tEntry : Entry)).1.length : Int))))) || inb i l.length) <|
 .grd (!(decide ((200 : Int) < ((l.getD i.toNat (dfl tEntry : Entry)).1.length : Int)))) (r09_Few_T (l.getD i.toNat (dfl tEntry : Entry)).2) false fun y1 =>
 .ite ((decide ((200 : Int) < ((l.getD i.toNat (dfl tEntry : Entry)).1.length : Int))) || (!y1)) (
 .ret (.inr (.inl false))) (
 .ret (.inl (w64 (i + 1))))) (
 .ret (.inr (.inr ())))

def r10_Few_L2 : Lp := ⟨2, [], [], (.cons (.val false (.list tEntry)) (.cons (.val false (.int .i64)) (ca (ca2 (.cons (.val false (.int .i64)) (ca (ca2 (ca4 (ca8 (ca16 .nil)))))))))), .nil, 0, .more 0 [] (ca4 (.cons (.val false .bool) (ca32 .nil))) .nil (.one 1 [] (.cons (.val false (.list tEntry)) (.cons (.val false (.int .i64)) (ca (ca2 (ca32 .nil))))) .nil), fun z => .bnd (.loop (fun v => r10_Few_L2_step z.1.1 z.1.2.1 v) z.1.2.2.2.2.2.1) fun r => .sum r (fun a0 => .ret (.inl ((cu4 (a0, (cu32 ()))), ()))) (fun b0 => .ret (.inr ((z.1.1, (z.1.2.1, (cu (cu2 (cu32 ()))))), ())))⟩

theorem r10_Few_L2_ok : r10_Few_L2.ok Tryz.prog (nthC (loopsOf (bodyOf Tryz.f5)) 0) := by
  refine Lp.lift (π := ((List Entry) × Int)) (V := Int) (ρ := (Bool ⊕ Unit)) mix tabOk r10_Few_L2 (o := orT [r09_Few_g] [] noFz) (orT_sound ⟨r09_Few_ok, trivial⟩) (allLp_of [] (by kernel_rfl) trivial rfl) (fun x v => ((x.1, (x.2, (cu (cu2 (v, (cu (cu2 (cu4 (cu8 (cu16 ())))))))))), ())) (fun x r => match r with | .inl a0 => .inl ((cu4 (a0, (cu32 ()))), ()) | .inr b0 => (.inr ((x.1, (x.2, (cu (cu2 (cu32 ()))))), ()))) (fun x v => r10_Few_L2_step x.1 x.2 v) (fun x r => .sum r (fun a0 => .ret (.inl ((cu4 (a0, (cu32 ()))), ()))) (fun b0 => .ret (.inr ((x.1, (x.2, (cu (cu2 (cu32 ()))))), ())))) (fun z => (z.1.1, z.1.2.1)) (fun z => z.1.2.2.2.2.2.1) (fun _ => rfl) (fun _ => rfl) (fun x r Q h => match r, h with | .inl _, h => h | .inr b0, h => (h)) ?_
  intro x v; kernel_rfl

def r10_Few_T (x0 : List Entry) (x1 : Int) : Tree Bool :=
 .bnd (.loop (fun v => r10_Few_L2_step x0 x1 v) 0) fun r1 =>
 .sum r1 (fun r2 =>
 .ret r2) (fun r3 =>
 .ret (decide ((x0.length : Int) ≤ x1)))

def r10_Few_g : Sig := ⟨5, (.cons (.val false (.list tEntry)) (.cons (.val false (.int .i64)) .nil)), .vals (.val false .bool), fun z => r10_Few_T z.1 z.2.1, false⟩

theorem r10_Few_ok : r10_Few_g.ok Tryz.prog := by
  refine Sig.lift mix tabOk nms _ Tryz.func5 (c := (bodyOf Tryz.f5)) (by kernel_rfl) (o := orT [r09_Few_g] [r10_Few_L2] noFz) (orT_sound ⟨r09_Few_ok, trivial⟩) (allLp_of [nthC (loopsOf (bodyOf Tryz.f5)) 0] (by kernel_rfl) ⟨r10_Few_L2_ok, trivial⟩ (by kernel_rfl)) ?_
  intro z; kernel_rfl

def r06_Few_L2_step (c : List Seen) (i : Int) : Tree (Int ⊕ (Bool ⊕ Unit)) :=
 .ite ((decide (i < (c.length : Int))) && (decide (i < 12))) (
 ask (inb i c.length) <|
 ask ((!(!(decide ((100 : Int) < ((c.getD i.toNat (dfl tSeen : Seen)).1.length : Int))))) || inb i c.length) <|
 .ite ((decide ((100 : Int) < ((c.getD i.toNat (dfl tSeen : Seen)).1.length : Int))) || (decide ((40 : Int) < ((c.getD i.toNat (dfl tSeen : Seen)).2.2.length : Int)))) (
 .ret (.inr (.inl false))) (
 .ret (.inl (w64 (i + 1))))) (
 .ret (.inr (.inr ())))

def r06_Few_L2 : Lp := ⟨2, [], [], (.cons (.val false (.list tSeen)) (ca2 (.cons (.val false (.int .i64)) (ca (ca4 (ca8 (ca16 .nil))))))), .nil, 0, .more 0 [] (ca2 (.cons (.val false .bool) (ca2 (ca4 (ca8 (ca16 .nil)))))) .nil (.one 1 [] (.cons (.val false (.list tSeen)) (ca32 .nil)) .nil), fun z => .bnd (.loop (fun v => r06_Few_L2_step z.1.1 v) z.1.2.2.2.1) fun r => .sum r (fun a0 => .ret (.inl ((cu2 (a0, (cu2 (cu4 (cu8 (cu16 ())))))), ()))) (fun b0 => .ret (.inr ((z.1.1, (cu32 ())), ())))⟩

theorem r06_Few_L2_ok : r06_Few_L2.ok Tryz.prog (nthC (loopsOf (bodyOf Tryz.f18)) 0) := by
  refine Lp.lift (π := List Seen) (V := Int) (ρ := (Bool ⊕ Unit)) mix tabOk r06_Few_L2 (o := orT [] [] noFz) (orT_sound trivial) (allLp_of [] (by kernel_rfl) trivial rfl) (fun x v => ((x, (cu2 (v, (cu (cu4 (cu8 (cu16 ()))))))), ())) (fun x r => match r with | .inl a0 => .inl ((cu2 (a0, (cu2 (cu4 (cu8 (cu16 ())))))), ()) | .inr b0 => (.inr ((x, (cu32 ())), ()))) (fun x v => r06_Few_L2_step x v) (fun x r => .sum r (fun a0 => .ret (.inl ((cu2 (a0, (cu2 (cu4 (cu8 (cu16 ())))))), ()))) (fun b0 => .ret (.inr ((x, (cu32 ())), ())))) (fun z => z.1.1) (fun z => z.1.2.2.2.1) (fun _ => rfl) (fun _ => rfl) (fun x r Q h => match r, h with | .inl _, h => h | .inr b0, h => (h)) ?_
  intro x v; kernel_rfl

def r06_Few_T (x0 : List Seen) : Tree Bool :=
 .bnd (.loop (fun v => r06_Few_L2_step x0 v) 0) fun r1 =>
 .sum r1 (fun r2 =>
 .ret r2) (fun r3 =>
 .ret (decide ((x0.length : Int) ≤ 12)))

def r06_Few_g : Sig := ⟨18, (.cons (.val false (.list tSeen)) .nil), .vals (.val false .bool), fun z => r06_Few_T z.1, false⟩

theorem r06_Few_ok : r06_Few_g.ok Tryz.prog := by
  refine Sig.lift mix tabOk nms _ Tryz.func18 (c := (bodyOf Tryz.f18)) (by kernel_rfl) (o := orT [] [r06_Few_L2] noFz) (orT_sound trivial) (allLp_of [nthC (loopsOf (bodyOf Tryz.f18)) 0] (by kernel_rfl) ⟨r06_Few_L2_ok, trivial⟩ (by kernel_rfl)) ?_
  intro z; kernel_rfl

def r40_Few_T (x0 : Call) : Tree Bool :=
 .grd ((((decide ((x0.2.1.length : Int) ≤ 300)) && (decide ((x0.2.2.1.length : Int) ≤ 100))) && (decide ((x0.2.2.2.1.length : Int) ≤ 100))) && (decide ((x0.2.2.2.2.1.length : Int) ≤ 300))) (r06_Few_T x0.2.2.2.2.2.1) false fun y1 =>
 .ret (((((decide ((x0.2.1.length : Int) ≤ 300)) && (decide ((x0.2.2.1.length : Int) ≤ 100))) && (decide ((x0.2.2.2.1.length : Int) ≤ 100))) && (decide ((x0.2.2.2.2.1.length : Int) ≤ 300))) && y1)

def r40_Few_g : Sig := ⟨6, (.cons (.val true tCall) .nil), .vals (.val false .bool), fun z => r40_Few_T z.1, false⟩

theorem r40_Few_ok : r40_Few_g.ok Tryz.prog := by
  refine Sig.lift mix tabOk nms _ Tryz.func6 (c := (bodyOf Tryz.f6)) (by kernel_rfl) (o := orT [r06_Few_g] [] noFz) (orT_sound ⟨r06_Few_ok, trivial⟩) (allLp_of [] (by kernel_rfl) trivial rfl) ?_
  intro z; kernel_rfl

def r01_Byte_T (x0 : Int) : Tree Str :=
 .ret (strB [(IntKind.wrap .u8 ((stdArith .and .i64 x0 255)))])

def r01_Byte_g : Sig := ⟨82, (.cons (.val false (.int .i64)) .nil), .vals (.val false .str), fun z => r01_Byte_T z.1, ([] : Str)⟩

theorem r01_Byte_ok : r01_Byte_g.ok Tryz.prog := by
  refine Sig.lift mix tabOk nms _ Tryz.func82 (c := (bodyOf Tryz.f82)) (by kernel_rfl) (o := orT [] [] noFz) (orT_sound trivial) (allLp_of [] (by kernel_rfl) trivial rfl) ?_
  intro z; kernel_rfl

def r01_Int_L3_step (n : Int) (s_ : Str) (k : Int) : Tree ((Str × Int) ⊕ Str) :=
 .ite (decide ((0 : Int) ≤ k)) (
 ask (decide ((0 : Int) ≤ k)) <|
 .bnd (r01_Byte_T (stdArith .and .i64 (stdShift .shr .i64 n k) 255)) fun y1 =>
 ask (decide (s_.length + y1.length ≤ 9223372036854775807)) <|
 .ret (.inl ((s_ ++ y1), (w64 (k - 8))))) (
 .ret (.inr s_))

def r01_Int_L3 : Lp := ⟨3, [], [], (.cons (.val false (.int .i64)) (ca2 (.cons (.val false .str) (.cons (.val false (.int .i64)) (ca4 (ca8 .nil)))))), .nil, 0, .one 1 [] (ca (ca2 (.cons (.val false .str) (ca (ca4 (ca8 .nil)))))) .nil, fun z => .bnd (.loop (fun v => r01_Int_L3_step z.1.1 v.1 v.2) (z.1.2.2.2.1, z.1.2.2.2.2.1)) fun r => .ret ((cu (cu2 (r, (cu (cu4 (cu8 ())))))), ())⟩

theorem r01_Int_L3_ok : r01_Int_L3.ok Tryz.prog (nthC (loopsOf (bodyOf Tryz.f59)) 0) := by
  refine Lp.lift (π := Int) (V := (Str × Int)) (ρ := Str) mix tabOk r01_Int_L3 (o := orT [r01_Byte_g] [] noFz) (orT_sound ⟨r01_Byte_ok, trivial⟩) (allLp_of [] (by kernel_rfl) trivial rfl) (fun x v => ((x, (cu2 (v.1, (v.2, (cu4 (cu8 ())))))), ())) (fun x r => ((cu (cu2 (r, (cu (cu4 (cu8 ())))))), ())) (fun x v => r01_Int_L3_step x v.1 v.2) (fun x r => .ret ((cu (cu2 (r, (cu (cu4 (cu8 ())))))), ())) (fun z => z.1.1) (fun z => (z.1.2.2.2.1, z.1.2.2.2.2.1)) (fun _ => rfl) (fun _ => rfl) (fun _ _ _ h => h) ?_
  intro x v; kernel_rfl

def r01_Int_T (x0 : Int) : Tree Str :=
 .bnd (.loop (fun v => r01_Int_L3_step x0 v.1 v.2) (([] : Str), 56)) fun r1 =>
 .ret r1

def r01_Int_g : Sig := ⟨59, (.cons (.val false (.int .i64)) .nil), .vals (.val false .str), fun z => r01_Int_T z.1, ([] : Str)⟩

theorem r01_Int_ok : r01_Int_g.ok Tryz.prog := by
  refine Sig.lift mix tabOk nms _ Tryz.func59 (c := (bodyOf Tryz.f59)) (by kernel_rfl) (o := orT [r01_Byte_g] [r01_Int_L3] noFz) (orT_sound ⟨r01_Byte_ok, trivial⟩) (allLp_of [nthC (loopsOf (bodyOf Tryz.f59)) 0] (by kernel_rfl) ⟨r01_Int_L3_ok, trivial⟩ (by kernel_rfl)) ?_
  intro z; kernel_rfl

def r01_Count_T (x0 : Int) : Tree Str :=
 .bnd (r01_Int_T x0) fun y1 =>
 ask (inbe 4 y1.length) <|
 .ret (subS y1 (4 : Int).toNat y1.length)

def r01_Count_g : Sig := ⟨81, (.cons (.val false (.int .i64)) .nil), .vals (.val false .str), fun z => r01_Count_T z.1, ([] : Str)⟩

theorem r01_Count_ok : r01_Count_g.ok Tryz.prog := by
  refine Sig.lift mix tabOk nms _ Tryz.func81 (c := (bodyOf Tryz.f81)) (by kernel_rfl) (o := orT [r01_Int_g] [] noFz) (orT_sound ⟨r01_Int_ok, trivial⟩) (allLp_of [] (by kernel_rfl) trivial rfl) ?_
  intro z; kernel_rfl

def r01_Text_T (x0 : Str) : Tree Str :=
 .bnd (r01_Count_T (x0.length : Int)) fun y1 =>
 ask (decide (y1.length + x0.length ≤ 9223372036854775807)) <|
 .ret (y1 ++ x0)

def r01_Text_g : Sig := ⟨58, (.cons (.val false .str) .nil), .vals (.val false .str), fun z => r01_Text_T z.1, ([] : Str)⟩

theorem r01_Text_ok : r01_Text_g.ok Tryz.prog := by
  refine Sig.lift mix tabOk nms _ Tryz.func58 (c := (bodyOf Tryz.f58)) (by kernel_rfl) (o := orT [r01_Count_g] [] noFz) (orT_sound ⟨r01_Count_ok, trivial⟩) (allLp_of [] (by kernel_rfl) trivial rfl) ?_
  intro z; kernel_rfl

def r24_says_T (x0 : Str) (x1 : Str) (x2 : Int) : Tree Str :=
 .bnd (r01_Text_T x0) fun y1 =>
 .bnd (r01_Text_T x1) fun y2 =>
 ask (decide (y1.length + y2.length ≤ 9223372036854775807)) <|
 .bnd (r01_Int_T x2) fun y3 =>
 ask (decide ((y1 ++ y2).length + y3.length ≤ 9223372036854775807)) <|
 .ret ((y1 ++ y2) ++ y3)

def r24_says_g : Sig := ⟨41, (.cons (.val false .str) (.cons (.val false .str) (.cons (.val false (.int .i64)) .nil))), .vals (.val false .str), fun z => r24_says_T z.1 z.2.1 z.2.2.1, ([] : Str)⟩

theorem r24_says_ok : r24_says_g.ok Tryz.prog := by
  refine Sig.lift mix tabOk nms _ Tryz.func41 (c := (bodyOf Tryz.f41)) (by kernel_rfl) (o := orT [r01_Text_g, r01_Int_g] [] noFz) (orT_sound ⟨r01_Text_ok, ⟨r01_Int_ok, trivial⟩⟩) (allLp_of [] (by kernel_rfl) trivial rfl) ?_
  intro z; kernel_rfl

def r02_pad_L3_step (n : Int) (s_ : Str) : Tree (Str ⊕ Str) :=
 ask (!decide ((64 : Int) = 0)) <|
 .ite (!decide (((s_.length : Int).tmod 64) = 56)) (
 ask (decide (s_.length + ([0] : Str).length ≤ 9223372036854775807)) <|
 .ret (.inl (s_ ++ ([0] : Str)))) (
 .ret (.inr s_))

def r02_pad_L3 : Lp := ⟨3, [], [], (.cons (.val false .str) (ca2 (.cons (.val false (.int .i64)) (ca (ca2 (ca4 (ca8 .nil))))))), .nil, 0, .one 1 [] (.cons (.val false .str) (ca2 (.cons (.val false (.int .i64)) (ca (ca2 (ca4 (ca8 .nil))))))) .nil, fun z => .bnd (.loop (fun v => r02_pad_L3_step z.1.2.2.2.1 v) z.1.1) fun r => .ret ((r, (cu2 (z.1.2.2.2.1, (cu (cu2 (cu4 (cu8 ()))))))), ())⟩

theorem r02_pad_L3_ok : r02_pad_L3.ok Tryz.prog (nthC (loopsOf (bodyOf Tryz.f83)) 0) := by
  refine Lp.lift (π := Int) (V := Str) (ρ := Str) mix tabOk r02_pad_L3 (o := orT [r01_Int_g] [] noFz) (orT_sound ⟨r01_Int_ok, trivial⟩) (allLp_of [] (by kernel_rfl) trivial rfl) (fun x v => ((v, (cu2 (x, (cu (cu2 (cu4 (cu8 ()))))))), ())) (fun x r => ((r, (cu2 (x, (cu (cu2 (cu4 (cu8 ()))))))), ())) (fun x v => r02_pad_L3_step x v) (fun x r => .ret ((r, (cu2 (x, (cu (cu2 (cu4 (cu8 ()))))))), ())) (fun z => z.1.2.2.2.1) (fun z => z.1.1) (fun _ => rfl) (fun _ => rfl) (fun _ _ _ h => h) ?_
  intro x v; kernel_rfl

def r02_pad_T (x0 : Str) : Tree Str :=
 ask (decide (x0.length + ([128] : Str).length ≤ 9223372036854775807)) <|
 .bnd (.loop (fun v => r02_pad_L3_step (x0.length : Int) v) (x0 ++ ([128] : Str))) fun r1 =>
 .bnd (r01_Int_T (w64 ((8 : Int) * (x0.length : Int)))) fun y2 =>
 ask (decide (r1.length + y2.length ≤ 9223372036854775807)) <|
 .ret (r1 ++ y2)

def r02_pad_g : Sig := ⟨83, (.cons (.val false .str) .nil), .vals (.val false .str), fun z => r02_pad_T z.1, ([] : Str)⟩

theorem r02_pad_ok : r02_pad_g.ok Tryz.prog := by
  refine Sig.lift mix tabOk nms _ Tryz.func83 (c := (bodyOf Tryz.f83)) (by kernel_rfl) (o := orT [r01_Int_g] [r02_pad_L3] noFz) (orT_sound ⟨r01_Int_ok, trivial⟩) (allLp_of [nthC (loopsOf (bodyOf Tryz.f83)) 0] (by kernel_rfl) ⟨r02_pad_L3_ok, trivial⟩ (by kernel_rfl)) ?_
  intro z; kernel_rfl

def r02_low_T (x0 : Int) : Tree Int :=
 .ret (stdArith .and .i64 x0 4294967295)

def r02_low_g : Sig := ⟨100, (.cons (.val false (.int .i64)) .nil), .vals (.val false (.int .i64)), fun z => r02_low_T z.1, (0 : Int)⟩

theorem r02_low_ok : r02_low_g.ok Tryz.prog := by
  refine Sig.lift mix tabOk nms _ Tryz.func100 (c := (bodyOf Tryz.f100)) (by kernel_rfl) (o := orT [] [] noFz) (orT_sound trivial) (allLp_of [] (by kernel_rfl) trivial rfl) ?_
  intro z; kernel_rfl

def r02_turn_T (x0 : Int) (x1 : Int) : Tree Int :=
 ask (decide ((0 : Int) ≤ x1)) <|
 ask (decide ((0 : Int) ≤ (w64 ((32 : Int) - x1)))) <|
 .bnd (r02_low_T (stdArith .or .i64 (stdShift .shr .i64 x0 x1) (stdShift .shl .i64 x0 (w64 ((32 : Int) - x1))))) fun y1 =>
 .ret y1

def r02_turn_g : Sig := ⟨99, (.cons (.val false (.int .i64)) (.cons (.val false (.int .i64)) .nil)), .vals (.val false (.int .i64)), fun z => r02_turn_T z.1 z.2.1, (0 : Int)⟩

theorem r02_turn_ok : r02_turn_g.ok Tryz.prog := by
  refine Sig.lift mix tabOk nms _ Tryz.func99 (c := (bodyOf Tryz.f99)) (by kernel_rfl) (o := orT [r02_low_g] [] noFz) (orT_sound ⟨r02_low_ok, trivial⟩) (allLp_of [] (by kernel_rfl) trivial rfl) ?_
  intro z; kernel_rfl

def r02_words_fz : Nat → List Pre
  | 5 => [.two]
  | 12 => [.two]
  | _ => []

def r02_words_L3_step (b : Str) (t : Int) (w : List Int) : Tree ((Int × (List Int)) ⊕ (List Int)) :=
 .ite (decide (t < 16)) (
 ask (inb (w64 ((4 : Int) * t)) b.length) <|
 ask (decide ((0 : Int) ≤ 24)) <|
 ask (inb (w64 ((w64 ((4 : Int) * t)) + 1)) b.length) <|
 ask (decide ((0 : Int) ≤ 16)) <|
 ask (inb (w64 ((w64 ((4 : Int) * t)) + 2)) b.length) <|
 ask (decide ((0 : Int) ≤ 8)) <|
 ask (inb (w64 ((w64 ((4 : Int) * t)) + 3)) b.length) <|
 ask (decide ((w ++ [(stdArith .or .i64 (stdArith .or .i64 (stdArith .or .i64 (stdShift .shl .i64 (w64 ((sgetI b (w64 ((4 : Int) * t))))) 24) (stdShift .shl .i64 (w64 ((sgetI b (w64 ((w64 ((4 : Int) * t)) + 1))))) 16)) (stdShift .shl .i64 (w64 ((sgetI b (w64 ((w64 ((4 : Int) * t)) + 2))))) 8)) (w64 ((sgetI b (w64 ((w64 ((4 : Int) * t)) + 3))))))]).length * 8 ≤ roomNat)) <|
 .ret (.inl ((w64 (t + 1)), (w ++ [(stdArith .or .i64 (stdArith .or .i64 (stdArith .or .i64 (stdShift .shl .i64 (w64 ((sgetI b (w64 ((4 : Int) * t))))) 24) (stdShift .shl .i64 (w64 ((sgetI b (w64 ((w64 ((4 : Int) * t)) + 1))))) 16)) (stdShift .shl .i64 (w64 ((sgetI b (w64 ((w64 ((4 : Int) * t)) + 2))))) 8)) (w64 ((sgetI b (w64 ((w64 ((4 : Int) * t)) + 3))))))])))) (
 .ret (.inr w))

def r02_words_L3 : Lp := ⟨3, [.own 3 3 (.int .i64)], [], (.cons (.val false .str) (ca2 (.cons (.own 0) (.cons (.val false (.int .i64)) (ca (ca2 (ca8 (ca16 (ca32 (ca32 .nil)))))))))), (.rows 3 (.int .i64) .nil), 0, .one 1 [] (ca (ca2 (.cons (.own 0) (ca4 (ca8 (ca16 (ca32 (ca32 .nil)))))))) (.rows 3 (.int .i64) .nil), fun z => .bnd (.loop (fun v => r02_words_L3_step z.1.1 v.1 v.2) (z.1.2.2.2.2.1, z.2.1)) fun r => .ret ((cu (cu2 ((), (cu4 (cu8 (cu16 (cu32 (cu32 ())))))))), (r, ()))⟩

theorem r02_words_L3_ok : r02_words_L3.ok Tryz.prog (nthC (loopsOf (bodyOf Tryz.f97)) 0) := by
  refine Lp.lift (π := Str) (V := (Int × (List Int))) (ρ := List Int) mix tabOk r02_words_L3 (o := orT [r02_turn_g, r02_low_g] [] r02_words_fz) (orT_sound ⟨r02_turn_ok, ⟨r02_low_ok, trivial⟩⟩) (allLp_of [] (by kernel_rfl) trivial rfl) (fun x v => ((x, (cu2 ((), (v.1, (cu (cu2 (cu8 (cu16 (cu32 (cu32 ())))))))))), (v.2, ()))) (fun x r => ((cu (cu2 ((), (cu4 (cu8 (cu16 (cu32 (cu32 ())))))))), (r, ()))) (fun x v => r02_words_L3_step x v.1 v.2) (fun x r => .ret ((cu (cu2 ((), (cu4 (cu8 (cu16 (cu32 (cu32 ())))))))), (r, ()))) (fun z => z.1.1) (fun z => (z.1.2.2.2.2.1, z.2.1)) (fun _ => rfl) (fun _ => rfl) (fun _ _ _ h => h) ?_
  intro x v; kernel_rfl

def r02_words_L7_step (t : Int) (w : List Int) : Tree ((Int × (List Int)) ⊕ (List Int)) :=
 .ite (decide (t < 64)) (
 ask (inb (w64 (t - 15)) w.length) <|
 ask (inb (w64 (t - 2)) w.length) <|
 .bnd (r02_turn_T (w.getD ((w64 (t - 15)).toNat) (0 : Int)) 7) fun y1 =>
 .bnd (r02_turn_T (w.getD ((w64 (t - 15)).toNat) (0 : Int)) 18) fun y2 =>
 ask (decide ((0 : Int) ≤ 3)) <|
 .bnd (r02_turn_T (w.getD ((w64 (t - 2)).toNat) (0 : Int)) 17) fun y3 =>
 .bnd (r02_turn_T (w.getD ((w64 (t - 2)).toNat) (0 : Int)) 19) fun y4 =>
 ask (decide ((0 : Int) ≤ 10)) <|
 ask (inb (w64 (t - 7)) w.length) <|
 ask (inb (w64 (t - 16)) w.length) <|
 .bnd (r02_low_T (w64 ((w64 ((w64 ((stdArith .xor .i64 (stdArith .xor .i64 y3 y4) (stdShift .shr .i64 (w.getD ((w64 (t - 2)).toNat) (0 : Int)) 10)) + (w.getD ((w64 (t - 7)).toNat) (0 : Int)))) + (stdArith .xor .i64 (stdArith .xor .i64 y1 y2) (stdShift .shr .i64 (w.getD ((w64 (t - 15)).toNat) (0 : Int)) 3)))) + (w.getD ((w64 (t - 16)).toNat) (0 : Int))))) fun y5 =>
 ask (decide ((w ++ [y5]).length * 8 ≤ roomNat)) <|
 .ret (.inl ((w64 (t + 1)), (w ++ [y5])))) (
 .ret (.inr w))

def r02_words_L7 : Lp := ⟨7, [], [], (ca (ca2 (.cons (.own 0) (ca (.cons (.val false (.int .i64)) (ca2 (ca8 (ca16 (ca32 (ca32 .nil)))))))))), (.rows 3 (.int .i64) .nil), 0, .one 3 [] (ca (ca2 (.cons (.own 0) (ca4 (ca8 (ca16 (ca32 (ca32 .nil)))))))) (.rows 3 (.int .i64) .nil), fun z => .bnd (.loop (fun v => r02_words_L7_step v.1 v.2) (z.1.2.2.2.2.2.1, z.2.1)) fun r => .ret ((cu (cu2 ((), (cu4 (cu8 (cu16 (cu32 (cu32 ())))))))), (r, ()))⟩

theorem r02_words_L7_ok : r02_words_L7.ok Tryz.prog (nthC (loopsOf (bodyOf Tryz.f97)) 1) := by
  refine Lp.lift (π := Unit) (V := (Int × (List Int))) (ρ := List Int) mix tabOk r02_words_L7 (o := orT [r02_turn_g, r02_low_g] [] r02_words_fz) (orT_sound ⟨r02_turn_ok, ⟨r02_low_ok, trivial⟩⟩) (allLp_of [] (by kernel_rfl) trivial rfl) (fun x v => ((cu (cu2 ((), (cu (v.1, (cu2 (cu8 (cu16 (cu32 (cu32 ())))))))))), (v.2, ()))) (fun x r => ((cu (cu2 ((), (cu4 (cu8 (cu16 (cu32 (cu32 ())))))))), (r, ()))) (fun x v => r02_words_L7_step v.1 v.2) (fun x r => .ret ((cu (cu2 ((), (cu4 (cu8 (cu16 (cu32 (cu32 ())))))))), (r, ()))) (fun z => ()) (fun z => (z.1.2.2.2.2.2.1, z.2.1)) (fun _ => rfl) (fun _ => rfl) (fun _ _ _ h => h) ?_
  intro x v; kernel_rfl

def r02_words_T (x0 : Str) : Tree (List Int) :=
 .bnd (.loop (fun v => r02_words_L3_step x0 v.1 v.2) (0, ([] : List Int))) fun r1 =>
 .bnd (.loop (fun v => r02_words_L7_step v.1 v.2) (16, r1)) fun r2 =>
 .ret r2

def r02_words_g : Sig := ⟨97, (.cons (.val false .str) .nil), .fresh 3 (.int .i64), fun z => r02_words_T z.1, ([] : List Int)⟩

theorem r02_words_ok : r02_words_g.ok Tryz.prog := by
  refine Sig.lift mix tabOk nms _ Tryz.func97 (c := (bodyOf Tryz.f97)) (by kernel_rfl) (o := orT [r02_turn_g, r02_low_g] [r02_words_L3, r02_words_L7] r02_words_fz) (orT_sound ⟨r02_turn_ok, ⟨r02_low_ok, trivial⟩⟩) (allLp_of [nthC (loopsOf (bodyOf Tryz.f97)) 0, nthC (loopsOf (bodyOf Tryz.f97)) 1] (by kernel_rfl) ⟨r02_words_L3_ok, ⟨r02_words_L7_ok, trivial⟩⟩ (by kernel_rfl)) ?_
  intro z; kernel_rfl

def r02_constants_T  : Tree A64i64 :=
 .ret (1116352408, (1899447441, (3049323471, (3921009573, (961987163, (1508970993, (2453635748, (2870763221, (3624381080, (310598401, (607225278, (1426881987, (1925078388, (2162078206, (2614888103, (3248222580, (3835390401, (4022224774, (264347078, (604807628, (770255983, (1249150122, (1555081692, (1996064986, (2554220882, (2821834349, (2952996808, (3210313671, (3336571891, (3584528711, (113926993, (338241895, (666307205, (773529912, (1294757372, (1396182291, (1695183700, (1986661051, (2177026350, (2456956037, (2730485921, (2820302411, (3259730800, (3345764771, (3516065817, (3600352804, (4094571909, (275423344, (430227734, (506948616, (659060556, (883997877, (958139571, (1322822218, (1537002063, (1747873779, (1955562222, (2024104815, (2227730452, (2361852424, (2428436474, (2756734187, (3204031479, 3329325298)))))))))))))))))))))))))))))))))))))))))))))))))))))))))))))))

def r02_constants_g : Sig := ⟨98, .nil, .vals (.val true tA64i64), fun z => r02_constants_T, (dfl tA64i64 : A64i64)⟩

theorem r02_constants_ok : r02_constants_g.ok Tryz.prog := by
  refine Sig.lift mix tabOk nms _ Tryz.func98 (c := (bodyOf Tryz.f98)) (by kernel_rfl) (o := orT [] [] noFz) (orT_sound trivial) (allLp_of [] (by kernel_rfl) trivial rfl) ?_
  intro z; kernel_rfl

def r02_block_fz : Nat → List Pre
  | 10 => [.two]
  | 14 => [.spl 13 8, .two]
  | _ => []

def r02_block_L5_step (v : (Int × (Int × (Int × (Int × (Int × (Int × Tenant_bound))))))) (c : (Int × (Int × (Int × (Int × (Int × (Int × Tenant_bound))))))) (w : List Int) (k : List Int) (t : Int) (x_ : (Int × (Int × (Int × (Int × (Int × (Int × Tenant_bound))))))) : Tree ((Int × (Int × (Int × (Int × (Int × (Int × (Int × Tenant_bound))))))) ⊕ (Int × (Int × (Int × (Int × (Int × (Int × Tenant_bound))))))) :=
 .ite ((decide (t < 64)) && (decide (t < (w.length : Int)))) (
 ask (inb 4 8) <|
 ask (inb 0 8) <|
 ask (inb 7 8) <|
 .bnd (r02_turn_T x_.2.2.2.2.1 6) fun y1 =>
 .bnd (r02_turn_T x_.2.2.2.2.1 11) fun y2 =>
 .bnd (r02_turn_T x_.2.2.2.2.1 25) fun y3 =>
 ask (inb 5 8) <|
 .bnd (r02_low_T (stdArith .xor .i64 (-1) x_.2.2.2.2.1)) fun y4 =>
 ask (inb 6 8) <|
 ask (inb t 64) <|
 ask (Nat.ble (t.toNat + 1) k.length) <|
 ask (inb t w.length) <|
 .bnd (r02_turn_T x_.1 2) fun y5 =>
 .bnd (r02_turn_T x_.1 13) fun y6 =>
 .bnd (r02_turn_T x_.1 22) fun y7 =>
 ask (inb 1 8) <|
 ask (inb 2 8) <|
 ask (inb 1 8) <|
 ask (inb 2 8) <|
 .bnd (r02_low_T (w64 ((w64 ((w64 ((w64 ((w64 (x_.2.2.2.2.2.2.2 + (stdArith .xor .i64 (stdArith .xor .i64 y1 y2) y3))) + (stdArith .xor .i64 (stdArith .and .i64 x_.2.2.2.2.1 x_.2.2.2.2.2.1) (stdArith .and .i64 y4 x_.2.2.2.2.2.2.1)))) + (k.getD t.toNat (0 : Int)))) + (w.getD t.toNat (0 : Int)))) + (w64 ((stdArith .xor .i64 (stdArith .xor .i64 y5 y6) y7) + (stdArith .xor .i64 (stdArith .xor .i64 (stdArith .and .i64 x_.1 x_.2.1) (stdArith .and .i64 x_.1 x_.2.2.1)) (stdArith .and .i64 x_.2.1 x_.2.2.1))))))) fun y8 =>
 ask (inb 0 8) <|
 ask (inb 1 8) <|
 ask (inb 2 8) <|
 ask (inb 3 8) <|
 .bnd (r02_low_T (w64 (x_.2.2.2.1 + (w64 ((w64 ((w64 ((w64 (x_.2.2.2.2.2.2.2 + (stdArith .xor .i64 (stdArith .xor .i64 y1 y2) y3))) + (stdArith .xor .i64 (stdArith .and .i64 x_.2.2.2.2.1 x_.2.2.2.2.2.1) (stdArith .and .i64 y4 x_.2.2.2.2.2.2.1)))) + (k.getD t.toNat (0 : Int)))) + (w.getD t.toNat (0 : Int))))))) fun y9 =>
 ask (inb 4 8) <|
 ask (inb 5 8) <|
 ask (inb 6 8) <|
 .ret (.inl ((w64 (t + 1)), (y8, (x_.1, (x_.2.1, (x_.2.2.1, (y9, (x_.2.2.2.2.1, (x_.2.2.2.2.2.1, x_.2.2.2.2.2.2.1)))))))))) (
 .ret (.inr x_))

def r02_block_L5 : Lp := ⟨5, [.arr 3 (.int .i64)], [], (ca2 (.cons (.ref 0 0) (ca (.cons (.ref 1 0) (.cons (.own 2) (.cons (.ref 3 0) (.cons (.ref 4 0) (.cons (.val false (.int .i64)) (ca4 (ca16 (ca32 (ca32 (ca32 .nil))))))))))))), (.cells 91 (.cons (.flat (.pair (.int .i64) (.pair (.int .i64) (.pair (.int .i64) (.pair (.int .i64) (.pair (.int .i64) (.pair (.int .i64) tTenant_bound))))))) .nil) (.cells 91 (.cons (.flat (.pair (.int .i64) (.pair (.int .i64) (.pair (.int .i64) (.pair (.int .i64) (.pair (.int .i64) (.pair (.int .i64) tTenant_bound))))))) .nil) (.rows 3 (.int .i64) (.arr 109 (.int .i64) (.cells 91 (.cons (.flat (.pair (.int .i64) (.pair (.int .i64) (.pair (.int .i64) (.pair (.int .i64) (.pair (.int .i64) (.pair (.int .i64) tTenant_bound))))))) .nil) .nil))))), 0, .one 1 [] (ca2 (.cons (.ref 0 0) (ca (.cons (.ref 1 0) (ca2 (.cons (.ref 4 0) (ca (ca4 (ca16 (ca32 (ca32 (ca32 .nil)))))))))))) (.cells 91 (.cons (.flat (.pair (.int .i64) (.pair (.int .i64) (.pair (.int .i64) (.pair (.int .i64) (.pair (.int .i64) (.pair (.int .i64) tTenant_bound))))))) .nil) (.cells 91 (.cons (.flat (.pair (.int .i64) (.pair (.int .i64) (.pair (.int .i64) (.pair (.int .i64) (.pair (.int .i64) (.pair (.int .i64) tTenant_bound))))))) .nil) (.dead (.dead (.cells 91 (.cons (.flat (.pair (.int .i64) (.pair (.int .i64) (.pair (.int .i64) (.pair (.int .i64) (.pair (.int .i64) (.pair (.int .i64) tTenant_bound))))))) .nil) .nil))))), fun z => .bnd (.loop (fun v => r02_block_L5_step z.2.1.1 z.2.2.1.1 z.2.2.2.1 z.2.2.2.2.1 v.1 v.2) (z.1.2.2.2.2.2.2.2.2.1, z.2.2.2.2.2.1.1)) fun r => .ret ((cu2 ((), (cu ((), (cu2 ((), (cu (cu4 (cu16 (cu32 (cu32 (cu32 ())))))))))))), ((z.2.1.1, ()), ((z.2.2.1.1, ()), ((r, ()), ()))))⟩

theorem r02_block_L5_ok : r02_block_L5.ok Tryz.prog (nthC (loopsOf (bodyOf Tryz.f84)) 0) := by
  refine Lp.lift (π := ((Int × (Int × (Int × (Int × (Int × (Int × Tenant_bound)))))) × (Int × (Int × (Int × (Int × (Int × (Int × Tenant_bound)))))) × (List Int) × (List Int))) (V := (Int × (Int × (Int × (Int × (Int × (Int × (Int × Tenant_bound)))))))) (ρ := (Int × (Int × (Int × (Int × (Int × (Int × Tenant_bound))))))) mix tabOk r02_block_L5 (o := orT [r02_words_g, r02_constants_g, r02_turn_g, r02_low_g] [] r02_block_fz) (orT_sound ⟨r02_words_ok, ⟨r02_constants_ok, ⟨r02_turn_ok, ⟨r02_low_ok, trivial⟩⟩⟩⟩) (allLp_of [] (by kernel_rfl) trivial rfl) (fun x v => ((cu2 ((), (cu ((), ((), ((), ((), (v.1, (cu4 (cu16 (cu32 (cu32 (cu32 ()))))))))))))), ((x.1, ()), ((x.2.1, ()), (x.2.2.1, (x.2.2.2, ((v.2, ()), ()))))))) (fun x r => ((cu2 ((), (cu ((), (cu2 ((), (cu (cu4 (cu16 (cu32 (cu32 (cu32 ())))))))))))), ((x.1, ()), ((x.2.1, ()), ((r, ()), ()))))) (fun x v => r02_block_L5_step x.1 x.2.1 x.2.2.1 x.2.2.2 v.1 v.2) (fun x r => .ret ((cu2 ((), (cu ((), (cu2 ((), (cu (cu4 (cu16 (cu32 (cu32 (cu32 ())))))))))))), ((x.1, ()), ((x.2.1, ()), ((r, ()), ()))))) (fun z => (z.2.1.1, z.2.2.1.1, z.2.2.2.1, z.2.2.2.2.1)) (fun z => (z.1.2.2.2.2.2.2.2.2.1, z.2.2.2.2.2.1.1)) (fun _ => rfl) (fun _ => rfl) (fun _ _ _ h => h) ?_
  intro x v; kernel_rfl

def r02_block_L12_step (v : (Int × (Int × (Int × (Int × (Int × (Int × Tenant_bound))))))) (c : (Int × (Int × (Int × (Int × (Int × (Int × Tenant_bound))))))) (i : Int) (x_ : (Int × (Int × (Int × (Int × (Int × (Int × Tenant_bound))))))) : Tree ((Int × (Int × (Int × (Int × (Int × (Int × (Int × Tenant_bound))))))) ⊕ (Int × (Int × (Int × (Int × (Int × (Int × Tenant_bound))))))) :=
 .ite (decide (i < 8)) (
 .ite (decide (i = 0)) (
 ask (inb 0 8) <|
 ask (inb 0 8) <|
 .bnd (r02_low_T (w64 (x_.1 + v.1))) fun y8 =>
 ask (inb 0 8) <|
 .ret (.inl ((w64 ((0 : Int) + 1)), (y8, x_.2)))) (
 .ite (decide (i = 1)) (
 ask (inb 1 8) <|
 ask (inb 1 8) <|
 .bnd (r02_low_T (w64 (x_.2.1 + v.2.1))) fun y7 =>
 ask (inb 1 8) <|
 .ret (.inl ((w64 ((1 : Int) + 1)), (x_.1, (y7, x_.2.2))))) (
 .ite (decide (i = 2)) (
 ask (inb 2 8) <|
 ask (inb 2 8) <|
 .bnd (r02_low_T (w64 (x_.2.2.1 + v.2.2.1))) fun y6 =>
 ask (inb 2 8) <|
 .ret (.inl ((w64 ((2 : Int) + 1)), (x_.1, (x_.2.1, (y6, x_.2.2.2)))))) (
 .ite (decide (i = 3)) (
 ask (inb 3 8) <|
 ask (inb 3 8) <|
 .bnd (r02_low_T (w64 (x_.2.2.2.1 + v.2.2.2.1))) fun y5 =>
 ask (inb 3 8) <|
 .ret (.inl ((w64 ((3 : Int) + 1)), (x_.1, (x_.2.1, (x_.2.2.1, (y5, x_.2.2.2.2))))))) (
 .ite (decide (i = 4)) (
 ask (inb 4 8) <|
 ask (inb 4 8) <|
 .bnd (r02_low_T (w64 (x_.2.2.2.2.1 + v.2.2.2.2.1))) fun y4 =>
 ask (inb 4 8) <|
 .ret (.inl ((w64 ((4 : Int) + 1)), (x_.1, (x_.2.1, (x_.2.2.1, (x_.2.2.2.1, (y4, x_.2.2.2.2.2)))))))) (
 .ite (decide (i = 5)) (
 ask (inb 5 8) <|
 ask (inb 5 8) <|
 .bnd (r02_low_T (w64 (x_.2.2.2.2.2.1 + v.2.2.2.2.2.1))) fun y3 =>
 ask (inb 5 8) <|
 .ret (.inl ((w64 ((5 : Int) + 1)), (x_.1, (x_.2.1, (x_.2.2.1, (x_.2.2.2.1, (x_.2.2.2.2.1, (y3, x_.2.2.2.2.2.2))))))))) (
 .ite (decide (i = 6)) (
 ask (inb 6 8) <|
 ask (inb 6 8) <|
 .bnd (r02_low_T (w64 (x_.2.2.2.2.2.2.1 + v.2.2.2.2.2.2.1))) fun y2 =>
 ask (inb 6 8) <|
 .ret (.inl ((w64 ((6 : Int) + 1)), (x_.1, (x_.2.1, (x_.2.2.1, (x_.2.2.2.1, (x_.2.2.2.2.1, (x_.2.2.2.2.2.1, (y2, x_.2.2.2.2.2.2.2)))))))))) (
 .ite (decide (i = 7)) (
 ask (inb 7 8) <|
 ask (inb 7 8) <|
 .bnd (r02_low_T (w64 (x_.2.2.2.2.2.2.2 + v.2.2.2.2.2.2.2))) fun y1 =>
 ask (inb 7 8) <|
 .ret (.inl ((w64 ((7 : Int) + 1)), (x_.1, (x_.2.1, (x_.2.2.1, (x_.2.2.2.1, (x_.2.2.2.2.1, (x_.2.2.2.2.2.1, (x_.2.2.2.2.2.2.1, y1)))))))))) (
 .fail))))))))) (
 .ret (.inr x_))

def r02_block_L12 : Lp := ⟨12, [], [], (ca2 (.cons (.ref 0 0) (ca (.cons (.ref 1 0) (ca2 (.cons (.ref 4 0) (ca (ca4 (.cons (.val false (.int .i64)) (ca (ca2 (ca4 (ca8 (ca32 (ca32 (ca32 .nil)))))))))))))))), (.cells 91 (.cons (.flat (.pair (.int .i64) (.pair (.int .i64) (.pair (.int .i64) (.pair (.int .i64) (.pair (.int .i64) (.pair (.int .i64) tTenant_bound))))))) .nil) (.cells 91 (.cons (.flat (.pair (.int .i64) (.pair (.int .i64) (.pair (.int .i64) (.pair (.int .i64) (.pair (.int .i64) (.pair (.int .i64) tTenant_bound))))))) .nil) (.dead (.dead (.cells 91 (.cons (.flat (.pair (.int .i64) (.pair (.int .i64) (.pair (.int .i64) (.pair (.int .i64) (.pair (.int .i64) (.pair (.int .i64) tTenant_bound))))))) .nil) .nil))))), 0, .one 3 [] (ca4 (.cons (.ref 1 0) (ca2 (.cons (.ref 4 0) (ca (ca4 (ca16 (ca32 (ca32 (ca32 .nil)))))))))) (.cells 91 (ca8 .nil) (.cells 91 (.cons (.flat (.pair (.int .i64) (.pair (.int .i64) (.pair (.int .i64) (.pair (.int .i64) (.pair (.int .i64) (.pair (.int .i64) tTenant_bound))))))) .nil) (.dead (.dead (.cells 91 (.cons (.flat (.pair (.int .i64) (.pair (.int .i64) (.pair (.int .i64) (.pair (.int .i64) (.pair (.int .i64) (.pair (.int .i64) tTenant_bound))))))) .nil) .nil))))), fun z => .bnd (.loop (fun v => r02_block_L12_step z.2.1.1 z.2.2.1.1 v.1 v.2) (z.1.2.2.2.2.2.2.2.2.2.2.2.2.2.1, z.2.2.2.1.1)) fun r => .ret ((cu4 ((), (cu2 ((), (cu (cu4 (cu16 (cu32 (cu32 (cu32 ())))))))))), ((cu8 ()), ((z.2.2.1.1, ()), ((r, ()), ()))))⟩

theorem r02_block_L12_ok : r02_block_L12.ok Tryz.prog (nthC (loopsOf (bodyOf Tryz.f84)) 1) := by
  refine Lp.lift (π := ((Int × (Int × (Int × (Int × (Int × (Int × Tenant_bound)))))) × (Int × (Int × (Int × (Int × (Int × (Int × Tenant_bound)))))))) (V := (Int × (Int × (Int × (Int × (Int × (Int × (Int × Tenant_bound)))))))) (ρ := (Int × (Int × (Int × (Int × (Int × (Int × Tenant_bound))))))) mix tabOk r02_block_L12 (o := orT [r02_words_g, r02_constants_g, r02_turn_g, r02_low_g] [] r02_block_fz) (orT_sound ⟨r02_words_ok, ⟨r02_constants_ok, ⟨r02_turn_ok, ⟨r02_low_ok, trivial⟩⟩⟩⟩) (allLp_of [] (by kernel_rfl) trivial rfl) (fun x v => ((cu2 ((), (cu ((), (cu2 ((), (cu (cu4 (v.1, (cu (cu2 (cu4 (cu8 (cu32 (cu32 (cu32 ())))))))))))))))), ((x.1, ()), ((x.2, ()), ((v.2, ()), ()))))) (fun x r => ((cu4 ((), (cu2 ((), (cu (cu4 (cu16 (cu32 (cu32 (cu32 ())))))))))), ((cu8 ()), ((x.2, ()), ((r, ()), ()))))) (fun x v => r02_block_L12_step x.1 x.2 v.1 v.2) (fun x r => .ret ((cu4 ((), (cu2 ((), (cu (cu4 (cu16 (cu32 (cu32 (cu32 ())))))))))), ((cu8 ()), ((x.2, ()), ((r, ()), ()))))) (fun z => (z.2.1.1, z.2.2.1.1)) (fun z => (z.1.2.2.2.2.2.2.2.2.2.2.2.2.2.1, z.2.2.2.1.1)) (fun _ => rfl) (fun _ => rfl) (fun _ _ _ h => h) ?_
  intro x v; kernel_rfl

def r02_block_T (x0 : (Int × (Int × (Int × (Int × (Int × (Int × Tenant_bound))))))) (x1 : Str) : Tree (Int × (Int × (Int × (Int × (Int × (Int × Tenant_bound)))))) :=
 .bnd (r02_words_T x1) fun y1 =>
 .bnd r02_constants_T fun y2 =>
 .bnd (.loop (fun v => r02_block_L5_step x0 (0, (0, (0, (0, (0, (0, (0, 0))))))) y1 [y2.1, y2.2.1, y2.2.2.1, y2.2.2.2.1, y2.2.2.2.2.1, y2.2.2.2.2.2.1, y2.2.2.2.2.2.2.1, y2.2.2.2.2.2.2.2.1, y2.2.2.2.2.2.2.2.2.1, y2.2.2.2.2.2.2.2.2.2.1, y2.2.2.2.2.2.2.2.2.2.2.1, y2.2.2.2.2.2.2.2.2.2.2.2.1, y2.2.2.2.2.2.2.2.2.2.2.2.2.1, y2.2.2.2.2.2.2.2.2.2.2.2.2.2.1, y2.2.2.2.2.2.2.2.2.2.2.2.2.2.2.1, y2.2.2.2.2.2.2.2.2.2.2.2.2.2.2.2.1, y2.2.2.2.2.2.2.2.2.2.2.2.2.2.2.2.2.1, y2.2.2.2.2.2.2.2.2.2.2.2.2.2.2.2.2.2.1, y2.2.2.2.2.2.2.2.2.2.2.2.2.2.2.2.2.2.2.1, y2.2.2.2.2.2.2.2.2.2.2.2.2.2.2.2.2.2.2.2.1, y2.2.2.2.2.2.2.2.2.2.2.2.2.2.2.2.2.2.2.2.2.1, y2.2.2.2.2.2.2.2.2.2.2.2.2.2.2.2.2.2.2.2.2.2.1, y2.2.2.2.2.2.2.2.2.2.2.2.2.2.2.2.2.2.2.2.2.2.2.1, y2.2.2.2.2.2.2.2.2.2.2.2.2.2.2.2.2.2.2.2.2.2.2.2.1, y2.2.2.2.2.2.2.2.2.2.2.2.2.2.2.2.2.2.2.2.2.2.2.2.2.1, y2.2.2.2.2.2.2.2.2.2.2.2.2.2.2.2.2.2.2.2.2.2.2.2.2.2.1, y2.2.2.2.2.2.2.2.2.2.2.2.2.2.2.2.2.2.2.2.2.2.2.2.2.2.2.1, y2.2.2.2.2.2.2.2.2.2.2.2.2.2.2.2.2.2.2.2.2.2.2.2.2.2.2.2.1, y2.2.2.2.2.2.2.2.2.2.2.2.2.2.2.2.2.2.2.2.2.2.2.2.2.2.2.2.2.1, y2.2.2.2.2.2.2.2.2.2.2.2.2.2.2.2.2.2.2.2.2.2.2.2.2.2.2.2.2.2.1, y2.2.2.2.2.2.2.2.2.2.2.2.2.2.2.2.2.2.2.2.2.2.2.2.2.2.2.2.2.2.2.1, y2.2.2.2.2.2.2.2.2.2.2.2.2.2.2.2.2.2.2.2.2.2.2.2.2.2.2.2.2.2.2.2.1, y2.2.2.2.2.2.2.2.2.2.2.2.2.2.2.2.2.2.2.2.2.2.2.2.2.2.2.2.2.2.2.2.2.1, y2.2.2.2.2.2.2.2.2.2.2.2.2.2.2.2.2.2.2.2.2.2.2.2.2.2.2.2.2.2.2.2.2.2.1, y2.2.2.2.2.2.2.2.2.2.2.2.2.2.2.2.2.2.2.2.2.2.2.2.2.2.2.2.2.2.2.2.2.2.2.1, y2.2.2.2.2.2.2.2.2.2.2.2.2.2.2.2.2.2.2.2.2.2.2.2.2.2.2.2.2.2.2.2.2.2.2.2.1, y2.2.2.2.2.2.2.2.2.2.2.2.2.2.2.2.2.2.2.2.2.2.2.2.2.2.2.2.2.2.2.2.2.2.2.2.2.1, y2.2.2.2.2.2.2.2.2.2.2.2.2.2.2.2.2.2.2.2.2.2.2.2.2.2.2.2.2.2.2.2.2.2.2.2.2.2.1, y2.2.2.2.2.2.2.2.2.2.2.2.2.2.2.2.2.2.2.2.2.2.2.2.2.2.2.2.2.2.2.2.2.2.2.2.2.2.2.1, y2.2.2.2.2.2.2.2.2.2.2.2.2.2.2.2.2.2.2.2.2.2.2.2.2.2.2.2.2.2.2.2.2.2.2.2.2.2.2.2.1, y2.2.2.2.2.2.2.2.2.2.2.2.2.2.2.2.2.2.2.2.2.2.2.2.2.2.2.2.2.2.2.2.2.2.2.2.2.2.2.2.2.1, y2.2.2.2.2.2.2.2.2.2.2.2.2.2.2.2.2.2.2.2.2.2.2.2.2.2.2.2.2.2.2.2.2.2.2.2.2.2.2.2.2.2.1, y2.2.2.2.2.2.2.2.2.2.2.2.2.2.2.2.2.2.2.2.2.2.2.2.2.2.2.2.2.2.2.2.2.2.2.2.2.2.2.2.2.2.2.1, y2.2.2.2.2.2.2.2.2.2.2.2.2.2.2.2.2.2.2.2.2.2.2.2.2.2.2.2.2.2.2.2.2.2.2.2.2.2.2.2.2.2.2.2.1, y2.2.2.2.2.2.2.2.2.2.2.2.2.2.2.2.2.2.2.2.2.2.2.2.2.2.2.2.2.2.2.2.2.2.2.2.2.2.2.2.2.2.2.2.2.1, y2.2.2.2.2.2.2.2.2.2.2.2.2.2.2.2.2.2.2.2.2.2.2.2.2.2.2.2.2.2.2.2.2.2.2.2.2.2.2.2.2.2.2.2.2.2.1, y2.2.2.2.2.2.2.2.2.2.2.2.2.2.2.2.2.2.2.2.2.2.2.2.2.2.2.2.2.2.2.2.2.2.2.2.2.2.2.2.2.2.2.2.2.2.2.1, y2.2.2.2.2.2.2.2.2.2.2.2.2.2.2.2.2.2.2.2.2.2.2.2.2.2.2.2.2.2.2.2.2.2.2.2.2.2.2.2.2.2.2.2.2.2.2.2.1, y2.2.2.2.2.2.2.2.2.2.2.2.2.2.2.2.2.2.2.2.2.2.2.2.2.2.2.2.2.2.2.2.2.2.2.2.2.2.2.2.2.2.2.2.2.2.2.2.2.1, y2.2.2.2.2.2.2.2.2.2.2.2.2.2.2.2.2.2.2.2.2.2.2.2.2.2.2.2.2.2.2.2.2.2.2.2.2.2.2.2.2.2.2.2.2.2.2.2.2.2.1, y2.2.2.2.2.2.2.2.2.2.2.2.2.2.2.2.2.2.2.2.2.2.2.2.2.2.2.2.2.2.2.2.2.2.2.2.2.2.2.2.2.2.2.2.2.2.2.2.2.2.2.1, y2.2.2.2.2.2.2.2.2.2.2.2.2.2.2.2.2.2.2.2.2.2.2.2.2.2.2.2.2.2.2.2.2.2.2.2.2.2.2.2.2.2.2.2.2.2.2.2.2.2.2.2.1, y2.2.2.2.2.2.2.2.2.2.2.2.2.2.2.2.2.2.2.2.2.2.2.2.2.2.2.2.2.2.2.2.2.2.2.2.2.2.2.2.2.2.2.2.2.2.2.2.2.2.2.2.2.1, y2.2.2.2.2.2.2.2.2.2.2.2.2.2.2.2.2.2.2.2.2.2.2.2.2.2.2.2.2.2.2.2.2.2.2.2.2.2.2.2.2.2.2.2.2.2.2.2.2.2.2.2.2.2.1, y2.2.2.2.2.2.2.2.2.2.2.2.2.2.2.2.2.2.2.2.2.2.2.2.2.2.2.2.2.2.2.2.2.2.2.2.2.2.2.2.2.2.2.2.2.2.2.2.2.2.2.2.2.2.2.1, y2.2.2.2.2.2.2.2.2.2.2.2.2.2.2.2.2.2.2.2.2.2.2.2.2.2.2.2.2.2.2.2.2.2.2.2.2.2.2.2.2.2.2.2.2.2.2.2.2.2.2.2.2.2.2.2.1, y2.2.2.2.2.2.2.2.2.2.2.2.2.2.2.2.2.2.2.2.2.2.2.2.2.2.2.2.2.2.2.2.2.2.2.2.2.2.2.2.2.2.2.2.2.2.2.2.2.2.2.2.2.2.2.2.2.1, y2.2.2.2.2.2.2.2.2.2.2.2.2.2.2.2.2.2.2.2.2.2.2.2.2.2.2.2.2.2.2.2.2.2.2.2.2.2.2.2.2.2.2.2.2.2.2.2.2.2.2.2.2.2.2.2.2.2.1, y2.2.2.2.2.2.2.2.2.2.2.2.2.2.2.2.2.2.2.2.2.2.2.2.2.2.2.2.2.2.2.2.2.2.2.2.2.2.2.2.2.2.2.2.2.2.2.2.2.2.2.2.2.2.2.2.2.2.2.1, y2.2.2.2.2.2.2.2.2.2.2.2.2.2.2.2.2.2.2.2.2.2.2.2.2.2.2.2.2.2.2.2.2.2.2.2.2.2.2.2.2.2.2.2.2.2.2.2.2.2.2.2.2.2.2.2.2.2.2.2.1, y2.2.2.2.2.2.2.2.2.2.2.2.2.2.2.2.2.2.2.2.2.2.2.2.2.2.2.2.2.2.2.2.2.2.2.2.2.2.2.2.2.2.2.2.2.2.2.2.2.2.2.2.2.2.2.2.2.2.2.2.2.1, y2.2.2.2.2.2.2.2.2.2.2.2.2.2.2.2.2.2.2.2.2.2.2.2.2.2.2.2.2.2.2.2.2.2.2.2.2.2.2.2.2.2.2.2.2.2.2.2.2.2.2.2.2.2.2.2.2.2.2.2.2.2.1, y2.2.2.2.2.2.2.2.2.2.2.2.2.2.2.2.2.2.2.2.2.2.2.2.2.2.2.2.2.2.2.2.2.2.2.2.2.2.2.2.2.2.2.2.2.2.2.2.2.2.2.2.2.2.2.2.2.2.2.2.2.2.2.1, y2.2.2.2.2.2.2.2.2.2.2.2.2.2.2.2.2.2.2.2.2.2.2.2.2.2.2.2.2.2.2.2.2.2.2.2.2.2.2.2.2.2.2.2.2.2.2.2.2.2.2.2.2.2.2.2.2.2.2.2.2.2.2.2] v.1 v.2) (0, x0)) fun r3 =>
 .bnd (.loop (fun v => r02_block_L12_step x0 (0, (0, (0, (0, (0, (0, (0, 0))))))) v.1 v.2) (0, r3)) fun r4 =>
 .ret r4

def r02_block_g : Sig := ⟨84, (.cons (.val true (.pair (.int .i64) (.pair (.int .i64) (.pair (.int .i64) (.pair (.int .i64) (.pair (.int .i64) (.pair (.int .i64) tTenant_bound))))))) (.cons (.val false .str) .nil)), .vals (.val true (.pair (.int .i64) (.pair (.int .i64) (.pair (.int .i64) (.pair (.int .i64) (.pair (.int .i64) (.pair (.int .i64) tTenant_bound))))))), fun z => r02_block_T z.1 z.2.1, (dfl (.pair (.int .i64) (.pair (.int .i64) (.pair (.int .i64) (.pair (.int .i64) (.pair (.int .i64) (.pair (.int .i64) tTenant_bound)))))) : (Int × (Int × (Int × (Int × (Int × (Int × Tenant_bound)))))))⟩

theorem r02_block_ok : r02_block_g.ok Tryz.prog := by
  refine Sig.lift mix tabOk nms _ Tryz.func84 (c := (bodyOf Tryz.f84)) (by kernel_rfl) (o := orT [r02_words_g, r02_constants_g, r02_turn_g, r02_low_g] [r02_block_L5, r02_block_L12] r02_block_fz) (orT_sound ⟨r02_words_ok, ⟨r02_constants_ok, ⟨r02_turn_ok, ⟨r02_low_ok, trivial⟩⟩⟩⟩) (allLp_of [nthC (loopsOf (bodyOf Tryz.f84)) 0, nthC (loopsOf (bodyOf Tryz.f84)) 1] (by kernel_rfl) ⟨r02_block_L5_ok, ⟨r02_block_L12_ok, trivial⟩⟩ (by kernel_rfl)) ?_
  intro z; kernel_rfl

def r02_Sum_fz : Nat → List Pre
  | 4 => [.two]
  | 10 => [.spl 6 8]
  | _ => []

def r02_Sum_L3_step (p : Str) (v : (Int × (Int × (Int × (Int × (Int × (Int × Tenant_bound))))))) : Tree ((Str × (Int × (Int × (Int × (Int × (Int × (Int × Tenant_bound))))))) ⊕ (Int × (Int × (Int × (Int × (Int × (Int × Tenant_bound))))))) :=
 .ite (decide ((64 : Int) ≤ (p.length : Int))) (
 ask (inbe 64 p.length) <|
 .bnd (r02_block_T v (subS p 0 (64 : Int).toNat)) fun y1 =>
 ask (inbe 64 p.length) <|
 .ret (.inl ((subS p (64 : Int).toNat p.length), y1))) (
 .ret (.inr v))

def r02_Sum_L3 : Lp := ⟨3, [], [], (ca (ca2 (.cons (.ref 0 0) (.cons (.val false .str) (ca (ca8 (ca16 .nil))))))), (.cells 91 (.cons (.flat (.pair (.int .i64) (.pair (.int .i64) (.pair (.int .i64) (.pair (.int .i64) (.pair (.int .i64) (.pair (.int .i64) tTenant_bound))))))) .nil) .nil), 0, .one 1 [] (ca (ca2 (.cons (.ref 0 0) (ca2 (ca8 (ca16 .nil)))))) (.cells 91 (.cons (.flat (.pair (.int .i64) (.pair (.int .i64) (.pair (.int .i64) (.pair (.int .i64) (.pair (.int .i64) (.pair (.int .i64) tTenant_bound))))))) .nil) .nil), fun z => .bnd (.loop (fun v => r02_Sum_L3_step v.1 v.2) (z.1.2.2.2.2.1, z.2.1.1)) fun r => .ret ((cu (cu2 ((), (cu2 (cu8 (cu16 ())))))), ((r, ()), ()))⟩

theorem r02_Sum_L3_ok : r02_Sum_L3.ok Tryz.prog (nthC (loopsOf (bodyOf Tryz.f60)) 0) := by
  refine Lp.lift (π := Unit) (V := (Str × (Int × (Int × (Int × (Int × (Int × (Int × Tenant_bound)))))))) (ρ := (Int × (Int × (Int × (Int × (Int × (Int × Tenant_bound))))))) mix tabOk r02_Sum_L3 (o := orT [r02_pad_g, r02_block_g, r01_Count_g] [] r02_Sum_fz) (orT_sound ⟨r02_pad_ok, ⟨r02_block_ok, ⟨r01_Count_ok, trivial⟩⟩⟩) (allLp_of [] (by kernel_rfl) trivial rfl) (fun x v => ((cu (cu2 ((), (v.1, (cu (cu8 (cu16 ()))))))), ((v.2, ()), ()))) (fun x r => ((cu (cu2 ((), (cu2 (cu8 (cu16 ())))))), ((r, ()), ()))) (fun x v => r02_Sum_L3_step v.1 v.2) (fun x r => .ret ((cu (cu2 ((), (cu2 (cu8 (cu16 ())))))), ((r, ()), ()))) (fun z => ()) (fun z => (z.1.2.2.2.2.1, z.2.1.1)) (fun _ => rfl) (fun _ => rfl) (fun _ _ _ h => h) ?_
  intro x v; kernel_rfl

def r02_Sum_L8_step (v : (Int × (Int × (Int × (Int × (Int × (Int × Tenant_bound))))))) (out : Str) (i : Int) : Tree ((Str × Int) ⊕ Str) :=
 .ite (decide (i < 8)) (
 .ite (decide (i = 0)) (
 ask (inb 0 8) <|
 .bnd (r01_Count_T v.1) fun y8 =>
 ask (decide (out.length + y8.length ≤ 9223372036854775807)) <|
 .ret (.inl ((out ++ y8), (w64 ((0 : Int) + 1))))) (
 .ite (decide (i = 1)) (
 ask (inb 1 8) <|
 .bnd (r01_Count_T v.2.1) fun y7 =>
 ask (decide (out.length + y7.length ≤ 9223372036854775807)) <|
 .ret (.inl ((out ++ y7), (w64 ((1 : Int) + 1))))) (
 .ite (decide (i = 2)) (
 ask (inb 2 8) <|
 .bnd (r01_Count_T v.2.2.1) fun y6 =>
 ask (decide (out.length + y6.length ≤ 9223372036854775807)) <|
 .ret (.inl ((out ++ y6), (w64 ((2 : Int) + 1))))) (
 .ite (decide (i = 3)) (
 ask (inb 3 8) <|
 .bnd (r01_Count_T v.2.2.2.1) fun y5 =>
 ask (decide (out.length + y5.length ≤ 9223372036854775807)) <|
 .ret (.inl ((out ++ y5), (w64 ((3 : Int) + 1))))) (
 .ite (decide (i = 4)) (
 ask (inb 4 8) <|
 .bnd (r01_Count_T v.2.2.2.2.1) fun y4 =>
 ask (decide (out.length + y4.length ≤ 9223372036854775807)) <|
 .ret (.inl ((out ++ y4), (w64 ((4 : Int) + 1))))) (
 .ite (decide (i = 5)) (
 ask (inb 5 8) <|
 .bnd (r01_Count_T v.2.2.2.2.2.1) fun y3 =>
 ask (decide (out.length + y3.length ≤ 9223372036854775807)) <|
 .ret (.inl ((out ++ y3), (w64 ((5 : Int) + 1))))) (
 .ite (decide (i = 6)) (
 ask (inb 6 8) <|
 .bnd (r01_Count_T v.2.2.2.2.2.2.1) fun y2 =>
 ask (decide (out.length + y2.length ≤ 9223372036854775807)) <|
 .ret (.inl ((out ++ y2), (w64 ((6 : Int) + 1))))) (
 .ite (decide (i = 7)) (
 ask (inb 7 8) <|
 .bnd (r01_Count_T v.2.2.2.2.2.2.2) fun y1 =>
 ask (decide (out.length + y1.length ≤ 9223372036854775807)) <|
 .ret (.inl ((out ++ y1), (w64 ((7 : Int) + 1))))) (
 .fail))))))))) (
 .ret (.inr out))

def r02_Sum_L8 : Lp := ⟨8, [], [], (ca (ca2 (.cons (.ref 0 0) (ca (.cons (.val false .str) (.cons (.val false (.int .i64)) (ca (ca2 (ca4 (ca16 .nil)))))))))), (.cells 91 (.cons (.flat (.pair (.int .i64) (.pair (.int .i64) (.pair (.int .i64) (.pair (.int .i64) (.pair (.int .i64) (.pair (.int .i64) tTenant_bound))))))) .nil) .nil), 0, .one 3 [] (ca (ca4 (.cons (.val false .str) (ca8 (ca16 .nil))))) .nil, fun z => .bnd (.loop (fun v => r02_Sum_L8_step z.2.1.1 v.1 v.2) (z.1.2.2.2.2.2.1, z.1.2.2.2.2.2.2.1)) fun r => .ret ((cu (cu4 (r, (cu8 (cu16 ()))))), ())⟩

theorem r02_Sum_L8_ok : r02_Sum_L8.ok Tryz.prog (nthC (loopsOf (bodyOf Tryz.f60)) 1) := by
  refine Lp.lift (π := (Int × (Int × (Int × (Int × (Int × (Int × Tenant_bound))))))) (V := (Str × Int)) (ρ := Str) mix tabOk r02_Sum_L8 (o := orT [r02_pad_g, r02_block_g, r01_Count_g] [] r02_Sum_fz) (orT_sound ⟨r02_pad_ok, ⟨r02_block_ok, ⟨r01_Count_ok, trivial⟩⟩⟩) (allLp_of [] (by kernel_rfl) trivial rfl) (fun x v => ((cu (cu2 ((), (cu (v.1, (v.2, (cu (cu2 (cu4 (cu16 ())))))))))), ((x, ()), ()))) (fun x r => ((cu (cu4 (r, (cu8 (cu16 ()))))), ())) (fun x v => r02_Sum_L8_step x v.1 v.2) (fun x r => .ret ((cu (cu4 (r, (cu8 (cu16 ()))))), ())) (fun z => z.2.1.1) (fun z => (z.1.2.2.2.2.2.1, z.1.2.2.2.2.2.2.1)) (fun _ => rfl) (fun _ => rfl) (fun _ _ _ h => h) ?_
  intro x v; kernel_rfl

def r02_Sum_T (x0 : Str) : Tree Str :=
 .bnd (r02_pad_T x0) fun y1 =>
 .bnd (.loop (fun v => r02_Sum_L3_step v.1 v.2) (y1, (1779033703, (3144134277, (1013904242, (2773480762, (1359893119, (2600822924, (528734635, 1541459225))))))))) fun r2 =>
 .bnd (.loop (fun v => r02_Sum_L8_step r2 v.1 v.2) (([] : Str), 0)) fun r3 =>
 .ret r3

def r02_Sum_g : Sig := ⟨60, (.cons (.val false .str) .nil), .vals (.val false .str), fun z => r02_Sum_T z.1, ([] : Str)⟩

theorem r02_Sum_ok : r02_Sum_g.ok Tryz.prog := by
  refine Sig.lift mix tabOk nms _ Tryz.func60 (c := (bodyOf Tryz.f60)) (by kernel_rfl) (o := orT [r02_pad_g, r02_block_g, r01_Count_g] [r02_Sum_L3, r02_Sum_L8] r02_Sum_fz) (orT_sound ⟨r02_pad_ok, ⟨r02_block_ok, ⟨r01_Count_ok, trivial⟩⟩⟩) (allLp_of [nthC (loopsOf (bodyOf Tryz.f60)) 0, nthC (loopsOf (bodyOf Tryz.f60)) 1] (by kernel_rfl) ⟨r02_Sum_L3_ok, ⟨r02_Sum_L8_ok, trivial⟩⟩ (by kernel_rfl)) ?_
  intro z; kernel_rfl

def r03_padded_L3_step (key : Str) (by_ : Int) (i : Int) (out : List Int) : Tree ((Int × (List Int)) ⊕ (List Int)) :=
 .ite (decide (i < 64)) (
 .ite (decide (i < (key.length : Int))) (
 ask (inb i key.length) <|
 ask (decide ((out ++ [(stdArith .xor .u8 (sgetI key i) by_)]).length * 1 ≤ roomNat)) <|
 .ret (.inl ((w64 (i + 1)), (out ++ [(stdArith .xor .u8 (sgetI key i) by_)])))) (
 ask (decide ((out ++ [(stdArith .xor .u8 0 by_)]).length * 1 ≤ roomNat)) <|
 .ret (.inl ((w64 (i + 1)), (out ++ [(stdArith .xor .u8 0 by_)]))))) (
 .ret (.inr out))

def r03_padded_L3 : Lp := ⟨3, [.own 5 5 (.int .u8)], [], (.cons (.val false .str) (.cons (.val false (.int .u8)) (ca (ca2 (.cons (.own 0) (.cons (.val false (.int .i64)) (ca4 (ca16 .nil)))))))), (.rows 5 (.int .u8) .nil), 0, .one 1 [] (ca (ca4 (.cons (.own 0) (ca (ca4 (ca16 .nil)))))) (.rows 5 (.int .u8) .nil), fun z => .bnd (.loop (fun v => r03_padded_L3_step z.1.1 z.1.2.1 v.1 v.2) (z.1.2.2.2.2.2.2.1, z.2.1)) fun r => .ret ((cu (cu4 ((), (cu (cu4 (cu16 ())))))), (r, ()))⟩

theorem r03_padded_L3_ok : r03_padded_L3.ok Tryz.prog (nthC (loopsOf (bodyOf Tryz.f61)) 0) := by
  refine Lp.lift (π := (Str × Int)) (V := (Int × (List Int))) (ρ := List Int) mix tabOk r03_padded_L3 (o := orT [] [] noFz) (orT_sound trivial) (allLp_of [] (by kernel_rfl) trivial rfl) (fun x v => ((x.1, (x.2, (cu (cu2 ((), (v.1, (cu4 (cu16 ())))))))), (v.2, ()))) (fun x r => ((cu (cu4 ((), (cu (cu4 (cu16 ())))))), (r, ()))) (fun x v => r03_padded_L3_step x.1 x.2 v.1 v.2) (fun x r => .ret ((cu (cu4 ((), (cu (cu4 (cu16 ())))))), (r, ()))) (fun z => (z.1.1, z.1.2.1)) (fun z => (z.1.2.2.2.2.2.2.1, z.2.1)) (fun _ => rfl) (fun _ => rfl) (fun _ _ _ h => h) ?_
  intro x v; kernel_rfl

def r03_padded_T (x0 : Str) (x1 : Int) : Tree Str :=
 .bnd (.loop (fun v => r03_padded_L3_step x0 x1 v.1 v.2) (0, ([] : List Int))) fun r1 =>
 .ret (strB r1)

def r03_padded_g : Sig := ⟨61, (.cons (.val false .str) (.cons (.val false (.int .u8)) .nil)), .vals (.val false .str), fun z => r03_padded_T z.1 z.2.1, ([] : Str)⟩

theorem r03_padded_ok : r03_padded_g.ok Tryz.prog := by
  refine Sig.lift mix tabOk nms _ Tryz.func61 (c := (bodyOf Tryz.f61)) (by kernel_rfl) (o := orT [] [r03_padded_L3] noFz) (orT_sound trivial) (allLp_of [nthC (loopsOf (bodyOf Tryz.f61)) 0] (by kernel_rfl) ⟨r03_padded_L3_ok, trivial⟩ (by kernel_rfl)) ?_
  intro z; kernel_rfl

def r03_Sum_T (x0 : Str) (x1 : Str) : Tree Str :=
 .ite (decide ((64 : Int) < (x0.length : Int))) (
 .bnd (r02_Sum_T x0) fun y1 =>
 .bnd (r03_padded_T y1 92) fun y2 =>
 .bnd (r03_padded_T y1 54) fun y3 =>
 ask (decide (y3.length + x1.length ≤ 9223372036854775807)) <|
 .bnd (r02_Sum_T (y3 ++ x1)) fun y4 =>
 ask (decide (y2.length + y4.length ≤ 9223372036854775807)) <|
 .bnd (r02_Sum_T (y2 ++ y4)) fun y5 =>
 .ret y5) (
 .bnd (r03_padded_T x0 92) fun y6 =>
 .bnd (r03_padded_T x0 54) fun y7 =>
 ask (decide (y7.length + x1.length ≤ 9223372036854775807)) <|
 .bnd (r02_Sum_T (y7 ++ x1)) fun y8 =>
 ask (decide (y6.length + y8.length ≤ 9223372036854775807)) <|
 .bnd (r02_Sum_T (y6 ++ y8)) fun y9 =>
 .ret y9)

def r03_Sum_g : Sig := ⟨42, (.cons (.val false .str) (.cons (.val false .str) .nil)), .vals (.val false .str), fun z => r03_Sum_T z.1 z.2.1, ([] : Str)⟩

theorem r03_Sum_ok : r03_Sum_g.ok Tryz.prog := by
  refine Sig.lift mix tabOk nms _ Tryz.func42 (c := (bodyOf Tryz.f42)) (by kernel_rfl) (o := orT [r02_Sum_g, r03_padded_g] [] noFz) (orT_sound ⟨r02_Sum_ok, ⟨r03_padded_ok, trivial⟩⟩) (allLp_of [] (by kernel_rfl) trivial rfl) ?_
  intro z; kernel_rfl

def r24_Make_T (x0 : Str) (x1 : Str) (x2 : Str) (x3 : Int) : Tree Str :=
 .bnd (r24_says_T x1 x2 x3) fun y1 =>
 .bnd (r03_Sum_T x0 y1) fun y2 =>
 ask (decide (y1.length + y2.length ≤ 9223372036854775807)) <|
 .ret (y1 ++ y2)

def r24_Make_g : Sig := ⟨19, (.cons (.val false .str) (.cons (.val false .str) (.cons (.val false .str) (.cons (.val false (.int .i64)) .nil)))), .vals (.val false .str), fun z => r24_Make_T z.1 z.2.1 z.2.2.1 z.2.2.2.1, ([] : Str)⟩

theorem r24_Make_ok : r24_Make_g.ok Tryz.prog := by
  refine Sig.lift mix tabOk nms _ Tryz.func19 (c := (bodyOf Tryz.f19)) (by kernel_rfl) (o := orT [r24_says_g, r03_Sum_g] [] noFz) (orT_sound ⟨r24_says_ok, ⟨r03_Sum_ok, trivial⟩⟩) (allLp_of [] (by kernel_rfl) trivial rfl) ?_
  intro z; kernel_rfl

def r22_Key_T (x0 : Str) (x1 : Str) (x2 : Str) : Tree Str :=
 ask (decide (([97, 99, 108, 47] : Str).length + x0.length ≤ 9223372036854775807)) <|
 ask (decide ((([97, 99, 108, 47] : Str) ++ x0).length + ([47] : Str).length ≤ 9223372036854775807)) <|
 ask (decide (((([97, 99, 108, 47] : Str) ++ x0) ++ ([47] : Str)).length + x1.length ≤ 9223372036854775807)) <|
 ask (decide ((((([97, 99, 108, 47] : Str) ++ x0) ++ ([47] : Str)) ++ x1).length + ([47] : Str).length ≤ 9223372036854775807)) <|
 ask (decide (((((([97, 99, 108, 47] : Str) ++ x0) ++ ([47] : Str)) ++ x1) ++ ([47] : Str)).length + x2.length ≤ 9223372036854775807)) <|
 .ret (((((([97, 99, 108, 47] : Str) ++ x0) ++ ([47] : Str)) ++ x1) ++ ([47] : Str)) ++ x2)

def r22_Key_g : Sig := ⟨16, (.cons (.val false .str) (.cons (.val false .str) (.cons (.val false .str) .nil))), .vals (.val false .str), fun z => r22_Key_T z.1 z.2.1 z.2.2.1, ([] : Str)⟩

theorem r22_Key_ok : r22_Key_g.ok Tryz.prog := by
  refine Sig.lift mix tabOk nms _ Tryz.func16 (c := (bodyOf Tryz.f16)) (by kernel_rfl) (o := orT [] [] noFz) (orT_sound trivial) (allLp_of [] (by kernel_rfl) trivial rfl) ?_
  intro z; kernel_rfl

def l40_known_T (x0 : Str) (x1 : Str) : Tree (List Entry) :=
 .bnd (r22_Key_T ([116] : Str) ([98] : Str) x0) fun y1 =>
 .ret [(y1, (1, ([], x1))), (([116, 101, 110, 97, 110, 116, 47, 116, 47, 115, 101, 99, 114, 101, 116] : Str), (1, ([], ([107, 101, 121] : Str))))]

def l40_known_g : Sig := ⟨20, (.cons (.val false .str) (.cons (.val false .str) .nil)), .vals (.val false (.list tEntry)), fun z => l40_known_T z.1 z.2.1, ([] : List Entry)⟩

theorem l40_known_ok : l40_known_g.ok Tryz.prog := by
  refine Sig.lift mix tabOk nms _ Tryz.func20 (c := (bodyOf Tryz.f20)) (by kernel_rfl) (o := orT [r22_Key_g] [] noFz) (orT_sound ⟨r22_Key_ok, trivial⟩) (allLp_of [] (by kernel_rfl) trivial rfl) ?_
  intro z; kernel_rfl

def front_Right_T (x0 : Int) : Tree Int :=
 .ite (decide (x0 = 1)) (
 .ret 1) (
 .ite (decide (x0 = 2)) (
 .ite (decide (x0 = 2)) (
 .ret 2) (
 .ite (decide (x0 = 4)) (
 .ret 4) (
 .ret 0))) (
 .ite (decide (x0 = 3)) (
 .ret 2) (
 .ite (decide (x0 = 4)) (
 .ret 4) (
 .ret 0))))

def front_Right_g : Sig := ⟨10, (.cons (.val false (.int .i64)) .nil), .vals (.val false (.int .i64)), fun z => front_Right_T z.1, (0 : Int)⟩

theorem front_Right_ok : front_Right_g.ok Tryz.prog := by
  refine Sig.lift mix tabOk nms _ Tryz.func10 (c := (bodyOf Tryz.f10)) (by kernel_rfl) (o := orT [] [] noFz) (orT_sound trivial) (allLp_of [] (by kernel_rfl) trivial rfl) ?_
  intro z; kernel_rfl

def front_Form_1_T (x0 : Call) : Tree Bool :=
 .bnd (front_Right_T x0.1) fun y1 =>
 .grd (!decide (y1 = 0)) (name_Is_T x0.2.2.1) false fun y2 =>
 .ret ((!decide (y1 = 0)) && y2)

def front_Form_1_g : Sig := ⟨22, (.cons (.ptr tCall) .nil), .vals (.val false .bool), fun z => front_Form_1_T z.1, false⟩

theorem front_Form_1_ok : front_Form_1_g.ok Tryz.prog := by
  refine Sig.lift mix tabOk nms _ Tryz.func22 (c := (bodyOf Tryz.f22)) (by kernel_rfl) (o := orT [front_Right_g, name_Is_g] [] noFz) (orT_sound ⟨front_Right_ok, ⟨name_Is_ok, trivial⟩⟩) (allLp_of [] (by kernel_rfl) trivial rfl) ?_
  intro z; kernel_rfl

def name_IsKey_T (x0 : Str) : Tree Bool :=
 .ret ((!(x0 == ([] : Str))) && (decide ((x0.length : Int) ≤ 64)))

def name_IsKey_g : Sig := ⟨25, (.cons (.val false .str) .nil), .vals (.val false .bool), fun z => name_IsKey_T z.1, false⟩

theorem name_IsKey_ok : name_IsKey_g.ok Tryz.prog := by
  refine Sig.lift mix tabOk nms _ Tryz.func25 (c := (bodyOf Tryz.f25)) (by kernel_rfl) (o := orT [] [] noFz) (orT_sound trivial) (allLp_of [] (by kernel_rfl) trivial rfl) ?_
  intro z; kernel_rfl

def front_Form_2_T (x0 : Call) : Tree Bool :=
 .grd ((!((decide (x0.1 = 4)) && (x0.2.2.2.1 == ([] : Str)))) && (!decide (x0.1 = 4))) (name_IsKey_T x0.2.2.2.1) false fun y1 =>
 .ret (((decide (x0.1 = 4)) && (x0.2.2.2.1 == ([] : Str))) || ((!decide (x0.1 = 4)) && y1))

def front_Form_2_g : Sig := ⟨24, (.cons (.ptr tCall) .nil), .vals (.val false .bool), fun z => front_Form_2_T z.1, false⟩

theorem front_Form_2_ok : front_Form_2_g.ok Tryz.prog := by
  refine Sig.lift mix tabOk nms _ Tryz.func24 (c := (bodyOf Tryz.f24)) (by kernel_rfl) (o := orT [name_IsKey_g] [] noFz) (orT_sound ⟨name_IsKey_ok, trivial⟩) (allLp_of [] (by kernel_rfl) trivial rfl) ?_
  intro z; kernel_rfl

def front_Form_3_T (x0 : Call) : Tree Bool :=
 .ret ((x0.2.2.2.2.1 == ([] : Str)) || ((decide (x0.1 = 2)) && (decide ((x0.2.2.2.2.1.length : Int) ≤ 256))))

def front_Form_3_g : Sig := ⟨26, (.cons (.ptr tCall) .nil), .vals (.val false .bool), fun z => front_Form_3_T z.1, false⟩

theorem front_Form_3_ok : front_Form_3_g.ok Tryz.prog := by
  refine Sig.lift mix tabOk nms _ Tryz.func26 (c := (bodyOf Tryz.f26)) (by kernel_rfl) (o := orT [] [] noFz) (orT_sound trivial) (allLp_of [] (by kernel_rfl) trivial rfl) ?_
  intro z; kernel_rfl

def dots_isSeen_L5_step (t : List Int) (t2 : Int) (last : Int) (t3 : Int) : Tree ((Int × Int) ⊕ (Bool ⊕ Unit)) :=
 .ite (decide (t3 < t2)) (
 ask (inb t3 t.length) <|
 .ite ((decide ((t.getD t3.toNat (0 : Int)) ≤ last)) || (decide ((9007199254740992 : Int) < (t.getD t3.toNat (0 : Int))))) (
 .ret (.inr (.inl false))) (
 .ret (.inl ((t.getD t3.toNat (0 : Int)), (w64 (t3 + 1)))))) (
 .ret (.inr (.inr ())))

def dots_isSeen_L5 : Lp := ⟨5, [], [], (ca (ca2 (.cons (.val false (.int .i64)) (ca (ca2 (ca4 (ca8 (ca16 (.cons (.val false (.list (.int .i64))) (.cons (.val false (.int .i64)) (.cons (.val false (.int .i64)) (ca4 (ca8 .nil))))))))))))), .nil, 0, .more 0 [] (ca2 (.cons (.val false .bool) (ca (ca2 (ca4 (ca8 (ca32 .nil))))))) .nil (.one 1 [] (ca2 (ca16 (ca32 .nil))) .nil), fun z => .bnd (.loop (fun v => dots_isSeen_L5_step z.1.2.2.2.2.2.2.2.2.2.2.2.2.2.2.2.2.2.2.2.2.2.2.2.2.2.2.2.2.2.2.2.2.2.2.2.1 z.1.2.2.2.2.2.2.2.2.2.2.2.2.2.2.2.2.2.2.2.2.2.2.2.2.2.2.2.2.2.2.2.2.2.2.2.2.1 v.1 v.2) (z.1.2.2.2.1, z.1.2.2.2.2.2.2.2.2.2.2.2.2.2.2.2.2.2.2.2.2.2.2.2.2.2.2.2.2.2.2.2.2.2.2.2.2.2.1)) fun r => .sum r (fun a0 => .ret (.inl ((cu2 (a0, (cu (cu2 (cu4 (cu8 (cu32 ()))))))), ()))) (fun b0 => .ret (.inr ((cu2 (cu16 (cu32 ()))), ())))⟩

theorem dots_isSeen_L5_ok : dots_isSeen_L5.ok Tryz.prog (nthC (loopsOf (bodyOf Tryz.f44)) 0) := by
  refine Lp.lift (π := ((List Int) × Int)) (V := (Int × Int)) (ρ := (Bool ⊕ Unit)) mix tabOk dots_isSeen_L5 (o := orT [name_Is_g] [] noFz) (orT_sound ⟨name_Is_ok, trivial⟩) (allLp_of [] (by kernel_rfl) trivial rfl) (fun x v => ((cu (cu2 (v.1, (cu (cu2 (cu4 (cu8 (cu16 (x.1, (x.2, (v.2, (cu4 (cu8 ()))))))))))))), ())) (fun x r => match r with | .inl a0 => .inl ((cu2 (a0, (cu (cu2 (cu4 (cu8 (cu32 ()))))))), ()) | .inr b0 => (.inr ((cu2 (cu16 (cu32 ()))), ()))) (fun x v => dots_isSeen_L5_step x.1 x.2 v.1 v.2) (fun x r => .sum r (fun a0 => .ret (.inl ((cu2 (a0, (cu (cu2 (cu4 (cu8 (cu32 ()))))))), ()))) (fun b0 => .ret (.inr ((cu2 (cu16 (cu32 ()))), ())))) (fun z => (z.1.2.2.2.2.2.2.2.2.2.2.2.2.2.2.2.2.2.2.2.2.2.2.2.2.2.2.2.2.2.2.2.2.2.2.2.1, z.1.2.2.2.2.2.2.2.2.2.2.2.2.2.2.2.2.2.2.2.2.2.2.2.2.2.2.2.2.2.2.2.2.2.2.2.2.1)) (fun z => (z.1.2.2.2.1, z.1.2.2.2.2.2.2.2.2.2.2.2.2.2.2.2.2.2.2.2.2.2.2.2.2.2.2.2.2.2.2.2.2.2.2.2.2.2.1)) (fun _ => rfl) (fun _ => rfl) (fun x r Q h => match r, h with | .inl _, h => h | .inr b0, h => (h)) ?_
  intro x v; kernel_rfl

def dots_isSeen_T (x0 : Seen) : Tree Bool :=
 .bnd (name_Is_T x0.1) fun y1 =>
 .ite ((((!y1) || (decide (x0.2.1 < 0))) || (decide ((9007199254740992 : Int) < x0.2.1))) || ((decide (x0.2.1 = 0)) && (decide ((x0.2.2.length : Int) = 0)))) (
 .ret false) (
 .bnd (.loop (fun v => dots_isSeen_L5_step x0.2.2 (x0.2.2.length : Int) v.1 v.2) ((w64 (x0.2.1 + 1)), 0)) fun r2 =>
 .sum r2 (fun r3 =>
 .ret r3) (fun r4 =>
 .ret true))

def dots_isSeen_g : Sig := ⟨44, (.cons (.val true tSeen) .nil), .vals (.val false .bool), fun z => dots_isSeen_T z.1, false⟩

theorem dots_isSeen_ok : dots_isSeen_g.ok Tryz.prog := by
  refine Sig.lift mix tabOk nms _ Tryz.func44 (c := (bodyOf Tryz.f44)) (by kernel_rfl) (o := orT [name_Is_g] [dots_isSeen_L5] noFz) (orT_sound ⟨name_Is_ok, trivial⟩) (allLp_of [nthC (loopsOf (bodyOf Tryz.f44)) 0] (by kernel_rfl) ⟨dots_isSeen_L5_ok, trivial⟩ (by kernel_rfl)) ?_
  intro z; kernel_rfl

def dots_Check_L3_step (c : List Seen) (t : List Seen) (t2 : Int) (room : Int) (t3 : Int) : Tree ((Int × Int) ⊕ (Int ⊕ Unit)) :=
 .ite (decide (t3 < t2)) (
 ask (inb t3 t.length) <|
 .bnd (dots_isSeen_T (t.getD t3.toNat (dfl tSeen : Seen))) fun y1 =>
 ask ((!((!(!y1)) && (decide ((0 : Int) < t3)))) || inb (w64 (t3 - 1)) c.length) <|
 .ite (((!y1) || ((decide ((0 : Int) < t3)) && (!ltS (c.getD ((w64 (t3 - 1)).toNat) (dfl tSeen : Seen)).1 (t.getD t3.toNat (dfl tSeen : Seen)).1))) || (decide (room < ((t.getD t3.toNat (dfl tSeen : Seen)).2.2.length : Int)))) (
 .ret (.inr (.inl 1))) (
 .ret (.inl ((w64 (room - ((t.getD t3.toNat (dfl tSeen : Seen)).2.2.length : Int))), (w64 (t3 + 1)))))) (
 .ret (.inr (.inr ())))

def dots_Check_L3 : Lp := ⟨3, [], [], (.cons (.val false (.list tSeen)) (ca2 (.cons (.val false (.int .i64)) (ca2 (.cons (.val false (.list tSeen)) (.cons (.val false (.int .i64)) (.cons (.val false (.int .i64)) (ca (ca2 (ca32 .nil)))))))))), .nil, 0, .more 0 [] (ca2 (.cons (.val false (.int .i64)) (ca (ca8 (ca32 .nil))))) .nil (.one 1 [] (ca4 (ca8 (ca32 .nil))) .nil), fun z => .bnd (.loop (fun v => dots_Check_L3_step z.1.1 z.1.2.2.2.2.2.2.1 z.1.2.2.2.2.2.2.2.1 v.1 v.2) (z.1.2.2.2.1, z.1.2.2.2.2.2.2.2.2.1)) fun r => .sum r (fun a0 => .ret (.inl ((cu2 (a0, (cu (cu8 (cu32 ()))))), ()))) (fun b0 => .ret (.inr ((cu4 (cu8 (cu32 ()))), ())))⟩

theorem dots_Check_L3_ok : dots_Check_L3.ok Tryz.prog (nthC (loopsOf (bodyOf Tryz.f28)) 0) := by
  refine Lp.lift (π := ((List Seen) × (List Seen) × Int)) (V := (Int × Int)) (ρ := (Int ⊕ Unit)) mix tabOk dots_Check_L3 (o := orT [dots_isSeen_g] [] noFz) (orT_sound ⟨dots_isSeen_ok, trivial⟩) (allLp_of [] (by kernel_rfl) trivial rfl) (fun x v => ((x.1, (cu2 (v.1, (cu2 (x.2.1, (x.2.2, (v.2, (cu (cu2 (cu32 ())))))))))), ())) (fun x r => match r with | .inl a0 => .inl ((cu2 (a0, (cu (cu8 (cu32 ()))))), ()) | .inr b0 => (.inr ((cu4 (cu8 (cu32 ()))), ()))) (fun x v => dots_Check_L3_step x.1 x.2.1 x.2.2 v.1 v.2) (fun x r => .sum r (fun a0 => .ret (.inl ((cu2 (a0, (cu (cu8 (cu32 ()))))), ()))) (fun b0 => .ret (.inr ((cu4 (cu8 (cu32 ()))), ())))) (fun z => (z.1.1, z.1.2.2.2.2.2.2.1, z.1.2.2.2.2.2.2.2.1)) (fun z => (z.1.2.2.2.1, z.1.2.2.2.2.2.2.2.2.1)) (fun _ => rfl) (fun _ => rfl) (fun x r Q h => match r, h with | .inl _, h => h | .inr b0, h => (h)) ?_
  intro x v; kernel_rfl

def dots_Check_T (x0 : List Seen) : Tree Int :=
 .bnd (.loop (fun v => dots_Check_L3_step x0 x0 (x0.length : Int) v.1 v.2) (4096, 0)) fun r1 =>
 .sum r1 (fun r2 =>
 .ret r2) (fun r3 =>
 .ret 0)

def dots_Check_g : Sig := ⟨28, (.cons (.val false (.list tSeen)) .nil), .vals (.val false (.int .i64)), fun z => dots_Check_T z.1, (0 : Int)⟩

theorem dots_Check_ok : dots_Check_g.ok Tryz.prog := by
  refine Sig.lift mix tabOk nms _ Tryz.func28 (c := (bodyOf Tryz.f28)) (by kernel_rfl) (o := orT [dots_isSeen_g] [dots_Check_L3] noFz) (orT_sound ⟨dots_isSeen_ok, trivial⟩) (allLp_of [nthC (loopsOf (bodyOf Tryz.f28)) 0] (by kernel_rfl) ⟨dots_Check_L3_ok, trivial⟩ (by kernel_rfl)) ?_
  intro z; kernel_rfl

def front_Form_4_T (x0 : Call) (x1 : Bool) : Tree Bool :=
 .grd ((!(decide ((x0.2.2.2.2.2.1.length : Int) = 0))) && x1) (dots_Check_T x0.2.2.2.2.2.1) (0 : Int) fun y1 =>
 .ret ((decide ((x0.2.2.2.2.2.1.length : Int) = 0)) || (x1 && (decide (y1 = 0))))

def front_Form_4_g : Sig := ⟨27, (.cons (.ptr tCall) (.cons (.ptr .bool) .nil)), .vals (.val false .bool), fun z => front_Form_4_T z.1 z.2.1, false⟩

theorem front_Form_4_ok : front_Form_4_g.ok Tryz.prog := by
  refine Sig.lift mix tabOk nms _ Tryz.func27 (c := (bodyOf Tryz.f27)) (by kernel_rfl) (o := orT [dots_Check_g] [] noFz) (orT_sound ⟨dots_Check_ok, trivial⟩) (allLp_of [] (by kernel_rfl) trivial rfl) ?_
  intro z; kernel_rfl

def front_Form_5_T (x0 : Call) (x1 : Bool) : Tree Bool :=
 .ret ((decide (x0.2.2.2.2.2.2 = 0)) || ((x1 && (decide ((0 : Int) < x0.2.2.2.2.2.2))) && (decide (x0.2.2.2.2.2.2 ≤ 9007199254740992))))

def front_Form_5_g : Sig := ⟨29, (.cons (.ptr tCall) (.cons (.ptr .bool) .nil)), .vals (.val false .bool), fun z => front_Form_5_T z.1 z.2.1, false⟩

theorem front_Form_5_ok : front_Form_5_g.ok Tryz.prog := by
  refine Sig.lift mix tabOk nms _ Tryz.func29 (c := (bodyOf Tryz.f29)) (by kernel_rfl) (o := orT [] [] noFz) (orT_sound trivial) (allLp_of [] (by kernel_rfl) trivial rfl) ?_
  intro z; kernel_rfl

def front_all_fz : Nat → List Pre
  | 2 => [.unr 6]
  | _ => []

def front_all_T (x0 : Call) (x1 : Call) (x2 : Call) (x3 : Call) (x4 : Bool) (x5 : Call) (x6 : Bool) : Tree Bool :=
 .ite (decide ((0 : Int) < 5)) (
 .bnd (front_Form_1_T x0) fun y1 =>
 .ite (!y1) (
 .ret false) (
 .ite (decide ((w64 ((0 : Int) + 1)) < 5)) (
 .bnd (front_Form_2_T x1) fun y2 =>
 .ite (!y2) (
 .ret false) (
 .ite (decide ((w64 ((w64 ((0 : Int) + 1)) + 1)) < 5)) (
 .bnd (front_Form_3_T x2) fun y3 =>
 .ite (!y3) (
 .ret false) (
 .ite (decide ((w64 ((w64 ((w64 ((0 : Int) + 1)) + 1)) + 1)) < 5)) (
 .bnd (front_Form_4_T x3 x4) fun y4 =>
 .ite (!y4) (
 .ret false) (
 .ite (decide ((w64 ((w64 ((w64 ((w64 ((0 : Int) + 1)) + 1)) + 1)) + 1)) < 5)) (
 .bnd (front_Form_5_T x5 x6) fun y5 =>
 .ite (!y5) (
 .ret false) (
 .ite (decide ((w64 ((w64 ((w64 ((w64 ((w64 ((0 : Int) + 1)) + 1)) + 1)) + 1)) + 1)) < 5)) (
 ask false <|
 ask false <|
 .fail) (
 .ret true))) (
 .ret true))) (
 .ret true))) (
 .ret true))) (
 .ret true))) (
 .ret true)

def front_all_g : Sig := ⟨21, (.cons (.lst (.cons (.fn 22 .nil (.cons (.ptr tCall) .nil)) (.cons (.fn 24 .nil (.cons (.ptr tCall) .nil)) (.cons (.fn 26 .nil (.cons (.ptr tCall) .nil)) (.cons (.fn 27 .nil (.cons (.ptr tCall) (.cons (.ptr .bool) .nil))) (.cons (.fn 29 .nil (.cons (.ptr tCall) (.cons (.ptr .bool) .nil))) .nil)))))) .nil), .vals (.val false .bool), fun z => front_all_T z.1.1.2.1 z.1.2.1.2.1 z.1.2.2.1.2.1 z.1.2.2.2.1.2.1 z.1.2.2.2.1.2.2.1 z.1.2.2.2.2.1.2.1 z.1.2.2.2.2.1.2.2.1, false⟩

theorem front_all_ok : front_all_g.ok Tryz.prog := by
  refine Sig.lift mix tabOk nms _ Tryz.func21 (c := (bodyOf Tryz.f21)) (by kernel_rfl) (o := orT [front_Form_1_g, front_Form_2_g, front_Form_3_g, front_Form_4_g, front_Form_5_g] [] front_all_fz) (orT_sound ⟨front_Form_1_ok, ⟨front_Form_2_ok, ⟨front_Form_3_ok, ⟨front_Form_4_ok, ⟨front_Form_5_ok, trivial⟩⟩⟩⟩⟩) (allLp_ofU [] (by kernel_rfl) trivial rfl) ?_
  intro z; kernel_rfl

def front_Form_T (x0 : Call) : Tree Int :=
 .bnd (front_Right_T x0.1) fun y1 =>
 .bnd (front_all_T x0 x0 x0 x0 (decide (y1 = 2)) x0 (decide (y1 = 2))) fun y2 =>
 .ite (!y2) (
 .ret 1) (
 .ret 0)

def front_Form_g : Sig := ⟨8, (.cons (.val true tCall) .nil), .vals (.val false (.int .i64)), fun z => front_Form_T z.1, (0 : Int)⟩

theorem front_Form_ok : front_Form_g.ok Tryz.prog := by
  refine Sig.lift mix tabOk nms _ Tryz.func8 (c := (bodyOf Tryz.f8)) (by kernel_rfl) (o := orT [front_Right_g, front_all_g] [] noFz) (orT_sound ⟨front_Right_ok, ⟨front_all_ok, trivial⟩⟩) (allLp_of [] (by kernel_rfl) trivial rfl) ?_
  intro z; kernel_rfl

def access_Key_T (x0 : Str) (x1 : Str) (x2 : Str) : Tree Str :=
 .bnd (name_Path_T [([97, 99, 108] : Str), x0, x1, x2]) fun y1 =>
 .ret y1

def access_Key_g : Sig := ⟨50, (.cons (.val false .str) (.cons (.val false .str) (.cons (.val false .str) .nil))), .vals (.val false .str), fun z => access_Key_T z.1 z.2.1 z.2.2.1, ([] : Str)⟩

theorem access_Key_ok : access_Key_g.ok Tryz.prog := by
  refine Sig.lift mix tabOk nms _ Tryz.func50 (c := (bodyOf Tryz.f50)) (by kernel_rfl) (o := orT [name_Path_g] [] noFz) (orT_sound ⟨name_Path_ok, trivial⟩) (allLp_of [] (by kernel_rfl) trivial rfl) ?_
  intro z; kernel_rfl

def access_letters_T  : Tree (Str × (Str × Str)) :=
 .ret (([114] : Str), (([119] : Str), ([108] : Str)))

def access_letters_g : Sig := ⟨93, .nil, .vals (.val true (.pair .str (.pair .str .str))), fun z => access_letters_T, (dfl (.pair .str (.pair .str .str)) : (Str × (Str × Str)))⟩

theorem access_letters_ok : access_letters_g.ok Tryz.prog := by
  refine Sig.lift mix tabOk nms _ Tryz.func93 (c := (bodyOf Tryz.f93)) (by kernel_rfl) (o := orT [] [] noFz) (orT_sound trivial) (allLp_of [] (by kernel_rfl) trivial rfl) ?_
  intro z; kernel_rfl

def access_Text_fz : Nat → List Pre
  | 6 => [.spl 14 3]
  | _ => []

def access_Text_L5_step (rights : Int) (t : (Str × (Str × Str))) (s_ : Str) (t2 : Int) : Tree ((Str × Int) ⊕ Str) :=
 .ite (decide (t2 < 3)) (
 .ite (decide (t2 = 0)) (
 ask (inb 0 3) <|
 ask (decide ((0 : Int) ≤ 0)) <|
 .ite (decide ((stdArith .and .i64 (stdShift .shr .i64 rights 0) 1) = 1)) (
 ask (decide (s_.length + t.1.length ≤ 9223372036854775807)) <|
 .ret (.inl ((s_ ++ t.1), (w64 ((0 : Int) + 1))))) (
 .ret (.inl (s_, (w64 ((0 : Int) + 1)))))) (
 .ite (decide (t2 = 1)) (
 ask (inb 1 3) <|
 ask (decide ((0 : Int) ≤ 1)) <|
 .ite (decide ((stdArith .and .i64 (stdShift .shr .i64 rights 1) 1) = 1)) (
 ask (decide (s_.length + t.2.1.length ≤ 9223372036854775807)) <|
 .ret (.inl ((s_ ++ t.2.1), (w64 ((1 : Int) + 1))))) (
 .ret (.inl (s_, (w64 ((1 : Int) + 1)))))) (
 .ite (decide (t2 = 2)) (
 ask (inb 2 3) <|
 ask (decide ((0 : Int) ≤ 2)) <|
 .ite (decide ((stdArith .and .i64 (stdShift .shr .i64 rights 2) 1) = 1)) (
 ask (decide (s_.length + t.2.2.length ≤ 9223372036854775807)) <|
 .ret (.inl ((s_ ++ t.2.2), (w64 ((2 : Int) + 1))))) (
 .ret (.inl (s_, (w64 ((2 : Int) + 1)))))) (
 .fail)))) (
 .ret (.inr s_))

def access_Text_L5 : Lp := ⟨5, [], [], (.cons (.val false (.int .i64)) (ca2 (.cons (.val false .str) (ca (ca8 (.cons (.val true (.pair .str (.pair .str .str))) (.cons (.val false (.int .i64)) (ca (ca4 (ca8 .nil)))))))))), .nil, 0, .one 1 [] (ca (ca2 (.cons (.val false .str) (ca8 (ca16 .nil))))) .nil, fun z => .bnd (.loop (fun v => access_Text_L5_step z.1.1 z.1.2.2.2.2.2.2.2.2.2.2.2.2.2.1 v.1 v.2) (z.1.2.2.2.1, z.1.2.2.2.2.2.2.2.2.2.2.2.2.2.2.1)) fun r => .ret ((cu (cu2 (r, (cu8 (cu16 ()))))), ())⟩

theorem access_Text_L5_ok : access_Text_L5.ok Tryz.prog (nthC (loopsOf (bodyOf Tryz.f73)) 0) := by
  refine Lp.lift (π := (Int × (Str × (Str × Str)))) (V := (Str × Int)) (ρ := Str) mix tabOk access_Text_L5 (o := orT [access_letters_g] [] access_Text_fz) (orT_sound ⟨access_letters_ok, trivial⟩) (allLp_of [] (by kernel_rfl) trivial rfl) (fun x v => ((x.1, (cu2 (v.1, (cu (cu8 (x.2, (v.2, (cu (cu4 (cu8 ())))))))))), ())) (fun x r => ((cu (cu2 (r, (cu8 (cu16 ()))))), ())) (fun x v => access_Text_L5_step x.1 x.2 v.1 v.2) (fun x r => .ret ((cu (cu2 (r, (cu8 (cu16 ()))))), ())) (fun z => (z.1.1, z.1.2.2.2.2.2.2.2.2.2.2.2.2.2.1)) (fun z => (z.1.2.2.2.1, z.1.2.2.2.2.2.2.2.2.2.2.2.2.2.2.1)) (fun _ => rfl) (fun _ => rfl) (fun _ _ _ h => h) ?_
  intro x v; kernel_rfl

def access_Text_T (x0 : Int) : Tree Str :=
 .ite ((decide (x0 < 0)) || (decide ((7 : Int) < x0))) (
 .ret ([] : Str)) (
 .bnd access_letters_T fun y1 =>
 .bnd (.loop (fun v => access_Text_L5_step x0 y1 v.1 v.2) (([] : Str), 0)) fun r2 =>
 .ret r2)

def access_Text_g : Sig := ⟨73, (.cons (.val false (.int .i64)) .nil), .vals (.val false .str), fun z => access_Text_T z.1, ([] : Str)⟩

theorem access_Text_ok : access_Text_g.ok Tryz.prog := by
  refine Sig.lift mix tabOk nms _ Tryz.func73 (c := (bodyOf Tryz.f73)) (by kernel_rfl) (o := orT [access_letters_g] [access_Text_L5] access_Text_fz) (orT_sound ⟨access_letters_ok, trivial⟩) (allLp_of [nthC (loopsOf (bodyOf Tryz.f73)) 0] (by kernel_rfl) ⟨access_Text_L5_ok, trivial⟩ (by kernel_rfl)) ?_
  intro z; kernel_rfl

def access_Rights_L2_step (s_ : Str) (t : Int) : Tree (Int ⊕ ((Int × Bool) ⊕ Unit)) :=
 .ite (decide (t < 8)) (
 .bnd (access_Text_T t) fun y1 =>
 .ite (y1 == s_) (
 .ret (.inr (.inl (t, true)))) (
 .ret (.inl (w64 (t + 1))))) (
 .ret (.inr (.inr ())))

def access_Rights_L2 : Lp := ⟨2, [], [], (.cons (.val false .str) (ca4 (.cons (.val false (.int .i64)) (ca8 .nil)))), .nil, 0, .more 0 [] (ca2 (.cons (.val false (.int .i64)) (.cons (.val false .bool) (ca2 (ca8 .nil))))) .nil (.one 1 [] (ca2 (ca4 (ca8 .nil))) .nil), fun z => .bnd (.loop (fun v => access_Rights_L2_step z.1.1 v) z.1.2.2.2.2.2.1) fun r => .sum r (fun a0 => .ret (.inl ((cu2 (a0.1, (a0.2, (cu2 (cu8 ()))))), ()))) (fun b0 => .ret (.inr ((cu2 (cu4 (cu8 ()))), ())))⟩

theorem access_Rights_L2_ok : access_Rights_L2.ok Tryz.prog (nthC (loopsOf (bodyOf Tryz.f48)) 0) := by
  refine Lp.lift (π := Str) (V := Int) (ρ := ((Int × Bool) ⊕ Unit)) mix tabOk access_Rights_L2 (o := orT [access_Text_g] [] noFz) (orT_sound ⟨access_Text_ok, trivial⟩) (allLp_of [] (by kernel_rfl) trivial rfl) (fun x v => ((x, (cu4 (v, (cu8 ())))), ())) (fun x r => match r with | .inl a0 => .inl ((cu2 (a0.1, (a0.2, (cu2 (cu8 ()))))), ()) | .inr b0 => (.inr ((cu2 (cu4 (cu8 ()))), ()))) (fun x v => access_Rights_L2_step x v) (fun x r => .sum r (fun a0 => .ret (.inl ((cu2 (a0.1, (a0.2, (cu2 (cu8 ()))))), ()))) (fun b0 => .ret (.inr ((cu2 (cu4 (cu8 ()))), ())))) (fun z => z.1.1) (fun z => z.1.2.2.2.2.2.1) (fun _ => rfl) (fun _ => rfl) (fun x r Q h => match r, h with | .inl _, h => h | .inr b0, h => (h)) ?_
  intro x v; kernel_rfl

def access_Rights_T (x0 : Str) : Tree (Int × Bool × Unit) :=
 .bnd (.loop (fun v => access_Rights_L2_step x0 v) 0) fun r1 =>
 .sum r1 (fun r2 =>
 .ret (r2.1, r2.2, ())) (fun r3 =>
 .ret (0, false, ()))

def access_Rights_g : Sig := ⟨48, (.cons (.val false .str) .nil), .vals (.cons (.val false (.int .i64)) (.cons (.val false .bool) .nil)), fun z => access_Rights_T z.1, ((0 : Int), false, ())⟩

theorem access_Rights_ok : access_Rights_g.ok Tryz.prog := by
  refine Sig.lift mix tabOk nms _ Tryz.func48 (c := (bodyOf Tryz.f48)) (by kernel_rfl) (o := orT [access_Text_g] [access_Rights_L2] noFz) (orT_sound ⟨access_Text_ok, trivial⟩) (allLp_of [nthC (loopsOf (bodyOf Tryz.f48)) 0] (by kernel_rfl) ⟨access_Rights_L2_ok, trivial⟩ (by kernel_rfl)) ?_
  intro z; kernel_rfl

def access_Of_fz : Nat → List Pre
  | 4 => [.spl 16 2]
  | _ => []

def access_Of_L3_step (l : List Entry) (tenant : Str) (bucket : Str) (t : (Str × Str)) (n : Int) (t2 : Int) : Tree ((Int × Int) ⊕ Int) :=
 .ite (decide (t2 < 2)) (
 .ite (decide (t2 = 0)) (
 ask (inb 0 2) <|
 .bnd (access_Key_T tenant bucket t.1) fun y4 =>
 .bnd (registry_Get_T l y4) fun y5 =>
 .bnd (access_Rights_T y5.2.2) fun y6 =>
 .ret (.inl ((stdArith .or .i64 n y6.1), (w64 ((0 : Int) + 1))))) (
 .ite (decide (t2 = 1)) (
 ask (inb 1 2) <|
 .bnd (access_Key_T tenant bucket t.2) fun y1 =>
 .bnd (registry_Get_T l y1) fun y2 =>
 .bnd (access_Rights_T y2.2.2) fun y3 =>
 .ret (.inl ((stdArith .or .i64 n y3.1), (w64 ((1 : Int) + 1))))) (
 .fail))) (
 .ret (.inr n))

def access_Of_L3 : Lp := ⟨3, [], [], (.cons (.val false (.list tEntry)) (.cons (.val false .str) (.cons (.val false .str) (ca2 (ca4 (.cons (.val false (.int .i64)) (ca (ca4 (.cons (.val true (.pair .str .str)) (.cons (.val false (.int .i64)) (ca2 (ca16 .nil)))))))))))), .nil, 0, .one 1 [] (ca (ca8 (.cons (.val false (.int .i64)) (ca (ca8 (ca16 .nil)))))) .nil, fun z => .bnd (.loop (fun v => access_Of_L3_step z.1.1 z.1.2.1 z.1.2.2.1 z.1.2.2.2.2.2.2.2.2.2.2.2.2.2.2.2.1 v.1 v.2) (z.1.2.2.2.2.2.2.2.2.2.1, z.1.2.2.2.2.2.2.2.2.2.2.2.2.2.2.2.2.1)) fun r => .ret ((cu (cu8 (r, (cu (cu8 (cu16 ())))))), ())⟩

theorem access_Of_L3_ok : access_Of_L3.ok Tryz.prog (nthC (loopsOf (bodyOf Tryz.f34)) 0) := by
  refine Lp.lift (π := ((List Entry) × Str × Str × (Str × Str))) (V := (Int × Int)) (ρ := Int) mix tabOk access_Of_L3 (o := orT [access_Key_g, registry_Get_g, access_Rights_g] [] access_Of_fz) (orT_sound ⟨access_Key_ok, ⟨registry_Get_ok, ⟨access_Rights_ok, trivial⟩⟩⟩) (allLp_of [] (by kernel_rfl) trivial rfl) (fun x v => ((x.1, (x.2.1, (x.2.2.1, (cu2 (cu4 (v.1, (cu (cu4 (x.2.2.2, (v.2, (cu2 (cu16 ())))))))))))), ())) (fun x r => ((cu (cu8 (r, (cu (cu8 (cu16 ())))))), ())) (fun x v => access_Of_L3_step x.1 x.2.1 x.2.2.1 x.2.2.2 v.1 v.2) (fun x r => .ret ((cu (cu8 (r, (cu (cu8 (cu16 ())))))), ())) (fun z => (z.1.1, z.1.2.1, z.1.2.2.1, z.1.2.2.2.2.2.2.2.2.2.2.2.2.2.2.2.1)) (fun z => (z.1.2.2.2.2.2.2.2.2.2.1, z.1.2.2.2.2.2.2.2.2.2.2.2.2.2.2.2.2.1)) (fun _ => rfl) (fun _ => rfl) (fun _ _ _ h => h) ?_
  intro x v; kernel_rfl

def access_Of_T (x0 : List Entry) (x1 : Str) (x2 : Str) (x3 : Str) : Tree Int :=
 .bnd (.loop (fun v => access_Of_L3_step x0 x1 x2 (x3, ([97, 108, 108] : Str)) v.1 v.2) (0, 0)) fun r1 =>
 .ret r1

def access_Of_g : Sig := ⟨34, (.cons (.val false (.list tEntry)) (.cons (.val false .str) (.cons (.val false .str) (.cons (.val false .str) .nil)))), .vals (.val false (.int .i64)), fun z => access_Of_T z.1 z.2.1 z.2.2.1 z.2.2.2.1, (0 : Int)⟩

theorem access_Of_ok : access_Of_g.ok Tryz.prog := by
  refine Sig.lift mix tabOk nms _ Tryz.func34 (c := (bodyOf Tryz.f34)) (by kernel_rfl) (o := orT [access_Key_g, registry_Get_g, access_Rights_g] [access_Of_L3] access_Of_fz) (orT_sound ⟨access_Key_ok, ⟨registry_Get_ok, ⟨access_Rights_ok, trivial⟩⟩⟩) (allLp_of [nthC (loopsOf (bodyOf Tryz.f34)) 0] (by kernel_rfl) ⟨access_Of_L3_ok, trivial⟩ (by kernel_rfl)) ?_
  intro z; kernel_rfl

def front_Check_T (x0 : List Entry) (x1 : Str) (x2 : Call) (x3 : Int) : Tree Int :=
 .bnd (front_Form_T x2) fun y1 =>
 .ite (!decide (y1 = 0)) (
 .ret y1) (
 .bnd (token_Check_T x0 x2.2.1 x3) fun y2 =>
 .ite ((!decide (y2.2.2.1 = 0)) || (!(y2.1 == x1))) (
 .ret 7) (
 .bnd (access_Of_T x0 x1 x2.2.2.1 y2.2.1) fun y3 =>
 .bnd (front_Right_T x2.1) fun y4 =>
 .ite (decide ((stdArith .and .i64 y3 y4) = 0)) (
 .ret 8) (
 .ret 0)))

def front_Check_g : Sig := ⟨12, (.cons (.val false (.list tEntry)) (.cons (.val false .str) (.cons (.val true tCall) (.cons (.val false (.int .i64)) .nil)))), .vals (.val false (.int .i64)), fun z => front_Check_T z.1 z.2.1 z.2.2.1 z.2.2.2.1, (0 : Int)⟩

theorem front_Check_ok : front_Check_g.ok Tryz.prog := by
  refine Sig.lift mix tabOk nms _ Tryz.func12 (c := (bodyOf Tryz.f12)) (by kernel_rfl) (o := orT [front_Form_g, token_Check_g, access_Of_g, front_Right_g] [] noFz) (orT_sound ⟨front_Form_ok, ⟨token_Check_ok, ⟨access_Of_ok, ⟨front_Right_ok, trivial⟩⟩⟩⟩) (allLp_of [] (by kernel_rfl) trivial rfl) ?_
  intro z; kernel_rfl

def l40_awake_T  : Tree Bool :=
 .bnd (r24_Make_T ([107, 101, 121] : Str) ([116] : Str) ([97, 110, 110] : Str) 9) fun y1 =>
 .bnd (l40_known_T ([97, 110, 110] : Str) ([114] : Str)) fun y2 =>
 .bnd (front_Check_T y2 ([116] : Str) (1, (y1, (([98] : Str), (([107] : Str), ([], ([], 0)))))) 9) fun y3 =>
 .grd (decide (y3 = 0)) (l40_known_T ([97, 110, 110] : Str) ([119] : Str)) ([] : List Entry) fun y4 =>
 .grd (decide (y3 = 0)) (front_Check_T y4 ([116] : Str) (1, (y1, (([98] : Str), (([107] : Str), ([], ([], 0)))))) 9) (0 : Int) fun y5 =>
 .grd ((decide (y3 = 0)) && (decide (y5 = 8))) (l40_known_T ([98, 111, 98] : Str) ([114] : Str)) ([] : List Entry) fun y6 =>
 .grd ((decide (y3 = 0)) && (decide (y5 = 8))) (front_Check_T y6 ([116] : Str) (1, (y1, (([98] : Str), (([107] : Str), ([], ([], 0)))))) 9) (0 : Int) fun y7 =>
 .grd (((decide (y3 = 0)) && (decide (y5 = 8))) && (decide (y7 = 8))) (l40_known_T ([97, 108, 108] : Str) ([114] : Str)) ([] : List Entry) fun y8 =>
 .grd (((decide (y3 = 0)) && (decide (y5 = 8))) && (decide (y7 = 8))) (front_Check_T y8 ([116] : Str) (1, (y1, (([98] : Str), (([107] : Str), ([], ([], 0)))))) 10) (0 : Int) fun y9 =>
 .grd ((((decide (y3 = 0)) && (decide (y5 = 8))) && (decide (y7 = 8))) && (decide (y9 = 7))) (l40_known_T ([97, 110, 110] : Str) ([114] : Str)) ([] : List Entry) fun y10 =>
 .grd ((((decide (y3 = 0)) && (decide (y5 = 8))) && (decide (y7 = 8))) && (decide (y9 = 7))) (front_Check_T y10 ([117] : Str) (1, (y1, (([98] : Str), (([107] : Str), ([], ([], 0)))))) 9) (0 : Int) fun y11 =>
 .grd (((((decide (y3 = 0)) && (decide (y5 = 8))) && (decide (y7 = 8))) && (decide (y9 = 7))) && (decide (y11 = 7))) (front_Form_T (1, (y1, (([98] : Str), (([107] : Str), (([120] : Str), ([], 0))))))) (0 : Int) fun y12 =>
 .grd ((((((decide (y3 = 0)) && (decide (y5 = 8))) && (decide (y7 = 8))) && (decide (y9 = 7))) && (decide (y11 = 7))) && (decide (y12 = 1))) (front_Form_T (1, (y1, (([98] : Str), (([107] : Str), ([], ([], 0))))))) (0 : Int) fun y13 =>
 .grd (((((((decide (y3 = 0)) && (decide (y5 = 8))) && (decide (y7 = 8))) && (decide (y9 = 7))) && (decide (y11 = 7))) && (decide (y12 = 1))) && (decide (y13 = 0))) (front_Right_T 3) (0 : Int) fun y14 =>
 .ret ((((((((decide (y3 = 0)) && (decide (y5 = 8))) && (decide (y7 = 8))) && (decide (y9 = 7))) && (decide (y11 = 7))) && (decide (y12 = 1))) && (decide (y13 = 0))) && (decide (y14 = 2)))

def l40_awake_g : Sig := ⟨7, .nil, .vals (.val false .bool), fun z => l40_awake_T, false⟩

theorem l40_awake_ok : l40_awake_g.ok Tryz.prog := by
  refine Sig.lift mix tabOk nms _ Tryz.func7 (c := (bodyOf Tryz.f7)) (by kernel_rfl) (o := orT [r24_Make_g, l40_known_g, front_Check_g, front_Form_g, front_Right_g] [] noFz) (orT_sound ⟨r24_Make_ok, ⟨l40_known_ok, ⟨front_Check_ok, ⟨front_Form_ok, ⟨front_Right_ok, trivial⟩⟩⟩⟩⟩) (allLp_of [] (by kernel_rfl) trivial rfl) ?_
  intro z; kernel_rfl

def r05_IsKey_T (x0 : Str) : Tree Bool :=
 .ret ((decide ((1 : Int) ≤ (x0.length : Int))) && (decide ((x0.length : Int) ≤ 64)))

def r05_IsKey_g : Sig := ⟨30, (.cons (.val false .str) .nil), .vals (.val false .bool), fun z => r05_IsKey_T z.1, false⟩

theorem r05_IsKey_ok : r05_IsKey_g.ok Tryz.prog := by
  refine Sig.lift mix tabOk nms _ Tryz.func30 (c := (bodyOf Tryz.f30)) (by kernel_rfl) (o := orT [] [] noFz) (orT_sound trivial) (allLp_of [] (by kernel_rfl) trivial rfl) ?_
  intro z; kernel_rfl

def r40_Right_T (x0 : Int) : Tree Int :=
 .ite (decide (x0 = 1)) (
 .ret 1) (
 .ite (decide (x0 = 2)) (
 .ite (decide (x0 = 2)) (
 .ret 2) (
 .ite (decide (x0 = 4)) (
 .ret 4) (
 .ret 0))) (
 .ite (decide (x0 = 3)) (
 .ret 2) (
 .ite (decide (x0 = 4)) (
 .ret 4) (
 .ret 0))))

def r40_Right_g : Sig := ⟨11, (.cons (.val false (.int .i64)) .nil), .vals (.val false (.int .i64)), fun z => r40_Right_T z.1, (0 : Int)⟩

theorem r40_Right_ok : r40_Right_g.ok Tryz.prog := by
  refine Sig.lift mix tabOk nms _ Tryz.func11 (c := (bodyOf Tryz.f11)) (by kernel_rfl) (o := orT [] [] noFz) (orT_sound trivial) (allLp_of [] (by kernel_rfl) trivial rfl) ?_
  intro z; kernel_rfl

def r05_Is_L2_step (s_ : Str) (i : Int) : Tree (Int ⊕ (Bool ⊕ Unit)) :=
 .ite (decide (i < (s_.length : Int))) (
 ask (inb i s_.length) <|
 ask ((!(!(decide ((sgetI s_ i) < 97)))) || inb i s_.length) <|
 ask ((!((decide ((sgetI s_ i) < 97)) || (decide ((122 : Int) < (sgetI s_ i))))) || inb i s_.length) <|
 ask ((!(((decide ((sgetI s_ i) < 97)) || (decide ((122 : Int) < (sgetI s_ i)))) && (!(decide ((sgetI s_ i) < 48))))) || inb i s_.length) <|
 ask ((!(((decide ((sgetI s_ i) < 97)) || (decide ((122 : Int) < (sgetI s_ i)))) && ((decide ((sgetI s_ i) < 48)) || (decide ((57 : Int) < (sgetI s_ i)))))) || inb i s_.length) <|
 .ite ((((decide ((sgetI s_ i) < 97)) || (decide ((122 : Int) < (sgetI s_ i)))) && ((decide ((sgetI s_ i) < 48)) || (decide ((57 : Int) < (sgetI s_ i))))) && (!decide ((sgetI s_ i) = 45))) (
 .ret (.inr (.inl false))) (
 .ret (.inl (w64 (i + 1))))) (
 .ret (.inr (.inr ())))

def r05_Is_L2 : Lp := ⟨2, [], [], (.cons (.val false .str) (ca2 (.cons (.val false (.int .i64)) (ca2 (ca8 (ca32 .nil)))))), .nil, 0, .more 0 [] (ca2 (.cons (.val false .bool) (ca (ca2 (ca8 (ca32 .nil)))))) .nil (.one 1 [] (.cons (.val false .str) (ca (ca4 (ca8 (ca32 .nil))))) .nil), fun z => .bnd (.loop (fun v => r05_Is_L2_step z.1.1 v) z.1.2.2.2.1) fun r => .sum r (fun a0 => .ret (.inl ((cu2 (a0, (cu (cu2 (cu8 (cu32 ())))))), ()))) (fun b0 => .ret (.inr ((z.1.1, (cu (cu4 (cu8 (cu32 ()))))), ())))⟩

theorem r05_Is_L2_ok : r05_Is_L2.ok Tryz.prog (nthC (loopsOf (bodyOf Tryz.f31)) 0) := by
  refine Lp.lift (π := Str) (V := Int) (ρ := (Bool ⊕ Unit)) mix tabOk r05_Is_L2 (o := orT [] [] noFz) (orT_sound trivial) (allLp_of [] (by kernel_rfl) trivial rfl) (fun x v => ((x, (cu2 (v, (cu2 (cu8 (cu32 ())))))), ())) (fun x r => match r with | .inl a0 => .inl ((cu2 (a0, (cu (cu2 (cu8 (cu32 ())))))), ()) | .inr b0 => (.inr ((x, (cu (cu4 (cu8 (cu32 ()))))), ()))) (fun x v => r05_Is_L2_step x v) (fun x r => .sum r (fun a0 => .ret (.inl ((cu2 (a0, (cu (cu2 (cu8 (cu32 ())))))), ()))) (fun b0 => .ret (.inr ((x, (cu (cu4 (cu8 (cu32 ()))))), ())))) (fun z => z.1.1) (fun z => z.1.2.2.2.1) (fun _ => rfl) (fun _ => rfl) (fun x r Q h => match r, h with | .inl _, h => h | .inr b0, h => (h)) ?_
  intro x v; kernel_rfl

def r05_Is_T (x0 : Str) : Tree Bool :=
 .bnd (.loop (fun v => r05_Is_L2_step x0 v) 0) fun r1 =>
 .sum r1 (fun r2 =>
 .ret r2) (fun r3 =>
 .ret ((decide ((1 : Int) ≤ (x0.length : Int))) && (decide ((x0.length : Int) ≤ 16))))

def r05_Is_g : Sig := ⟨31, (.cons (.val false .str) .nil), .vals (.val false .bool), fun z => r05_Is_T z.1, false⟩

theorem r05_Is_ok : r05_Is_g.ok Tryz.prog := by
  refine Sig.lift mix tabOk nms _ Tryz.func31 (c := (bodyOf Tryz.f31)) (by kernel_rfl) (o := orT [] [r05_Is_L2] noFz) (orT_sound trivial) (allLp_of [nthC (loopsOf (bodyOf Tryz.f31)) 0] (by kernel_rfl) ⟨r05_Is_L2_ok, trivial⟩ (by kernel_rfl)) ?_
  intro z; kernel_rfl

def r06_May_L11_step (c : List Seen) (n : Int) (i : Int) (x_ : Seen) (last : Int) (k : Int) : Tree ((Int × Int) ⊕ (Bool ⊕ Unit)) :=
 .ite (decide (k < (x_.2.2.length : Int))) (
 ask (inb k x_.2.2.length) <|
 ask ((!(!(decide ((x_.2.2.getD k.toNat (0 : Int)) ≤ last)))) || inb k x_.2.2.length) <|
 .ite ((decide ((x_.2.2.getD k.toNat (0 : Int)) ≤ last)) || (decide ((9007199254740992 : Int) < (x_.2.2.getD k.toNat (0 : Int))))) (
 .ret (.inr (.inl false))) (
 ask (inb k x_.2.2.length) <|
 .ret (.inl ((x_.2.2.getD k.toNat (0 : Int)), (w64 (k + 1)))))) (
 .ret (.inr (.inr ())))

def r06_May_L11 : Lp := ⟨11, [], [], (.cons (.val false (.list tSeen)) (ca2 (.cons (.val false (.int .i64)) (.cons (.val false (.int .i64)) (.cons (.ref 0 0) (.cons (.val false (.int .i64)) (.cons (.val false (.int .i64)) (ca (ca4 (ca8 (ca16 (ca32 (ca32 .nil))))))))))))), (.cells 60 (.cons (.flat tSeen) .nil) .nil), 0, .more 0 [] (ca2 (.cons (.val false .bool) (ca2 (ca32 (ca32 (ca32 .nil)))))) .nil (.one 3 [] (.cons (.val false (.list tSeen)) (ca2 (.cons (.val false (.int .i64)) (.cons (.val false (.int .i64)) (ca32 (ca32 (ca32 .nil))))))) .nil), fun z => .bnd (.loop (fun v => r06_May_L11_step z.1.1 z.1.2.2.2.1 z.1.2.2.2.2.1 z.2.1.1 v.1 v.2) (z.1.2.2.2.2.2.2.1, z.1.2.2.2.2.2.2.2.1)) fun r => .sum r (fun a0 => .ret (.inl ((cu2 (a0, (cu2 (cu32 (cu32 (cu32 ())))))), ()))) (fun b0 => .ret (.inr ((z.1.1, (cu2 (z.1.2.2.2.1, (z.1.2.2.2.2.1, (cu32 (cu32 (cu32 ()))))))), ())))⟩

theorem r06_May_L11_ok : r06_May_L11.ok Tryz.prog (nthC (loopsOf (nthC (loopsOf (bodyOf Tryz.f32)) 0)) 0) := by
  refine Lp.lift (π := ((List Seen) × Int × Int × Seen)) (V := (Int × Int)) (ρ := (Bool ⊕ Unit)) mix tabOk r06_May_L11 (o := orT [r05_Is_g] [] noFz) (orT_sound ⟨r05_Is_ok, trivial⟩) (allLp_of [] (by kernel_rfl) trivial rfl) (fun x v => ((x.1, (cu2 (x.2.1, (x.2.2.1, ((), (v.1, (v.2, (cu (cu4 (cu8 (cu16 (cu32 (cu32 ()))))))))))))), ((x.2.2.2, ()), ()))) (fun x r => match r with | .inl a0 => .inl ((cu2 (a0, (cu2 (cu32 (cu32 (cu32 ())))))), ()) | .inr b0 => (.inr ((x.1, (cu2 (x.2.1, (x.2.2.1, (cu32 (cu32 (cu32 ()))))))), ()))) (fun x v => r06_May_L11_step x.1 x.2.1 x.2.2.1 x.2.2.2 v.1 v.2) (fun x r => .sum r (fun a0 => .ret (.inl ((cu2 (a0, (cu2 (cu32 (cu32 (cu32 ())))))), ()))) (fun b0 => .ret (.inr ((x.1, (cu2 (x.2.1, (x.2.2.1, (cu32 (cu32 (cu32 ()))))))), ())))) (fun z => (z.1.1, z.1.2.2.2.1, z.1.2.2.2.2.1, z.2.1.1)) (fun z => (z.1.2.2.2.2.2.2.1, z.1.2.2.2.2.2.2.2.1)) (fun _ => rfl) (fun _ => rfl) (fun x r Q h => match r, h with | .inl _, h => h | .inr b0, h => (h)) ?_
  intro x v; kernel_rfl

def r06_May_L3_step (c : List Seen) (n : Int) (i : Int) : Tree ((Int × Int) ⊕ (Bool ⊕ Unit)) :=
 .ite (decide (i < (c.length : Int))) (
 ask (inb i c.length) <|
 .bnd (r05_Is_T (c.getD i.toNat (dfl tSeen : Seen)).1) fun y1 =>
 ask ((!((!(!y1)) && (decide ((0 : Int) < i)))) || inb (w64 (i - 1)) c.length) <|
 .ite ((((((!y1) || ((decide ((0 : Int) < i)) && (!ltS (c.getD ((w64 (i - 1)).toNat) (dfl tSeen : Seen)).1 (c.getD i.toNat (dfl tSeen : Seen)).1))) || (decide ((c.getD i.toNat (dfl tSeen : Seen)).2.1 < 0))) || (decide ((9007199254740992 : Int) < (c.getD i.toNat (dfl tSeen : Seen)).2.1))) || ((decide ((c.getD i.toNat (dfl tSeen : Seen)).2.1 = 0)) && (decide (((c.getD i.toNat (dfl tSeen : Seen)).2.2.length : Int) = 0)))) || (decide ((w64 ((4096 : Int) - n)) < ((c.getD i.toNat (dfl tSeen : Seen)).2.2.length : Int)))) (
 .ret (.inr (.inl false))) (
 .bnd (.loop (fun v => r06_May_L11_step c (w64 (n + ((c.getD i.toNat (dfl tSeen : Seen)).2.2.length : Int))) i (c.getD i.toNat (dfl tSeen : Seen)) v.1 v.2) ((w64 ((c.getD i.toNat (dfl tSeen : Seen)).2.1 + 1)), 0)) fun r2 =>
 .sum r2 (fun r3 =>
 .ret (.inr (.inl r3))) (fun r4 =>
 .ret (.inl ((w64 (n + ((c.getD i.toNat (dfl tSeen : Seen)).2.2.length : Int))), (w64 (i + 1))))))) (
 .ret (.inr (.inr ())))

def r06_May_L3 : Lp := ⟨3, [], [], (.cons (.val false (.list tSeen)) (ca2 (.cons (.val false (.int .i64)) (.cons (.val false (.int .i64)) (ca32 (ca32 (ca32 .nil))))))), .nil, 0, .more 0 [] (ca2 (.cons (.val false .bool) (ca2 (ca32 (ca32 (ca32 .nil)))))) .nil (.one 1 [] (ca (ca4 (ca32 (ca32 (ca32 .nil))))) .nil), fun z => .bnd (.loop (fun v => r06_May_L3_step z.1.1 v.1 v.2) (z.1.2.2.2.1, z.1.2.2.2.2.1)) fun r => .sum r (fun a0 => .ret (.inl ((cu2 (a0, (cu2 (cu32 (cu32 (cu32 ())))))), ()))) (fun b0 => .ret (.inr ((cu (cu4 (cu32 (cu32 (cu32 ()))))), ())))⟩

theorem r06_May_L3_ok : r06_May_L3.ok Tryz.prog (nthC (loopsOf (bodyOf Tryz.f32)) 0) := by
  refine Lp.lift (π := List Seen) (V := (Int × Int)) (ρ := (Bool ⊕ Unit)) mix tabOk r06_May_L3 (o := orT [r05_Is_g] [r06_May_L11] noFz) (orT_sound ⟨r05_Is_ok, trivial⟩) (allLp_of [nthC (loopsOf (nthC (loopsOf (bodyOf Tryz.f32)) 0)) 0] (by kernel_rfl) ⟨r06_May_L11_ok, trivial⟩ (by kernel_rfl)) (fun x v => ((x, (cu2 (v.1, (v.2, (cu32 (cu32 (cu32 ()))))))), ())) (fun x r => match r with | .inl a0 => .inl ((cu2 (a0, (cu2 (cu32 (cu32 (cu32 ())))))), ()) | .inr b0 => (.inr ((cu (cu4 (cu32 (cu32 (cu32 ()))))), ()))) (fun x v => r06_May_L3_step x v.1 v.2) (fun x r => .sum r (fun a0 => .ret (.inl ((cu2 (a0, (cu2 (cu32 (cu32 (cu32 ())))))), ()))) (fun b0 => .ret (.inr ((cu (cu4 (cu32 (cu32 (cu32 ()))))), ())))) (fun z => z.1.1) (fun z => (z.1.2.2.2.1, z.1.2.2.2.2.1)) (fun _ => rfl) (fun _ => rfl) (fun x r Q h => match r, h with | .inl _, h => h | .inr b0, h => (h)) ?_
  intro x v; kernel_rfl

def r06_May_T (x0 : List Seen) : Tree Bool :=
 .bnd (.loop (fun v => r06_May_L3_step x0 v.1 v.2) (0, 0)) fun r1 =>
 .sum r1 (fun r2 =>
 .ret r2) (fun r3 =>
 .ret true)

def r06_May_g : Sig := ⟨32, (.cons (.val false (.list tSeen)) .nil), .vals (.val false .bool), fun z => r06_May_T z.1, false⟩

theorem r06_May_ok : r06_May_g.ok Tryz.prog := by
  refine Sig.lift mix tabOk nms _ Tryz.func32 (c := (bodyOf Tryz.f32)) (by kernel_rfl) (o := orT [r05_Is_g] [r06_May_L3] noFz) (orT_sound ⟨r05_Is_ok, trivial⟩) (allLp_of [nthC (loopsOf (bodyOf Tryz.f32)) 0] (by kernel_rfl) ⟨r06_May_L3_ok, trivial⟩ (by kernel_rfl)) ?_
  intro z; kernel_rfl

def r40_Form_T (x0 : Call) : Tree Int :=
 .bnd (r05_IsKey_T x0.2.2.2.1) fun y1 =>
 .ite (decide (x0.1 = 4)) (
 .bnd (r40_Right_T x0.1) fun y2 =>
 .ite (decide (y2 = 0)) (
 .ite (decide (y2 = 0)) (
 .ret 1) (
 .ite (decide ((256 : Int) < (x0.2.2.2.2.1.length : Int))) (
 .ite (decide ((256 : Int) < (x0.2.2.2.2.1.length : Int))) (
 .ret 1) (
 .bnd (r06_May_T x0.2.2.2.2.2.1) fun y3 =>
 .ite (!y3) (
 .ite (!y3) (
 .ret 1) (
 .ite (decide (x0.2.2.2.2.2.2 < 0)) (
 .ite (decide (x0.2.2.2.2.2.2 < 0)) (
 .ret 1) (
 .ret 0)) (
 .ite (decide ((9007199254740992 : Int) < x0.2.2.2.2.2.2)) (
 .ite (decide ((9007199254740992 : Int) < x0.2.2.2.2.2.2)) (
 .ret 1) (
 .ret 0)) (
 .ite ((!((decide (x0.1 = 2)) || (decide (x0.1 = 3)))) && (!decide (x0.2.2.2.2.2.2 = 0))) (
 .ret 1) (
 .ret 0))))) (
 .ite ((!((decide (x0.1 = 2)) || (decide (x0.1 = 3)))) && (decide ((0 : Int) < (x0.2.2.2.2.2.1.length : Int)))) (
 .ret 1) (
 .ite (decide (x0.2.2.2.2.2.2 < 0)) (
 .ite (decide (x0.2.2.2.2.2.2 < 0)) (
 .ret 1) (
 .ret 0)) (
 .ite (decide ((9007199254740992 : Int) < x0.2.2.2.2.2.2)) (
 .ite (decide ((9007199254740992 : Int) < x0.2.2.2.2.2.2)) (
 .ret 1) (
 .ret 0)) (
 .ite ((!((decide (x0.1 = 2)) || (decide (x0.1 = 3)))) && (!decide (x0.2.2.2.2.2.2 = 0))) (
 .ret 1) (
 .ret 0))))))) (
 .ite ((!decide (x0.1 = 2)) && (!(x0.2.2.2.2.1 == ([] : Str)))) (
 .ret 1) (
 .bnd (r06_May_T x0.2.2.2.2.2.1) fun y4 =>
 .ite (!y4) (
 .ite (!y4) (
 .ret 1) (
 .ite (decide (x0.2.2.2.2.2.2 < 0)) (
 .ite (decide (x0.2.2.2.2.2.2 < 0)) (
 .ret 1) (
 .ret 0)) (
 .ite (decide ((9007199254740992 : Int) < x0.2.2.2.2.2.2)) (
 .ite (decide ((9007199254740992 : Int) < x0.2.2.2.2.2.2)) (
 .ret 1) (
 .ret 0)) (
 .ite ((!((decide (x0.1 = 2)) || (decide (x0.1 = 3)))) && (!decide (x0.2.2.2.2.2.2 = 0))) (
 .ret 1) (
 .ret 0))))) (
 .ite ((!((decide (x0.1 = 2)) || (decide (x0.1 = 3)))) && (decide ((0 : Int) < (x0.2.2.2.2.2.1.length : Int)))) (
 .ret 1) (
 .ite (decide (x0.2.2.2.2.2.2 < 0)) (
 .ite (decide (x0.2.2.2.2.2.2 < 0)) (
 .ret 1) (
 .ret 0)) (
 .ite (decide ((9007199254740992 : Int) < x0.2.2.2.2.2.2)) (
 .ite (decide ((9007199254740992 : Int) < x0.2.2.2.2.2.2)) (
 .ret 1) (
 .ret 0)) (
 .ite ((!((decide (x0.1 = 2)) || (decide (x0.1 = 3)))) && (!decide (x0.2.2.2.2.2.2 = 0))) (
 .ret 1) (
 .ret 0))))))))) (
 .bnd (r05_Is_T x0.2.2.1) fun y5 =>
 .ite (!y5) (
 .ite (!y5) (
 .ret 1) (
 .ite (decide ((256 : Int) < (x0.2.2.2.2.1.length : Int))) (
 .ite (decide ((256 : Int) < (x0.2.2.2.2.1.length : Int))) (
 .ret 1) (
 .bnd (r06_May_T x0.2.2.2.2.2.1) fun y6 =>
 .ite (!y6) (
 .ite (!y6) (
 .ret 1) (
 .ite (decide (x0.2.2.2.2.2.2 < 0)) (
 .ite (decide (x0.2.2.2.2.2.2 < 0)) (
 .ret 1) (
 .ret 0)) (
 .ite (decide ((9007199254740992 : Int) < x0.2.2.2.2.2.2)) (
 .ite (decide ((9007199254740992 : Int) < x0.2.2.2.2.2.2)) (
 .ret 1) (
 .ret 0)) (
 .ite ((!((decide (x0.1 = 2)) || (decide (x0.1 = 3)))) && (!decide (x0.2.2.2.2.2.2 = 0))) (
 .ret 1) (
 .ret 0))))) (
 .ite ((!((decide (x0.1 = 2)) || (decide (x0.1 = 3)))) && (decide ((0 : Int) < (x0.2.2.2.2.2.1.length : Int)))) (
 .ret 1) (
 .ite (decide (x0.2.2.2.2.2.2 < 0)) (
 .ite (decide (x0.2.2.2.2.2.2 < 0)) (
 .ret 1) (
 .ret 0)) (
 .ite (decide ((9007199254740992 : Int) < x0.2.2.2.2.2.2)) (
 .ite (decide ((9007199254740992 : Int) < x0.2.2.2.2.2.2)) (
 .ret 1) (
 .ret 0)) (
 .ite ((!((decide (x0.1 = 2)) || (decide (x0.1 = 3)))) && (!decide (x0.2.2.2.2.2.2 = 0))) (
 .ret 1) (
 .ret 0))))))) (
 .ite ((!decide (x0.1 = 2)) && (!(x0.2.2.2.2.1 == ([] : Str)))) (
 .ret 1) (
 .bnd (r06_May_T x0.2.2.2.2.2.1) fun y7 =>
 .ite (!y7) (
 .ite (!y7) (
 .ret 1) (
 .ite (decide (x0.2.2.2.2.2.2 < 0)) (
 .ite (decide (x0.2.2.2.2.2.2 < 0)) (
 .ret 1) (
 .ret 0)) (
 .ite (decide ((9007199254740992 : Int) < x0.2.2.2.2.2.2)) (
 .ite (decide ((9007199254740992 : Int) < x0.2.2.2.2.2.2)) (
 .ret 1) (
 .ret 0)) (
 .ite ((!((decide (x0.1 = 2)) || (decide (x0.1 = 3)))) && (!decide (x0.2.2.2.2.2.2 = 0))) (
 .ret 1) (
 .ret 0))))) (
 .ite ((!((decide (x0.1 = 2)) || (decide (x0.1 = 3)))) && (decide ((0 : Int) < (x0.2.2.2.2.2.1.length : Int)))) (
 .ret 1) (
 .ite (decide (x0.2.2.2.2.2.2 < 0)) (
 .ite (decide (x0.2.2.2.2.2.2 < 0)) (
 .ret 1) (
 .ret 0)) (
 .ite (decide ((9007199254740992 : Int) < x0.2.2.2.2.2.2)) (
 .ite (decide ((9007199254740992 : Int) < x0.2.2.2.2.2.2)) (
 .ret 1) (
 .ret 0)) (
 .ite ((!((decide (x0.1 = 2)) || (decide (x0.1 = 3)))) && (!decide (x0.2.2.2.2.2.2 = 0))) (
 .ret 1) (
 .ret 0))))))))) (
 .ite (!(x0.2.2.2.1 == ([] : Str))) (
 .ret 1) (
 .ite (decide ((256 : Int) < (x0.2.2.2.2.1.length : Int))) (
 .ite (decide ((256 : Int) < (x0.2.2.2.2.1.length : Int))) (
 .ret 1) (
 .bnd (r06_May_T x0.2.2.2.2.2.1) fun y8 =>
 .ite (!y8) (
 .ite (!y8) (
 .ret 1) (
 .ite (decide (x0.2.2.2.2.2.2 < 0)) (
 .ite (decide (x0.2.2.2.2.2.2 < 0)) (
 .ret 1) (
 .ret 0)) (
 .ite (decide ((9007199254740992 : Int) < x0.2.2.2.2.2.2)) (
 .ite (decide ((9007199254740992 : Int) < x0.2.2.2.2.2.2)) (
 .ret 1) (
 .ret 0)) (
 .ite ((!((decide (x0.1 = 2)) || (decide (x0.1 = 3)))) && (!decide (x0.2.2.2.2.2.2 = 0))) (
 .ret 1) (
 .ret 0))))) (
 .ite ((!((decide (x0.1 = 2)) || (decide (x0.1 = 3)))) && (decide ((0 : Int) < (x0.2.2.2.2.2.1.length : Int)))) (
 .ret 1) (
 .ite (decide (x0.2.2.2.2.2.2 < 0)) (
 .ite (decide (x0.2.2.2.2.2.2 < 0)) (
 .ret 1) (
 .ret 0)) (
 .ite (decide ((9007199254740992 : Int) < x0.2.2.2.2.2.2)) (
 .ite (decide ((9007199254740992 : Int) < x0.2.2.2.2.2.2)) (
 .ret 1) (
 .ret 0)) (
 .ite ((!((decide (x0.1 = 2)) || (decide (x0.1 = 3)))) && (!decide (x0.2.2.2.2.2.2 = 0))) (
 .ret 1) (
 .ret 0))))))) (
 .ite ((!decide (x0.1 = 2)) && (!(x0.2.2.2.2.1 == ([] : Str)))) (
 .ret 1) (
 .bnd (r06_May_T x0.2.2.2.2.2.1) fun y9 =>
 .ite (!y9) (
 .ite (!y9) (
 .ret 1) (
 .ite (decide (x0.2.2.2.2.2.2 < 0)) (
 .ite (decide (x0.2.2.2.2.2.2 < 0)) (
 .ret 1) (
 .ret 0)) (
 .ite (decide ((9007199254740992 : Int) < x0.2.2.2.2.2.2)) (
 .ite (decide ((9007199254740992 : Int) < x0.2.2.2.2.2.2)) (
 .ret 1) (
 .ret 0)) (
 .ite ((!((decide (x0.1 = 2)) || (decide (x0.1 = 3)))) && (!decide (x0.2.2.2.2.2.2 = 0))) (
 .ret 1) (
 .ret 0))))) (
 .ite ((!((decide (x0.1 = 2)) || (decide (x0.1 = 3)))) && (decide ((0 : Int) < (x0.2.2.2.2.2.1.length : Int)))) (
 .ret 1) (
 .ite (decide (x0.2.2.2.2.2.2 < 0)) (
 .ite (decide (x0.2.2.2.2.2.2 < 0)) (
 .ret 1) (
 .ret 0)) (
 .ite (decide ((9007199254740992 : Int) < x0.2.2.2.2.2.2)) (
 .ite (decide ((9007199254740992 : Int) < x0.2.2.2.2.2.2)) (
 .ret 1) (
 .ret 0)) (
 .ite ((!((decide (x0.1 = 2)) || (decide (x0.1 = 3)))) && (!decide (x0.2.2.2.2.2.2 = 0))) (
 .ret 1) (
 .ret 0))))))))))) (
 .bnd (r40_Right_T x0.1) fun y10 =>
 .ite (decide (y10 = 0)) (
 .ite (decide (y10 = 0)) (
 .ret 1) (
 .ite (decide ((256 : Int) < (x0.2.2.2.2.1.length : Int))) (
 .ite (decide ((256 : Int) < (x0.2.2.2.2.1.length : Int))) (
 .ret 1) (
 .bnd (r06_May_T x0.2.2.2.2.2.1) fun y11 =>
 .ite (!y11) (
 .ite (!y11) (
 .ret 1) (
 .ite (decide (x0.2.2.2.2.2.2 < 0)) (
 .ite (decide (x0.2.2.2.2.2.2 < 0)) (
 .ret 1) (
 .ret 0)) (
 .ite (decide ((9007199254740992 : Int) < x0.2.2.2.2.2.2)) (
 .ite (decide ((9007199254740992 : Int) < x0.2.2.2.2.2.2)) (
 .ret 1) (
 .ret 0)) (
 .ite ((!((decide (x0.1 = 2)) || (decide (x0.1 = 3)))) && (!decide (x0.2.2.2.2.2.2 = 0))) (
 .ret 1) (
 .ret 0))))) (
 .ite ((!((decide (x0.1 = 2)) || (decide (x0.1 = 3)))) && (decide ((0 : Int) < (x0.2.2.2.2.2.1.length : Int)))) (
 .ret 1) (
 .ite (decide (x0.2.2.2.2.2.2 < 0)) (
 .ite (decide (x0.2.2.2.2.2.2 < 0)) (
 .ret 1) (
 .ret 0)) (
 .ite (decide ((9007199254740992 : Int) < x0.2.2.2.2.2.2)) (
 .ite (decide ((9007199254740992 : Int) < x0.2.2.2.2.2.2)) (
 .ret 1) (
 .ret 0)) (
 .ite ((!((decide (x0.1 = 2)) || (decide (x0.1 = 3)))) && (!decide (x0.2.2.2.2.2.2 = 0))) (
 .ret 1) (
 .ret 0))))))) (
 .ite ((!decide (x0.1 = 2)) && (!(x0.2.2.2.2.1 == ([] : Str)))) (
 .ret 1) (
 .bnd (r06_May_T x0.2.2.2.2.2.1) fun y12 =>
 .ite (!y12) (
 .ite (!y12) (
 .ret 1) (
 .ite (decide (x0.2.2.2.2.2.2 < 0)) (
 .ite (decide (x0.2.2.2.2.2.2 < 0)) (
 .ret 1) (
 .ret 0)) (
 .ite (decide ((9007199254740992 : Int) < x0.2.2.2.2.2.2)) (
 .ite (decide ((9007199254740992 : Int) < x0.2.2.2.2.2.2)) (
 .ret 1) (
 .ret 0)) (
 .ite ((!((decide (x0.1 = 2)) || (decide (x0.1 = 3)))) && (!decide (x0.2.2.2.2.2.2 = 0))) (
 .ret 1) (
 .ret 0))))) (
 .ite ((!((decide (x0.1 = 2)) || (decide (x0.1 = 3)))) && (decide ((0 : Int) < (x0.2.2.2.2.2.1.length : Int)))) (
 .ret 1) (
 .ite (decide (x0.2.2.2.2.2.2 < 0)) (
 .ite (decide (x0.2.2.2.2.2.2 < 0)) (
 .ret 1) (
 .ret 0)) (
 .ite (decide ((9007199254740992 : Int) < x0.2.2.2.2.2.2)) (
 .ite (decide ((9007199254740992 : Int) < x0.2.2.2.2.2.2)) (
 .ret 1) (
 .ret 0)) (
 .ite ((!((decide (x0.1 = 2)) || (decide (x0.1 = 3)))) && (!decide (x0.2.2.2.2.2.2 = 0))) (
 .ret 1) (
 .ret 0))))))))) (
 .bnd (r05_Is_T x0.2.2.1) fun y13 =>
 .ite (!y13) (
 .ite (!y13) (
 .ret 1) (
 .ite (decide ((256 : Int) < (x0.2.2.2.2.1.length : Int))) (
 .ite (decide ((256 : Int) < (x0.2.2.2.2.1.length : Int))) (
 .ret 1) (
 .bnd (r06_May_T x0.2.2.2.2.2.1) fun y14 =>
 .ite (!y14) (
 .ite (!y14) (
 .ret 1) (
 .ite (decide (x0.2.2.2.2.2.2 < 0)) (
 .ite (decide (x0.2.2.2.2.2.2 < 0)) (
 .ret 1) (
 .ret 0)) (
 .ite (decide ((9007199254740992 : Int) < x0.2.2.2.2.2.2)) (
 .ite (decide ((9007199254740992 : Int) < x0.2.2.2.2.2.2)) (
 .ret 1) (
 .ret 0)) (
 .ite ((!((decide (x0.1 = 2)) || (decide (x0.1 = 3)))) && (!decide (x0.2.2.2.2.2.2 = 0))) (
 .ret 1) (
 .ret 0))))) (
 .ite ((!((decide (x0.1 = 2)) || (decide (x0.1 = 3)))) && (decide ((0 : Int) < (x0.2.2.2.2.2.1.length : Int)))) (
 .ret 1) (
 .ite (decide (x0.2.2.2.2.2.2 < 0)) (
 .ite (decide (x0.2.2.2.2.2.2 < 0)) (
 .ret 1) (
 .ret 0)) (
 .ite (decide ((9007199254740992 : Int) < x0.2.2.2.2.2.2)) (
 .ite (decide ((9007199254740992 : Int) < x0.2.2.2.2.2.2)) (
 .ret 1) (
 .ret 0)) (
 .ite ((!((decide (x0.1 = 2)) || (decide (x0.1 = 3)))) && (!decide (x0.2.2.2.2.2.2 = 0))) (
 .ret 1) (
 .ret 0))))))) (
 .ite ((!decide (x0.1 = 2)) && (!(x0.2.2.2.2.1 == ([] : Str)))) (
 .ret 1) (
 .bnd (r06_May_T x0.2.2.2.2.2.1) fun y15 =>
 .ite (!y15) (
 .ite (!y15) (
 .ret 1) (
 .ite (decide (x0.2.2.2.2.2.2 < 0)) (
 .ite (decide (x0.2.2.2.2.2.2 < 0)) (
 .ret 1) (
 .ret 0)) (
 .ite (decide ((9007199254740992 : Int) < x0.2.2.2.2.2.2)) (
 .ite (decide ((9007199254740992 : Int) < x0.2.2.2.2.2.2)) (
 .ret 1) (
 .ret 0)) (
 .ite ((!((decide (x0.1 = 2)) || (decide (x0.1 = 3)))) && (!decide (x0.2.2.2.2.2.2 = 0))) (
 .ret 1) (
 .ret 0))))) (
 .ite ((!((decide (x0.1 = 2)) || (decide (x0.1 = 3)))) && (decide ((0 : Int) < (x0.2.2.2.2.2.1.length : Int)))) (
 .ret 1) (
 .ite (decide (x0.2.2.2.2.2.2 < 0)) (
 .ite (decide (x0.2.2.2.2.2.2 < 0)) (
 .ret 1) (
 .ret 0)) (
 .ite (decide ((9007199254740992 : Int) < x0.2.2.2.2.2.2)) (
 .ite (decide ((9007199254740992 : Int) < x0.2.2.2.2.2.2)) (
 .ret 1) (
 .ret 0)) (
 .ite ((!((decide (x0.1 = 2)) || (decide (x0.1 = 3)))) && (!decide (x0.2.2.2.2.2.2 = 0))) (
 .ret 1) (
 .ret 0))))))))) (
 .ite (!y1) (
 .ret 1) (
 .ite (decide ((256 : Int) < (x0.2.2.2.2.1.length : Int))) (
 .ite (decide ((256 : Int) < (x0.2.2.2.2.1.length : Int))) (
 .ret 1) (
 .bnd (r06_May_T x0.2.2.2.2.2.1) fun y16 =>
 .ite (!y16) (
 .ite (!y16) (
 .ret 1) (
 .ite (decide (x0.2.2.2.2.2.2 < 0)) (
 .ite (decide (x0.2.2.2.2.2.2 < 0)) (
 .ret 1) (
 .ret 0)) (
 .ite (decide ((9007199254740992 : Int) < x0.2.2.2.2.2.2)) (
 .ite (decide ((9007199254740992 : Int) < x0.2.2.2.2.2.2)) (
 .ret 1) (
 .ret 0)) (
 .ite ((!((decide (x0.1 = 2)) || (decide (x0.1 = 3)))) && (!decide (x0.2.2.2.2.2.2 = 0))) (
 .ret 1) (
 .ret 0))))) (
 .ite ((!((decide (x0.1 = 2)) || (decide (x0.1 = 3)))) && (decide ((0 : Int) < (x0.2.2.2.2.2.1.length : Int)))) (
 .ret 1) (
 .ite (decide (x0.2.2.2.2.2.2 < 0)) (
 .ite (decide (x0.2.2.2.2.2.2 < 0)) (
 .ret 1) (
 .ret 0)) (
 .ite (decide ((9007199254740992 : Int) < x0.2.2.2.2.2.2)) (
 .ite (decide ((9007199254740992 : Int) < x0.2.2.2.2.2.2)) (
 .ret 1) (
 .ret 0)) (
 .ite ((!((decide (x0.1 = 2)) || (decide (x0.1 = 3)))) && (!decide (x0.2.2.2.2.2.2 = 0))) (
 .ret 1) (
 .ret 0))))))) (
 .ite ((!decide (x0.1 = 2)) && (!(x0.2.2.2.2.1 == ([] : Str)))) (
 .ret 1) (
 .bnd (r06_May_T x0.2.2.2.2.2.1) fun y17 =>
 .ite (!y17) (
 .ite (!y17) (
 .ret 1) (
 .ite (decide (x0.2.2.2.2.2.2 < 0)) (
 .ite (decide (x0.2.2.2.2.2.2 < 0)) (
 .ret 1) (
 .ret 0)) (
 .ite (decide ((9007199254740992 : Int) < x0.2.2.2.2.2.2)) (
 .ite (decide ((9007199254740992 : Int) < x0.2.2.2.2.2.2)) (
 .ret 1) (
 .ret 0)) (
 .ite ((!((decide (x0.1 = 2)) || (decide (x0.1 = 3)))) && (!decide (x0.2.2.2.2.2.2 = 0))) (
 .ret 1) (
 .ret 0))))) (
 .ite ((!((decide (x0.1 = 2)) || (decide (x0.1 = 3)))) && (decide ((0 : Int) < (x0.2.2.2.2.2.1.length : Int)))) (
 .ret 1) (
 .ite (decide (x0.2.2.2.2.2.2 < 0)) (
 .ite (decide (x0.2.2.2.2.2.2 < 0)) (
 .ret 1) (
 .ret 0)) (
 .ite (decide ((9007199254740992 : Int) < x0.2.2.2.2.2.2)) (
 .ite (decide ((9007199254740992 : Int) < x0.2.2.2.2.2.2)) (
 .ret 1) (
 .ret 0)) (
 .ite ((!((decide (x0.1 = 2)) || (decide (x0.1 = 3)))) && (!decide (x0.2.2.2.2.2.2 = 0))) (
 .ret 1) (
 .ret 0)))))))))))

def r40_Form_g : Sig := ⟨9, (.cons (.val true tCall) .nil), .vals (.val false (.int .i64)), fun z => r40_Form_T z.1, (0 : Int)⟩

theorem r40_Form_ok : r40_Form_g.ok Tryz.prog := by
  refine Sig.lift mix tabOk nms _ Tryz.func9 (c := (bodyOf Tryz.f9)) (by kernel_rfl) (o := orT [r05_IsKey_g, r40_Right_g, r06_May_g, r05_Is_g] [] noFz) (orT_sound ⟨r05_IsKey_ok, ⟨r40_Right_ok, ⟨r06_May_ok, ⟨r05_Is_ok, trivial⟩⟩⟩⟩) (allLp_of [] (by kernel_rfl) trivial rfl) ?_
  intro z; kernel_rfl

def r01_Reader_take_T (x0 : Int) (x1 : R01_Reader) : Tree ((Str × (Bool × Unit)) × ((R01_Reader × Unit) × Unit)) :=
 .ite (x1.2 || (decide ((x1.1.length : Int) < x0))) (
 .ret ((([] : Str), (false, ())), (((x1.1, true), ()), ()))) (
 ask (inbe x0 x1.1.length) <|
 ask (inbe x0 x1.1.length) <|
 .ret (((subS x1.1 0 x0.toNat), (true, ())), ((((subS x1.1 x0.toNat x1.1.length), x1.2), ()), ())))

def r01_Reader_take_g : MSig := ⟨56, (.cons (.ref 0 0) (.cons (.val false (.int .i64)) .nil)), (.cells 55 (.cons (.flat tR01_Reader) .nil) .nil), [], (.cons (.val false .str) (.cons (.val false .bool) .nil)), (.cells 55 (.cons (.flat tR01_Reader) .nil) .nil), none, fun z => r01_Reader_take_T z.1.2.1 z.2.1.1⟩

theorem r01_Reader_take_ok : r01_Reader_take_g.ok Tryz.prog := by
  refine MSig.lift mix tabOk nms _ Tryz.func56 (c := (bodyOf Tryz.f56)) (by kernel_rfl) (o := orT [] [] noFz) (orT_sound trivial) (allLp_of [] (by kernel_rfl) trivial rfl) (fun _ => rfl) ?_
  intro z; kernel_rfl

def r01_number_L3_step (s_ : Str) (n : Int) (i : Int) : Tree ((Int × Int) ⊕ Int) :=
 .ite (decide (i < (s_.length : Int))) (
 ask (decide ((0 : Int) ≤ 8)) <|
 ask (inb i s_.length) <|
 .ret (.inl ((stdArith .or .i64 (stdShift .shl .i64 n 8) (w64 ((sgetI s_ i)))), (w64 (i + 1))))) (
 .ret (.inr n))

def r01_number_L3 : Lp := ⟨3, [], [], (.cons (.val false .str) (ca2 (.cons (.val false (.int .i64)) (.cons (.val false (.int .i64)) (ca2 (ca4 (ca8 .nil))))))), .nil, 0, .one 1 [] (ca (ca2 (.cons (.val false (.int .i64)) (ca (ca2 (ca4 (ca8 .nil))))))) .nil, fun z => .bnd (.loop (fun v => r01_number_L3_step z.1.1 v.1 v.2) (z.1.2.2.2.1, z.1.2.2.2.2.1)) fun r => .ret ((cu (cu2 (r, (cu (cu2 (cu4 (cu8 ()))))))), ())⟩

theorem r01_number_L3_ok : r01_number_L3.ok Tryz.prog (nthC (loopsOf (bodyOf Tryz.f57)) 0) := by
  refine Lp.lift (π := Str) (V := (Int × Int)) (ρ := Int) mix tabOk r01_number_L3 (o := orT [] [] noFz) (orT_sound trivial) (allLp_of [] (by kernel_rfl) trivial rfl) (fun x v => ((x, (cu2 (v.1, (v.2, (cu2 (cu4 (cu8 ()))))))), ())) (fun x r => ((cu (cu2 (r, (cu (cu2 (cu4 (cu8 ()))))))), ())) (fun x v => r01_number_L3_step x v.1 v.2) (fun x r => .ret ((cu (cu2 (r, (cu (cu2 (cu4 (cu8 ()))))))), ())) (fun z => z.1.1) (fun z => (z.1.2.2.2.1, z.1.2.2.2.2.1)) (fun _ => rfl) (fun _ => rfl) (fun _ _ _ h => h) ?_
  intro x v; kernel_rfl

def r01_number_T (x0 : Str) : Tree Int :=
 .bnd (.loop (fun v => r01_number_L3_step x0 v.1 v.2) (0, 0)) fun r1 =>
 .ret r1

def r01_number_g : Sig := ⟨57, (.cons (.val false .str) .nil), .vals (.val false (.int .i64)), fun z => r01_number_T z.1, (0 : Int)⟩

theorem r01_number_ok : r01_number_g.ok Tryz.prog := by
  refine Sig.lift mix tabOk nms _ Tryz.func57 (c := (bodyOf Tryz.f57)) (by kernel_rfl) (o := orT [] [r01_number_L3] noFz) (orT_sound trivial) (allLp_of [nthC (loopsOf (bodyOf Tryz.f57)) 0] (by kernel_rfl) ⟨r01_number_L3_ok, trivial⟩ (by kernel_rfl)) ?_
  intro z; kernel_rfl

def r01_Reader_Count_T (x0 : Int) (x1 : R01_Reader) : Tree (Int × ((R01_Reader × Unit) × Unit)) :=
 .bnd (r01_Reader_take_T 4 x1) fun y1 =>
 .bnd (r01_number_T y1.1.1) fun y2 =>
 .ite (decide (x0 < y2)) (
 .ret (0, (((y1.2.1.1.1, true), ()), ()))) (
 .ret (y2, ((y1.2.1.1, ()), ())))

def r01_Reader_Count_g : MSig := ⟨55, (.cons (.ref 0 0) (.cons (.val false (.int .i64)) .nil)), (.cells 55 (.cons (.flat tR01_Reader) .nil) .nil), [], (.val false (.int .i64)), (.cells 55 (.cons (.flat tR01_Reader) .nil) .nil), none, fun z => r01_Reader_Count_T z.1.2.1 z.2.1.1⟩

theorem r01_Reader_Count_ok : r01_Reader_Count_g.ok Tryz.prog := by
  refine MSig.lift mix tabOk nms _ Tryz.func55 (c := (bodyOf Tryz.f55)) (by kernel_rfl) (o := orM [r01_number_g] [r01_Reader_take_g] [] noFz) (orM_sound ⟨r01_number_ok, trivial⟩ ⟨r01_Reader_take_ok, trivial⟩) (allLp_ofM [] (by kernel_rfl) trivial rfl) (fun _ => rfl) ?_
  intro z; kernel_rfl

def r01_Reader_Text_T (x0 : R01_Reader) : Tree (Str × ((R01_Reader × Unit) × Unit)) :=
 .bnd (r01_Reader_Count_T 1048576 x0) fun y1 =>
 .bnd (r01_Reader_take_T y1.1 y1.2.1.1) fun y2 =>
 .ret (y2.1.1, ((y2.2.1.1, ()), ()))

def r01_Reader_Text_g : MSig := ⟨38, (.cons (.ref 0 0) .nil), (.cells 55 (.cons (.flat tR01_Reader) .nil) .nil), [], (.val false .str), (.cells 55 (.cons (.flat tR01_Reader) .nil) .nil), none, fun z => r01_Reader_Text_T z.2.1.1⟩

theorem r01_Reader_Text_ok : r01_Reader_Text_g.ok Tryz.prog := by
  refine MSig.lift mix tabOk nms _ Tryz.func38 (c := (bodyOf Tryz.f38)) (by kernel_rfl) (o := orM [] [r01_Reader_Count_g, r01_Reader_take_g] [] noFz) (orM_sound trivial ⟨r01_Reader_Count_ok, ⟨r01_Reader_take_ok, trivial⟩⟩) (allLp_ofM [] (by kernel_rfl) trivial rfl) (fun _ => rfl) ?_
  intro z; kernel_rfl

def r01_Reader_Int_T (x0 : R01_Reader) : Tree (Int × ((R01_Reader × Unit) × Unit)) :=
 .bnd (r01_Reader_take_T 8 x0) fun y1 =>
 .bnd (r01_number_T y1.1.1) fun y2 =>
 .ret (y2, ((y1.2.1.1, ()), ()))

def r01_Reader_Int_g : MSig := ⟨39, (.cons (.ref 0 0) .nil), (.cells 55 (.cons (.flat tR01_Reader) .nil) .nil), [], (.val false (.int .i64)), (.cells 55 (.cons (.flat tR01_Reader) .nil) .nil), none, fun z => r01_Reader_Int_T z.2.1.1⟩

theorem r01_Reader_Int_ok : r01_Reader_Int_g.ok Tryz.prog := by
  refine MSig.lift mix tabOk nms _ Tryz.func39 (c := (bodyOf Tryz.f39)) (by kernel_rfl) (o := orM [r01_number_g] [r01_Reader_take_g] [] noFz) (orM_sound ⟨r01_number_ok, trivial⟩ ⟨r01_Reader_take_ok, trivial⟩) (allLp_ofM [] (by kernel_rfl) trivial rfl) (fun _ => rfl) ?_
  intro z; kernel_rfl

def r01_Reader_Done_T (x0 : R01_Reader) : Tree Bool :=
 .ret ((!x0.2) && (x0.1 == ([] : Str)))

def r01_Reader_Done_g : Sig := ⟨40, (.cons (.ptr tR01_Reader) .nil), .vals (.val false .bool), fun z => r01_Reader_Done_T z.1, false⟩

theorem r01_Reader_Done_ok : r01_Reader_Done_g.ok Tryz.prog := by
  refine Sig.lift mix tabOk nms _ Tryz.func40 (c := (bodyOf Tryz.f40)) (by kernel_rfl) (o := orT [] [] noFz) (orT_sound trivial) (allLp_of [] (by kernel_rfl) trivial rfl) ?_
  intro z; kernel_rfl

def r24_Read_T (x0 : Str) : Tree (Str × Str × Int × Bool × Unit) :=
 .ite (decide ((x0.length : Int) < 32)) (
 .ret (([] : Str), ([] : Str), 0, false, ())) (
 ask (inbe (w64 ((x0.length : Int) - 32)) x0.length) <|
 .bnd (r01_Reader_Text_T ((subS x0 0 (w64 ((x0.length : Int) - 32)).toNat), false)) fun y1 =>
 .bnd (r01_Reader_Text_T y1.2.1.1) fun y2 =>
 .bnd (r01_Reader_Int_T y2.2.1.1) fun y3 =>
 .bnd (r01_Reader_Done_T y3.2.1.1) fun y4 =>
 .ite (!y4) (
 .ret (([] : Str), ([] : Str), 0, false, ())) (
 .ret (y1.1, y2.1, y3.1, true, ())))

def r24_Read_g : Sig := ⟨15, (.cons (.val false .str) .nil), .vals (.cons (.val false .str) (.cons (.val false .str) (.cons (.val false (.int .i64)) (.cons (.val false .bool) .nil)))), fun z => r24_Read_T z.1, (([] : Str), ([] : Str), (0 : Int), false, ())⟩

theorem r24_Read_ok : r24_Read_g.ok Tryz.prog := by
  refine Sig.lift mix tabOk nms _ Tryz.func15 (c := (bodyOf Tryz.f15)) (by kernel_rfl) (o := orM [r01_Reader_Done_g] [r01_Reader_Text_g, r01_Reader_Int_g] [] noFz) (orM_sound ⟨r01_Reader_Done_ok, trivial⟩ ⟨r01_Reader_Text_ok, ⟨r01_Reader_Int_ok, trivial⟩⟩) (allLp_ofM [] (by kernel_rfl) trivial rfl) ?_
  intro z; kernel_rfl

def r23_Key_T (x0 : Str) (x1 : Str) : Tree Str :=
 ask (decide (([116, 101, 110, 97, 110, 116, 47] : Str).length + x0.length ≤ 9223372036854775807)) <|
 ask (decide ((([116, 101, 110, 97, 110, 116, 47] : Str) ++ x0).length + ([47] : Str).length ≤ 9223372036854775807)) <|
 ask (decide (((([116, 101, 110, 97, 110, 116, 47] : Str) ++ x0) ++ ([47] : Str)).length + x1.length ≤ 9223372036854775807)) <|
 .ret (((([116, 101, 110, 97, 110, 116, 47] : Str) ++ x0) ++ ([47] : Str)) ++ x1)

def r23_Key_g : Sig := ⟨77, (.cons (.val false .str) (.cons (.val false .str) .nil)), .vals (.val false .str), fun z => r23_Key_T z.1 z.2.1, ([] : Str)⟩

theorem r23_Key_ok : r23_Key_g.ok Tryz.prog := by
  refine Sig.lift mix tabOk nms _ Tryz.func77 (c := (bodyOf Tryz.f77)) (by kernel_rfl) (o := orT [] [] noFz) (orT_sound trivial) (allLp_of [] (by kernel_rfl) trivial rfl) ?_
  intro z; kernel_rfl

def r10_Get_L2_step (l : List Entry) (key : Str) (c : Reg) (i : Int) : Tree (Int ⊕ (Reg ⊕ Unit)) :=
 .ite (decide (i < (l.length : Int))) (
 ask (inb i l.length) <|
 .ite ((l.getD i.toNat (dfl tEntry : Entry)).1 == key) (
 ask (inb i l.length) <|
 .ret (.inr (.inl (l.getD i.toNat (dfl tEntry : Entry)).2))) (
 .ret (.inl (w64 (i + 1))))) (
 .ret (.inr (.inr ())))

def r10_Get_L2 : Lp := ⟨2, [], [], (.cons (.val false (.list tEntry)) (.cons (.val false .str) (ca2 (.cons (.ref 0 0) (.cons (.val false (.int .i64)) (ca (ca2 (ca16 .nil)))))))), (.cells 38 (.cons (.flat tReg) .nil) .nil), 0, .more 0 [] (ca4 (.cons (.ref 0 0) (ca4 (ca16 .nil)))) (.cells 38 (.cons (.flat tReg) .nil) .nil) (.one 1 [] (ca4 (.cons (.ref 0 0) (ca4 (ca16 .nil)))) (.cells 38 (.cons (.flat tReg) .nil) .nil)), fun z => .bnd (.loop (fun v => r10_Get_L2_step z.1.1 z.1.2.1 z.2.1.1 v) z.1.2.2.2.2.2.1) fun r => .sum r (fun a0 => .ret (.inl ((cu4 ((), (cu4 (cu16 ())))), ((a0, ()), ())))) (fun b0 => .ret (.inr ((cu4 ((), (cu4 (cu16 ())))), ((z.2.1.1, ()), ()))))⟩

theorem r10_Get_L2_ok : r10_Get_L2.ok Tryz.prog (nthC (loopsOf (bodyOf Tryz.f53)) 0) := by
  refine Lp.lift (π := ((List Entry) × Str × Reg)) (V := Int) (ρ := (Reg ⊕ Unit)) mix tabOk r10_Get_L2 (o := orT [] [] noFz) (orT_sound trivial) (allLp_of [] (by kernel_rfl) trivial rfl) (fun x v => ((x.1, (x.2.1, (cu2 ((), (v, (cu (cu2 (cu16 ())))))))), ((x.2.2, ()), ()))) (fun x r => match r with | .inl a0 => .inl ((cu4 ((), (cu4 (cu16 ())))), ((a0, ()), ())) | .inr b0 => (.inr ((cu4 ((), (cu4 (cu16 ())))), ((x.2.2, ()), ())))) (fun x v => r10_Get_L2_step x.1 x.2.1 x.2.2 v) (fun x r => .sum r (fun a0 => .ret (.inl ((cu4 ((), (cu4 (cu16 ())))), ((a0, ()), ())))) (fun b0 => .ret (.inr ((cu4 ((), (cu4 (cu16 ())))), ((x.2.2, ()), ()))))) (fun z => (z.1.1, z.1.2.1, z.2.1.1)) (fun z => z.1.2.2.2.2.2.1) (fun _ => rfl) (fun _ => rfl) (fun x r Q h => match r, h with | .inl _, h => h | .inr b0, h => (h)) ?_
  intro x v; kernel_rfl

def r10_Get_T (x0 : List Entry) (x1 : Str) : Tree Reg :=
 .bnd (.loop (fun v => r10_Get_L2_step x0 x1 (0, ([], [])) v) 0) fun r1 =>
 .sum r1 (fun r2 =>
 .ret r2) (fun r3 =>
 .ret (0, ([], [])))

def r10_Get_g : Sig := ⟨53, (.cons (.val false (.list tEntry)) (.cons (.val false .str) .nil)), .vals (.val true tReg), fun z => r10_Get_T z.1 z.2.1, (dfl tReg : Reg)⟩

theorem r10_Get_ok : r10_Get_g.ok Tryz.prog := by
  refine Sig.lift mix tabOk nms _ Tryz.func53 (c := (bodyOf Tryz.f53)) (by kernel_rfl) (o := orT [] [r10_Get_L2] noFz) (orT_sound trivial) (allLp_of [nthC (loopsOf (bodyOf Tryz.f53)) 0] (by kernel_rfl) ⟨r10_Get_L2_ok, trivial⟩ (by kernel_rfl)) ?_
  intro z; kernel_rfl

def r23_isSecret_T (x0 : Str) : Tree Bool :=
 .ret ((decide ((1 : Int) ≤ (x0.length : Int))) && (decide ((x0.length : Int) ≤ 64)))

def r23_isSecret_g : Sig := ⟨78, (.cons (.val false .str) .nil), .vals (.val false .bool), fun z => r23_isSecret_T z.1, false⟩

theorem r23_isSecret_ok : r23_isSecret_g.ok Tryz.prog := by
  refine Sig.lift mix tabOk nms _ Tryz.func78 (c := (bodyOf Tryz.f78)) (by kernel_rfl) (o := orT [] [] noFz) (orT_sound trivial) (allLp_of [] (by kernel_rfl) trivial rfl) ?_
  intro z; kernel_rfl

def r23_Bounds_T (x0 : Str) : Tree (Int × Int × Unit) :=
 .ite (x0 == ([98, 121, 116, 101, 115] : Str)) (
 .ret (1099511627776, 1048576, ())) (
 .ite (x0 == ([114, 97, 116, 101] : Str)) (
 .ret (1048576, 8, ())) (
 .ite (x0 == ([98, 117, 114, 115, 116] : Str)) (
 .ret (1048576, 16, ())) (
 .ite (x0 == ([113, 117, 101, 117, 101] : Str)) (
 .ret (64, 16, ())) (
 .ret ((-1), 0, ())))))

def r23_Bounds_g : Sig := ⟨95, (.cons (.val false .str) .nil), .vals (.cons (.val false (.int .i64)) (.cons (.val false (.int .i64)) .nil)), fun z => r23_Bounds_T z.1, ((0 : Int), (0 : Int), ())⟩

theorem r23_Bounds_ok : r23_Bounds_g.ok Tryz.prog := by
  refine Sig.lift mix tabOk nms _ Tryz.func95 (c := (bodyOf Tryz.f95)) (by kernel_rfl) (o := orT [] [] noFz) (orT_sound trivial) (allLp_of [] (by kernel_rfl) trivial rfl) ?_
  intro z; kernel_rfl

def r05_Dec_L5_step (n : Int) (s_ : Str) (k : Int) : Tree ((Str × Int) ⊕ Str) :=
 .ite (!decide (k = 0)) (
 ask (!decide ((10 : Int) = 0)) <|
 .ite (decide ((k.tmod 10) < 0)) (
 ask (inbe (w64 ((w64 ((0 : Int) - (k.tmod 10))) + 1)) ([48, 49, 50, 51, 52, 53, 54, 55, 56, 57] : Str).length) <|
 ask (inbe (w64 ((0 : Int) - (k.tmod 10))) (w64 ((w64 ((0 : Int) - (k.tmod 10))) + 1)).toNat) <|
 ask (decide ((subS ([48, 49, 50, 51, 52, 53, 54, 55, 56, 57] : Str) (w64 ((0 : Int) - (k.tmod 10))).toNat (w64 ((w64 ((0 : Int) - (k.tmod 10))) + 1)).toNat).length + s_.length ≤ 9223372036854775807)) <|
 ask (!decide ((10 : Int) = 0)) <|
 .ret (.inl (((subS ([48, 49, 50, 51, 52, 53, 54, 55, 56, 57] : Str) (w64 ((0 : Int) - (k.tmod 10))).toNat (w64 ((w64 ((0 : Int) - (k.tmod 10))) + 1)).toNat) ++ s_), (w64 (k.tdiv 10))))) (
 ask (inbe (w64 ((k.tmod 10) + 1)) ([48, 49, 50, 51, 52, 53, 54, 55, 56, 57] : Str).length) <|
 ask (inbe (k.tmod 10) (w64 ((k.tmod 10) + 1)).toNat) <|
 ask (decide ((subS ([48, 49, 50, 51, 52, 53, 54, 55, 56, 57] : Str) (k.tmod 10).toNat (w64 ((k.tmod 10) + 1)).toNat).length + s_.length ≤ 9223372036854775807)) <|
 ask (!decide ((10 : Int) = 0)) <|
 .ret (.inl (((subS ([48, 49, 50, 51, 52, 53, 54, 55, 56, 57] : Str) (k.tmod 10).toNat (w64 ((k.tmod 10) + 1)).toNat) ++ s_), (w64 (k.tdiv 10)))))) (
 .ret (.inr s_))

def r05_Dec_L5 : Lp := ⟨5, [], [], (.cons (.val false (.int .i64)) (ca2 (.cons (.val false .str) (.cons (.val false (.int .i64)) (ca (ca8 (ca16 .nil))))))), .nil, 0, .one 1 [] (.cons (.val false (.int .i64)) (ca2 (.cons (.val false .str) (ca2 (ca8 (ca16 .nil)))))) .nil, fun z => .bnd (.loop (fun v => r05_Dec_L5_step z.1.1 v.1 v.2) (z.1.2.2.2.1, z.1.2.2.2.2.1)) fun r => .ret ((z.1.1, (cu2 (r, (cu2 (cu8 (cu16 ())))))), ())⟩

theorem r05_Dec_L5_ok : r05_Dec_L5.ok Tryz.prog (nthC (loopsOf (bodyOf Tryz.f112)) 0) := by
  refine Lp.lift (π := Int) (V := (Str × Int)) (ρ := Str) mix tabOk r05_Dec_L5 (o := orT [] [] noFz) (orT_sound trivial) (allLp_of [] (by kernel_rfl) trivial rfl) (fun x v => ((x, (cu2 (v.1, (v.2, (cu (cu8 (cu16 ()))))))), ())) (fun x r => ((x, (cu2 (r, (cu2 (cu8 (cu16 ())))))), ())) (fun x v => r05_Dec_L5_step x v.1 v.2) (fun x r => .ret ((x, (cu2 (r, (cu2 (cu8 (cu16 ())))))), ())) (fun z => z.1.1) (fun z => (z.1.2.2.2.1, z.1.2.2.2.2.1)) (fun _ => rfl) (fun _ => rfl) (fun _ _ _ h => h) ?_
  intro x v; kernel_rfl

def r05_Dec_T (x0 : Int) : Tree Str :=
 .ite (decide (x0 = 0)) (
 .ret ([48] : Str)) (
 .bnd (.loop (fun v => r05_Dec_L5_step x0 v.1 v.2) (([] : Str), x0)) fun r1 =>
 .ite (decide (x0 < 0)) (
 ask (decide (([45] : Str).length + r1.length ≤ 9223372036854775807)) <|
 .ret (([45] : Str) ++ r1)) (
 .ret r1))

def r05_Dec_g : Sig := ⟨112, (.cons (.val false (.int .i64)) .nil), .vals (.val false .str), fun z => r05_Dec_T z.1, ([] : Str)⟩

theorem r05_Dec_ok : r05_Dec_g.ok Tryz.prog := by
  refine Sig.lift mix tabOk nms _ Tryz.func112 (c := (bodyOf Tryz.f112)) (by kernel_rfl) (o := orT [] [r05_Dec_L5] noFz) (orT_sound trivial) (allLp_of [nthC (loopsOf (bodyOf Tryz.f112)) 0] (by kernel_rfl) ⟨r05_Dec_L5_ok, trivial⟩ (by kernel_rfl)) ?_
  intro z; kernel_rfl

def r05_Num_L7_step (s_ : Str) (from_ : Int) (n : Int) (i : Int) : Tree ((Int × Int) ⊕ ((Int × Bool) ⊕ Int)) :=
 .ite (decide (i < (s_.length : Int))) (
 ask (inb i s_.length) <|
 ask ((!(!(decide ((sgetI s_ i) < 48)))) || inb i s_.length) <|
 .ite ((decide ((sgetI s_ i) < 48)) || (decide ((57 : Int) < (sgetI s_ i)))) (
 .ret (.inr (.inl (0, false)))) (
 ask (inb i s_.length) <|
 .ret (.inl ((w64 ((w64 (n * 10)) - (w64 ((IntKind.wrap .u8 ((sgetI s_ i) - 48)))))), (w64 (i + 1)))))) (
 .ret (.inr (.inr n)))

def r05_Num_L7 : Lp := ⟨7, [], [], (.cons (.val false .str) (ca (ca2 (.cons (.val false (.int .i64)) (.cons (.val false (.int .i64)) (.cons (.val false (.int .i64)) (ca4 (ca8 (ca32 .nil))))))))), .nil, 0, .more 0 [] (ca2 (.cons (.val false (.int .i64)) (.cons (.val false .bool) (ca (ca2 (ca4 (ca8 (ca32 .nil)))))))) .nil (.one 1 [] (.cons (.val false .str) (ca (ca2 (.cons (.val false (.int .i64)) (.cons (.val false (.int .i64)) (ca (ca4 (ca8 (ca32 .nil))))))))) .nil), fun z => .bnd (.loop (fun v => r05_Num_L7_step z.1.1 z.1.2.2.2.2.2.1 v.1 v.2) (z.1.2.2.2.2.1, z.1.2.2.2.2.2.2.1)) fun r => .sum r (fun a0 => .ret (.inl ((cu2 (a0.1, (a0.2, (cu (cu2 (cu4 (cu8 (cu32 ())))))))), ()))) (fun b0 => .ret (.inr ((z.1.1, (cu (cu2 (b0, (z.1.2.2.2.2.2.1, (cu (cu4 (cu8 (cu32 ()))))))))), ())))⟩

theorem r05_Num_L7_ok : r05_Num_L7.ok Tryz.prog (nthC (loopsOf (bodyOf Tryz.f96)) 0) := by
  refine Lp.lift (π := (Str × Int)) (V := (Int × Int)) (ρ := ((Int × Bool) ⊕ Int)) mix tabOk r05_Num_L7 (o := orT [r05_Dec_g] [] noFz) (orT_sound ⟨r05_Dec_ok, trivial⟩) (allLp_of [] (by kernel_rfl) trivial rfl) (fun x v => ((x.1, (cu (cu2 (v.1, (x.2, (v.2, (cu4 (cu8 (cu32 ()))))))))), ())) (fun x r => match r with | .inl a0 => .inl ((cu2 (a0.1, (a0.2, (cu (cu2 (cu4 (cu8 (cu32 ())))))))), ()) | .inr b0 => (.inr ((x.1, (cu (cu2 (b0, (x.2, (cu (cu4 (cu8 (cu32 ()))))))))), ()))) (fun x v => r05_Num_L7_step x.1 x.2 v.1 v.2) (fun x r => .sum r (fun a0 => .ret (.inl ((cu2 (a0.1, (a0.2, (cu (cu2 (cu4 (cu8 (cu32 ())))))))), ()))) (fun b0 => .ret (.inr ((x.1, (cu (cu2 (b0, (x.2, (cu (cu4 (cu8 (cu32 ()))))))))), ())))) (fun z => (z.1.1, z.1.2.2.2.2.2.1)) (fun z => (z.1.2.2.2.2.1, z.1.2.2.2.2.2.2.1)) (fun _ => rfl) (fun _ => rfl) (fun x r Q h => match r, h with | .inl _, h => h | .inr b0, h => (h)) ?_
  intro x v; kernel_rfl

def r05_Num_T (x0 : Str) : Tree (Int × Bool × Unit) :=
 .ite ((decide ((20 : Int) < (x0.length : Int))) || (x0 == ([] : Str))) (
 .ret (0, false, ())) (
 ask (inb 0 x0.length) <|
 .ite (decide ((sgetI x0 0) = 45)) (
 .bnd (.loop (fun v => r05_Num_L7_step x0 1 v.1 v.2) (0, 1)) fun r1 =>
 .sum r1 (fun r2 =>
 .ret (r2.1, r2.2, ())) (fun r3 =>
 .ite (decide ((1 : Int) = 0)) (
 .bnd (r05_Dec_T (w64 ((0 : Int) - r3))) fun y4 =>
 .ite (!(y4 == x0)) (
 .ret (0, false, ())) (
 .ret ((w64 ((0 : Int) - r3)), true, ()))) (
 .bnd (r05_Dec_T r3) fun y5 =>
 .ite (!(y5 == x0)) (
 .ret (0, false, ())) (
 .ret (r3, true, ()))))) (
 .bnd (.loop (fun v => r05_Num_L7_step x0 0 v.1 v.2) (0, 0)) fun r6 =>
 .sum r6 (fun r7 =>
 .ret (r7.1, r7.2, ())) (fun r8 =>
 .ite (decide ((0 : Int) = 0)) (
 .bnd (r05_Dec_T (w64 ((0 : Int) - r8))) fun y9 =>
 .ite (!(y9 == x0)) (
 .ret (0, false, ())) (
 .ret ((w64 ((0 : Int) - r8)), true, ()))) (
 .bnd (r05_Dec_T r8) fun y10 =>
 .ite (!(y10 == x0)) (
 .ret (0, false, ())) (
 .ret (r8, true, ()))))))

def r05_Num_g : Sig := ⟨96, (.cons (.val false .str) .nil), .vals (.cons (.val false (.int .i64)) (.cons (.val false .bool) .nil)), fun z => r05_Num_T z.1, ((0 : Int), false, ())⟩

theorem r05_Num_ok : r05_Num_g.ok Tryz.prog := by
  refine Sig.lift mix tabOk nms _ Tryz.func96 (c := (bodyOf Tryz.f96)) (by kernel_rfl) (o := orT [r05_Dec_g] [r05_Num_L7] noFz) (orT_sound ⟨r05_Dec_ok, trivial⟩) (allLp_of [nthC (loopsOf (bodyOf Tryz.f96)) 0] (by kernel_rfl) ⟨r05_Num_L7_ok, trivial⟩ (by kernel_rfl)) ?_
  intro z; kernel_rfl

def r23_limit_T (x0 : List Entry) (x1 : Str) (x2 : Str) : Tree Int :=
 .bnd (r23_Bounds_T x2) fun y1 =>
 .bnd (r23_Key_T x1 x2) fun y2 =>
 .bnd (r10_Get_T x0 y2) fun y3 =>
 .bnd (r05_Num_T y3.2.2) fun y4 =>
 .ite (((!y4.2.1) || (decide (y4.1 < 0))) || (decide (y1.1 < y4.1))) (
 .ret y1.2.1) (
 .ret y4.1)

def r23_limit_g : Sig := ⟨79, (.cons (.val false (.list tEntry)) (.cons (.val false .str) (.cons (.val false .str) .nil))), .vals (.val false (.int .i64)), fun z => r23_limit_T z.1 z.2.1 z.2.2.1, (0 : Int)⟩

theorem r23_limit_ok : r23_limit_g.ok Tryz.prog := by
  refine Sig.lift mix tabOk nms _ Tryz.func79 (c := (bodyOf Tryz.f79)) (by kernel_rfl) (o := orT [r23_Bounds_g, r23_Key_g, r10_Get_g, r05_Num_g] [] noFz) (orT_sound ⟨r23_Bounds_ok, ⟨r23_Key_ok, ⟨r10_Get_ok, ⟨r05_Num_ok, trivial⟩⟩⟩⟩) (allLp_of [] (by kernel_rfl) trivial rfl) ?_
  intro z; kernel_rfl

def r23_Of_T (x0 : List Entry) (x1 : Str) : Tree (Tenant × Bool × Unit) :=
 .bnd (r23_Key_T x1 ([115, 101, 99, 114, 101, 116] : Str)) fun y1 =>
 .bnd (r10_Get_T x0 y1) fun y2 =>
 .bnd (r05_Is_T x1) fun y3 =>
 .grd (!(!y3)) (r23_isSecret_T y2.2.2) false fun y4 =>
 .ite ((!y3) || (!y4)) (
 .ret (([], ([], (0, (0, (0, 0))))), false, ())) (
 .bnd (r23_limit_T x0 x1 ([98, 121, 116, 101, 115] : Str)) fun y5 =>
 .bnd (r23_limit_T x0 x1 ([114, 97, 116, 101] : Str)) fun y6 =>
 .bnd (r23_limit_T x0 x1 ([98, 117, 114, 115, 116] : Str)) fun y7 =>
 .bnd (r23_limit_T x0 x1 ([113, 117, 101, 117, 101] : Str)) fun y8 =>
 .ret ((x1, (y2.2.2, (y5, (y6, (y7, y8))))), true, ()))

def r23_Of_g : Sig := ⟨51, (.cons (.val false (.list tEntry)) (.cons (.val false .str) .nil)), .vals (.cons (.val true tTenant) (.cons (.val false .bool) .nil)), fun z => r23_Of_T z.1 z.2.1, ((dfl tTenant : Tenant), false, ())⟩

theorem r23_Of_ok : r23_Of_g.ok Tryz.prog := by
  refine Sig.lift mix tabOk nms _ Tryz.func51 (c := (bodyOf Tryz.f51)) (by kernel_rfl) (o := orT [r23_Key_g, r10_Get_g, r05_Is_g, r23_isSecret_g, r23_limit_g] [] noFz) (orT_sound ⟨r23_Key_ok, ⟨r10_Get_ok, ⟨r05_Is_ok, ⟨r23_isSecret_ok, ⟨r23_limit_ok, trivial⟩⟩⟩⟩⟩) (allLp_of [] (by kernel_rfl) trivial rfl) ?_
  intro z; kernel_rfl

def r24_Check_T (x0 : List Entry) (x1 : Str) (x2 : Int) : Tree (Str × Str × Int × Unit) :=
 .bnd (r24_Read_T x1) fun y1 =>
 .grd (!(!y1.2.2.2.1)) (r05_Is_T y1.1) false fun y2 =>
 .grd (!((!y1.2.2.2.1) || (!y2))) (r05_Is_T y1.2.1) false fun y3 =>
 .ite ((((!y1.2.2.2.1) || (!y2)) || (!y3)) || (decide (y1.2.2.1 < x2))) (
 .ret (([] : Str), ([] : Str), 7, ())) (
 .bnd (r23_Of_T x0 y1.1) fun y4 =>
 ask ((!(!(!y4.2.1))) || inbe (w64 ((x1.length : Int) - 32)) x1.length) <|
 .grd (!(!y4.2.1)) (r03_Sum_T y4.1.2.1 (subS x1 0 (w64 ((x1.length : Int) - 32)).toNat)) ([] : Str) fun y5 =>
 ask ((!(!(!y4.2.1))) || inbe (w64 ((x1.length : Int) - 32)) x1.length) <|
 .ite ((!y4.2.1) || (!(y5 == (subS x1 (w64 ((x1.length : Int) - 32)).toNat x1.length)))) (
 .ret (([] : Str), ([] : Str), 7, ())) (
 .ret (y1.1, y1.2.1, 0, ())))

def r24_Check_g : Sig := ⟨35, (.cons (.val false (.list tEntry)) (.cons (.val false .str) (.cons (.val false (.int .i64)) .nil))), .vals (.cons (.val false .str) (.cons (.val false .str) (.cons (.val false (.int .i64)) .nil))), fun z => r24_Check_T z.1 z.2.1 z.2.2.1, (([] : Str), ([] : Str), (0 : Int), ())⟩

theorem r24_Check_ok : r24_Check_g.ok Tryz.prog := by
  refine Sig.lift mix tabOk nms _ Tryz.func35 (c := (bodyOf Tryz.f35)) (by kernel_rfl) (o := orT [r24_Read_g, r05_Is_g, r23_Of_g, r03_Sum_g] [] noFz) (orT_sound ⟨r24_Read_ok, ⟨r05_Is_ok, ⟨r23_Of_ok, ⟨r03_Sum_ok, trivial⟩⟩⟩⟩) (allLp_of [] (by kernel_rfl) trivial rfl) ?_
  intro z; kernel_rfl

def r22_Text_T (x0 : Int) : Tree Str :=
 .ite ((decide (x0 < 0)) || (decide ((7 : Int) < x0))) (
 .ret ([] : Str)) (
 .ite (decide ((stdArith .and .i64 x0 1) = 1)) (
 ask (decide (([] : Str).length + ([114] : Str).length ≤ 9223372036854775807)) <|
 ask (decide ((0 : Int) ≤ 1)) <|
 .ite (decide ((stdArith .and .i64 (stdShift .shr .i64 x0 1) 1) = 1)) (
 ask (decide ((([] : Str) ++ ([114] : Str)).length + ([119] : Str).length ≤ 9223372036854775807)) <|
 ask (decide ((0 : Int) ≤ 2)) <|
 .ite (decide ((stdArith .and .i64 (stdShift .shr .i64 x0 2) 1) = 1)) (
 ask (decide (((([] : Str) ++ ([114] : Str)) ++ ([119] : Str)).length + ([108] : Str).length ≤ 9223372036854775807)) <|
 .ret (((([] : Str) ++ ([114] : Str)) ++ ([119] : Str)) ++ ([108] : Str))) (
 .ret ((([] : Str) ++ ([114] : Str)) ++ ([119] : Str)))) (
 ask (decide ((0 : Int) ≤ 2)) <|
 .ite (decide ((stdArith .and .i64 (stdShift .shr .i64 x0 2) 1) = 1)) (
 ask (decide ((([] : Str) ++ ([114] : Str)).length + ([108] : Str).length ≤ 9223372036854775807)) <|
 .ret ((([] : Str) ++ ([114] : Str)) ++ ([108] : Str))) (
 .ret (([] : Str) ++ ([114] : Str))))) (
 ask (decide ((0 : Int) ≤ 1)) <|
 .ite (decide ((stdArith .and .i64 (stdShift .shr .i64 x0 1) 1) = 1)) (
 ask (decide (([] : Str).length + ([119] : Str).length ≤ 9223372036854775807)) <|
 ask (decide ((0 : Int) ≤ 2)) <|
 .ite (decide ((stdArith .and .i64 (stdShift .shr .i64 x0 2) 1) = 1)) (
 ask (decide ((([] : Str) ++ ([119] : Str)).length + ([108] : Str).length ≤ 9223372036854775807)) <|
 .ret ((([] : Str) ++ ([119] : Str)) ++ ([108] : Str))) (
 .ret (([] : Str) ++ ([119] : Str)))) (
 ask (decide ((0 : Int) ≤ 2)) <|
 .ite (decide ((stdArith .and .i64 (stdShift .shr .i64 x0 2) 1) = 1)) (
 ask (decide (([] : Str).length + ([108] : Str).length ≤ 9223372036854775807)) <|
 .ret (([] : Str) ++ ([108] : Str))) (
 .ret ([] : Str)))))

def r22_Text_g : Sig := ⟨80, (.cons (.val false (.int .i64)) .nil), .vals (.val false .str), fun z => r22_Text_T z.1, ([] : Str)⟩

theorem r22_Text_ok : r22_Text_g.ok Tryz.prog := by
  refine Sig.lift mix tabOk nms _ Tryz.func80 (c := (bodyOf Tryz.f80)) (by kernel_rfl) (o := orT [] [] noFz) (orT_sound trivial) (allLp_of [] (by kernel_rfl) trivial rfl) ?_
  intro z; kernel_rfl

def r22_Rights_L2_step (s_ : Str) (n : Int) : Tree (Int ⊕ ((Int × Bool) ⊕ Unit)) :=
 .ite (decide (n < 8)) (
 .bnd (r22_Text_T n) fun y1 =>
 .ite (y1 == s_) (
 .ret (.inr (.inl (n, true)))) (
 .ret (.inl (w64 (n + 1))))) (
 .ret (.inr (.inr ())))

def r22_Rights_L2 : Lp := ⟨2, [], [], (.cons (.val false .str) (ca (ca2 (.cons (.val false (.int .i64)) (ca (ca8 .nil)))))), .nil, 0, .more 0 [] (ca2 (.cons (.val false (.int .i64)) (.cons (.val false .bool) (ca2 (ca8 .nil))))) .nil (.one 1 [] (ca2 (ca4 (ca8 .nil))) .nil), fun z => .bnd (.loop (fun v => r22_Rights_L2_step z.1.1 v) z.1.2.2.2.2.1) fun r => .sum r (fun a0 => .ret (.inl ((cu2 (a0.1, (a0.2, (cu2 (cu8 ()))))), ()))) (fun b0 => .ret (.inr ((cu2 (cu4 (cu8 ()))), ())))⟩

theorem r22_Rights_L2_ok : r22_Rights_L2.ok Tryz.prog (nthC (loopsOf (bodyOf Tryz.f52)) 0) := by
  refine Lp.lift (π := Str) (V := Int) (ρ := ((Int × Bool) ⊕ Unit)) mix tabOk r22_Rights_L2 (o := orT [r22_Text_g] [] noFz) (orT_sound ⟨r22_Text_ok, trivial⟩) (allLp_of [] (by kernel_rfl) trivial rfl) (fun x v => ((x, (cu (cu2 (v, (cu (cu8 ())))))), ())) (fun x r => match r with | .inl a0 => .inl ((cu2 (a0.1, (a0.2, (cu2 (cu8 ()))))), ()) | .inr b0 => (.inr ((cu2 (cu4 (cu8 ()))), ()))) (fun x v => r22_Rights_L2_step x v) (fun x r => .sum r (fun a0 => .ret (.inl ((cu2 (a0.1, (a0.2, (cu2 (cu8 ()))))), ()))) (fun b0 => .ret (.inr ((cu2 (cu4 (cu8 ()))), ())))) (fun z => z.1.1) (fun z => z.1.2.2.2.2.1) (fun _ => rfl) (fun _ => rfl) (fun x r Q h => match r, h with | .inl _, h => h | .inr b0, h => (h)) ?_
  intro x v; kernel_rfl

def r22_Rights_T (x0 : Str) : Tree (Int × Bool × Unit) :=
 .bnd (.loop (fun v => r22_Rights_L2_step x0 v) 0) fun r1 =>
 .sum r1 (fun r2 =>
 .ret (r2.1, r2.2, ())) (fun r3 =>
 .ret (0, false, ()))

def r22_Rights_g : Sig := ⟨52, (.cons (.val false .str) .nil), .vals (.cons (.val false (.int .i64)) (.cons (.val false .bool) .nil)), fun z => r22_Rights_T z.1, ((0 : Int), false, ())⟩

theorem r22_Rights_ok : r22_Rights_g.ok Tryz.prog := by
  refine Sig.lift mix tabOk nms _ Tryz.func52 (c := (bodyOf Tryz.f52)) (by kernel_rfl) (o := orT [r22_Text_g] [r22_Rights_L2] noFz) (orT_sound ⟨r22_Text_ok, trivial⟩) (allLp_of [nthC (loopsOf (bodyOf Tryz.f52)) 0] (by kernel_rfl) ⟨r22_Rights_L2_ok, trivial⟩ (by kernel_rfl)) ?_
  intro z; kernel_rfl

def r22_Of_T (x0 : List Entry) (x1 : Str) (x2 : Str) (x3 : Str) : Tree Int :=
 .bnd (r22_Key_T x1 x2 x3) fun y1 =>
 .bnd (r10_Get_T x0 y1) fun y2 =>
 .bnd (r22_Rights_T y2.2.2) fun y3 =>
 .bnd (r22_Key_T x1 x2 ([97, 108, 108] : Str)) fun y4 =>
 .bnd (r10_Get_T x0 y4) fun y5 =>
 .bnd (r22_Rights_T y5.2.2) fun y6 =>
 .ret (stdArith .or .i64 y3.1 y6.1)

def r22_Of_g : Sig := ⟨36, (.cons (.val false (.list tEntry)) (.cons (.val false .str) (.cons (.val false .str) (.cons (.val false .str) .nil)))), .vals (.val false (.int .i64)), fun z => r22_Of_T z.1 z.2.1 z.2.2.1 z.2.2.2.1, (0 : Int)⟩

theorem r22_Of_ok : r22_Of_g.ok Tryz.prog := by
  refine Sig.lift mix tabOk nms _ Tryz.func36 (c := (bodyOf Tryz.f36)) (by kernel_rfl) (o := orT [r22_Key_g, r10_Get_g, r22_Rights_g] [] noFz) (orT_sound ⟨r22_Key_ok, ⟨r10_Get_ok, ⟨r22_Rights_ok, trivial⟩⟩⟩) (allLp_of [] (by kernel_rfl) trivial rfl) ?_
  intro z; kernel_rfl

def r40_Check_T (x0 : List Entry) (x1 : Str) (x2 : Call) (x3 : Int) : Tree Int :=
 .bnd (r40_Form_T x2) fun y1 =>
 .ite (!decide (y1 = 0)) (
 .ret y1) (
 .bnd (r24_Check_T x0 x2.2.1 x3) fun y2 =>
 .ite ((!decide (y2.2.2.1 = 0)) || (!(y2.1 == x1))) (
 .ret 7) (
 .bnd (r22_Of_T x0 x1 x2.2.2.1 y2.2.1) fun y3 =>
 .bnd (r40_Right_T x2.1) fun y4 =>
 .ite (decide ((stdArith .and .i64 y3 y4) = 0)) (
 .ret 8) (
 .ret 0)))

def r40_Check_g : Sig := ⟨13, (.cons (.val false (.list tEntry)) (.cons (.val false .str) (.cons (.val true tCall) (.cons (.val false (.int .i64)) .nil)))), .vals (.val false (.int .i64)), fun z => r40_Check_T z.1 z.2.1 z.2.2.1 z.2.2.2.1, (0 : Int)⟩

theorem r40_Check_ok : r40_Check_g.ok Tryz.prog := by
  refine Sig.lift mix tabOk nms _ Tryz.func13 (c := (bodyOf Tryz.f13)) (by kernel_rfl) (o := orT [r40_Form_g, r24_Check_g, r22_Of_g, r40_Right_g] [] noFz) (orT_sound ⟨r40_Form_ok, ⟨r24_Check_ok, ⟨r22_Of_ok, ⟨r40_Right_ok, trivial⟩⟩⟩⟩) (allLp_of [] (by kernel_rfl) trivial rfl) ?_
  intro z; kernel_rfl

def l40_FrontIs_T (x0 : List Entry) (x1 : Call) (x2 : Int) : Tree Bool :=
 .bnd (r10_Few_T x0 30) fun y1 =>
 .grd (!(!y1)) (r40_Few_T x1) false fun y2 =>
 .ite ((!y1) || (!y2)) (
 .bnd l40_awake_T fun y3 =>
 .ret y3) (
 .bnd (front_Form_T x1) fun y4 =>
 .bnd (r40_Form_T x1) fun y5 =>
 .grd (decide (y4 = y5)) (front_Right_T x1.1) (0 : Int) fun y6 =>
 .grd (decide (y4 = y5)) (r40_Right_T x1.1) (0 : Int) fun y7 =>
 .grd ((decide (y4 = y5)) && (decide (y6 = y7))) (front_Check_T x0 ([116] : Str) x1 x2) (0 : Int) fun y8 =>
 .grd ((decide (y4 = y5)) && (decide (y6 = y7))) (r40_Check_T x0 ([116] : Str) x1 x2) (0 : Int) fun y9 =>
 .grd (((decide (y4 = y5)) && (decide (y6 = y7))) && (decide (y8 = y9))) (front_Check_T x0 x1.2.2.1 x1 x2) (0 : Int) fun y10 =>
 .grd (((decide (y4 = y5)) && (decide (y6 = y7))) && (decide (y8 = y9))) (r40_Check_T x0 x1.2.2.1 x1 x2) (0 : Int) fun y11 =>
 .grd ((((decide (y4 = y5)) && (decide (y6 = y7))) && (decide (y8 = y9))) && (decide (y10 = y11))) l40_awake_T false fun y12 =>
 .ret (((((decide (y4 = y5)) && (decide (y6 = y7))) && (decide (y8 = y9))) && (decide (y10 = y11))) && y12))

def l40_FrontIs_g : Sig := ⟨3, (.cons (.val false (.list tEntry)) (.cons (.val true tCall) (.cons (.val false (.int .i64)) .nil))), .vals (.val false .bool), fun z => l40_FrontIs_T z.1 z.2.1 z.2.2.1, false⟩

theorem l40_FrontIs_ok : l40_FrontIs_g.ok Tryz.prog := by
  refine Sig.lift mix tabOk nms _ Tryz.func3 (c := (bodyOf Tryz.f3)) (by kernel_rfl) (o := orT [r10_Few_g, r40_Few_g, l40_awake_g, front_Form_g, r40_Form_g, front_Right_g, r40_Right_g, front_Check_g, r40_Check_g] [] noFz) (orT_sound ⟨r10_Few_ok, ⟨r40_Few_ok, ⟨l40_awake_ok, ⟨front_Form_ok, ⟨r40_Form_ok, ⟨front_Right_ok, ⟨r40_Right_ok, ⟨front_Check_ok, ⟨r40_Check_ok, trivial⟩⟩⟩⟩⟩⟩⟩⟩⟩) (allLp_of [] (by kernel_rfl) trivial rfl) ?_
  intro z; kernel_rfl

def r09_May_T (x0 : Reg) : Tree Bool :=
 .grd (((decide ((1 : Int) ≤ x0.1)) && (decide (x0.1 ≤ 9007199254740992))) && (!(x0.2.1 == ([] : Str)))) (r05_Is_T x0.2.1) false fun y1 =>
 .ret ((((decide ((1 : Int) ≤ x0.1)) && (decide (x0.1 ≤ 9007199254740992))) && ((x0.2.1 == ([] : Str)) || y1)) && (decide ((x0.2.2.length : Int) ≤ 256)))

def r09_May_g : Sig := ⟨54, (.cons (.val true tReg) .nil), .vals (.val false .bool), fun z => r09_May_T z.1, false⟩

theorem r09_May_ok : r09_May_g.ok Tryz.prog := by
  refine Sig.lift mix tabOk nms _ Tryz.func54 (c := (bodyOf Tryz.f54)) (by kernel_rfl) (o := orT [r05_Is_g] [] noFz) (orT_sound ⟨r05_Is_ok, trivial⟩) (allLp_of [] (by kernel_rfl) trivial rfl) ?_
  intro z; kernel_rfl

def r10_isEntry_T (x0 : Entry) : Tree Bool :=
 .grd ((decide ((1 : Int) ≤ (x0.1.length : Int))) && (decide ((x0.1.length : Int) ≤ 128))) (r09_May_T x0.2) false fun y1 =>
 .ret (((decide ((1 : Int) ≤ (x0.1.length : Int))) && (decide ((x0.1.length : Int) ≤ 128))) && y1)

def r10_isEntry_g : Sig := ⟨37, (.cons (.val true tEntry) .nil), .vals (.val false .bool), fun z => r10_isEntry_T z.1, false⟩

theorem r10_isEntry_ok : r10_isEntry_g.ok Tryz.prog := by
  refine Sig.lift mix tabOk nms _ Tryz.func37 (c := (bodyOf Tryz.f37)) (by kernel_rfl) (o := orT [r09_May_g] [] noFz) (orT_sound ⟨r09_May_ok, trivial⟩) (allLp_of [] (by kernel_rfl) trivial rfl) ?_
  intro z; kernel_rfl

def r10_May_L4_step (l : List Entry) (i : Int) : Tree (Int ⊕ (Bool ⊕ Unit)) :=
 .ite (decide (i < (l.length : Int))) (
 ask (inb i l.length) <|
 .bnd (r10_isEntry_T (l.getD i.toNat (dfl tEntry : Entry))) fun y1 =>
 ask ((!((!(!y1)) && (decide ((0 : Int) < i)))) || inb (w64 (i - 1)) l.length) <|
 ask ((!((!(!y1)) && (decide ((0 : Int) < i)))) || inb i l.length) <|
 .ite ((!y1) || ((decide ((0 : Int) < i)) && (!ltS (l.getD ((w64 (i - 1)).toNat) (dfl tEntry : Entry)).1 (l.getD i.toNat (dfl tEntry : Entry)).1))) (
 .ret (.inr (.inl false))) (
 .ret (.inl (w64 (i + 1))))) (
 .ret (.inr (.inr ())))

def r10_May_L4 : Lp := ⟨4, [], [], (.cons (.val false (.list tEntry)) (ca2 (.cons (.val false (.int .i64)) (ca (ca32 .nil))))), .nil, 0, .more 0 [] (ca2 (.cons (.val false .bool) (ca2 (ca32 .nil)))) .nil (.one 1 [] (ca (ca4 (ca32 .nil))) .nil), fun z => .bnd (.loop (fun v => r10_May_L4_step z.1.1 v) z.1.2.2.2.1) fun r => .sum r (fun a0 => .ret (.inl ((cu2 (a0, (cu2 (cu32 ())))), ()))) (fun b0 => .ret (.inr ((cu (cu4 (cu32 ()))), ())))⟩

theorem r10_May_L4_ok : r10_May_L4.ok Tryz.prog (nthC (loopsOf (bodyOf Tryz.f14)) 0) := by
  refine Lp.lift (π := List Entry) (V := Int) (ρ := (Bool ⊕ Unit)) mix tabOk r10_May_L4 (o := orT [r10_isEntry_g] [] noFz) (orT_sound ⟨r10_isEntry_ok, trivial⟩) (allLp_of [] (by kernel_rfl) trivial rfl) (fun x v => ((x, (cu2 (v, (cu (cu32 ()))))), ())) (fun x r => match r with | .inl a0 => .inl ((cu2 (a0, (cu2 (cu32 ())))), ()) | .inr b0 => (.inr ((cu (cu4 (cu32 ()))), ()))) (fun x v => r10_May_L4_step x v) (fun x r => .sum r (fun a0 => .ret (.inl ((cu2 (a0, (cu2 (cu32 ())))), ()))) (fun b0 => .ret (.inr ((cu (cu4 (cu32 ()))), ())))) (fun z => z.1.1) (fun z => z.1.2.2.2.1) (fun _ => rfl) (fun _ => rfl) (fun x r Q h => match r, h with | .inl _, h => h | .inr b0, h => (h)) ?_
  intro x v; kernel_rfl

def r10_May_T (x0 : List Entry) : Tree Bool :=
 .ite (decide ((4096 : Int) < (x0.length : Int))) (
 .ret false) (
 .bnd (.loop (fun v => r10_May_L4_step x0 v) 0) fun r1 =>
 .sum r1 (fun r2 =>
 .ret r2) (fun r3 =>
 .ret true))

def r10_May_g : Sig := ⟨14, (.cons (.val false (.list tEntry)) .nil), .vals (.val false .bool), fun z => r10_May_T z.1, false⟩

theorem r10_May_ok : r10_May_g.ok Tryz.prog := by
  refine Sig.lift mix tabOk nms _ Tryz.func14 (c := (bodyOf Tryz.f14)) (by kernel_rfl) (o := orT [r10_isEntry_g] [r10_May_L4] noFz) (orT_sound ⟨r10_isEntry_ok, trivial⟩) (allLp_of [nthC (loopsOf (bodyOf Tryz.f14)) 0] (by kernel_rfl) ⟨r10_May_L4_ok, trivial⟩ (by kernel_rfl)) ?_
  intro z; kernel_rfl

end Go.Eng
