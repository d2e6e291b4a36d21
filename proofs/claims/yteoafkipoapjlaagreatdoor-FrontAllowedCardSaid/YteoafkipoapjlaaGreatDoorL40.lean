/- Lifted: 111 functions, part 2. -/
import Derived.Test.YteoafkipoapjlaaGreatDoorL40a
namespace Go.Eng
open Go Go.Proofs
set_option maxRecDepth 100000

def l40_FrontAllowed_L10_step (l : List Entry) (now : Int) (user : Str) (c : Call) (i : Int) (without : List Entry) : Tree ((Int × (List Entry)) ⊕ (List Entry)) :=
 .ite (decide (i < (l.length : Int))) (
 ask (inb i l.length) <|
 .bnd (r22_Key_T ([116] : Str) c.2.2.1 user) fun y1 =>
 ask ((!(!((l.getD i.toNat (dfl tEntry : Entry)).1 == y1))) || inb i l.length) <|
 .grd (!((l.getD i.toNat (dfl tEntry : Entry)).1 == y1)) (r22_Key_T ([116] : Str) c.2.2.1 ([97, 108, 108] : Str)) ([] : Str) fun y2 =>
 .ite ((!((l.getD i.toNat (dfl tEntry : Entry)).1 == y1)) && (!((l.getD i.toNat (dfl tEntry : Entry)).1 == y2))) (
 ask (inb i l.length) <|
 ask (decide ((without ++ [(l.getD i.toNat (dfl tEntry : Entry))]).length * 56 ≤ roomNat)) <|
 .ret (.inl ((w64 (i + 1)), (without ++ [(l.getD i.toNat (dfl tEntry : Entry))])))) (
 .ret (.inl ((w64 (i + 1)), without)))) (
 .ret (.inr without))

def l40_FrontAllowed_L10 : Lp := ⟨10, [.own 11 40 tEntry], [], (.cons (.val false (.list tEntry)) (ca (.cons (.val false (.int .i64)) (ca (.cons (.ref 0 0) (ca (ca2 (.cons (.val false .str) (ca2 (.cons (.own 1) (.cons (.val false (.int .i64)) (ca (ca2 (ca32 (ca32 (ca32 .nil)))))))))))))))), (.cells 25 (.cons (.flat tCall) .nil) (.rows 40 tEntry .nil)), 0, .one 1 [] (.cons (.val false (.list tEntry)) (ca (.cons (.val false (.int .i64)) (ca (.cons (.ref 0 0) (ca2 (ca4 (.cons (.own 1) (ca4 (ca32 (ca32 (ca32 .nil)))))))))))) (.cells 25 (.cons (.flat tCall) .nil) (.rows 40 tEntry .nil)), fun z => .bnd (.loop (fun v => l40_FrontAllowed_L10_step z.1.1 z.1.2.2.1 z.1.2.2.2.2.2.2.2.2.1 z.2.1.1 v.1 v.2) (z.1.2.2.2.2.2.2.2.2.2.2.2.2.1, z.2.2.1)) fun r => .ret ((z.1.1, (cu (z.1.2.2.1, (cu ((), (cu2 (cu4 ((), (cu4 (cu32 (cu32 (cu32 ())))))))))))), ((z.2.1.1, ()), (r, ())))⟩

theorem l40_FrontAllowed_L10_ok : l40_FrontAllowed_L10.ok Tryz.prog (nthC (loopsOf (bodyOf Tryz.f4)) 0) := by
  refine Lp.lift (π := ((List Entry) × Int × Str × Call)) (V := (Int × (List Entry))) (ρ := List Entry) mix tabOk l40_FrontAllowed_L10 (o := orT [r10_Few_g, r40_Few_g, r10_May_g, l40_awake_g, front_Check_g, r24_Read_g, front_Form_g, r22_Key_g] [] noFz) (orT_sound ⟨r10_Few_ok, ⟨r40_Few_ok, ⟨r10_May_ok, ⟨l40_awake_ok, ⟨front_Check_ok, ⟨r24_Read_ok, ⟨front_Form_ok, ⟨r22_Key_ok, trivial⟩⟩⟩⟩⟩⟩⟩⟩) (allLp_of [] (by kernel_rfl) trivial rfl) (fun x v => ((x.1, (cu (x.2.1, (cu ((), (cu (cu2 (x.2.2.1, (cu2 ((), (v.1, (cu (cu2 (cu32 (cu32 (cu32 ())))))))))))))))), ((x.2.2.2, ()), (v.2, ())))) (fun x r => ((x.1, (cu (x.2.1, (cu ((), (cu2 (cu4 ((), (cu4 (cu32 (cu32 (cu32 ())))))))))))), ((x.2.2.2, ()), (r, ())))) (fun x v => l40_FrontAllowed_L10_step x.1 x.2.1 x.2.2.1 x.2.2.2 v.1 v.2) (fun x r => .ret ((x.1, (cu (x.2.1, (cu ((), (cu2 (cu4 ((), (cu4 (cu32 (cu32 (cu32 ())))))))))))), ((x.2.2.2, ()), (r, ())))) (fun z => (z.1.1, z.1.2.2.1, z.1.2.2.2.2.2.2.2.2.1, z.2.1.1)) (fun z => (z.1.2.2.2.2.2.2.2.2.2.2.2.2.1, z.2.2.1)) (fun _ => rfl) (fun _ => rfl) (fun _ _ _ h => h) ?_
  intro x v; kernel_rfl

def l40_FrontAllowed_T (x0 : List Entry) (x1 : Call) (x2 : Int) : Tree Bool :=
 .bnd (r10_Few_T x0 30) fun y1 =>
 .grd (!(!y1)) (r40_Few_T x1) false fun y2 =>
 .grd (!((!y1) || (!y2))) (r10_May_T x0) false fun y3 =>
 .ite (((!y1) || (!y2)) || (!y3)) (
 .bnd l40_awake_T fun y4 =>
 .ret y4) (
 .bnd (front_Check_T x0 ([116] : Str) x1 x2) fun y5 =>
 .ite (!decide (y5 = 0)) (
 .bnd l40_awake_T fun y6 =>
 .ret y6) (
 .bnd (r24_Read_T x1.2.1) fun y7 =>
 .grd (!(((!y7.2.2.2.1) || (!(y7.1 == ([116] : Str)))) || (decide (y7.2.2.1 < x2)))) (front_Form_T x1) (0 : Int) fun y8 =>
 .ite ((((!y7.2.2.2.1) || (!(y7.1 == ([116] : Str)))) || (decide (y7.2.2.1 < x2))) || (!decide (y8 = 0))) (
 .ret false) (
 .bnd (.loop (fun v => l40_FrontAllowed_L10_step x0 x2 y7.2.1 x1 v.1 v.2) (0, ([] : List Entry))) fun r9 =>
 .bnd (front_Check_T r9 ([116] : Str) x1 x2) fun y10 =>
 .grd (decide (y10 = 8)) (front_Check_T [] ([116] : Str) x1 x2) (0 : Int) fun y11 =>
 .grd ((decide (y10 = 8)) && (decide (y11 = 7))) (front_Check_T x0 ([117] : Str) x1 x2) (0 : Int) fun y12 =>
 .grd (((decide (y10 = 8)) && (decide (y11 = 7))) && (decide (y12 = 7))) l40_awake_T false fun y13 =>
 .ret ((((decide (y10 = 8)) && (decide (y11 = 7))) && (decide (y12 = 7))) && y13))))

def l40_FrontAllowed_g : Sig := ⟨4, (.cons (.val false (.list tEntry)) (.cons (.val true tCall) (.cons (.val false (.int .i64)) .nil))), .vals (.val false .bool), fun z => l40_FrontAllowed_T z.1 z.2.1 z.2.2.1, false⟩

theorem l40_FrontAllowed_ok : l40_FrontAllowed_g.ok Tryz.prog := by
  refine Sig.lift mix tabOk nms _ Tryz.func4 (c := (bodyOf Tryz.f4)) (by kernel_rfl) (o := orT [r10_Few_g, r40_Few_g, r10_May_g, l40_awake_g, front_Check_g, r24_Read_g, front_Form_g, r22_Key_g] [l40_FrontAllowed_L10] noFz) (orT_sound ⟨r10_Few_ok, ⟨r40_Few_ok, ⟨r10_May_ok, ⟨l40_awake_ok, ⟨front_Check_ok, ⟨r24_Read_ok, ⟨front_Form_ok, ⟨r22_Key_ok, trivial⟩⟩⟩⟩⟩⟩⟩⟩) (allLp_of [nthC (loopsOf (bodyOf Tryz.f4)) 0] (by kernel_rfl) ⟨l40_FrontAllowed_L10_ok, trivial⟩ (by kernel_rfl)) ?_
  intro z; kernel_rfl

end Go.Eng
