/- Lifted: 39 functions. -/
import Derived.Test.YtbkbciegpakodaaTrG
import Derived.Test.YtbkbciegpakodaaTrF
import Derived.Test.YtbkbciegpakodaaEngT
namespace Go.Eng
open Go Go.Proofs
set_option maxRecDepth 100000
abbrev Dot : Type := (Str × Int)
abbrev tDot : Ty := (.pair .str (.int .i64))

abbrev Sib : Type := (Dot × (Str × (Bool × Int)))
abbrev tSib : Ty := (.pair tDot (.pair .str (.pair .bool (.int .i64))))

abbrev Seen : Type := (Str × (Int × List Int))
abbrev tSeen : Ty := (.pair .str (.pair (.int .i64) (.list (.int .i64))))

abbrev Obj : Type := (List Seen × List Sib)
abbrev tObj : Ty := (.pair (.list tSeen) (.list tSib))

def r08_Few_L2_step (l : List Sib) (i : Int) : Tree (Int ⊕ (Bool ⊕ Unit)) :=
  .ite ((decide (i < (l.length : Int))) && (decide (i < 12))) (
    ask (inb i l.length) <|
    ask ((!(!(decide ((300 : Int) < ((((l.getD i.toNat (dfl tSib : Sib)).2).1).length : Int))))) || inb i l.length) <|
    .ite ((decide ((300 : Int) < ((((l.getD i.toNat (dfl tSib : Sib)).2).1).length : Int))) || (decide ((100 : Int) < ((((l.getD i.toNat (dfl tSib : Sib)).1).1).length : Int)))) (
      .ret (.inr (.inl false))) (
      .ret (.inl (w64 (i + 1))))) (
    .ret (.inr (.inr ())))

def r08_Few_L2 : Lp := ⟨2, [], [], (.cons (.val false (.list tSib)) (.cons .any (.cons .any (.cons (.val false (.int .i64)) (.cons .any (.cons .any (.cons .any (.cons .any (.cons .any (.cons .any (.cons .any (.cons .any (.cons .any (.cons .any (.cons .any (.cons .any (.cons .any (.cons .any (.cons .any (.cons .any (.cons .any (.cons .any (.cons .any (.cons .any (.cons .any (.cons .any (.cons .any (.cons .any (.cons .any (.cons .any (.cons .any (.cons .any (.cons .any (.cons .any .nil)))))))))))))))))))))))))))))))))), .nil, 0, .more 0 [] (.cons .any (.cons .any (.cons (.val false .bool) (.cons .any (.cons .any (.cons .any (.cons .any (.cons .any (.cons .any (.cons .any (.cons .any (.cons .any (.cons .any (.cons .any (.cons .any (.cons .any (.cons .any (.cons .any (.cons .any (.cons .any (.cons .any (.cons .any (.cons .any (.cons .any (.cons .any (.cons .any (.cons .any (.cons .any (.cons .any (.cons .any (.cons .any (.cons .any (.cons .any (.cons .any .nil)))))))))))))))))))))))))))))))))) .nil (.one 1 [] (.cons (.val false (.list tSib)) (.cons .any (.cons .any (.cons .any (.cons .any (.cons .any (.cons .any (.cons .any (.cons .any (.cons .any (.cons .any (.cons .any (.cons .any (.cons .any (.cons .any (.cons .any (.cons .any (.cons .any (.cons .any (.cons .any (.cons .any (.cons .any (.cons .any (.cons .any (.cons .any (.cons .any (.cons .any (.cons .any (.cons .any (.cons .any (.cons .any (.cons .any (.cons .any (.cons .any .nil)))))))))))))))))))))))))))))))))) .nil), fun z => .bnd (.loop (fun v => r08_Few_L2_step z.1.1 v) z.1.2.2.2.1) fun r => .sum r (fun a0 => .ret (.inl (((), ((), (a0, ((), ((), ((), ((), ((), ((), ((), ((), ((), ((), ((), ((), ((), ((), ((), ((), ((), ((), ((), ((), ((), ((), ((), ((), ((), ((), ((), ((), ((), ((), ((), ())))))))))))))))))))))))))))))))))), ()))) (fun b0 => .ret (.inr ((z.1.1, ((), ((), ((), ((), ((), ((), ((), ((), ((), ((), ((), ((), ((), ((), ((), ((), ((), ((), ((), ((), ((), ((), ((), ((), ((), ((), ((), ((), ((), ((), ((), ((), ((), ())))))))))))))))))))))))))))))))))), ())))⟩

theorem r08_Few_L2_ok : r08_Few_L2.ok Try.prog (nthC (loopsOf (bodyOf Try.f7)) 0) := by
  refine Lp.lift (π := List Sib) (V := Int) (ρ := (Bool ⊕ Unit)) mix tabOk r08_Few_L2 (o := orT [] [] noFz) (orT_sound trivial) (allLp_of [] (by kernel_rfl) trivial rfl) (fun x v => ((x, ((), ((), (v, ((), ((), ((), ((), ((), ((), ((), ((), ((), ((), ((), ((), ((), ((), ((), ((), ((), ((), ((), ((), ((), ((), ((), ((), ((), ((), ((), ((), ((), ((), ())))))))))))))))))))))))))))))))))), ())) (fun x r => match r with | .inl a0 => .inl (((), ((), (a0, ((), ((), ((), ((), ((), ((), ((), ((), ((), ((), ((), ((), ((), ((), ((), ((), ((), ((), ((), ((), ((), ((), ((), ((), ((), ((), ((), ((), ((), ((), ((), ())))))))))))))))))))))))))))))))))), ()) | .inr b0 => (.inr ((x, ((), ((), ((), ((), ((), ((), ((), ((), ((), ((), ((), ((), ((), ((), ((), ((), ((), ((), ((), ((), ((), ((), ((), ((), ((), ((), ((), ((), ((), ((), ((), ((), ((), ())))))))))))))))))))))))))))))))))), ()))) (fun x v => r08_Few_L2_step x v) (fun x r => .sum r (fun a0 => .ret (.inl (((), ((), (a0, ((), ((), ((), ((), ((), ((), ((), ((), ((), ((), ((), ((), ((), ((), ((), ((), ((), ((), ((), ((), ((), ((), ((), ((), ((), ((), ((), ((), ((), ((), ((), ())))))))))))))))))))))))))))))))))), ()))) (fun b0 => .ret (.inr ((x, ((), ((), ((), ((), ((), ((), ((), ((), ((), ((), ((), ((), ((), ((), ((), ((), ((), ((), ((), ((), ((), ((), ((), ((), ((), ((), ((), ((), ((), ((), ((), ((), ((), ())))))))))))))))))))))))))))))))))), ())))) (fun z => z.1.1) (fun z => z.1.2.2.2.1) (fun _ => rfl) (fun _ => rfl) (fun x r Q h => match r, h with | .inl _, h => h | .inr b0, h => (h)) ?_
  intro x v; kernel_rfl

def r08_Few_T (x0 : List Sib) : Tree Bool :=
  .bnd (.loop (fun v => r08_Few_L2_step x0 v) 0) fun r1 =>
  .sum r1 (fun r2 =>
    .ret r2) (fun r3 =>
    .ret (decide ((x0.length : Int) ≤ 12)))

noncomputable def r08_Few (x0 : List Sib) : Option Bool := (r08_Few_T x0).run

def r08_Few_g : Sig := ⟨7, (.cons (.val false (.list tSib)) .nil), .vals (.val false .bool), fun z => r08_Few_T z.1, false⟩

theorem r08_Few_ok : r08_Few_g.ok Try.prog := by
  refine Sig.lift mix tabOk nms _ Try.func7 (c := (bodyOf Try.f7)) (by kernel_rfl) (o := orT [] [r08_Few_L2] noFz) (orT_sound trivial) (allLp_of [nthC (loopsOf (bodyOf Try.f7)) 0] (by kernel_rfl) ⟨r08_Few_L2_ok, trivial⟩ (by kernel_rfl)) ?_
  intro z; kernel_rfl

def r06_Few_L2_step (c : List Seen) (i : Int) : Tree (Int ⊕ (Bool ⊕ Unit)) :=
  .ite ((decide (i < (c.length : Int))) && (decide (i < 12))) (
    ask (inb i c.length) <|
    ask ((!(!(decide ((100 : Int) < (((c.getD i.toNat (dfl tSeen : Seen)).1).length : Int))))) || inb i c.length) <|
    .ite ((decide ((100 : Int) < (((c.getD i.toNat (dfl tSeen : Seen)).1).length : Int))) || (decide ((40 : Int) < ((((c.getD i.toNat (dfl tSeen : Seen)).2).2).length : Int)))) (
      .ret (.inr (.inl false))) (
      .ret (.inl (w64 (i + 1))))) (
    .ret (.inr (.inr ())))

def r06_Few_L2 : Lp := ⟨2, [], [], (.cons (.val false (.list tSeen)) (.cons .any (.cons .any (.cons (.val false (.int .i64)) (.cons .any (.cons .any (.cons .any (.cons .any (.cons .any (.cons .any (.cons .any (.cons .any (.cons .any (.cons .any (.cons .any (.cons .any (.cons .any (.cons .any (.cons .any (.cons .any (.cons .any (.cons .any (.cons .any (.cons .any (.cons .any (.cons .any (.cons .any (.cons .any (.cons .any (.cons .any (.cons .any (.cons .any (.cons .any .nil))))))))))))))))))))))))))))))))), .nil, 0, .more 0 [] (.cons .any (.cons .any (.cons (.val false .bool) (.cons .any (.cons .any (.cons .any (.cons .any (.cons .any (.cons .any (.cons .any (.cons .any (.cons .any (.cons .any (.cons .any (.cons .any (.cons .any (.cons .any (.cons .any (.cons .any (.cons .any (.cons .any (.cons .any (.cons .any (.cons .any (.cons .any (.cons .any (.cons .any (.cons .any (.cons .any (.cons .any (.cons .any (.cons .any (.cons .any .nil))))))))))))))))))))))))))))))))) .nil (.one 1 [] (.cons (.val false (.list tSeen)) (.cons .any (.cons .any (.cons .any (.cons .any (.cons .any (.cons .any (.cons .any (.cons .any (.cons .any (.cons .any (.cons .any (.cons .any (.cons .any (.cons .any (.cons .any (.cons .any (.cons .any (.cons .any (.cons .any (.cons .any (.cons .any (.cons .any (.cons .any (.cons .any (.cons .any (.cons .any (.cons .any (.cons .any (.cons .any (.cons .any (.cons .any (.cons .any .nil))))))))))))))))))))))))))))))))) .nil), fun z => .bnd (.loop (fun v => r06_Few_L2_step z.1.1 v) z.1.2.2.2.1) fun r => .sum r (fun a0 => .ret (.inl (((), ((), (a0, ((), ((), ((), ((), ((), ((), ((), ((), ((), ((), ((), ((), ((), ((), ((), ((), ((), ((), ((), ((), ((), ((), ((), ((), ((), ((), ((), ((), ((), ((), ()))))))))))))))))))))))))))))))))), ()))) (fun b0 => .ret (.inr ((z.1.1, ((), ((), ((), ((), ((), ((), ((), ((), ((), ((), ((), ((), ((), ((), ((), ((), ((), ((), ((), ((), ((), ((), ((), ((), ((), ((), ((), ((), ((), ((), ((), ((), ()))))))))))))))))))))))))))))))))), ())))⟩

theorem r06_Few_L2_ok : r06_Few_L2.ok Try.prog (nthC (loopsOf (bodyOf Try.f19)) 0) := by
  refine Lp.lift (π := List Seen) (V := Int) (ρ := (Bool ⊕ Unit)) mix tabOk r06_Few_L2 (o := orT [] [] noFz) (orT_sound trivial) (allLp_of [] (by kernel_rfl) trivial rfl) (fun x v => ((x, ((), ((), (v, ((), ((), ((), ((), ((), ((), ((), ((), ((), ((), ((), ((), ((), ((), ((), ((), ((), ((), ((), ((), ((), ((), ((), ((), ((), ((), ((), ((), ((), ()))))))))))))))))))))))))))))))))), ())) (fun x r => match r with | .inl a0 => .inl (((), ((), (a0, ((), ((), ((), ((), ((), ((), ((), ((), ((), ((), ((), ((), ((), ((), ((), ((), ((), ((), ((), ((), ((), ((), ((), ((), ((), ((), ((), ((), ((), ((), ()))))))))))))))))))))))))))))))))), ()) | .inr b0 => (.inr ((x, ((), ((), ((), ((), ((), ((), ((), ((), ((), ((), ((), ((), ((), ((), ((), ((), ((), ((), ((), ((), ((), ((), ((), ((), ((), ((), ((), ((), ((), ((), ((), ((), ()))))))))))))))))))))))))))))))))), ()))) (fun x v => r06_Few_L2_step x v) (fun x r => .sum r (fun a0 => .ret (.inl (((), ((), (a0, ((), ((), ((), ((), ((), ((), ((), ((), ((), ((), ((), ((), ((), ((), ((), ((), ((), ((), ((), ((), ((), ((), ((), ((), ((), ((), ((), ((), ((), ((), ()))))))))))))))))))))))))))))))))), ()))) (fun b0 => .ret (.inr ((x, ((), ((), ((), ((), ((), ((), ((), ((), ((), ((), ((), ((), ((), ((), ((), ((), ((), ((), ((), ((), ((), ((), ((), ((), ((), ((), ((), ((), ((), ((), ((), ((), ()))))))))))))))))))))))))))))))))), ())))) (fun z => z.1.1) (fun z => z.1.2.2.2.1) (fun _ => rfl) (fun _ => rfl) (fun x r Q h => match r, h with | .inl _, h => h | .inr b0, h => (h)) ?_
  intro x v; kernel_rfl

def r06_Few_T (x0 : List Seen) : Tree Bool :=
  .bnd (.loop (fun v => r06_Few_L2_step x0 v) 0) fun r1 =>
  .sum r1 (fun r2 =>
    .ret r2) (fun r3 =>
    .ret (decide ((x0.length : Int) ≤ 12)))

noncomputable def r06_Few (x0 : List Seen) : Option Bool := (r06_Few_T x0).run

def r06_Few_g : Sig := ⟨19, (.cons (.val false (.list tSeen)) .nil), .vals (.val false .bool), fun z => r06_Few_T z.1, false⟩

theorem r06_Few_ok : r06_Few_g.ok Try.prog := by
  refine Sig.lift mix tabOk nms _ Try.func19 (c := (bodyOf Try.f19)) (by kernel_rfl) (o := orT [] [r06_Few_L2] noFz) (orT_sound trivial) (allLp_of [nthC (loopsOf (bodyOf Try.f19)) 0] (by kernel_rfl) ⟨r06_Few_L2_ok, trivial⟩ (by kernel_rfl)) ?_
  intro z; kernel_rfl

def r07_Few_L2_step (o : List Seen) (o2 : List Sib) (i : Int) : Tree (Int ⊕ (Bool ⊕ Unit)) :=
  .ite ((decide (i < (o2.length : Int))) && (decide (i < 12))) (
    ask (inb i o2.length) <|
    ask ((!(!(decide ((300 : Int) < ((((o2.getD i.toNat (dfl tSib : Sib)).2).1).length : Int))))) || inb i o2.length) <|
    .ite ((decide ((300 : Int) < ((((o2.getD i.toNat (dfl tSib : Sib)).2).1).length : Int))) || (decide ((100 : Int) < ((((o2.getD i.toNat (dfl tSib : Sib)).1).1).length : Int)))) (
      .ret (.inr (.inl false))) (
      .ret (.inl (w64 (i + 1))))) (
    .ret (.inr (.inr ())))

def r07_Few_L2 : Lp := ⟨2, [], [], (.cons .any (.cons (.ref 0 0) (.cons .any (.cons (.val false (.int .i64)) (.cons .any (.cons .any (.cons .any (.cons .any (.cons .any (.cons .any (.cons .any (.cons .any (.cons .any (.cons .any (.cons .any (.cons .any (.cons .any (.cons .any (.cons .any (.cons .any (.cons .any (.cons .any (.cons .any (.cons .any (.cons .any (.cons .any (.cons .any (.cons .any (.cons .any (.cons .any (.cons .any (.cons .any (.cons .any (.cons .any (.cons .any (.cons .any (.cons .any (.cons .any (.cons .any (.cons .any (.cons .any (.cons .any (.cons .any .nil))))))))))))))))))))))))))))))))))))))))))), (.cells 25 (.cons (.val false (.list tSeen)) (.cons (.val false (.list tSib)) .nil)) .nil), 0, .more 0 [] (.cons .any (.cons .any (.cons (.val false .bool) (.cons .any (.cons .any (.cons .any (.cons .any (.cons .any (.cons .any (.cons .any (.cons .any (.cons .any (.cons .any (.cons .any (.cons .any (.cons .any (.cons .any (.cons .any (.cons .any (.cons .any (.cons .any (.cons .any (.cons .any (.cons .any (.cons .any (.cons .any (.cons .any (.cons .any (.cons .any (.cons .any (.cons .any (.cons .any (.cons .any (.cons .any (.cons .any (.cons .any (.cons .any (.cons .any (.cons .any (.cons .any (.cons .any (.cons .any (.cons .any .nil))))))))))))))))))))))))))))))))))))))))))) .nil (.one 1 [] (.cons .any (.cons (.ref 0 0) (.cons .any (.cons .any (.cons .any (.cons .any (.cons .any (.cons .any (.cons .any (.cons .any (.cons .any (.cons .any (.cons .any (.cons .any (.cons .any (.cons .any (.cons .any (.cons .any (.cons .any (.cons .any (.cons .any (.cons .any (.cons .any (.cons .any (.cons .any (.cons .any (.cons .any (.cons .any (.cons .any (.cons .any (.cons .any (.cons .any (.cons .any (.cons .any (.cons .any (.cons .any (.cons .any (.cons .any (.cons .any (.cons .any (.cons .any (.cons .any (.cons .any .nil))))))))))))))))))))))))))))))))))))))))))) (.cells 25 (.cons (.val false (.list tSeen)) (.cons (.val false (.list tSib)) .nil)) .nil)), fun z => .bnd (.loop (fun v => r07_Few_L2_step z.2.1.1 z.2.1.2.1 v) z.1.2.2.2.1) fun r => .sum r (fun a0 => .ret (.inl (((), ((), (a0, ((), ((), ((), ((), ((), ((), ((), ((), ((), ((), ((), ((), ((), ((), ((), ((), ((), ((), ((), ((), ((), ((), ((), ((), ((), ((), ((), ((), ((), ((), ((), ((), ((), ((), ((), ((), ((), ((), ((), ((), ()))))))))))))))))))))))))))))))))))))))))))), ()))) (fun b0 => .ret (.inr (((), ((), ((), ((), ((), ((), ((), ((), ((), ((), ((), ((), ((), ((), ((), ((), ((), ((), ((), ((), ((), ((), ((), ((), ((), ((), ((), ((), ((), ((), ((), ((), ((), ((), ((), ((), ((), ((), ((), ((), ((), ((), ((), ()))))))))))))))))))))))))))))))))))))))))))), ((z.2.1.1, (z.2.1.2.1, ())), ()))))⟩

theorem r07_Few_L2_ok : r07_Few_L2.ok Try.prog (nthC (loopsOf (bodyOf Try.f8)) 0) := by
  refine Lp.lift (π := ((List Seen) × (List Sib))) (V := Int) (ρ := (Bool ⊕ Unit)) mix tabOk r07_Few_L2 (o := orT [r06_Few_g] [] noFz) (orT_sound ⟨r06_Few_ok, trivial⟩) (allLp_of [] (by kernel_rfl) trivial rfl) (fun x v => (((), ((), ((), (v, ((), ((), ((), ((), ((), ((), ((), ((), ((), ((), ((), ((), ((), ((), ((), ((), ((), ((), ((), ((), ((), ((), ((), ((), ((), ((), ((), ((), ((), ((), ((), ((), ((), ((), ((), ((), ((), ((), ((), ()))))))))))))))))))))))))))))))))))))))))))), ((x.1, (x.2, ())), ()))) (fun x r => match r with | .inl a0 => .inl (((), ((), (a0, ((), ((), ((), ((), ((), ((), ((), ((), ((), ((), ((), ((), ((), ((), ((), ((), ((), ((), ((), ((), ((), ((), ((), ((), ((), ((), ((), ((), ((), ((), ((), ((), ((), ((), ((), ((), ((), ((), ((), ((), ()))))))))))))))))))))))))))))))))))))))))))), ()) | .inr b0 => (.inr (((), ((), ((), ((), ((), ((), ((), ((), ((), ((), ((), ((), ((), ((), ((), ((), ((), ((), ((), ((), ((), ((), ((), ((), ((), ((), ((), ((), ((), ((), ((), ((), ((), ((), ((), ((), ((), ((), ((), ((), ((), ((), ((), ()))))))))))))))))))))))))))))))))))))))))))), ((x.1, (x.2, ())), ())))) (fun x v => r07_Few_L2_step x.1 x.2 v) (fun x r => .sum r (fun a0 => .ret (.inl (((), ((), (a0, ((), ((), ((), ((), ((), ((), ((), ((), ((), ((), ((), ((), ((), ((), ((), ((), ((), ((), ((), ((), ((), ((), ((), ((), ((), ((), ((), ((), ((), ((), ((), ((), ((), ((), ((), ((), ((), ((), ((), ((), ()))))))))))))))))))))))))))))))))))))))))))), ()))) (fun b0 => .ret (.inr (((), ((), ((), ((), ((), ((), ((), ((), ((), ((), ((), ((), ((), ((), ((), ((), ((), ((), ((), ((), ((), ((), ((), ((), ((), ((), ((), ((), ((), ((), ((), ((), ((), ((), ((), ((), ((), ((), ((), ((), ((), ((), ((), ()))))))))))))))))))))))))))))))))))))))))))), ((x.1, (x.2, ())), ()))))) (fun z => (z.2.1.1, z.2.1.2.1)) (fun z => z.1.2.2.2.1) (fun _ => rfl) (fun _ => rfl) (fun x r Q h => match r, h with | .inl _, h => h | .inr b0, h => (h)) ?_
  intro x v; kernel_rfl

def r07_Few_T (x0 : Obj) : Tree Bool :=
  .bnd (.loop (fun v => r07_Few_L2_step x0.1 x0.2 v) 0) fun r1 =>
  .sum r1 (fun r2 =>
    .ret r2) (fun r3 =>
    .bnd (r06_Few_T x0.1) fun y4 =>
    .ret (y4 && (decide ((x0.2.length : Int) ≤ 12))))

noncomputable def r07_Few (x0 : Obj) : Option Bool := (r07_Few_T x0).run

def r07_Few_g : Sig := ⟨8, (.cons (.val true tObj) .nil), .vals (.val false .bool), fun z => r07_Few_T z.1, false⟩

theorem r07_Few_ok : r07_Few_g.ok Try.prog := by
  refine Sig.lift mix tabOk nms _ Try.func8 (c := (bodyOf Try.f8)) (by kernel_rfl) (o := orT [r06_Few_g] [r07_Few_L2] noFz) (orT_sound ⟨r06_Few_ok, trivial⟩) (allLp_of [nthC (loopsOf (bodyOf Try.f8)) 0] (by kernel_rfl) ⟨r07_Few_L2_ok, trivial⟩ (by kernel_rfl)) ?_
  intro z; kernel_rfl

def cmp_isNaN_int_T (x0 : Int) : Tree Bool :=
  .ret (!decide (x0 = x0))

noncomputable def cmp_isNaN_int (x0 : Int) : Option Bool := (cmp_isNaN_int_T x0).run

def cmp_isNaN_int_g : Sig := ⟨37, (.cons (.val false (.int .i64)) .nil), .vals (.val false .bool), fun z => cmp_isNaN_int_T z.1, false⟩

theorem cmp_isNaN_int_ok : cmp_isNaN_int_g.ok Try.prog := by
  refine Sig.lift mix tabOk nms _ Try.func37 (c := (bodyOf Try.f37)) (by kernel_rfl) (o := orT [] [] noFz) (orT_sound trivial) (allLp_of [] (by kernel_rfl) trivial rfl) ?_
  intro z; kernel_rfl

def cmp_Compare_int_T (x0 : Int) (x1 : Int) : Tree Int :=
  .bnd (cmp_isNaN_int_T x0) fun y1 =>
  .bnd (cmp_isNaN_int_T x1) fun y2 =>
  .ite y1 (
    .ite y2 (
      .ret 0) (
      .ret (-1))) (
    .ite y2 (
      .ret 1) (
      .ite (decide (x0 < x1)) (
        .ret (-1)) (
        .ite (decide (x1 < x0)) (
          .ret 1) (
          .ret 0))))

noncomputable def cmp_Compare_int (x0 : Int) (x1 : Int) : Option Int := (cmp_Compare_int_T x0 x1).run

def cmp_Compare_int_g : Sig := ⟨30, (.cons (.val false (.int .i64)) (.cons (.val false (.int .i64)) .nil)), .vals (.val false (.int .i64)), fun z => cmp_Compare_int_T z.1 z.2.1, (0 : Int)⟩

theorem cmp_Compare_int_ok : cmp_Compare_int_g.ok Try.prog := by
  refine Sig.lift mix tabOk nms _ Try.func30 (c := (bodyOf Try.f30)) (by kernel_rfl) (o := orT [cmp_isNaN_int_g] [] noFz) (orT_sound ⟨cmp_isNaN_int_ok, trivial⟩) (allLp_of [] (by kernel_rfl) trivial rfl) ?_
  intro z; kernel_rfl

def cmpstring_T (x0 : Str) (x1 : Str) : Tree Int :=
  .ret (Lib.compareBytes x0 x1)

def cmpstring_g : Sig := ⟨41, (.cons (.val false .str) (.cons (.val false .str) .nil)), .vals (.val false (.int .i64)), fun z => cmpstring_T z.1 z.2.1, (0 : Int)⟩

theorem cmpstring_ok : cmpstring_g.ok Try.prog := by
  intro x y h
  cases h
  exact ACalls.cmpstring Try.func41 (by decide) rfl rfl rfl _ _

def bytealg_CompareString_T (x0 : Str) (x1 : Str) : Tree Int :=
  .bnd (cmpstring_T x0 x1) fun y1 =>
  .ret y1

noncomputable def bytealg_CompareString (x0 : Str) (x1 : Str) : Option Int := (bytealg_CompareString_T x0 x1).run

def bytealg_CompareString_g : Sig := ⟨38, (.cons (.val false .str) (.cons (.val false .str) .nil)), .vals (.val false (.int .i64)), fun z => bytealg_CompareString_T z.1 z.2.1, (0 : Int)⟩

theorem bytealg_CompareString_ok : bytealg_CompareString_g.ok Try.prog := by
  refine Sig.lift mix tabOk nms _ Try.func38 (c := (bodyOf Try.f38)) (by kernel_rfl) (o := orT [cmpstring_g] [] noFz) (orT_sound ⟨cmpstring_ok, trivial⟩) (allLp_of [] (by kernel_rfl) trivial rfl) ?_
  intro z; kernel_rfl

def strings_Compare_T (x0 : Str) (x1 : Str) : Tree Int :=
  .bnd (bytealg_CompareString_T x0 x1) fun y1 =>
  .ret y1

noncomputable def strings_Compare (x0 : Str) (x1 : Str) : Option Int := (strings_Compare_T x0 x1).run

def strings_Compare_g : Sig := ⟨31, (.cons (.val false .str) (.cons (.val false .str) .nil)), .vals (.val false (.int .i64)), fun z => strings_Compare_T z.1 z.2.1, (0 : Int)⟩

theorem strings_Compare_ok : strings_Compare_g.ok Try.prog := by
  refine Sig.lift mix tabOk nms _ Try.func31 (c := (bodyOf Try.f31)) (by kernel_rfl) (o := orT [bytealg_CompareString_g] [] noFz) (orT_sound ⟨bytealg_CompareString_ok, trivial⟩) (allLp_of [] (by kernel_rfl) trivial rfl) ?_
  intro z; kernel_rfl

def cmp_Or_int_L3_step (zero : Int) (t : List Int) (t2 : Int) (t3 : Int) : Tree (Int ⊕ (Int ⊕ Unit)) :=
  .ite (decide (t3 < t2)) (
    ask (inb t3 t.length) <|
    .ite (!decide ((t.getD t3.toNat (0 : Int)) = zero)) (
      .ret (.inr (.inl (t.getD t3.toNat (0 : Int))))) (
      .ret (.inl (w64 (t3 + 1))))) (
    .ret (.inr (.inr ())))

def cmp_Or_int_L3 : Lp := ⟨3, [], [], (.cons .any (.cons .any (.cons .any (.cons (.val false (.int .i64)) (.cons .any (.cons .any (.cons (.val false (.list (.int .i64))) (.cons (.val false (.int .i64)) (.cons (.val false (.int .i64)) (.cons .any (.cons .any (.cons .any (.cons .any (.cons .any (.cons .any (.cons .any (.cons .any (.cons .any .nil)))))))))))))))))), .nil, 0, .more 0 [] (.cons .any (.cons .any (.cons (.val false (.int .i64)) (.cons .any (.cons .any (.cons .any (.cons .any (.cons .any (.cons .any (.cons .any (.cons .any (.cons .any (.cons .any (.cons .any (.cons .any (.cons .any (.cons .any (.cons .any .nil)))))))))))))))))) .nil (.one 1 [] (.cons .any (.cons .any (.cons .any (.cons (.val false (.int .i64)) (.cons .any (.cons .any (.cons .any (.cons .any (.cons .any (.cons .any (.cons .any (.cons .any (.cons .any (.cons .any (.cons .any (.cons .any (.cons .any (.cons .any .nil)))))))))))))))))) .nil), fun z => .bnd (.loop (fun v => cmp_Or_int_L3_step z.1.2.2.2.1 z.1.2.2.2.2.2.2.1 z.1.2.2.2.2.2.2.2.1 v) z.1.2.2.2.2.2.2.2.2.1) fun r => .sum r (fun a0 => .ret (.inl (((), ((), (a0, ((), ((), ((), ((), ((), ((), ((), ((), ((), ((), ((), ((), ((), ((), ((), ())))))))))))))))))), ()))) (fun b0 => .ret (.inr (((), ((), ((), (z.1.2.2.2.1, ((), ((), ((), ((), ((), ((), ((), ((), ((), ((), ((), ((), ((), ((), ())))))))))))))))))), ())))⟩

theorem cmp_Or_int_L3_ok : cmp_Or_int_L3.ok Try.prog (nthC (loopsOf (bodyOf Try.f29)) 0) := by
  refine Lp.lift (π := (Int × (List Int) × Int)) (V := Int) (ρ := (Int ⊕ Unit)) mix tabOk cmp_Or_int_L3 (o := orT [] [] noFz) (orT_sound trivial) (allLp_of [] (by kernel_rfl) trivial rfl) (fun x v => (((), ((), ((), (x.1, ((), ((), (x.2.1, (x.2.2, (v, ((), ((), ((), ((), ((), ((), ((), ((), ((), ())))))))))))))))))), ())) (fun x r => match r with | .inl a0 => .inl (((), ((), (a0, ((), ((), ((), ((), ((), ((), ((), ((), ((), ((), ((), ((), ((), ((), ((), ())))))))))))))))))), ()) | .inr b0 => (.inr (((), ((), ((), (x.1, ((), ((), ((), ((), ((), ((), ((), ((), ((), ((), ((), ((), ((), ((), ())))))))))))))))))), ()))) (fun x v => cmp_Or_int_L3_step x.1 x.2.1 x.2.2 v) (fun x r => .sum r (fun a0 => .ret (.inl (((), ((), (a0, ((), ((), ((), ((), ((), ((), ((), ((), ((), ((), ((), ((), ((), ((), ((), ())))))))))))))))))), ()))) (fun b0 => .ret (.inr (((), ((), ((), (x.1, ((), ((), ((), ((), ((), ((), ((), ((), ((), ((), ((), ((), ((), ((), ())))))))))))))))))), ())))) (fun z => (z.1.2.2.2.1, z.1.2.2.2.2.2.2.1, z.1.2.2.2.2.2.2.2.1)) (fun z => z.1.2.2.2.2.2.2.2.2.1) (fun _ => rfl) (fun _ => rfl) (fun x r Q h => match r, h with | .inl _, h => h | .inr b0, h => (h)) ?_
  intro x v; kernel_rfl

def cmp_Or_int_T (x0 : List Int) : Tree Int :=
  .bnd (.loop (fun v => cmp_Or_int_L3_step 0 x0 (x0.length : Int) v) 0) fun r1 =>
  .sum r1 (fun r2 =>
    .ret r2) (fun r3 =>
    .ret 0)

noncomputable def cmp_Or_int (x0 : List Int) : Option Int := (cmp_Or_int_T x0).run

def cmp_Or_int_g : Sig := ⟨29, (.cons (.val false (.list (.int .i64))) .nil), .vals (.val false (.int .i64)), fun z => cmp_Or_int_T z.1, (0 : Int)⟩

theorem cmp_Or_int_ok : cmp_Or_int_g.ok Try.prog := by
  refine Sig.lift mix tabOk nms _ Try.func29 (c := (bodyOf Try.f29)) (by kernel_rfl) (o := orT [] [cmp_Or_int_L3] noFz) (orT_sound trivial) (allLp_of [nthC (loopsOf (bodyOf Try.f29)) 0] (by kernel_rfl) ⟨cmp_Or_int_L3_ok, trivial⟩ (by kernel_rfl)) ?_
  intro z; kernel_rfl

def last_compare_T (x0 : Sib) (x1 : Sib) : Tree Int :=
  .bnd (cmp_Compare_int_T x0.2.2.2 x1.2.2.2) fun y1 =>
  .bnd (strings_Compare_T x0.1.1 x1.1.1) fun y2 =>
  .bnd (cmp_Compare_int_T x0.1.2 x1.1.2) fun y3 =>
  .bnd (cmp_Or_int_T [y1, y2, y3]) fun y4 =>
  .ret y4

noncomputable def last_compare (x0 : Sib) (x1 : Sib) : Option Int := (last_compare_T x0 x1).run

def last_compare_g : Sig := ⟨23, (.cons (.val true tSib) (.cons (.val true tSib) .nil)), .vals (.val false (.int .i64)), fun z => last_compare_T z.1 z.2.1, (0 : Int)⟩

theorem last_compare_ok : last_compare_g.ok Try.prog := by
  refine Sig.lift mix tabOk nms _ Try.func23 (c := (bodyOf Try.f23)) (by kernel_rfl) (o := orT [cmp_Compare_int_g, strings_Compare_g, cmp_Or_int_g] [] noFz) (orT_sound ⟨cmp_Compare_int_ok, ⟨strings_Compare_ok, ⟨cmp_Or_int_ok, trivial⟩⟩⟩) (allLp_of [] (by kernel_rfl) trivial rfl) ?_
  intro z; kernel_rfl

def slices_MaxFunc_Sib_last_compare_L5_step (x_ : List Sib) (c : Str) (c2 : Int) (c3 : Str) (c4 : Bool) (c5 : Int) (i : Int) (m : Str) (m2 : Int) (m3 : Str) (m4 : Bool) (m5 : Int) : Tree ((Int × Str × Int × Str × Bool × Int) ⊕ (Str × Int × Str × Bool × Int)) :=
  .ite (decide (i < (x_.length : Int))) (
    ask (inb i x_.length) <|
    .bnd (last_compare_T (((x_.getD i.toNat (dfl tSib : Sib)).1), (((x_.getD i.toNat (dfl tSib : Sib)).2).1, (((x_.getD i.toNat (dfl tSib : Sib)).2).2))) ((m, m2), (m3, (m4, m5)))) fun y1 =>
    .ite (decide ((0 : Int) < y1)) (
      ask (inb i x_.length) <|
      .ret (.inl ((w64 (i + 1)), ((x_.getD i.toNat (dfl tSib : Sib)).1).1, ((x_.getD i.toNat (dfl tSib : Sib)).1).2, ((x_.getD i.toNat (dfl tSib : Sib)).2).1, (((x_.getD i.toNat (dfl tSib : Sib)).2).2).1, (((x_.getD i.toNat (dfl tSib : Sib)).2).2).2))) (
      .ret (.inl ((w64 (i + 1)), m, m2, m3, m4, m5)))) (
    .ret (.inr (m, m2, m3, m4, m5)))

def slices_MaxFunc_Sib_last_compare_L5 : Lp := ⟨5, [], [], (.cons (.val false (.list tSib)) (.cons (.fn 23 .nil .nil) (.cons .any (.cons .any (.cons (.ref 0 0) (.cons (.ref 1 0) (.cons (.val false (.int .i64)) (.cons .any (.cons .any (.cons .any (.cons .any (.cons .any (.cons .any (.cons .any (.cons .any (.cons .any (.cons .any (.cons .any (.cons .any (.cons .any (.cons .any (.cons .any (.cons .any (.cons .any (.cons .any (.cons .any (.cons .any (.cons .any (.cons .any (.cons .any (.cons .any (.cons .any (.cons .any .nil))))))))))))))))))))))))))))))))), (.cells 32 (.cons (.val false .str) (.cons (.val false (.int .i64)) (.cons (.val false .str) (.cons (.val false .bool) (.cons (.val false (.int .i64)) .nil))))) (.cells 32 (.cons (.val false .str) (.cons (.val false (.int .i64)) (.cons (.val false .str) (.cons (.val false .bool) (.cons (.val false (.int .i64)) .nil))))) .nil)), 0, .one 1 [] (.cons .any (.cons .any (.cons .any (.cons .any (.cons (.ref 0 0) (.cons (.ref 1 0) (.cons .any (.cons .any (.cons .any (.cons .any (.cons .any (.cons .any (.cons .any (.cons .any (.cons .any (.cons .any (.cons .any (.cons .any (.cons .any (.cons .any (.cons .any (.cons .any (.cons .any (.cons .any (.cons .any (.cons .any (.cons .any (.cons .any (.cons .any (.cons .any (.cons .any (.cons .any (.cons .any .nil))))))))))))))))))))))))))))))))) (.cells 32 (.cons (.val false .str) (.cons (.val false (.int .i64)) (.cons (.val false .str) (.cons (.val false .bool) (.cons (.val false (.int .i64)) .nil))))) (.cells 32 (.cons (.val false .str) (.cons (.val false (.int .i64)) (.cons (.val false .str) (.cons (.val false .bool) (.cons (.val false (.int .i64)) .nil))))) .nil)), fun z => .bnd (.loop (fun v => slices_MaxFunc_Sib_last_compare_L5_step z.1.1 z.2.1.1 z.2.1.2.1 z.2.1.2.2.1 z.2.1.2.2.2.1 z.2.1.2.2.2.2.1 v.1 v.2.1 v.2.2.1 v.2.2.2.1 v.2.2.2.2.1 v.2.2.2.2.2) (z.1.2.2.2.2.2.2.1, z.2.2.1.1, z.2.2.1.2.1, z.2.2.1.2.2.1, z.2.2.1.2.2.2.1, z.2.2.1.2.2.2.2.1)) fun r => .ret (((), ((), ((), ((), ((), ((), ((), ((), ((), ((), ((), ((), ((), ((), ((), ((), ((), ((), ((), ((), ((), ((), ((), ((), ((), ((), ((), ((), ((), ((), ((), ((), ((), ()))))))))))))))))))))))))))))))))), ((z.2.1.1, (z.2.1.2.1, (z.2.1.2.2.1, (z.2.1.2.2.2.1, (z.2.1.2.2.2.2.1, ()))))), ((r.1, (r.2.1, (r.2.2.1, (r.2.2.2.1, (r.2.2.2.2, ()))))), ())))⟩

theorem slices_MaxFunc_Sib_last_compare_L5_ok : slices_MaxFunc_Sib_last_compare_L5.ok Try.prog (nthC (loopsOf (bodyOf Try.f22)) 0) := by
  refine Lp.lift (π := ((List Sib) × Str × Int × Str × Bool × Int)) (V := (Int × Str × Int × Str × Bool × Int)) (ρ := (Str × Int × Str × Bool × Int)) mix tabOk slices_MaxFunc_Sib_last_compare_L5 (o := orT [last_compare_g] [] noFz) (orT_sound ⟨last_compare_ok, trivial⟩) (allLp_of [] (by kernel_rfl) trivial rfl) (fun x v => ((x.1, (((), ()), ((), ((), ((), ((), (v.1, ((), ((), ((), ((), ((), ((), ((), ((), ((), ((), ((), ((), ((), ((), ((), ((), ((), ((), ((), ((), ((), ((), ((), ((), ((), ((), ()))))))))))))))))))))))))))))))))), ((x.2.1, (x.2.2.1, (x.2.2.2.1, (x.2.2.2.2.1, (x.2.2.2.2.2, ()))))), ((v.2.1, (v.2.2.1, (v.2.2.2.1, (v.2.2.2.2.1, (v.2.2.2.2.2, ()))))), ())))) (fun x r => (((), ((), ((), ((), ((), ((), ((), ((), ((), ((), ((), ((), ((), ((), ((), ((), ((), ((), ((), ((), ((), ((), ((), ((), ((), ((), ((), ((), ((), ((), ((), ((), ((), ()))))))))))))))))))))))))))))))))), ((x.2.1, (x.2.2.1, (x.2.2.2.1, (x.2.2.2.2.1, (x.2.2.2.2.2, ()))))), ((r.1, (r.2.1, (r.2.2.1, (r.2.2.2.1, (r.2.2.2.2, ()))))), ())))) (fun x v => slices_MaxFunc_Sib_last_compare_L5_step x.1 x.2.1 x.2.2.1 x.2.2.2.1 x.2.2.2.2.1 x.2.2.2.2.2 v.1 v.2.1 v.2.2.1 v.2.2.2.1 v.2.2.2.2.1 v.2.2.2.2.2) (fun x r => .ret (((), ((), ((), ((), ((), ((), ((), ((), ((), ((), ((), ((), ((), ((), ((), ((), ((), ((), ((), ((), ((), ((), ((), ((), ((), ((), ((), ((), ((), ((), ((), ((), ((), ()))))))))))))))))))))))))))))))))), ((x.2.1, (x.2.2.1, (x.2.2.2.1, (x.2.2.2.2.1, (x.2.2.2.2.2, ()))))), ((r.1, (r.2.1, (r.2.2.1, (r.2.2.2.1, (r.2.2.2.2, ()))))), ())))) (fun z => (z.1.1, z.2.1.1, z.2.1.2.1, z.2.1.2.2.1, z.2.1.2.2.2.1, z.2.1.2.2.2.2.1)) (fun z => (z.1.2.2.2.2.2.2.1, z.2.2.1.1, z.2.2.1.2.1, z.2.2.1.2.2.1, z.2.2.1.2.2.2.1, z.2.2.1.2.2.2.2.1)) (fun _ => rfl) (fun _ => rfl) (fun _ _ _ h => h) ?_
  intro x v; kernel_rfl

def slices_MaxFunc_Sib_last_compare_T (x0 : List Sib) : Tree Sib :=
  .ite (decide ((x0.length : Int) < 1)) (
    .fail) (
    ask (inb 0 x0.length) <|
    .bnd (.loop (fun v => slices_MaxFunc_Sib_last_compare_L5_step x0 [] 0 [] false 0 v.1 v.2.1 v.2.2.1 v.2.2.2.1 v.2.2.2.2.1 v.2.2.2.2.2) (1, ((x0.getD ((0 : Int).toNat) (dfl tSib : Sib)).1).1, ((x0.getD ((0 : Int).toNat) (dfl tSib : Sib)).1).2, ((x0.getD ((0 : Int).toNat) (dfl tSib : Sib)).2).1, (((x0.getD ((0 : Int).toNat) (dfl tSib : Sib)).2).2).1, (((x0.getD ((0 : Int).toNat) (dfl tSib : Sib)).2).2).2)) fun r1 =>
    .ret ((r1.1, r1.2.1), r1.2.2))

noncomputable def slices_MaxFunc_Sib_last_compare (x0 : List Sib) : Option Sib := (slices_MaxFunc_Sib_last_compare_T x0).run

def slices_MaxFunc_Sib_last_compare_g : Sig := ⟨22, (.cons (.val false (.list tSib)) (.cons (.fn 23 .nil .nil) .nil)), .vals (.val true tSib), fun z => slices_MaxFunc_Sib_last_compare_T z.1, (dfl tSib : Sib)⟩

theorem slices_MaxFunc_Sib_last_compare_ok : slices_MaxFunc_Sib_last_compare_g.ok Try.prog := by
  refine Sig.lift mix tabOk nms _ Try.func22 (c := (bodyOf Try.f22)) (by kernel_rfl) (o := orT [last_compare_g] [slices_MaxFunc_Sib_last_compare_L5] noFz) (orT_sound ⟨last_compare_ok, trivial⟩) (allLp_of [nthC (loopsOf (bodyOf Try.f22)) 0] (by kernel_rfl) ⟨slices_MaxFunc_Sib_last_compare_L5_ok, trivial⟩ (by kernel_rfl)) ?_
  intro z; kernel_rfl

def last_Latest_T (x0 : List Sib) : Tree (Sib × Bool × Unit) :=
  .ite (decide ((x0.length : Int) = 0)) (
    .ret ((([], 0), ([], (false, 0))), false, ())) (
    .bnd (slices_MaxFunc_Sib_last_compare_T x0) fun y1 =>
    .ret (y1, true, ()))

noncomputable def last_Latest (x0 : List Sib) : Option (Sib × Bool × Unit) := (last_Latest_T x0).run

def last_Latest_g : Sig := ⟨10, (.cons (.val false (.list tSib)) .nil), .vals (.cons (.val true tSib) (.cons (.val false .bool) .nil)), fun z => last_Latest_T z.1, ((dfl tSib : Sib), false, ())⟩

theorem last_Latest_ok : last_Latest_g.ok Try.prog := by
  refine Sig.lift mix tabOk nms _ Try.func10 (c := (bodyOf Try.f10)) (by kernel_rfl) (o := orT [slices_MaxFunc_Sib_last_compare_g] [] noFz) (orT_sound ⟨slices_MaxFunc_Sib_last_compare_ok, trivial⟩) (allLp_of [] (by kernel_rfl) trivial rfl) ?_
  intro z; kernel_rfl

def last_Later_T (x0 : Sib) (x1 : Sib) : Tree Bool :=
  .bnd (last_compare_T x0 x1) fun y1 =>
  .ret (decide ((0 : Int) < y1))

noncomputable def last_Later (x0 : Sib) (x1 : Sib) : Option Bool := (last_Later_T x0 x1).run

def last_Later_g : Sig := ⟨12, (.cons (.val true tSib) (.cons (.val true tSib) .nil)), .vals (.val false .bool), fun z => last_Later_T z.1 z.2.1, false⟩

theorem last_Later_ok : last_Later_g.ok Try.prog := by
  refine Sig.lift mix tabOk nms _ Try.func12 (c := (bodyOf Try.f12)) (by kernel_rfl) (o := orT [last_compare_g] [] noFz) (orT_sound ⟨last_compare_ok, trivial⟩) (allLp_of [] (by kernel_rfl) trivial rfl) ?_
  intro z; kernel_rfl

def slices_Clone_Sib_T (x0 : List Sib) : Tree (List Sib) :=
  .ite (Nat.beq x0.length 0) (
    .both (
      .ret []) (
      ask (decide (x0.length * 56 ≤ roomNat)) <|
      .ret x0)) (
    ask (decide (x0.length * 56 ≤ roomNat)) <|
    .ret x0)

noncomputable def slices_Clone_Sib (x0 : List Sib) : Option (List Sib) := (slices_Clone_Sib_T x0).run

def slices_Clone_Sib_g : Sig := ⟨25, (.cons (.val false (.list tSib)) .nil), .fresh 32 tSib, fun z => slices_Clone_Sib_T z.1, ([] : List Sib)⟩

theorem slices_Clone_Sib_ok : slices_Clone_Sib_g.ok Try.prog := by
  refine Sig.lift mix tabOk nms _ Try.func25 (c := (bodyOf Try.f25)) (by kernel_rfl) (o := orT [] [] noFz) (orT_sound trivial) (allLp_of [] (by kernel_rfl) trivial rfl) ?_
  intro z; kernel_rfl

def slices_Clone_Sib_gv : Sig := ⟨25, (.cons (.val false (.list tSib)) .nil), .vals (.val false (.list tSib)), fun z => slices_Clone_Sib_T z.1, ([] : List Sib)⟩

theorem slices_Clone_Sib_okv : slices_Clone_Sib_gv.ok Try.prog := fun x y h => acalls_val (slices_Clone_Sib_ok x y h)

def last_Live_1_T (x0 : Sib) : Tree Bool :=
  .ret x0.2.2.1

noncomputable def last_Live_1 (x0 : Sib) : Option Bool := (last_Live_1_T x0).run

def last_Live_1_g : Sig := ⟨26, (.cons (.val true tSib) .nil), .vals (.val false .bool), fun z => last_Live_1_T z.1, false⟩

theorem last_Live_1_ok : last_Live_1_g.ok Try.prog := by
  refine Sig.lift mix tabOk nms _ Try.func26 (c := (bodyOf Try.f26)) (by kernel_rfl) (o := orT [] [] noFz) (orT_sound trivial) (allLp_of [] (by kernel_rfl) trivial rfl) ?_
  intro z; kernel_rfl

def slices_IndexFunc_Sib_last_Live_1_L2_step (s_ : List Sib) (t : Int) (t2 : Int) : Tree (Int ⊕ (Int ⊕ Unit)) :=
  .ite (decide (t2 < t)) (
    ask (inb t2 s_.length) <|
    .bnd (last_Live_1_T (((s_.getD t2.toNat (dfl tSib : Sib)).1), (((s_.getD t2.toNat (dfl tSib : Sib)).2).1, (((s_.getD t2.toNat (dfl tSib : Sib)).2).2)))) fun y1 =>
    .ite y1 (
      .ret (.inr (.inl t2))) (
      .ret (.inl (w64 (t2 + 1))))) (
    .ret (.inr (.inr ())))

def slices_IndexFunc_Sib_last_Live_1_L2 : Lp := ⟨2, [], [], (.cons (.val false (.list tSib)) (.cons (.fn 26 .nil .nil) (.cons .any (.cons .any (.cons .any (.cons .any (.cons .any (.cons (.val false (.int .i64)) (.cons (.val false (.int .i64)) (.cons .any (.cons .any (.cons .any (.cons .any (.cons .any (.cons .any (.cons .any (.cons .any (.cons .any (.cons .any .nil))))))))))))))))))), .nil, 0, .more 0 [] (.cons .any (.cons .any (.cons .any (.cons .any (.cons (.val false (.int .i64)) (.cons .any (.cons .any (.cons .any (.cons .any (.cons .any (.cons .any (.cons .any (.cons .any (.cons .any (.cons .any (.cons .any (.cons .any (.cons .any (.cons .any .nil))))))))))))))))))) .nil (.one 1 [] (.cons .any (.cons .any (.cons .any (.cons .any (.cons .any (.cons .any (.cons .any (.cons .any (.cons .any (.cons .any (.cons .any (.cons .any (.cons .any (.cons .any (.cons .any (.cons .any (.cons .any (.cons .any (.cons .any .nil))))))))))))))))))) .nil), fun z => .bnd (.loop (fun v => slices_IndexFunc_Sib_last_Live_1_L2_step z.1.1 z.1.2.2.2.2.2.2.2.1 v) z.1.2.2.2.2.2.2.2.2.1) fun r => .sum r (fun a0 => .ret (.inl (((), ((), ((), ((), (a0, ((), ((), ((), ((), ((), ((), ((), ((), ((), ((), ((), ((), ((), ((), ()))))))))))))))))))), ()))) (fun b0 => .ret (.inr (((), ((), ((), ((), ((), ((), ((), ((), ((), ((), ((), ((), ((), ((), ((), ((), ((), ((), ((), ()))))))))))))))))))), ())))⟩

theorem slices_IndexFunc_Sib_last_Live_1_L2_ok : slices_IndexFunc_Sib_last_Live_1_L2.ok Try.prog (nthC (loopsOf (bodyOf Try.f32)) 0) := by
  refine Lp.lift (π := ((List Sib) × Int)) (V := Int) (ρ := (Int ⊕ Unit)) mix tabOk slices_IndexFunc_Sib_last_Live_1_L2 (o := orT [last_Live_1_g] [] noFz) (orT_sound ⟨last_Live_1_ok, trivial⟩) (allLp_of [] (by kernel_rfl) trivial rfl) (fun x v => ((x.1, (((), ()), ((), ((), ((), ((), ((), (x.2, (v, ((), ((), ((), ((), ((), ((), ((), ((), ((), ((), ()))))))))))))))))))), ())) (fun x r => match r with | .inl a0 => .inl (((), ((), ((), ((), (a0, ((), ((), ((), ((), ((), ((), ((), ((), ((), ((), ((), ((), ((), ((), ()))))))))))))))))))), ()) | .inr b0 => (.inr (((), ((), ((), ((), ((), ((), ((), ((), ((), ((), ((), ((), ((), ((), ((), ((), ((), ((), ((), ()))))))))))))))))))), ()))) (fun x v => slices_IndexFunc_Sib_last_Live_1_L2_step x.1 x.2 v) (fun x r => .sum r (fun a0 => .ret (.inl (((), ((), ((), ((), (a0, ((), ((), ((), ((), ((), ((), ((), ((), ((), ((), ((), ((), ((), ((), ()))))))))))))))))))), ()))) (fun b0 => .ret (.inr (((), ((), ((), ((), ((), ((), ((), ((), ((), ((), ((), ((), ((), ((), ((), ((), ((), ((), ((), ()))))))))))))))))))), ())))) (fun z => (z.1.1, z.1.2.2.2.2.2.2.2.1)) (fun z => z.1.2.2.2.2.2.2.2.2.1) (fun _ => rfl) (fun _ => rfl) (fun x r Q h => match r, h with | .inl _, h => h | .inr b0, h => (h)) ?_
  intro x v; kernel_rfl

def slices_IndexFunc_Sib_last_Live_1_T (x0 : List Sib) : Tree Int :=
  .bnd (.loop (fun v => slices_IndexFunc_Sib_last_Live_1_L2_step x0 (x0.length : Int) v) 0) fun r1 =>
  .sum r1 (fun r2 =>
    .ret r2) (fun r3 =>
    .ret (-1))

noncomputable def slices_IndexFunc_Sib_last_Live_1 (x0 : List Sib) : Option Int := (slices_IndexFunc_Sib_last_Live_1_T x0).run

def slices_IndexFunc_Sib_last_Live_1_g : Sig := ⟨32, (.cons (.val false (.list tSib)) (.cons (.fn 26 .nil .nil) .nil)), .vals (.val false (.int .i64)), fun z => slices_IndexFunc_Sib_last_Live_1_T z.1, (0 : Int)⟩

theorem slices_IndexFunc_Sib_last_Live_1_ok : slices_IndexFunc_Sib_last_Live_1_g.ok Try.prog := by
  refine Sig.lift mix tabOk nms _ Try.func32 (c := (bodyOf Try.f32)) (by kernel_rfl) (o := orT [last_Live_1_g] [slices_IndexFunc_Sib_last_Live_1_L2] noFz) (orT_sound ⟨last_Live_1_ok, trivial⟩) (allLp_of [nthC (loopsOf (bodyOf Try.f32)) 0] (by kernel_rfl) ⟨slices_IndexFunc_Sib_last_Live_1_L2_ok, trivial⟩ (by kernel_rfl)) ?_
  intro z; kernel_rfl

def slices_DeleteFunc_Sib_last_Live_1_L5_step (i : Int) (j : Int) (s_ : List Sib) : Tree ((Int × Int × (List Sib)) ⊕ (Int × (List Sib))) :=
  .ite (decide (j < (s_.length : Int))) (
    ask (inb j s_.length) <|
    .bnd (last_Live_1_T (((s_.getD j.toNat (dfl tSib : Sib)).1), (((s_.getD j.toNat (dfl tSib : Sib)).2).1, (((s_.getD j.toNat (dfl tSib : Sib)).2).2)))) fun y1 =>
    .ite (!y1) (
      ask (inb i s_.length) <|
      .ret (.inl ((w64 (i + 1)), (w64 (j + 1)), (s_.set i.toNat (((s_.getD j.toNat (dfl tSib : Sib)).1), (((s_.getD j.toNat (dfl tSib : Sib)).2).1, (((s_.getD j.toNat (dfl tSib : Sib)).2).2))))))) (
      .ret (.inl (i, (w64 (j + 1)), s_)))) (
    .ret (.inr (i, s_)))

def slices_DeleteFunc_Sib_last_Live_1_L5 : Lp := ⟨5, [], [], (.cons (.own 0) (.cons (.fn 26 .nil .nil) (.cons .any (.cons .any (.cons .any (.cons (.val false (.int .i64)) (.cons (.val false (.int .i64)) (.cons .any (.cons .any (.cons .any (.cons .any (.cons .any (.cons .any (.cons .any (.cons .any (.cons .any (.cons .any (.cons .any (.cons .any (.cons .any (.cons .any (.cons .any (.cons .any (.cons .any (.cons .any (.cons .any (.cons .any (.cons .any (.cons .any (.cons .any (.cons .any (.cons .any (.cons .any (.cons .any (.cons .any (.cons .any (.cons .any (.cons .any (.cons .any (.cons .any (.cons .any (.cons .any .nil)))))))))))))))))))))))))))))))))))))))))), (.rows 32 tSib .nil), 1, .one 1 [] (.cons (.own 0) (.cons .any (.cons .any (.cons .any (.cons .any (.cons (.val false (.int .i64)) (.cons .any (.cons .any (.cons .any (.cons .any (.cons .any (.cons .any (.cons .any (.cons .any (.cons .any (.cons .any (.cons .any (.cons .any (.cons .any (.cons .any (.cons .any (.cons .any (.cons .any (.cons .any (.cons .any (.cons .any (.cons .any (.cons .any (.cons .any (.cons .any (.cons .any (.cons .any (.cons .any (.cons .any (.cons .any (.cons .any (.cons .any (.cons .any (.cons .any (.cons .any (.cons .any (.cons .any .nil)))))))))))))))))))))))))))))))))))))))))) (.rows 32 tSib .nil), fun z => .bnd (.loop (fun v => slices_DeleteFunc_Sib_last_Live_1_L5_step v.1 v.2.1 v.2.2) (z.1.2.2.2.2.2.1, z.1.2.2.2.2.2.2.1, z.2.1)) fun r => .ret (((), ((), ((), ((), ((), (r.1, ((), ((), ((), ((), ((), ((), ((), ((), ((), ((), ((), ((), ((), ((), ((), ((), ((), ((), ((), ((), ((), ((), ((), ((), ((), ((), ((), ((), ((), ((), ((), ((), ((), ((), ((), ((), ())))))))))))))))))))))))))))))))))))))))))), (r.2, ()))⟩

theorem slices_DeleteFunc_Sib_last_Live_1_L5_ok : slices_DeleteFunc_Sib_last_Live_1_L5.ok Try.prog (nthC (loopsOf (bodyOf Try.f24)) 0) := by
  refine Lp.lift (π := Unit) (V := (Int × Int × (List Sib))) (ρ := (Int × (List Sib))) mix tabOk slices_DeleteFunc_Sib_last_Live_1_L5 (o := orT [slices_IndexFunc_Sib_last_Live_1_g, last_Live_1_g] [] noFz) (orT_sound ⟨slices_IndexFunc_Sib_last_Live_1_ok, ⟨last_Live_1_ok, trivial⟩⟩) (allLp_of [] (by kernel_rfl) trivial rfl) (fun x v => (((), (((), ()), ((), ((), ((), (v.1, (v.2.1, ((), ((), ((), ((), ((), ((), ((), ((), ((), ((), ((), ((), ((), ((), ((), ((), ((), ((), ((), ((), ((), ((), ((), ((), ((), ((), ((), ((), ((), ((), ((), ((), ((), ((), ((), ())))))))))))))))))))))))))))))))))))))))))), (v.2.2, ()))) (fun x r => (((), ((), ((), ((), ((), (r.1, ((), ((), ((), ((), ((), ((), ((), ((), ((), ((), ((), ((), ((), ((), ((), ((), ((), ((), ((), ((), ((), ((), ((), ((), ((), ((), ((), ((), ((), ((), ((), ((), ((), ((), ((), ((), ())))))))))))))))))))))))))))))))))))))))))), (r.2, ()))) (fun x v => slices_DeleteFunc_Sib_last_Live_1_L5_step v.1 v.2.1 v.2.2) (fun x r => .ret (((), ((), ((), ((), ((), (r.1, ((), ((), ((), ((), ((), ((), ((), ((), ((), ((), ((), ((), ((), ((), ((), ((), ((), ((), ((), ((), ((), ((), ((), ((), ((), ((), ((), ((), ((), ((), ((), ((), ((), ((), ((), ((), ())))))))))))))))))))))))))))))))))))))))))), (r.2, ()))) (fun z => ()) (fun z => (z.1.2.2.2.2.2.1, z.1.2.2.2.2.2.2.1, z.2.1)) (fun _ => rfl) (fun _ => rfl) (fun _ _ _ h => h) ?_
  intro x v; kernel_rfl

def slices_DeleteFunc_Sib_last_Live_1_T (x0 : List Sib) : Tree (List Sib × Unit) :=
  .bnd (slices_IndexFunc_Sib_last_Live_1_T x0) fun y1 =>
  .ite (decide (y1 = (-1))) (
    .ret (x0, ())) (
    .bnd (.loop (fun v => slices_DeleteFunc_Sib_last_Live_1_L5_step v.1 v.2.1 v.2.2) (y1, (w64 (y1 + 1)), x0)) fun r2 =>
    ask (inbe r2.1 r2.2.length) <|
    ask (inbe r2.1 (clearL r2.1.toNat (r2.2.length - r2.1.toNat) (([], 0), ([], (false, 0))) r2.2).length) <|
    .ret ((((clearL r2.1.toNat (r2.2.length - r2.1.toNat) (([], 0), ([], (false, 0))) r2.2).drop 0).take r2.1.toNat), ()))

noncomputable def slices_DeleteFunc_Sib_last_Live_1 (x0 : List Sib) : Option (List Sib × Unit) := (slices_DeleteFunc_Sib_last_Live_1_T x0).run

def slices_DeleteFunc_Sib_last_Live_1_g : MSig := ⟨24, (.cons (.own 0) (.cons (.fn 26 .nil .nil) .nil)), (.rows 32 tSib .nil), [.frz 0], (.val false (.list tSib)), (.dead .nil), some 0, fun z => slices_DeleteFunc_Sib_last_Live_1_T z.2.1⟩

theorem slices_DeleteFunc_Sib_last_Live_1_ok : slices_DeleteFunc_Sib_last_Live_1_g.ok Try.prog := by
  refine MSig.lift mix tabOk nms _ Try.func24 (c := (bodyOf Try.f24)) (by kernel_rfl) (o := orT [slices_IndexFunc_Sib_last_Live_1_g, last_Live_1_g] [slices_DeleteFunc_Sib_last_Live_1_L5] noFz) (orT_sound ⟨slices_IndexFunc_Sib_last_Live_1_ok, ⟨last_Live_1_ok, trivial⟩⟩) (allLp_of [nthC (loopsOf (bodyOf Try.f24)) 0] (by kernel_rfl) ⟨slices_DeleteFunc_Sib_last_Live_1_L5_ok, trivial⟩ (by kernel_rfl)) (fun _ => rfl) ?_
  intro z; kernel_rfl

def last_Live_T (x0 : List Sib) : Tree (List Sib) :=
  .bnd (slices_Clone_Sib_T x0) fun y1 =>
  .bnd (slices_DeleteFunc_Sib_last_Live_1_T y1) fun y2 =>
  .ret y2.1

noncomputable def last_Live (x0 : List Sib) : Option (List Sib) := (last_Live_T x0).run

def last_Live_g : Sig := ⟨15, (.cons (.val false (.list tSib)) .nil), .vals (.val false (.list tSib)), fun z => last_Live_T z.1, ([] : List Sib)⟩

theorem last_Live_ok : last_Live_g.ok Try.prog := by
  refine Sig.lift mix tabOk nms _ Try.func15 (c := (bodyOf Try.f15)) (by kernel_rfl) (o := orM [slices_Clone_Sib_g] [slices_DeleteFunc_Sib_last_Live_1_g] [] noFz) (orM_sound ⟨slices_Clone_Sib_ok, trivial⟩ ⟨slices_DeleteFunc_Sib_last_Live_1_ok, trivial⟩) (allLp_ofM [] (by kernel_rfl) trivial rfl) ?_
  intro z; kernel_rfl

def last_Answer_T (x0 : Obj) (x1 : Bool) : Tree (List Sib) :=
  .ite x1 (
    .bnd (last_Live_T x0.2) fun y1 =>
    .ret y1) (
    .bnd (last_Latest_T x0.2) fun y2 =>
    .ite (!y2.2.1) (
      .ret []) (
      .bnd (last_Live_T [y2.1]) fun y3 =>
      .ret y3))

noncomputable def last_Answer (x0 : Obj) (x1 : Bool) : Option (List Sib) := (last_Answer_T x0 x1).run

def last_Answer_g : Sig := ⟨17, (.cons (.val true tObj) (.cons (.val false .bool) .nil)), .vals (.val false (.list tSib)), fun z => last_Answer_T z.1 z.2.1, ([] : List Sib)⟩

theorem last_Answer_ok : last_Answer_g.ok Try.prog := by
  refine Sig.lift mix tabOk nms _ Try.func17 (c := (bodyOf Try.f17)) (by kernel_rfl) (o := orT [last_Live_g, last_Latest_g] [] noFz) (orT_sound ⟨last_Live_ok, ⟨last_Latest_ok, trivial⟩⟩) (allLp_of [] (by kernel_rfl) trivial rfl) ?_
  intro z; kernel_rfl

def slices_Index_int_L2_step (s_ : List Int) (v : Int) (t : Int) (t2 : Int) : Tree (Int ⊕ (Int ⊕ Unit)) :=
  .ite (decide (t2 < t)) (
    ask (inb t2 s_.length) <|
    .ite (decide (v = (s_.getD t2.toNat (0 : Int)))) (
      .ret (.inr (.inl t2))) (
      .ret (.inl (w64 (t2 + 1))))) (
    .ret (.inr (.inr ())))

def slices_Index_int_L2 : Lp := ⟨2, [], [], (.cons (.val false (.list (.int .i64))) (.cons (.val false (.int .i64)) (.cons .any (.cons .any (.cons .any (.cons .any (.cons .any (.cons (.val false (.int .i64)) (.cons (.val false (.int .i64)) (.cons .any (.cons .any (.cons .any (.cons .any (.cons .any (.cons .any (.cons .any (.cons .any (.cons .any (.cons .any .nil))))))))))))))))))), .nil, 0, .more 0 [] (.cons .any (.cons .any (.cons .any (.cons .any (.cons (.val false (.int .i64)) (.cons .any (.cons .any (.cons .any (.cons .any (.cons .any (.cons .any (.cons .any (.cons .any (.cons .any (.cons .any (.cons .any (.cons .any (.cons .any (.cons .any .nil))))))))))))))))))) .nil (.one 1 [] (.cons .any (.cons .any (.cons .any (.cons .any (.cons .any (.cons .any (.cons .any (.cons .any (.cons .any (.cons .any (.cons .any (.cons .any (.cons .any (.cons .any (.cons .any (.cons .any (.cons .any (.cons .any (.cons .any .nil))))))))))))))))))) .nil), fun z => .bnd (.loop (fun v => slices_Index_int_L2_step z.1.1 z.1.2.1 z.1.2.2.2.2.2.2.2.1 v) z.1.2.2.2.2.2.2.2.2.1) fun r => .sum r (fun a0 => .ret (.inl (((), ((), ((), ((), (a0, ((), ((), ((), ((), ((), ((), ((), ((), ((), ((), ((), ((), ((), ((), ()))))))))))))))))))), ()))) (fun b0 => .ret (.inr (((), ((), ((), ((), ((), ((), ((), ((), ((), ((), ((), ((), ((), ((), ((), ((), ((), ((), ((), ()))))))))))))))))))), ())))⟩

theorem slices_Index_int_L2_ok : slices_Index_int_L2.ok Try.prog (nthC (loopsOf (bodyOf Try.f40)) 0) := by
  refine Lp.lift (π := ((List Int) × Int × Int)) (V := Int) (ρ := (Int ⊕ Unit)) mix tabOk slices_Index_int_L2 (o := orT [] [] noFz) (orT_sound trivial) (allLp_of [] (by kernel_rfl) trivial rfl) (fun x v => ((x.1, (x.2.1, ((), ((), ((), ((), ((), (x.2.2, (v, ((), ((), ((), ((), ((), ((), ((), ((), ((), ((), ()))))))))))))))))))), ())) (fun x r => match r with | .inl a0 => .inl (((), ((), ((), ((), (a0, ((), ((), ((), ((), ((), ((), ((), ((), ((), ((), ((), ((), ((), ((), ()))))))))))))))))))), ()) | .inr b0 => (.inr (((), ((), ((), ((), ((), ((), ((), ((), ((), ((), ((), ((), ((), ((), ((), ((), ((), ((), ((), ()))))))))))))))))))), ()))) (fun x v => slices_Index_int_L2_step x.1 x.2.1 x.2.2 v) (fun x r => .sum r (fun a0 => .ret (.inl (((), ((), ((), ((), (a0, ((), ((), ((), ((), ((), ((), ((), ((), ((), ((), ((), ((), ((), ((), ()))))))))))))))))))), ()))) (fun b0 => .ret (.inr (((), ((), ((), ((), ((), ((), ((), ((), ((), ((), ((), ((), ((), ((), ((), ((), ((), ((), ((), ()))))))))))))))))))), ())))) (fun z => (z.1.1, z.1.2.1, z.1.2.2.2.2.2.2.2.1)) (fun z => z.1.2.2.2.2.2.2.2.2.1) (fun _ => rfl) (fun _ => rfl) (fun x r Q h => match r, h with | .inl _, h => h | .inr b0, h => (h)) ?_
  intro x v; kernel_rfl

def slices_Index_int_T (x0 : List Int) (x1 : Int) : Tree Int :=
  .bnd (.loop (fun v => slices_Index_int_L2_step x0 x1 (x0.length : Int) v) 0) fun r1 =>
  .sum r1 (fun r2 =>
    .ret r2) (fun r3 =>
    .ret (-1))

noncomputable def slices_Index_int (x0 : List Int) (x1 : Int) : Option Int := (slices_Index_int_T x0 x1).run

def slices_Index_int_g : Sig := ⟨40, (.cons (.val false (.list (.int .i64))) (.cons (.val false (.int .i64)) .nil)), .vals (.val false (.int .i64)), fun z => slices_Index_int_T z.1 z.2.1, (0 : Int)⟩

theorem slices_Index_int_ok : slices_Index_int_g.ok Try.prog := by
  refine Sig.lift mix tabOk nms _ Try.func40 (c := (bodyOf Try.f40)) (by kernel_rfl) (o := orT [] [slices_Index_int_L2] noFz) (orT_sound trivial) (allLp_of [nthC (loopsOf (bodyOf Try.f40)) 0] (by kernel_rfl) ⟨slices_Index_int_L2_ok, trivial⟩ (by kernel_rfl)) ?_
  intro z; kernel_rfl

def slices_Contains_int_T (x0 : List Int) (x1 : Int) : Tree Bool :=
  .bnd (slices_Index_int_T x0 x1) fun y1 =>
  .ret (decide ((0 : Int) ≤ y1))

noncomputable def slices_Contains_int (x0 : List Int) (x1 : Int) : Option Bool := (slices_Contains_int_T x0 x1).run

def slices_Contains_int_g : Sig := ⟨35, (.cons (.val false (.list (.int .i64))) (.cons (.val false (.int .i64)) .nil)), .vals (.val false .bool), fun z => slices_Contains_int_T z.1 z.2.1, false⟩

theorem slices_Contains_int_ok : slices_Contains_int_g.ok Try.prog := by
  refine Sig.lift mix tabOk nms _ Try.func35 (c := (bodyOf Try.f35)) (by kernel_rfl) (o := orT [slices_Index_int_g] [] noFz) (orT_sound ⟨slices_Index_int_ok, trivial⟩) (allLp_of [] (by kernel_rfl) trivial rfl) ?_
  intro z; kernel_rfl

def dots_Has_1_T (x0 : Seen) (x1 : Dot) : Tree Bool :=
  .grd ((x0.1 == x1.1) && (!((decide ((0 : Int) < x1.2)) && (decide (x1.2 ≤ x0.2.1))))) (slices_Contains_int_T x0.2.2 x1.2) false fun y1 =>
  .ret ((x0.1 == x1.1) && (((decide ((0 : Int) < x1.2)) && (decide (x1.2 ≤ x0.2.1))) || y1))

noncomputable def dots_Has_1 (x0 : Seen) (x1 : Dot) : Option Bool := (dots_Has_1_T x0 x1).run

def dots_Has_1_g : Sig := ⟨34, (.cons (.val true tSeen) (.cons (.ptr tDot) .nil)), .vals (.val false .bool), fun z => dots_Has_1_T z.1 z.2.1, false⟩

theorem dots_Has_1_ok : dots_Has_1_g.ok Try.prog := by
  refine Sig.lift mix tabOk nms _ Try.func34 (c := (bodyOf Try.f34)) (by kernel_rfl) (o := orT [slices_Contains_int_g] [] noFz) (orT_sound ⟨slices_Contains_int_ok, trivial⟩) (allLp_of [] (by kernel_rfl) trivial rfl) ?_
  intro z; kernel_rfl

def slices_IndexFunc_Seen_dots_Has_1_L2_step (s_ : List Seen) (f : Dot) (t : Int) (t2 : Int) : Tree (Int ⊕ (Int ⊕ Unit)) :=
  .ite (decide (t2 < t)) (
    ask (inb t2 s_.length) <|
    .bnd (dots_Has_1_T ((s_.getD t2.toNat (dfl tSeen : Seen)).1, ((s_.getD t2.toNat (dfl tSeen : Seen)).2)) f) fun y1 =>
    .ite y1 (
      .ret (.inr (.inl t2))) (
      .ret (.inl (w64 (t2 + 1))))) (
    .ret (.inr (.inr ())))

def slices_IndexFunc_Seen_dots_Has_1_L2 : Lp := ⟨2, [], [], (.cons (.val false (.list tSeen)) (.cons (.fn 34 .nil (.cons (.ptr tDot) .nil)) (.cons .any (.cons .any (.cons .any (.cons .any (.cons .any (.cons (.val false (.int .i64)) (.cons (.val false (.int .i64)) (.cons .any (.cons .any (.cons .any (.cons .any (.cons .any (.cons .any (.cons .any (.cons .any (.cons .any (.cons .any .nil))))))))))))))))))), .nil, 0, .more 0 [] (.cons .any (.cons .any (.cons .any (.cons .any (.cons (.val false (.int .i64)) (.cons .any (.cons .any (.cons .any (.cons .any (.cons .any (.cons .any (.cons .any (.cons .any (.cons .any (.cons .any (.cons .any (.cons .any (.cons .any (.cons .any .nil))))))))))))))))))) .nil (.one 1 [] (.cons .any (.cons .any (.cons .any (.cons .any (.cons .any (.cons .any (.cons .any (.cons .any (.cons .any (.cons .any (.cons .any (.cons .any (.cons .any (.cons .any (.cons .any (.cons .any (.cons .any (.cons .any (.cons .any .nil))))))))))))))))))) .nil), fun z => .bnd (.loop (fun v => slices_IndexFunc_Seen_dots_Has_1_L2_step z.1.1 z.1.2.1.2.1 z.1.2.2.2.2.2.2.2.1 v) z.1.2.2.2.2.2.2.2.2.1) fun r => .sum r (fun a0 => .ret (.inl (((), ((), ((), ((), (a0, ((), ((), ((), ((), ((), ((), ((), ((), ((), ((), ((), ((), ((), ((), ()))))))))))))))))))), ()))) (fun b0 => .ret (.inr (((), ((), ((), ((), ((), ((), ((), ((), ((), ((), ((), ((), ((), ((), ((), ((), ((), ((), ((), ()))))))))))))))))))), ())))⟩

theorem slices_IndexFunc_Seen_dots_Has_1_L2_ok : slices_IndexFunc_Seen_dots_Has_1_L2.ok Try.prog (nthC (loopsOf (bodyOf Try.f39)) 0) := by
  refine Lp.lift (π := ((List Seen) × Dot × Int)) (V := Int) (ρ := (Int ⊕ Unit)) mix tabOk slices_IndexFunc_Seen_dots_Has_1_L2 (o := orT [dots_Has_1_g] [] noFz) (orT_sound ⟨dots_Has_1_ok, trivial⟩) (allLp_of [] (by kernel_rfl) trivial rfl) (fun x v => ((x.1, (((), (x.2.1, ())), ((), ((), ((), ((), ((), (x.2.2, (v, ((), ((), ((), ((), ((), ((), ((), ((), ((), ((), ()))))))))))))))))))), ())) (fun x r => match r with | .inl a0 => .inl (((), ((), ((), ((), (a0, ((), ((), ((), ((), ((), ((), ((), ((), ((), ((), ((), ((), ((), ((), ()))))))))))))))))))), ()) | .inr b0 => (.inr (((), ((), ((), ((), ((), ((), ((), ((), ((), ((), ((), ((), ((), ((), ((), ((), ((), ((), ((), ()))))))))))))))))))), ()))) (fun x v => slices_IndexFunc_Seen_dots_Has_1_L2_step x.1 x.2.1 x.2.2 v) (fun x r => .sum r (fun a0 => .ret (.inl (((), ((), ((), ((), (a0, ((), ((), ((), ((), ((), ((), ((), ((), ((), ((), ((), ((), ((), ((), ()))))))))))))))))))), ()))) (fun b0 => .ret (.inr (((), ((), ((), ((), ((), ((), ((), ((), ((), ((), ((), ((), ((), ((), ((), ((), ((), ((), ((), ()))))))))))))))))))), ())))) (fun z => (z.1.1, z.1.2.1.2.1, z.1.2.2.2.2.2.2.2.1)) (fun z => z.1.2.2.2.2.2.2.2.2.1) (fun _ => rfl) (fun _ => rfl) (fun x r Q h => match r, h with | .inl _, h => h | .inr b0, h => (h)) ?_
  intro x v; kernel_rfl

def slices_IndexFunc_Seen_dots_Has_1_T (x0 : List Seen) (x1 : Dot) : Tree Int :=
  .bnd (.loop (fun v => slices_IndexFunc_Seen_dots_Has_1_L2_step x0 x1 (x0.length : Int) v) 0) fun r1 =>
  .sum r1 (fun r2 =>
    .ret r2) (fun r3 =>
    .ret (-1))

noncomputable def slices_IndexFunc_Seen_dots_Has_1 (x0 : List Seen) (x1 : Dot) : Option Int := (slices_IndexFunc_Seen_dots_Has_1_T x0 x1).run

def slices_IndexFunc_Seen_dots_Has_1_g : Sig := ⟨39, (.cons (.val false (.list tSeen)) (.cons (.fn 34 .nil (.cons (.ptr tDot) .nil)) .nil)), .vals (.val false (.int .i64)), fun z => slices_IndexFunc_Seen_dots_Has_1_T z.1 z.2.1.2.1, (0 : Int)⟩

theorem slices_IndexFunc_Seen_dots_Has_1_ok : slices_IndexFunc_Seen_dots_Has_1_g.ok Try.prog := by
  refine Sig.lift mix tabOk nms _ Try.func39 (c := (bodyOf Try.f39)) (by kernel_rfl) (o := orT [dots_Has_1_g] [slices_IndexFunc_Seen_dots_Has_1_L2] noFz) (orT_sound ⟨dots_Has_1_ok, trivial⟩) (allLp_of [nthC (loopsOf (bodyOf Try.f39)) 0] (by kernel_rfl) ⟨slices_IndexFunc_Seen_dots_Has_1_L2_ok, trivial⟩ (by kernel_rfl)) ?_
  intro z; kernel_rfl

def slices_ContainsFunc_Seen_dots_Has_1_T (x0 : List Seen) (x1 : Dot) : Tree Bool :=
  .bnd (slices_IndexFunc_Seen_dots_Has_1_T x0 x1) fun y1 =>
  .ret (decide ((0 : Int) ≤ y1))

noncomputable def slices_ContainsFunc_Seen_dots_Has_1 (x0 : List Seen) (x1 : Dot) : Option Bool := (slices_ContainsFunc_Seen_dots_Has_1_T x0 x1).run

def slices_ContainsFunc_Seen_dots_Has_1_g : Sig := ⟨33, (.cons (.val false (.list tSeen)) (.cons (.fn 34 .nil (.cons (.ptr tDot) .nil)) .nil)), .vals (.val false .bool), fun z => slices_ContainsFunc_Seen_dots_Has_1_T z.1 z.2.1.2.1, false⟩

theorem slices_ContainsFunc_Seen_dots_Has_1_ok : slices_ContainsFunc_Seen_dots_Has_1_g.ok Try.prog := by
  refine Sig.lift mix tabOk nms _ Try.func33 (c := (bodyOf Try.f33)) (by kernel_rfl) (o := orT [slices_IndexFunc_Seen_dots_Has_1_g] [] noFz) (orT_sound ⟨slices_IndexFunc_Seen_dots_Has_1_ok, trivial⟩) (allLp_of [] (by kernel_rfl) trivial rfl) ?_
  intro z; kernel_rfl

def dots_Has_T (x0 : List Seen) (x1 : Dot) : Tree Bool :=
  .bnd (slices_ContainsFunc_Seen_dots_Has_1_T x0 x1) fun y1 =>
  .ret y1

noncomputable def dots_Has (x0 : List Seen) (x1 : Dot) : Option Bool := (dots_Has_T x0 x1).run

def dots_Has_g : Sig := ⟨27, (.cons (.val false (.list tSeen)) (.cons (.val true tDot) .nil)), .vals (.val false .bool), fun z => dots_Has_T z.1 z.2.1, false⟩

theorem dots_Has_ok : dots_Has_g.ok Try.prog := by
  refine Sig.lift mix tabOk nms _ Try.func27 (c := (bodyOf Try.f27)) (by kernel_rfl) (o := orT [slices_ContainsFunc_Seen_dots_Has_1_g] [] noFz) (orT_sound ⟨slices_ContainsFunc_Seen_dots_Has_1_ok, trivial⟩) (allLp_of [] (by kernel_rfl) trivial rfl) ?_
  intro z; kernel_rfl

def last_Apart_L7_step (known : List (List Seen)) (i : Int) (t : List Sib) (t2 : Int) (t3 : Int) (t4 : List (List Seen)) (t5 : Int) (s_ : Str) (s_2 : Int) (s_3 : Str) (s_4 : Bool) (s_5 : Int) (t6 : Int) : Tree (Int ⊕ (Bool ⊕ Unit)) :=
  .ite (decide (t6 < t5)) (
    ask (inb t6 t4.length) <|
    .grd (!decide (i = t6)) (dots_Has_T (t4.getD t6.toNat ([] : List Seen)) (s_, s_2)) false fun y1 =>
    .ite ((!decide (i = t6)) && y1) (
      .ret (.inr (.inl false))) (
      .ret (.inl (w64 (t6 + 1))))) (
    .ret (.inr (.inr ())))

def last_Apart_L7 : Lp := ⟨7, [], [], (.cons .any (.cons (.val false (.list (.list tSeen))) (.cons .any (.cons .any (.cons .any (.cons (.val false (.int .i64)) (.cons (.ref 0 0) (.cons .any (.cons .any (.cons .any (.cons .any (.cons .any (.cons .any (.cons .any (.cons (.val false (.list tSib)) (.cons (.val false (.int .i64)) (.cons (.val false (.int .i64)) (.cons .any (.cons .any (.cons .any (.cons .any (.cons (.val false (.list (.list tSeen))) (.cons (.val false (.int .i64)) (.cons (.val false (.int .i64)) (.cons .any (.cons .any (.cons .any (.cons .any (.cons .any (.cons .any (.cons .any (.cons .any (.cons .any (.cons .any (.cons .any (.cons .any (.cons .any (.cons .any (.cons .any .nil))))))))))))))))))))))))))))))))))))))), (.cells 32 (.cons (.val false .str) (.cons (.val false (.int .i64)) (.cons (.val false .str) (.cons (.val false .bool) (.cons (.val false (.int .i64)) .nil))))) .nil), 0, .more 0 [] (.cons .any (.cons .any (.cons .any (.cons .any (.cons (.val false .bool) (.cons .any (.cons .any (.cons .any (.cons .any (.cons .any (.cons .any (.cons .any (.cons .any (.cons .any (.cons .any (.cons .any (.cons .any (.cons .any (.cons .any (.cons .any (.cons .any (.cons .any (.cons .any (.cons .any (.cons .any (.cons .any (.cons .any (.cons .any (.cons .any (.cons .any (.cons .any (.cons .any (.cons .any (.cons .any (.cons .any (.cons .any (.cons .any (.cons .any (.cons .any .nil))))))))))))))))))))))))))))))))))))))) .nil (.one 3 [] (.cons .any (.cons (.val false (.list (.list tSeen))) (.cons .any (.cons .any (.cons .any (.cons .any (.cons .any (.cons .any (.cons .any (.cons .any (.cons .any (.cons .any (.cons .any (.cons .any (.cons (.val false (.list tSib)) (.cons (.val false (.int .i64)) (.cons (.val false (.int .i64)) (.cons .any (.cons .any (.cons .any (.cons .any (.cons .any (.cons .any (.cons .any (.cons .any (.cons .any (.cons .any (.cons .any (.cons .any (.cons .any (.cons .any (.cons .any (.cons .any (.cons .any (.cons .any (.cons .any (.cons .any (.cons .any (.cons .any .nil))))))))))))))))))))))))))))))))))))))) .nil), fun z => .bnd (.loop (fun v => last_Apart_L7_step z.1.2.1 z.1.2.2.2.2.2.1 z.1.2.2.2.2.2.2.2.2.2.2.2.2.2.2.1 z.1.2.2.2.2.2.2.2.2.2.2.2.2.2.2.2.1 z.1.2.2.2.2.2.2.2.2.2.2.2.2.2.2.2.2.1 z.1.2.2.2.2.2.2.2.2.2.2.2.2.2.2.2.2.2.2.2.2.2.1 z.1.2.2.2.2.2.2.2.2.2.2.2.2.2.2.2.2.2.2.2.2.2.2.1 z.2.1.1 z.2.1.2.1 z.2.1.2.2.1 z.2.1.2.2.2.1 z.2.1.2.2.2.2.1 v) z.1.2.2.2.2.2.2.2.2.2.2.2.2.2.2.2.2.2.2.2.2.2.2.2.1) fun r => .sum r (fun a0 => .ret (.inl (((), ((), ((), ((), (a0, ((), ((), ((), ((), ((), ((), ((), ((), ((), ((), ((), ((), ((), ((), ((), ((), ((), ((), ((), ((), ((), ((), ((), ((), ((), ((), ((), ((), ((), ((), ((), ((), ((), ((), ()))))))))))))))))))))))))))))))))))))))), ()))) (fun b0 => .ret (.inr (((), (z.1.2.1, ((), ((), ((), ((), ((), ((), ((), ((), ((), ((), ((), ((), (z.1.2.2.2.2.2.2.2.2.2.2.2.2.2.2.1, (z.1.2.2.2.2.2.2.2.2.2.2.2.2.2.2.2.1, (z.1.2.2.2.2.2.2.2.2.2.2.2.2.2.2.2.2.1, ((), ((), ((), ((), ((), ((), ((), ((), ((), ((), ((), ((), ((), ((), ((), ((), ((), ((), ((), ((), ((), ((), ()))))))))))))))))))))))))))))))))))))))), ())))⟩

theorem last_Apart_L7_ok : last_Apart_L7.ok Try.prog (nthC (loopsOf (nthC (loopsOf (bodyOf Try.f20)) 0)) 0) := by
  refine Lp.lift (π := ((List (List Seen)) × Int × (List Sib) × Int × Int × (List (List Seen)) × Int × Str × Int × Str × Bool × Int)) (V := Int) (ρ := (Bool ⊕ Unit)) mix tabOk last_Apart_L7 (o := orT [dots_Has_g] [] noFz) (orT_sound ⟨dots_Has_ok, trivial⟩) (allLp_of [] (by kernel_rfl) trivial rfl) (fun x v => (((), (x.1, ((), ((), ((), (x.2.1, ((), ((), ((), ((), ((), ((), ((), ((), (x.2.2.1, (x.2.2.2.1, (x.2.2.2.2.1, ((), ((), ((), ((), (x.2.2.2.2.2.1, (x.2.2.2.2.2.2.1, (v, ((), ((), ((), ((), ((), ((), ((), ((), ((), ((), ((), ((), ((), ((), ((), ()))))))))))))))))))))))))))))))))))))))), ((x.2.2.2.2.2.2.2.1, (x.2.2.2.2.2.2.2.2.1, (x.2.2.2.2.2.2.2.2.2.1, (x.2.2.2.2.2.2.2.2.2.2.1, (x.2.2.2.2.2.2.2.2.2.2.2, ()))))), ()))) (fun x r => match r with | .inl a0 => .inl (((), ((), ((), ((), (a0, ((), ((), ((), ((), ((), ((), ((), ((), ((), ((), ((), ((), ((), ((), ((), ((), ((), ((), ((), ((), ((), ((), ((), ((), ((), ((), ((), ((), ((), ((), ((), ((), ((), ((), ()))))))))))))))))))))))))))))))))))))))), ()) | .inr b0 => (.inr (((), (x.1, ((), ((), ((), ((), ((), ((), ((), ((), ((), ((), ((), ((), (x.2.2.1, (x.2.2.2.1, (x.2.2.2.2.1, ((), ((), ((), ((), ((), ((), ((), ((), ((), ((), ((), ((), ((), ((), ((), ((), ((), ((), ((), ((), ((), ((), ()))))))))))))))))))))))))))))))))))))))), ()))) (fun x v => last_Apart_L7_step x.1 x.2.1 x.2.2.1 x.2.2.2.1 x.2.2.2.2.1 x.2.2.2.2.2.1 x.2.2.2.2.2.2.1 x.2.2.2.2.2.2.2.1 x.2.2.2.2.2.2.2.2.1 x.2.2.2.2.2.2.2.2.2.1 x.2.2.2.2.2.2.2.2.2.2.1 x.2.2.2.2.2.2.2.2.2.2.2 v) (fun x r => .sum r (fun a0 => .ret (.inl (((), ((), ((), ((), (a0, ((), ((), ((), ((), ((), ((), ((), ((), ((), ((), ((), ((), ((), ((), ((), ((), ((), ((), ((), ((), ((), ((), ((), ((), ((), ((), ((), ((), ((), ((), ((), ((), ((), ((), ()))))))))))))))))))))))))))))))))))))))), ()))) (fun b0 => .ret (.inr (((), (x.1, ((), ((), ((), ((), ((), ((), ((), ((), ((), ((), ((), ((), (x.2.2.1, (x.2.2.2.1, (x.2.2.2.2.1, ((), ((), ((), ((), ((), ((), ((), ((), ((), ((), ((), ((), ((), ((), ((), ((), ((), ((), ((), ((), ((), ((), ()))))))))))))))))))))))))))))))))))))))), ())))) (fun z => (z.1.2.1, z.1.2.2.2.2.2.1, z.1.2.2.2.2.2.2.2.2.2.2.2.2.2.2.1, z.1.2.2.2.2.2.2.2.2.2.2.2.2.2.2.2.1, z.1.2.2.2.2.2.2.2.2.2.2.2.2.2.2.2.2.1, z.1.2.2.2.2.2.2.2.2.2.2.2.2.2.2.2.2.2.2.2.2.2.1, z.1.2.2.2.2.2.2.2.2.2.2.2.2.2.2.2.2.2.2.2.2.2.2.1, z.2.1.1, z.2.1.2.1, z.2.1.2.2.1, z.2.1.2.2.2.1, z.2.1.2.2.2.2.1)) (fun z => z.1.2.2.2.2.2.2.2.2.2.2.2.2.2.2.2.2.2.2.2.2.2.2.2.1) (fun _ => rfl) (fun _ => rfl) (fun x r Q h => match r, h with | .inl _, h => h | .inr b0, h => (h)) ?_
  intro x v; kernel_rfl

def last_Apart_L4_step (known : List (List Seen)) (t : List Sib) (t2 : Int) (t3 : Int) : Tree (Int ⊕ (Bool ⊕ Unit)) :=
  .ite (decide (t3 < t2)) (
    ask (inb t3 t.length) <|
    .bnd (.loop (fun v => last_Apart_L7_step known t3 t t2 t3 known (known.length : Int) (((t.getD t3.toNat (dfl tSib : Sib)).1).1) (((t.getD t3.toNat (dfl tSib : Sib)).1).2) (((t.getD t3.toNat (dfl tSib : Sib)).2).1) ((((t.getD t3.toNat (dfl tSib : Sib)).2).2).1) ((((t.getD t3.toNat (dfl tSib : Sib)).2).2).2) v) 0) fun r1 =>
    .sum r1 (fun r2 =>
      .ret (.inr (.inl r2))) (fun r3 =>
      .ret (.inl (w64 (t3 + 1))))) (
    .ret (.inr (.inr ())))

def last_Apart_L4 : Lp := ⟨4, [], [], (.cons .any (.cons (.val false (.list (.list tSeen))) (.cons .any (.cons .any (.cons .any (.cons .any (.cons .any (.cons .any (.cons .any (.cons .any (.cons .any (.cons .any (.cons .any (.cons .any (.cons (.val false (.list tSib)) (.cons (.val false (.int .i64)) (.cons (.val false (.int .i64)) (.cons .any (.cons .any (.cons .any (.cons .any (.cons .any (.cons .any (.cons .any (.cons .any (.cons .any (.cons .any (.cons .any (.cons .any (.cons .any (.cons .any (.cons .any (.cons .any (.cons .any (.cons .any (.cons .any (.cons .any (.cons .any (.cons .any .nil))))))))))))))))))))))))))))))))))))))), .nil, 0, .more 0 [] (.cons .any (.cons .any (.cons .any (.cons .any (.cons (.val false .bool) (.cons .any (.cons .any (.cons .any (.cons .any (.cons .any (.cons .any (.cons .any (.cons .any (.cons .any (.cons .any (.cons .any (.cons .any (.cons .any (.cons .any (.cons .any (.cons .any (.cons .any (.cons .any (.cons .any (.cons .any (.cons .any (.cons .any (.cons .any (.cons .any (.cons .any (.cons .any (.cons .any (.cons .any (.cons .any (.cons .any (.cons .any (.cons .any (.cons .any (.cons .any .nil))))))))))))))))))))))))))))))))))))))) .nil (.one 1 [] (.cons .any (.cons .any (.cons .any (.cons .any (.cons .any (.cons .any (.cons .any (.cons .any (.cons .any (.cons .any (.cons .any (.cons .any (.cons .any (.cons .any (.cons .any (.cons .any (.cons .any (.cons .any (.cons .any (.cons .any (.cons .any (.cons .any (.cons .any (.cons .any (.cons .any (.cons .any (.cons .any (.cons .any (.cons .any (.cons .any (.cons .any (.cons .any (.cons .any (.cons .any (.cons .any (.cons .any (.cons .any (.cons .any (.cons .any .nil))))))))))))))))))))))))))))))))))))))) .nil), fun z => .bnd (.loop (fun v => last_Apart_L4_step z.1.2.1 z.1.2.2.2.2.2.2.2.2.2.2.2.2.2.2.1 z.1.2.2.2.2.2.2.2.2.2.2.2.2.2.2.2.1 v) z.1.2.2.2.2.2.2.2.2.2.2.2.2.2.2.2.2.1) fun r => .sum r (fun a0 => .ret (.inl (((), ((), ((), ((), (a0, ((), ((), ((), ((), ((), ((), ((), ((), ((), ((), ((), ((), ((), ((), ((), ((), ((), ((), ((), ((), ((), ((), ((), ((), ((), ((), ((), ((), ((), ((), ((), ((), ((), ((), ()))))))))))))))))))))))))))))))))))))))), ()))) (fun b0 => .ret (.inr (((), ((), ((), ((), ((), ((), ((), ((), ((), ((), ((), ((), ((), ((), ((), ((), ((), ((), ((), ((), ((), ((), ((), ((), ((), ((), ((), ((), ((), ((), ((), ((), ((), ((), ((), ((), ((), ((), ((), ()))))))))))))))))))))))))))))))))))))))), ())))⟩

theorem last_Apart_L4_ok : last_Apart_L4.ok Try.prog (nthC (loopsOf (bodyOf Try.f20)) 0) := by
  refine Lp.lift (π := ((List (List Seen)) × (List Sib) × Int)) (V := Int) (ρ := (Bool ⊕ Unit)) mix tabOk last_Apart_L4 (o := orT [dots_Has_g] [last_Apart_L7] noFz) (orT_sound ⟨dots_Has_ok, trivial⟩) (allLp_of [nthC (loopsOf (nthC (loopsOf (bodyOf Try.f20)) 0)) 0] (by kernel_rfl) ⟨last_Apart_L7_ok, trivial⟩ (by kernel_rfl)) (fun x v => (((), (x.1, ((), ((), ((), ((), ((), ((), ((), ((), ((), ((), ((), ((), (x.2.1, (x.2.2, (v, ((), ((), ((), ((), ((), ((), ((), ((), ((), ((), ((), ((), ((), ((), ((), ((), ((), ((), ((), ((), ((), ((), ()))))))))))))))))))))))))))))))))))))))), ())) (fun x r => match r with | .inl a0 => .inl (((), ((), ((), ((), (a0, ((), ((), ((), ((), ((), ((), ((), ((), ((), ((), ((), ((), ((), ((), ((), ((), ((), ((), ((), ((), ((), ((), ((), ((), ((), ((), ((), ((), ((), ((), ((), ((), ((), ((), ()))))))))))))))))))))))))))))))))))))))), ()) | .inr b0 => (.inr (((), ((), ((), ((), ((), ((), ((), ((), ((), ((), ((), ((), ((), ((), ((), ((), ((), ((), ((), ((), ((), ((), ((), ((), ((), ((), ((), ((), ((), ((), ((), ((), ((), ((), ((), ((), ((), ((), ((), ()))))))))))))))))))))))))))))))))))))))), ()))) (fun x v => last_Apart_L4_step x.1 x.2.1 x.2.2 v) (fun x r => .sum r (fun a0 => .ret (.inl (((), ((), ((), ((), (a0, ((), ((), ((), ((), ((), ((), ((), ((), ((), ((), ((), ((), ((), ((), ((), ((), ((), ((), ((), ((), ((), ((), ((), ((), ((), ((), ((), ((), ((), ((), ((), ((), ((), ((), ()))))))))))))))))))))))))))))))))))))))), ()))) (fun b0 => .ret (.inr (((), ((), ((), ((), ((), ((), ((), ((), ((), ((), ((), ((), ((), ((), ((), ((), ((), ((), ((), ((), ((), ((), ((), ((), ((), ((), ((), ((), ((), ((), ((), ((), ((), ((), ((), ((), ((), ((), ((), ()))))))))))))))))))))))))))))))))))))))), ())))) (fun z => (z.1.2.1, z.1.2.2.2.2.2.2.2.2.2.2.2.2.2.2.1, z.1.2.2.2.2.2.2.2.2.2.2.2.2.2.2.2.1)) (fun z => z.1.2.2.2.2.2.2.2.2.2.2.2.2.2.2.2.2.1) (fun _ => rfl) (fun _ => rfl) (fun x r Q h => match r, h with | .inl _, h => h | .inr b0, h => (h)) ?_
  intro x v; kernel_rfl

def last_Apart_T (x0 : List Sib) (x1 : List (List Seen)) : Tree Bool :=
  .ite (!decide ((x0.length : Int) = (x1.length : Int))) (
    .ret false) (
    .bnd (.loop (fun v => last_Apart_L4_step x1 x0 (x0.length : Int) v) 0) fun r1 =>
    .sum r1 (fun r2 =>
      .ret r2) (fun r3 =>
      .ret true))

noncomputable def last_Apart (x0 : List Sib) (x1 : List (List Seen)) : Option Bool := (last_Apart_T x0 x1).run

def last_Apart_g : Sig := ⟨20, (.cons (.val false (.list tSib)) (.cons (.val false (.list (.list tSeen))) .nil)), .vals (.val false .bool), fun z => last_Apart_T z.1 z.2.1, false⟩

theorem last_Apart_ok : last_Apart_g.ok Try.prog := by
  refine Sig.lift mix tabOk nms _ Try.func20 (c := (bodyOf Try.f20)) (by kernel_rfl) (o := orT [dots_Has_g] [last_Apart_L4] noFz) (orT_sound ⟨dots_Has_ok, trivial⟩) (allLp_of [nthC (loopsOf (bodyOf Try.f20)) 0] (by kernel_rfl) ⟨last_Apart_L4_ok, trivial⟩ (by kernel_rfl)) ?_
  intro z; kernel_rfl

def l08_awake_T  : Tree Bool :=
  .bnd (last_Latest_T [((([99] : Str), 1), ([], (true, 0))), ((([97] : Str), 2), (([120] : Str), (false, 1))), ((([98] : Str), 1), ([], (false, 1)))]) fun y1 =>
  .bnd (last_Later_T ((([98] : Str), 1), ([], (false, 1))) ((([97] : Str), 2), (([120] : Str), (false, 1)))) fun y2 =>
  .grd y2 (last_Later_T ((([97] : Str), 2), (([120] : Str), (false, 1))) ((([98] : Str), 1), ([], (false, 1)))) false fun y3 =>
  .grd (((y2 && (!y3)) && (((y1.1.1.1 == ([98] : Str)) && ((decide (y1.1.1.2 = 1)) && true)) && ((y1.1.2.1 == []) && ((y1.1.2.2.1 == false) && ((decide (y1.1.2.2.2 = 1)) && true))))) && y1.2.1) (last_Live_T [((([99] : Str), 1), ([], (true, 0))), ((([97] : Str), 2), (([120] : Str), (false, 1)))]) ([] : List Sib) fun y4 =>
  .grd ((((y2 && (!y3)) && (((y1.1.1.1 == ([98] : Str)) && ((decide (y1.1.1.2 = 1)) && true)) && ((y1.1.2.1 == []) && ((y1.1.2.2.1 == false) && ((decide (y1.1.2.2.2 = 1)) && true))))) && y1.2.1) && (decide ((y4.length : Int) = 1))) (last_Answer_T ([], [((([99] : Str), 1), ([], (true, 0))), ((([97] : Str), 2), (([120] : Str), (false, 1))), ((([98] : Str), 1), ([], (false, 1)))]) false) ([] : List Sib) fun y5 =>
  .grd (((((y2 && (!y3)) && (((y1.1.1.1 == ([98] : Str)) && ((decide (y1.1.1.2 = 1)) && true)) && ((y1.1.2.1 == []) && ((y1.1.2.2.1 == false) && ((decide (y1.1.2.2.2 = 1)) && true))))) && y1.2.1) && (decide ((y4.length : Int) = 1))) && (decide ((y5.length : Int) = 1))) (last_Apart_T [((([97] : Str), 2), (([120] : Str), (false, 1))), ((([98] : Str), 1), ([], (false, 1)))] [[], []]) false fun y6 =>
  .grd ((((((y2 && (!y3)) && (((y1.1.1.1 == ([98] : Str)) && ((decide (y1.1.1.2 = 1)) && true)) && ((y1.1.2.1 == []) && ((y1.1.2.2.1 == false) && ((decide (y1.1.2.2.2 = 1)) && true))))) && y1.2.1) && (decide ((y4.length : Int) = 1))) && (decide ((y5.length : Int) = 1))) && y6) (last_Apart_T [((([97] : Str), 2), (([120] : Str), (false, 1))), ((([98] : Str), 1), ([], (false, 1)))] [[], [(([97] : Str), (2, []))]]) false fun y7 =>
  .ret (((((((y2 && (!y3)) && (((y1.1.1.1 == ([98] : Str)) && ((decide (y1.1.1.2 = 1)) && true)) && ((y1.1.2.1 == []) && ((y1.1.2.2.1 == false) && ((decide (y1.1.2.2.2 = 1)) && true))))) && y1.2.1) && (decide ((y4.length : Int) = 1))) && (decide ((y5.length : Int) = 1))) && y6) && (!y7))

noncomputable def l08_awake  : Option Bool := (l08_awake_T).run

def l08_awake_g : Sig := ⟨9, .nil, .vals (.val false .bool), fun z => l08_awake_T, false⟩

theorem l08_awake_ok : l08_awake_g.ok Try.prog := by
  refine Sig.lift mix tabOk nms _ Try.func9 (c := (bodyOf Try.f9)) (by kernel_rfl) (o := orT [last_Latest_g, last_Later_g, last_Live_g, last_Answer_g, last_Apart_g] [] noFz) (orT_sound ⟨last_Latest_ok, ⟨last_Later_ok, ⟨last_Live_ok, ⟨last_Answer_ok, ⟨last_Apart_ok, trivial⟩⟩⟩⟩⟩) (allLp_of [] (by kernel_rfl) trivial rfl) ?_
  intro z; kernel_rfl

def r08_Later_T (x0 : Sib) (x1 : Sib) : Tree Bool :=
  .ite (!decide (x0.2.2.2 = x1.2.2.2)) (
    .ret (decide (x1.2.2.2 < x0.2.2.2))) (
    .ite (!(x0.1.1 == x1.1.1)) (
      .ret (!(ltS x0.1.1 x1.1.1 || x0.1.1 == x1.1.1))) (
      .ret (decide (x1.1.2 < x0.1.2))))

noncomputable def r08_Later (x0 : Sib) (x1 : Sib) : Option Bool := (r08_Later_T x0 x1).run

def r08_Later_g : Sig := ⟨13, (.cons (.val true tSib) (.cons (.val true tSib) .nil)), .vals (.val false .bool), fun z => r08_Later_T z.1 z.2.1, false⟩

theorem r08_Later_ok : r08_Later_g.ok Try.prog := by
  refine Sig.lift mix tabOk nms _ Try.func13 (c := (bodyOf Try.f13)) (by kernel_rfl) (o := orT [] [] noFz) (orT_sound trivial) (allLp_of [] (by kernel_rfl) trivial rfl) ?_
  intro z; kernel_rfl

def r08_Latest_L5_step (l : List Sib) (c : Str) (c2 : Int) (c3 : Str) (c4 : Bool) (c5 : Int) (i : Int) (x_ : Str) (x_2 : Int) (x_3 : Str) (x_4 : Bool) (x_5 : Int) : Tree ((Int × Str × Int × Str × Bool × Int) ⊕ (Str × Int × Str × Bool × Int)) :=
  .ite (decide (i < (l.length : Int))) (
    ask (inb i l.length) <|
    .bnd (r08_Later_T (((l.getD i.toNat (dfl tSib : Sib)).1), (((l.getD i.toNat (dfl tSib : Sib)).2).1, (((l.getD i.toNat (dfl tSib : Sib)).2).2))) ((x_, x_2), (x_3, (x_4, x_5)))) fun y1 =>
    .ite y1 (
      ask (inb i l.length) <|
      .ret (.inl ((w64 (i + 1)), ((l.getD i.toNat (dfl tSib : Sib)).1).1, ((l.getD i.toNat (dfl tSib : Sib)).1).2, ((l.getD i.toNat (dfl tSib : Sib)).2).1, (((l.getD i.toNat (dfl tSib : Sib)).2).2).1, (((l.getD i.toNat (dfl tSib : Sib)).2).2).2))) (
      .ret (.inl ((w64 (i + 1)), x_, x_2, x_3, x_4, x_5)))) (
    .ret (.inr (x_, x_2, x_3, x_4, x_5)))

def r08_Latest_L5 : Lp := ⟨5, [], [], (.cons (.val false (.list tSib)) (.cons .any (.cons (.ref 0 0) (.cons .any (.cons (.ref 1 0) (.cons (.val false (.int .i64)) (.cons .any (.cons .any (.cons .any (.cons .any (.cons .any (.cons .any (.cons .any (.cons .any (.cons .any (.cons .any (.cons .any (.cons .any (.cons .any (.cons .any (.cons .any (.cons .any (.cons .any (.cons .any (.cons .any (.cons .any (.cons .any (.cons .any (.cons .any (.cons .any .nil)))))))))))))))))))))))))))))), (.cells 32 (.cons (.val false .str) (.cons (.val false (.int .i64)) (.cons (.val false .str) (.cons (.val false .bool) (.cons (.val false (.int .i64)) .nil))))) (.cells 32 (.cons (.val false .str) (.cons (.val false (.int .i64)) (.cons (.val false .str) (.cons (.val false .bool) (.cons (.val false (.int .i64)) .nil))))) .nil)), 0, .one 1 [] (.cons .any (.cons .any (.cons (.ref 0 0) (.cons .any (.cons (.ref 1 0) (.cons .any (.cons .any (.cons .any (.cons .any (.cons .any (.cons .any (.cons .any (.cons .any (.cons .any (.cons .any (.cons .any (.cons .any (.cons .any (.cons .any (.cons .any (.cons .any (.cons .any (.cons .any (.cons .any (.cons .any (.cons .any (.cons .any (.cons .any (.cons .any (.cons .any .nil)))))))))))))))))))))))))))))) (.cells 32 (.cons (.val false .str) (.cons (.val false (.int .i64)) (.cons (.val false .str) (.cons (.val false .bool) (.cons (.val false (.int .i64)) .nil))))) (.cells 32 (.cons (.val false .str) (.cons (.val false (.int .i64)) (.cons (.val false .str) (.cons (.val false .bool) (.cons (.val false (.int .i64)) .nil))))) .nil)), fun z => .bnd (.loop (fun v => r08_Latest_L5_step z.1.1 z.2.1.1 z.2.1.2.1 z.2.1.2.2.1 z.2.1.2.2.2.1 z.2.1.2.2.2.2.1 v.1 v.2.1 v.2.2.1 v.2.2.2.1 v.2.2.2.2.1 v.2.2.2.2.2) (z.1.2.2.2.2.2.1, z.2.2.1.1, z.2.2.1.2.1, z.2.2.1.2.2.1, z.2.2.1.2.2.2.1, z.2.2.1.2.2.2.2.1)) fun r => .ret (((), ((), ((), ((), ((), ((), ((), ((), ((), ((), ((), ((), ((), ((), ((), ((), ((), ((), ((), ((), ((), ((), ((), ((), ((), ((), ((), ((), ((), ((), ())))))))))))))))))))))))))))))), ((z.2.1.1, (z.2.1.2.1, (z.2.1.2.2.1, (z.2.1.2.2.2.1, (z.2.1.2.2.2.2.1, ()))))), ((r.1, (r.2.1, (r.2.2.1, (r.2.2.2.1, (r.2.2.2.2, ()))))), ())))⟩

theorem r08_Latest_L5_ok : r08_Latest_L5.ok Try.prog (nthC (loopsOf (bodyOf Try.f11)) 0) := by
  refine Lp.lift (π := ((List Sib) × Str × Int × Str × Bool × Int)) (V := (Int × Str × Int × Str × Bool × Int)) (ρ := (Str × Int × Str × Bool × Int)) mix tabOk r08_Latest_L5 (o := orT [r08_Later_g] [] noFz) (orT_sound ⟨r08_Later_ok, trivial⟩) (allLp_of [] (by kernel_rfl) trivial rfl) (fun x v => ((x.1, ((), ((), ((), ((), (v.1, ((), ((), ((), ((), ((), ((), ((), ((), ((), ((), ((), ((), ((), ((), ((), ((), ((), ((), ((), ((), ((), ((), ((), ((), ())))))))))))))))))))))))))))))), ((x.2.1, (x.2.2.1, (x.2.2.2.1, (x.2.2.2.2.1, (x.2.2.2.2.2, ()))))), ((v.2.1, (v.2.2.1, (v.2.2.2.1, (v.2.2.2.2.1, (v.2.2.2.2.2, ()))))), ())))) (fun x r => (((), ((), ((), ((), ((), ((), ((), ((), ((), ((), ((), ((), ((), ((), ((), ((), ((), ((), ((), ((), ((), ((), ((), ((), ((), ((), ((), ((), ((), ((), ())))))))))))))))))))))))))))))), ((x.2.1, (x.2.2.1, (x.2.2.2.1, (x.2.2.2.2.1, (x.2.2.2.2.2, ()))))), ((r.1, (r.2.1, (r.2.2.1, (r.2.2.2.1, (r.2.2.2.2, ()))))), ())))) (fun x v => r08_Latest_L5_step x.1 x.2.1 x.2.2.1 x.2.2.2.1 x.2.2.2.2.1 x.2.2.2.2.2 v.1 v.2.1 v.2.2.1 v.2.2.2.1 v.2.2.2.2.1 v.2.2.2.2.2) (fun x r => .ret (((), ((), ((), ((), ((), ((), ((), ((), ((), ((), ((), ((), ((), ((), ((), ((), ((), ((), ((), ((), ((), ((), ((), ((), ((), ((), ((), ((), ((), ((), ())))))))))))))))))))))))))))))), ((x.2.1, (x.2.2.1, (x.2.2.2.1, (x.2.2.2.2.1, (x.2.2.2.2.2, ()))))), ((r.1, (r.2.1, (r.2.2.1, (r.2.2.2.1, (r.2.2.2.2, ()))))), ())))) (fun z => (z.1.1, z.2.1.1, z.2.1.2.1, z.2.1.2.2.1, z.2.1.2.2.2.1, z.2.1.2.2.2.2.1)) (fun z => (z.1.2.2.2.2.2.1, z.2.2.1.1, z.2.2.1.2.1, z.2.2.1.2.2.1, z.2.2.1.2.2.2.1, z.2.2.1.2.2.2.2.1)) (fun _ => rfl) (fun _ => rfl) (fun _ _ _ h => h) ?_
  intro x v; kernel_rfl

def r08_Latest_T (x0 : List Sib) : Tree (Sib × Bool × Unit) :=
  .ite (decide ((x0.length : Int) = 0)) (
    .ret ((([], 0), ([], (false, 0))), false, ())) (
    ask (inb 0 x0.length) <|
    .bnd (.loop (fun v => r08_Latest_L5_step x0 [] 0 [] false 0 v.1 v.2.1 v.2.2.1 v.2.2.2.1 v.2.2.2.2.1 v.2.2.2.2.2) (1, ((x0.getD ((0 : Int).toNat) (dfl tSib : Sib)).1).1, ((x0.getD ((0 : Int).toNat) (dfl tSib : Sib)).1).2, ((x0.getD ((0 : Int).toNat) (dfl tSib : Sib)).2).1, (((x0.getD ((0 : Int).toNat) (dfl tSib : Sib)).2).2).1, (((x0.getD ((0 : Int).toNat) (dfl tSib : Sib)).2).2).2)) fun r1 =>
    .ret (((r1.1, r1.2.1), r1.2.2), true, ()))

noncomputable def r08_Latest (x0 : List Sib) : Option (Sib × Bool × Unit) := (r08_Latest_T x0).run

def r08_Latest_g : Sig := ⟨11, (.cons (.val false (.list tSib)) .nil), .vals (.cons (.val true tSib) (.cons (.val false .bool) .nil)), fun z => r08_Latest_T z.1, ((dfl tSib : Sib), false, ())⟩

theorem r08_Latest_ok : r08_Latest_g.ok Try.prog := by
  refine Sig.lift mix tabOk nms _ Try.func11 (c := (bodyOf Try.f11)) (by kernel_rfl) (o := orT [r08_Later_g] [r08_Latest_L5] noFz) (orT_sound ⟨r08_Later_ok, trivial⟩) (allLp_of [nthC (loopsOf (bodyOf Try.f11)) 0] (by kernel_rfl) ⟨r08_Latest_L5_ok, trivial⟩ (by kernel_rfl)) ?_
  intro z; kernel_rfl

def r08_Live_L3_step (l : List Sib) (i : Int) (out : List Sib) : Tree ((Int × (List Sib)) ⊕ (List Sib)) :=
  .ite (decide (i < (l.length : Int))) (
    ask (inb i l.length) <|
    .ite (!((((l.getD i.toNat (dfl tSib : Sib)).2).2).1)) (
      ask (inb i l.length) <|
      ask (decide ((out ++ [(((l.getD i.toNat (dfl tSib : Sib)).1), (((l.getD i.toNat (dfl tSib : Sib)).2).1, (((l.getD i.toNat (dfl tSib : Sib)).2).2)))]).length * 56 ≤ roomNat)) <|
      .ret (.inl ((w64 (i + 1)), (out ++ [(((l.getD i.toNat (dfl tSib : Sib)).1), (((l.getD i.toNat (dfl tSib : Sib)).2).1, (((l.getD i.toNat (dfl tSib : Sib)).2).2)))])))) (
      .ret (.inl ((w64 (i + 1)), out)))) (
    .ret (.inr out))

def r08_Live_L3 : Lp := ⟨3, [.own 3 32 tSib], [], (.cons (.val false (.list tSib)) (.cons .any (.cons .any (.cons (.own 0) (.cons (.val false (.int .i64)) (.cons .any (.cons .any (.cons .any (.cons .any (.cons .any (.cons .any (.cons .any (.cons .any (.cons .any (.cons .any (.cons .any (.cons .any (.cons .any (.cons .any (.cons .any (.cons .any (.cons .any (.cons .any (.cons .any (.cons .any .nil))))))))))))))))))))))))), (.rows 32 tSib .nil), 0, .one 1 [] (.cons .any (.cons .any (.cons .any (.cons (.own 0) (.cons .any (.cons .any (.cons .any (.cons .any (.cons .any (.cons .any (.cons .any (.cons .any (.cons .any (.cons .any (.cons .any (.cons .any (.cons .any (.cons .any (.cons .any (.cons .any (.cons .any (.cons .any (.cons .any (.cons .any (.cons .any .nil))))))))))))))))))))))))) (.rows 32 tSib .nil), fun z => .bnd (.loop (fun v => r08_Live_L3_step z.1.1 v.1 v.2) (z.1.2.2.2.2.1, z.2.1)) fun r => .ret (((), ((), ((), ((), ((), ((), ((), ((), ((), ((), ((), ((), ((), ((), ((), ((), ((), ((), ((), ((), ((), ((), ((), ((), ((), ()))))))))))))))))))))))))), (r, ()))⟩

theorem r08_Live_L3_ok : r08_Live_L3.ok Try.prog (nthC (loopsOf (bodyOf Try.f16)) 0) := by
  refine Lp.lift (π := List Sib) (V := (Int × (List Sib))) (ρ := List Sib) mix tabOk r08_Live_L3 (o := orT [] [] noFz) (orT_sound trivial) (allLp_of [] (by kernel_rfl) trivial rfl) (fun x v => ((x, ((), ((), ((), (v.1, ((), ((), ((), ((), ((), ((), ((), ((), ((), ((), ((), ((), ((), ((), ((), ((), ((), ((), ((), ((), ()))))))))))))))))))))))))), (v.2, ()))) (fun x r => (((), ((), ((), ((), ((), ((), ((), ((), ((), ((), ((), ((), ((), ((), ((), ((), ((), ((), ((), ((), ((), ((), ((), ((), ((), ()))))))))))))))))))))))))), (r, ()))) (fun x v => r08_Live_L3_step x v.1 v.2) (fun x r => .ret (((), ((), ((), ((), ((), ((), ((), ((), ((), ((), ((), ((), ((), ((), ((), ((), ((), ((), ((), ((), ((), ((), ((), ((), ((), ()))))))))))))))))))))))))), (r, ()))) (fun z => z.1.1) (fun z => (z.1.2.2.2.2.1, z.2.1)) (fun _ => rfl) (fun _ => rfl) (fun _ _ _ h => h) ?_
  intro x v; kernel_rfl

def r08_Live_T (x0 : List Sib) : Tree (List Sib) :=
  .bnd (.loop (fun v => r08_Live_L3_step x0 v.1 v.2) (0, ([] : List Sib))) fun r1 =>
  .ret r1

noncomputable def r08_Live (x0 : List Sib) : Option (List Sib) := (r08_Live_T x0).run

def r08_Live_g : Sig := ⟨16, (.cons (.val false (.list tSib)) .nil), .fresh 32 tSib, fun z => r08_Live_T z.1, ([] : List Sib)⟩

theorem r08_Live_ok : r08_Live_g.ok Try.prog := by
  refine Sig.lift mix tabOk nms _ Try.func16 (c := (bodyOf Try.f16)) (by kernel_rfl) (o := orT [] [r08_Live_L3] noFz) (orT_sound trivial) (allLp_of [nthC (loopsOf (bodyOf Try.f16)) 0] (by kernel_rfl) ⟨r08_Live_L3_ok, trivial⟩ (by kernel_rfl)) ?_
  intro z; kernel_rfl

def r08_Live_gv : Sig := ⟨16, (.cons (.val false (.list tSib)) .nil), .vals (.val false (.list tSib)), fun z => r08_Live_T z.1, ([] : List Sib)⟩

theorem r08_Live_okv : r08_Live_gv.ok Try.prog := fun x y h => acalls_val (r08_Live_ok x y h)

def r07_SameSibs_L4_step (a : List Sib) (b : List Sib) (i : Int) : Tree (Int ⊕ (Bool ⊕ Unit)) :=
  .ite ((decide (i < (a.length : Int))) && (decide (i < (b.length : Int)))) (
    ask (inb i a.length) <|
    ask (inb i b.length) <|
    .ite (!((((((a.getD i.toNat (dfl tSib : Sib)).1).1) == (((b.getD i.toNat (dfl tSib : Sib)).1).1)) && ((decide (((a.getD i.toNat (dfl tSib : Sib)).1).2 = ((b.getD i.toNat (dfl tSib : Sib)).1).2)) && true)) && (((((a.getD i.toNat (dfl tSib : Sib)).2).1) == (((b.getD i.toNat (dfl tSib : Sib)).2).1)) && ((((((a.getD i.toNat (dfl tSib : Sib)).2).2).1) == ((((b.getD i.toNat (dfl tSib : Sib)).2).2).1)) && ((decide ((((a.getD i.toNat (dfl tSib : Sib)).2).2).2 = (((b.getD i.toNat (dfl tSib : Sib)).2).2).2)) && true))))) (
      .ret (.inr (.inl false))) (
      .ret (.inl (w64 (i + 1))))) (
    .ret (.inr (.inr ())))

def r07_SameSibs_L4 : Lp := ⟨4, [], [], (.cons (.val false (.list tSib)) (.cons (.val false (.list tSib)) (.cons .any (.cons .any (.cons .any (.cons (.val false (.int .i64)) (.cons .any (.cons .any (.cons .any (.cons .any (.cons .any (.cons .any (.cons .any (.cons .any (.cons .any (.cons .any (.cons .any (.cons .any (.cons .any (.cons .any (.cons .any (.cons .any (.cons .any (.cons .any (.cons .any (.cons .any (.cons .any (.cons .any (.cons .any (.cons .any (.cons .any (.cons .any .nil)))))))))))))))))))))))))))))))), .nil, 0, .more 0 [] (.cons .any (.cons .any (.cons .any (.cons .any (.cons (.val false .bool) (.cons .any (.cons .any (.cons .any (.cons .any (.cons .any (.cons .any (.cons .any (.cons .any (.cons .any (.cons .any (.cons .any (.cons .any (.cons .any (.cons .any (.cons .any (.cons .any (.cons .any (.cons .any (.cons .any (.cons .any (.cons .any (.cons .any (.cons .any (.cons .any (.cons .any (.cons .any (.cons .any .nil)))))))))))))))))))))))))))))))) .nil (.one 1 [] (.cons .any (.cons .any (.cons .any (.cons .any (.cons .any (.cons .any (.cons .any (.cons .any (.cons .any (.cons .any (.cons .any (.cons .any (.cons .any (.cons .any (.cons .any (.cons .any (.cons .any (.cons .any (.cons .any (.cons .any (.cons .any (.cons .any (.cons .any (.cons .any (.cons .any (.cons .any (.cons .any (.cons .any (.cons .any (.cons .any (.cons .any (.cons .any .nil)))))))))))))))))))))))))))))))) .nil), fun z => .bnd (.loop (fun v => r07_SameSibs_L4_step z.1.1 z.1.2.1 v) z.1.2.2.2.2.2.1) fun r => .sum r (fun a0 => .ret (.inl (((), ((), ((), ((), (a0, ((), ((), ((), ((), ((), ((), ((), ((), ((), ((), ((), ((), ((), ((), ((), ((), ((), ((), ((), ((), ((), ((), ((), ((), ((), ((), ((), ())))))))))))))))))))))))))))))))), ()))) (fun b0 => .ret (.inr (((), ((), ((), ((), ((), ((), ((), ((), ((), ((), ((), ((), ((), ((), ((), ((), ((), ((), ((), ((), ((), ((), ((), ((), ((), ((), ((), ((), ((), ((), ((), ((), ())))))))))))))))))))))))))))))))), ())))⟩

theorem r07_SameSibs_L4_ok : r07_SameSibs_L4.ok Try.prog (nthC (loopsOf (bodyOf Try.f14)) 0) := by
  refine Lp.lift (π := ((List Sib) × (List Sib))) (V := Int) (ρ := (Bool ⊕ Unit)) mix tabOk r07_SameSibs_L4 (o := orT [] [] noFz) (orT_sound trivial) (allLp_of [] (by kernel_rfl) trivial rfl) (fun x v => ((x.1, (x.2, ((), ((), ((), (v, ((), ((), ((), ((), ((), ((), ((), ((), ((), ((), ((), ((), ((), ((), ((), ((), ((), ((), ((), ((), ((), ((), ((), ((), ((), ((), ())))))))))))))))))))))))))))))))), ())) (fun x r => match r with | .inl a0 => .inl (((), ((), ((), ((), (a0, ((), ((), ((), ((), ((), ((), ((), ((), ((), ((), ((), ((), ((), ((), ((), ((), ((), ((), ((), ((), ((), ((), ((), ((), ((), ((), ((), ())))))))))))))))))))))))))))))))), ()) | .inr b0 => (.inr (((), ((), ((), ((), ((), ((), ((), ((), ((), ((), ((), ((), ((), ((), ((), ((), ((), ((), ((), ((), ((), ((), ((), ((), ((), ((), ((), ((), ((), ((), ((), ((), ())))))))))))))))))))))))))))))))), ()))) (fun x v => r07_SameSibs_L4_step x.1 x.2 v) (fun x r => .sum r (fun a0 => .ret (.inl (((), ((), ((), ((), (a0, ((), ((), ((), ((), ((), ((), ((), ((), ((), ((), ((), ((), ((), ((), ((), ((), ((), ((), ((), ((), ((), ((), ((), ((), ((), ((), ((), ())))))))))))))))))))))))))))))))), ()))) (fun b0 => .ret (.inr (((), ((), ((), ((), ((), ((), ((), ((), ((), ((), ((), ((), ((), ((), ((), ((), ((), ((), ((), ((), ((), ((), ((), ((), ((), ((), ((), ((), ((), ((), ((), ((), ())))))))))))))))))))))))))))))))), ())))) (fun z => (z.1.1, z.1.2.1)) (fun z => z.1.2.2.2.2.2.1) (fun _ => rfl) (fun _ => rfl) (fun x r Q h => match r, h with | .inl _, h => h | .inr b0, h => (h)) ?_
  intro x v; kernel_rfl

def r07_SameSibs_T (x0 : List Sib) (x1 : List Sib) : Tree Bool :=
  .ite (!decide ((x0.length : Int) = (x1.length : Int))) (
    .ret false) (
    .bnd (.loop (fun v => r07_SameSibs_L4_step x0 x1 v) 0) fun r1 =>
    .sum r1 (fun r2 =>
      .ret r2) (fun r3 =>
      .ret true))

noncomputable def r07_SameSibs (x0 : List Sib) (x1 : List Sib) : Option Bool := (r07_SameSibs_T x0 x1).run

def r07_SameSibs_g : Sig := ⟨14, (.cons (.val false (.list tSib)) (.cons (.val false (.list tSib)) .nil)), .vals (.val false .bool), fun z => r07_SameSibs_T z.1 z.2.1, false⟩

theorem r07_SameSibs_ok : r07_SameSibs_g.ok Try.prog := by
  refine Sig.lift mix tabOk nms _ Try.func14 (c := (bodyOf Try.f14)) (by kernel_rfl) (o := orT [] [r07_SameSibs_L4] noFz) (orT_sound trivial) (allLp_of [nthC (loopsOf (bodyOf Try.f14)) 0] (by kernel_rfl) ⟨r07_SameSibs_L4_ok, trivial⟩ (by kernel_rfl)) ?_
  intro z; kernel_rfl

def r08_Answer_T (x0 : Obj) (x1 : Bool) : Tree (List Sib) :=
  .ite x1 (
    .bnd (r08_Live_T x0.2) fun y1 =>
    .ret y1) (
    .bnd (r08_Latest_T x0.2) fun y2 =>
    .ite ((!y2.2.1) || y2.1.2.2.1) (
      .ret []) (
      .ret [y2.1]))

noncomputable def r08_Answer (x0 : Obj) (x1 : Bool) : Option (List Sib) := (r08_Answer_T x0 x1).run

def r08_Answer_g : Sig := ⟨18, (.cons (.val true tObj) (.cons (.val false .bool) .nil)), .vals (.val false (.list tSib)), fun z => r08_Answer_T z.1 z.2.1, ([] : List Sib)⟩

theorem r08_Answer_ok : r08_Answer_g.ok Try.prog := by
  refine Sig.lift mix tabOk nms _ Try.func18 (c := (bodyOf Try.f18)) (by kernel_rfl) (o := orT [r08_Live_g, r08_Latest_g] [] noFz) (orT_sound ⟨r08_Live_ok, ⟨r08_Latest_ok, trivial⟩⟩) (allLp_of [] (by kernel_rfl) trivial rfl) ?_
  intro z; kernel_rfl

def l08_LastIs_L6_step (l : List Sib) (several : Bool) (ok : Bool) (is : Bool) (o : List Seen) (o2 : List Sib) (a : Str) (a2 : Int) (a3 : Str) (a4 : Bool) (a5 : Int) (b : Str) (b2 : Int) (b3 : Str) (b4 : Bool) (b5 : Int) (i : Int) : Tree (Int ⊕ (Bool ⊕ Unit)) :=
  .ite (decide (i < (l.length : Int))) (
    ask (inb 0 l.length) <|
    ask (inb i l.length) <|
    .bnd (last_Later_T (((l.getD ((0 : Int).toNat) (dfl tSib : Sib)).1), (((l.getD ((0 : Int).toNat) (dfl tSib : Sib)).2).1, (((l.getD ((0 : Int).toNat) (dfl tSib : Sib)).2).2))) (((l.getD i.toNat (dfl tSib : Sib)).1), (((l.getD i.toNat (dfl tSib : Sib)).2).1, (((l.getD i.toNat (dfl tSib : Sib)).2).2)))) fun y1 =>
    ask (inb 0 l.length) <|
    ask (inb i l.length) <|
    .bnd (r08_Later_T (((l.getD ((0 : Int).toNat) (dfl tSib : Sib)).1), (((l.getD ((0 : Int).toNat) (dfl tSib : Sib)).2).1, (((l.getD ((0 : Int).toNat) (dfl tSib : Sib)).2).2))) (((l.getD i.toNat (dfl tSib : Sib)).1), (((l.getD i.toNat (dfl tSib : Sib)).2).1, (((l.getD i.toNat (dfl tSib : Sib)).2).2)))) fun y2 =>
    .ite (!(y1 == y2)) (
      .ret (.inr (.inl false))) (
      .ret (.inl (w64 (i + 1))))) (
    .ret (.inr (.inr ())))

def l08_LastIs_L6 : Lp := ⟨6, [], [], (.cons (.val false (.list tSib)) (.cons .any (.cons (.val false .bool) (.cons .any (.cons (.ref 0 0) (.cons .any (.cons .any (.cons (.ref 1 0) (.cons (.val false .bool) (.cons (.ref 2 0) (.cons (.val false .bool) (.cons (.val false (.int .i64)) (.cons .any (.cons .any (.cons .any (.cons .any (.cons .any (.cons .any (.cons .any (.cons .any (.cons .any (.cons .any (.cons .any (.cons .any (.cons .any (.cons .any (.cons .any (.cons .any (.cons .any (.cons .any (.cons .any (.cons .any (.cons .any (.cons .any (.cons .any (.cons .any (.cons .any (.cons .any (.cons .any (.cons .any (.cons .any (.cons .any (.cons .any (.cons .any (.cons .any (.cons .any (.cons .any (.cons .any (.cons .any (.cons .any (.cons .any (.cons .any (.cons .any (.cons .any (.cons .any (.cons .any (.cons .any (.cons .any (.cons .any (.cons .any (.cons .any (.cons .any (.cons .any (.cons .any (.cons .any (.cons .any (.cons .any (.cons .any (.cons .any (.cons .any (.cons .any (.cons .any (.cons .any (.cons .any (.cons .any (.cons .any (.cons .any (.cons .any (.cons .any (.cons .any (.cons .any .nil))))))))))))))))))))))))))))))))))))))))))))))))))))))))))))))))))))))))))))))))), (.cells 25 (.cons (.val false (.list tSeen)) (.cons (.val false (.list tSib)) .nil)) (.cells 32 (.cons (.val false .str) (.cons (.val false (.int .i64)) (.cons (.val false .str) (.cons (.val false .bool) (.cons (.val false (.int .i64)) .nil))))) (.cells 32 (.cons (.val false .str) (.cons (.val false (.int .i64)) (.cons (.val false .str) (.cons (.val false .bool) (.cons (.val false (.int .i64)) .nil))))) .nil))), 0, .more 0 [] (.cons .any (.cons .any (.cons .any (.cons .any (.cons .any (.cons .any (.cons (.val false .bool) (.cons .any (.cons .any (.cons .any (.cons .any (.cons .any (.cons .any (.cons .any (.cons .any (.cons .any (.cons .any (.cons .any (.cons .any (.cons .any (.cons .any (.cons .any (.cons .any (.cons .any (.cons .any (.cons .any (.cons .any (.cons .any (.cons .any (.cons .any (.cons .any (.cons .any (.cons .any (.cons .any (.cons .any (.cons .any (.cons .any (.cons .any (.cons .any (.cons .any (.cons .any (.cons .any (.cons .any (.cons .any (.cons .any (.cons .any (.cons .any (.cons .any (.cons .any (.cons .any (.cons .any (.cons .any (.cons .any (.cons .any (.cons .any (.cons .any (.cons .any (.cons .any (.cons .any (.cons .any (.cons .any (.cons .any (.cons .any (.cons .any (.cons .any (.cons .any (.cons .any (.cons .any (.cons .any (.cons .any (.cons .any (.cons .any (.cons .any (.cons .any (.cons .any (.cons .any (.cons .any (.cons .any (.cons .any (.cons .any (.cons .any .nil))))))))))))))))))))))))))))))))))))))))))))))))))))))))))))))))))))))))))))))))) .nil (.one 1 [] (.cons (.val false (.list tSib)) (.cons .any (.cons (.val false .bool) (.cons .any (.cons (.ref 0 0) (.cons .any (.cons .any (.cons (.ref 1 0) (.cons (.val false .bool) (.cons (.ref 2 0) (.cons (.val false .bool) (.cons .any (.cons .any (.cons .any (.cons .any (.cons .any (.cons .any (.cons .any (.cons .any (.cons .any (.cons .any (.cons .any (.cons .any (.cons .any (.cons .any (.cons .any (.cons .any (.cons .any (.cons .any (.cons .any (.cons .any (.cons .any (.cons .any (.cons .any (.cons .any (.cons .any (.cons .any (.cons .any (.cons .any (.cons .any (.cons .any (.cons .any (.cons .any (.cons .any (.cons .any (.cons .any (.cons .any (.cons .any (.cons .any (.cons .any (.cons .any (.cons .any (.cons .any (.cons .any (.cons .any (.cons .any (.cons .any (.cons .any (.cons .any (.cons .any (.cons .any (.cons .any (.cons .any (.cons .any (.cons .any (.cons .any (.cons .any (.cons .any (.cons .any (.cons .any (.cons .any (.cons .any (.cons .any (.cons .any (.cons .any (.cons .any (.cons .any (.cons .any (.cons .any (.cons .any (.cons .any .nil))))))))))))))))))))))))))))))))))))))))))))))))))))))))))))))))))))))))))))))))) (.cells 25 (.cons (.val false (.list tSeen)) (.cons (.val false (.list tSib)) .nil)) (.cells 32 (.cons (.val false .str) (.cons (.val false (.int .i64)) (.cons (.val false .str) (.cons (.val false .bool) (.cons (.val false (.int .i64)) .nil))))) (.cells 32 (.cons (.val false .str) (.cons (.val false (.int .i64)) (.cons (.val false .str) (.cons (.val false .bool) (.cons (.val false (.int .i64)) .nil))))) .nil)))), fun z => .bnd (.loop (fun v => l08_LastIs_L6_step z.1.1 z.1.2.2.1 z.1.2.2.2.2.2.2.2.2.1 z.1.2.2.2.2.2.2.2.2.2.2.1 z.2.1.1 z.2.1.2.1 z.2.2.1.1 z.2.2.1.2.1 z.2.2.1.2.2.1 z.2.2.1.2.2.2.1 z.2.2.1.2.2.2.2.1 z.2.2.2.1.1 z.2.2.2.1.2.1 z.2.2.2.1.2.2.1 z.2.2.2.1.2.2.2.1 z.2.2.2.1.2.2.2.2.1 v) z.1.2.2.2.2.2.2.2.2.2.2.2.1) fun r => .sum r (fun a0 => .ret (.inl (((), ((), ((), ((), ((), ((), (a0, ((), ((), ((), ((), ((), ((), ((), ((), ((), ((), ((), ((), ((), ((), ((), ((), ((), ((), ((), ((), ((), ((), ((), ((), ((), ((), ((), ((), ((), ((), ((), ((), ((), ((), ((), ((), ((), ((), ((), ((), ((), ((), ((), ((), ((), ((), ((), ((), ((), ((), ((), ((), ((), ((), ((), ((), ((), ((), ((), ((), ((), ((), ((), ((), ((), ((), ((), ((), ((), ((), ((), ((), ((), ((), ()))))))))))))))))))))))))))))))))))))))))))))))))))))))))))))))))))))))))))))))))), ()))) (fun b0 => .ret (.inr ((z.1.1, ((), (z.1.2.2.1, ((), ((), ((), ((), ((), (z.1.2.2.2.2.2.2.2.2.1, ((), (z.1.2.2.2.2.2.2.2.2.2.2.1, ((), ((), ((), ((), ((), ((), ((), ((), ((), ((), ((), ((), ((), ((), ((), ((), ((), ((), ((), ((), ((), ((), ((), ((), ((), ((), ((), ((), ((), ((), ((), ((), ((), ((), ((), ((), ((), ((), ((), ((), ((), ((), ((), ((), ((), ((), ((), ((), ((), ((), ((), ((), ((), ((), ((), ((), ((), ((), ((), ((), ((), ((), ((), ((), ((), ((), ((), ((), ((), ((), ()))))))))))))))))))))))))))))))))))))))))))))))))))))))))))))))))))))))))))))))))), ((z.2.1.1, (z.2.1.2.1, ())), ((z.2.2.1.1, (z.2.2.1.2.1, (z.2.2.1.2.2.1, (z.2.2.1.2.2.2.1, (z.2.2.1.2.2.2.2.1, ()))))), ((z.2.2.2.1.1, (z.2.2.2.1.2.1, (z.2.2.2.1.2.2.1, (z.2.2.2.1.2.2.2.1, (z.2.2.2.1.2.2.2.2.1, ()))))), ()))))))⟩

theorem l08_LastIs_L6_ok : l08_LastIs_L6.ok Try.prog (nthC (loopsOf (bodyOf Try.f3)) 0) := by
  refine Lp.lift (π := ((List Sib) × Bool × Bool × Bool × (List Seen) × (List Sib) × Str × Int × Str × Bool × Int × Str × Int × Str × Bool × Int)) (V := Int) (ρ := (Bool ⊕ Unit)) mix tabOk l08_LastIs_L6 (o := orT [r08_Few_g, r07_Few_g, l08_awake_g, last_Latest_g, r08_Latest_g, last_Later_g, r08_Later_g, last_Live_g, r08_Live_gv, r07_SameSibs_g, last_Answer_g, r08_Answer_g] [] noFz) (orT_sound ⟨r08_Few_ok, ⟨r07_Few_ok, ⟨l08_awake_ok, ⟨last_Latest_ok, ⟨r08_Latest_ok, ⟨last_Later_ok, ⟨r08_Later_ok, ⟨last_Live_ok, ⟨r08_Live_okv, ⟨r07_SameSibs_ok, ⟨last_Answer_ok, ⟨r08_Answer_ok, trivial⟩⟩⟩⟩⟩⟩⟩⟩⟩⟩⟩⟩) (allLp_of [] (by kernel_rfl) trivial rfl) (fun x v => ((x.1, ((), (x.2.1, ((), ((), ((), ((), ((), (x.2.2.1, ((), (x.2.2.2.1, (v, ((), ((), ((), ((), ((), ((), ((), ((), ((), ((), ((), ((), ((), ((), ((), ((), ((), ((), ((), ((), ((), ((), ((), ((), ((), ((), ((), ((), ((), ((), ((), ((), ((), ((), ((), ((), ((), ((), ((), ((), ((), ((), ((), ((), ((), ((), ((), ((), ((), ((), ((), ((), ((), ((), ((), ((), ((), ((), ((), ((), ((), ((), ((), ((), ((), ((), ((), ((), ((), ()))))))))))))))))))))))))))))))))))))))))))))))))))))))))))))))))))))))))))))))))), ((x.2.2.2.2.1, (x.2.2.2.2.2.1, ())), ((x.2.2.2.2.2.2.1, (x.2.2.2.2.2.2.2.1, (x.2.2.2.2.2.2.2.2.1, (x.2.2.2.2.2.2.2.2.2.1, (x.2.2.2.2.2.2.2.2.2.2.1, ()))))), ((x.2.2.2.2.2.2.2.2.2.2.2.1, (x.2.2.2.2.2.2.2.2.2.2.2.2.1, (x.2.2.2.2.2.2.2.2.2.2.2.2.2.1, (x.2.2.2.2.2.2.2.2.2.2.2.2.2.2.1, (x.2.2.2.2.2.2.2.2.2.2.2.2.2.2.2, ()))))), ()))))) (fun x r => match r with | .inl a0 => .inl (((), ((), ((), ((), ((), ((), (a0, ((), ((), ((), ((), ((), ((), ((), ((), ((), ((), ((), ((), ((), ((), ((), ((), ((), ((), ((), ((), ((), ((), ((), ((), ((), ((), ((), ((), ((), ((), ((), ((), ((), ((), ((), ((), ((), ((), ((), ((), ((), ((), ((), ((), ((), ((), ((), ((), ((), ((), ((), ((), ((), ((), ((), ((), ((), ((), ((), ((), ((), ((), ((), ((), ((), ((), ((), ((), ((), ((), ((), ((), ((), ((), ()))))))))))))))))))))))))))))))))))))))))))))))))))))))))))))))))))))))))))))))))), ()) | .inr b0 => (.inr ((x.1, ((), (x.2.1, ((), ((), ((), ((), ((), (x.2.2.1, ((), (x.2.2.2.1, ((), ((), ((), ((), ((), ((), ((), ((), ((), ((), ((), ((), ((), ((), ((), ((), ((), ((), ((), ((), ((), ((), ((), ((), ((), ((), ((), ((), ((), ((), ((), ((), ((), ((), ((), ((), ((), ((), ((), ((), ((), ((), ((), ((), ((), ((), ((), ((), ((), ((), ((), ((), ((), ((), ((), ((), ((), ((), ((), ((), ((), ((), ((), ((), ((), ((), ((), ((), ((), ((), ()))))))))))))))))))))))))))))))))))))))))))))))))))))))))))))))))))))))))))))))))), ((x.2.2.2.2.1, (x.2.2.2.2.2.1, ())), ((x.2.2.2.2.2.2.1, (x.2.2.2.2.2.2.2.1, (x.2.2.2.2.2.2.2.2.1, (x.2.2.2.2.2.2.2.2.2.1, (x.2.2.2.2.2.2.2.2.2.2.1, ()))))), ((x.2.2.2.2.2.2.2.2.2.2.2.1, (x.2.2.2.2.2.2.2.2.2.2.2.2.1, (x.2.2.2.2.2.2.2.2.2.2.2.2.2.1, (x.2.2.2.2.2.2.2.2.2.2.2.2.2.2.1, (x.2.2.2.2.2.2.2.2.2.2.2.2.2.2.2, ()))))), ())))))) (fun x v => l08_LastIs_L6_step x.1 x.2.1 x.2.2.1 x.2.2.2.1 x.2.2.2.2.1 x.2.2.2.2.2.1 x.2.2.2.2.2.2.1 x.2.2.2.2.2.2.2.1 x.2.2.2.2.2.2.2.2.1 x.2.2.2.2.2.2.2.2.2.1 x.2.2.2.2.2.2.2.2.2.2.1 x.2.2.2.2.2.2.2.2.2.2.2.1 x.2.2.2.2.2.2.2.2.2.2.2.2.1 x.2.2.2.2.2.2.2.2.2.2.2.2.2.1 x.2.2.2.2.2.2.2.2.2.2.2.2.2.2.1 x.2.2.2.2.2.2.2.2.2.2.2.2.2.2.2 v) (fun x r => .sum r (fun a0 => .ret (.inl (((), ((), ((), ((), ((), ((), (a0, ((), ((), ((), ((), ((), ((), ((), ((), ((), ((), ((), ((), ((), ((), ((), ((), ((), ((), ((), ((), ((), ((), ((), ((), ((), ((), ((), ((), ((), ((), ((), ((), ((), ((), ((), ((), ((), ((), ((), ((), ((), ((), ((), ((), ((), ((), ((), ((), ((), ((), ((), ((), ((), ((), ((), ((), ((), ((), ((), ((), ((), ((), ((), ((), ((), ((), ((), ((), ((), ((), ((), ((), ((), ((), ()))))))))))))))))))))))))))))))))))))))))))))))))))))))))))))))))))))))))))))))))), ()))) (fun b0 => .ret (.inr ((x.1, ((), (x.2.1, ((), ((), ((), ((), ((), (x.2.2.1, ((), (x.2.2.2.1, ((), ((), ((), ((), ((), ((), ((), ((), ((), ((), ((), ((), ((), ((), ((), ((), ((), ((), ((), ((), ((), ((), ((), ((), ((), ((), ((), ((), ((), ((), ((), ((), ((), ((), ((), ((), ((), ((), ((), ((), ((), ((), ((), ((), ((), ((), ((), ((), ((), ((), ((), ((), ((), ((), ((), ((), ((), ((), ((), ((), ((), ((), ((), ((), ((), ((), ((), ((), ((), ((), ()))))))))))))))))))))))))))))))))))))))))))))))))))))))))))))))))))))))))))))))))), ((x.2.2.2.2.1, (x.2.2.2.2.2.1, ())), ((x.2.2.2.2.2.2.1, (x.2.2.2.2.2.2.2.1, (x.2.2.2.2.2.2.2.2.1, (x.2.2.2.2.2.2.2.2.2.1, (x.2.2.2.2.2.2.2.2.2.2.1, ()))))), ((x.2.2.2.2.2.2.2.2.2.2.2.1, (x.2.2.2.2.2.2.2.2.2.2.2.2.1, (x.2.2.2.2.2.2.2.2.2.2.2.2.2.1, (x.2.2.2.2.2.2.2.2.2.2.2.2.2.2.1, (x.2.2.2.2.2.2.2.2.2.2.2.2.2.2.2, ()))))), ()))))))) (fun z => (z.1.1, z.1.2.2.1, z.1.2.2.2.2.2.2.2.2.1, z.1.2.2.2.2.2.2.2.2.2.2.1, z.2.1.1, z.2.1.2.1, z.2.2.1.1, z.2.2.1.2.1, z.2.2.1.2.2.1, z.2.2.1.2.2.2.1, z.2.2.1.2.2.2.2.1, z.2.2.2.1.1, z.2.2.2.1.2.1, z.2.2.2.1.2.2.1, z.2.2.2.1.2.2.2.1, z.2.2.2.1.2.2.2.2.1)) (fun z => z.1.2.2.2.2.2.2.2.2.2.2.2.1) (fun _ => rfl) (fun _ => rfl) (fun x r Q h => match r, h with | .inl _, h => h | .inr b0, h => (h)) ?_
  intro x v; kernel_rfl

def l08_LastIs_T (x0 : List Sib) (x1 : Obj) (x2 : Bool) : Tree Bool :=
  .bnd (r08_Few_T x0) fun y1 =>
  .grd (!(!y1)) (r07_Few_T x1) false fun y2 =>
  .ite ((!y1) || (!y2)) (
    .bnd l08_awake_T fun y3 =>
    .ret y3) (
    .bnd (last_Latest_T x0) fun y4 =>
    .bnd (r08_Latest_T x0) fun y5 =>
    .bnd (.loop (fun v => l08_LastIs_L6_step x0 x2 y4.2.1 y5.2.1 x1.1 x1.2 y4.1.1.1 y4.1.1.2 y4.1.2.1 y4.1.2.2.1 y4.1.2.2.2 y5.1.1.1 y5.1.1.2 y5.1.2.1 y5.1.2.2.1 y5.1.2.2.2 v) 0) fun r6 =>
    .sum r6 (fun r7 =>
      .ret r7) (fun r8 =>
      .grd ((((y4.1.1.1 == y5.1.1.1) && ((decide (y4.1.1.2 = y5.1.1.2)) && true)) && ((y4.1.2.1 == y5.1.2.1) && ((y4.1.2.2.1 == y5.1.2.2.1) && ((decide (y4.1.2.2.2 = y5.1.2.2.2)) && true)))) && (y4.2.1 == y5.2.1)) (last_Live_T x0) ([] : List Sib) fun y9 =>
      .grd ((((y4.1.1.1 == y5.1.1.1) && ((decide (y4.1.1.2 = y5.1.1.2)) && true)) && ((y4.1.2.1 == y5.1.2.1) && ((y4.1.2.2.1 == y5.1.2.2.1) && ((decide (y4.1.2.2.2 = y5.1.2.2.2)) && true)))) && (y4.2.1 == y5.2.1)) (r08_Live_T x0) ([] : List Sib) fun y10 =>
      .grd ((((y4.1.1.1 == y5.1.1.1) && ((decide (y4.1.1.2 = y5.1.1.2)) && true)) && ((y4.1.2.1 == y5.1.2.1) && ((y4.1.2.2.1 == y5.1.2.2.1) && ((decide (y4.1.2.2.2 = y5.1.2.2.2)) && true)))) && (y4.2.1 == y5.2.1)) (r07_SameSibs_T y9 y10) false fun y11 =>
      .grd (((((y4.1.1.1 == y5.1.1.1) && ((decide (y4.1.1.2 = y5.1.1.2)) && true)) && ((y4.1.2.1 == y5.1.2.1) && ((y4.1.2.2.1 == y5.1.2.2.1) && ((decide (y4.1.2.2.2 = y5.1.2.2.2)) && true)))) && (y4.2.1 == y5.2.1)) && y11) (last_Answer_T x1 x2) ([] : List Sib) fun y12 =>
      .grd (((((y4.1.1.1 == y5.1.1.1) && ((decide (y4.1.1.2 = y5.1.1.2)) && true)) && ((y4.1.2.1 == y5.1.2.1) && ((y4.1.2.2.1 == y5.1.2.2.1) && ((decide (y4.1.2.2.2 = y5.1.2.2.2)) && true)))) && (y4.2.1 == y5.2.1)) && y11) (r08_Answer_T x1 x2) ([] : List Sib) fun y13 =>
      .grd (((((y4.1.1.1 == y5.1.1.1) && ((decide (y4.1.1.2 = y5.1.1.2)) && true)) && ((y4.1.2.1 == y5.1.2.1) && ((y4.1.2.2.1 == y5.1.2.2.1) && ((decide (y4.1.2.2.2 = y5.1.2.2.2)) && true)))) && (y4.2.1 == y5.2.1)) && y11) (r07_SameSibs_T y12 y13) false fun y14 =>
      .grd ((((((y4.1.1.1 == y5.1.1.1) && ((decide (y4.1.1.2 = y5.1.1.2)) && true)) && ((y4.1.2.1 == y5.1.2.1) && ((y4.1.2.2.1 == y5.1.2.2.1) && ((decide (y4.1.2.2.2 = y5.1.2.2.2)) && true)))) && (y4.2.1 == y5.2.1)) && y11) && y14) l08_awake_T false fun y15 =>
      .ret (((((((y4.1.1.1 == y5.1.1.1) && ((decide (y4.1.1.2 = y5.1.1.2)) && true)) && ((y4.1.2.1 == y5.1.2.1) && ((y4.1.2.2.1 == y5.1.2.2.1) && ((decide (y4.1.2.2.2 = y5.1.2.2.2)) && true)))) && (y4.2.1 == y5.2.1)) && y11) && y14) && y15)))

noncomputable def l08_LastIs (x0 : List Sib) (x1 : Obj) (x2 : Bool) : Option Bool := (l08_LastIs_T x0 x1 x2).run

def l08_LastIs_g : Sig := ⟨3, (.cons (.val false (.list tSib)) (.cons (.val true tObj) (.cons (.val false .bool) .nil))), .vals (.val false .bool), fun z => l08_LastIs_T z.1 z.2.1 z.2.2.1, false⟩

theorem l08_LastIs_ok : l08_LastIs_g.ok Try.prog := by
  refine Sig.lift mix tabOk nms _ Try.func3 (c := (bodyOf Try.f3)) (by kernel_rfl) (o := orT [r08_Few_g, r07_Few_g, l08_awake_g, last_Latest_g, r08_Latest_g, last_Later_g, r08_Later_g, last_Live_g, r08_Live_gv, r07_SameSibs_g, last_Answer_g, r08_Answer_g] [l08_LastIs_L6] noFz) (orT_sound ⟨r08_Few_ok, ⟨r07_Few_ok, ⟨l08_awake_ok, ⟨last_Latest_ok, ⟨r08_Latest_ok, ⟨last_Later_ok, ⟨r08_Later_ok, ⟨last_Live_ok, ⟨r08_Live_okv, ⟨r07_SameSibs_ok, ⟨last_Answer_ok, ⟨r08_Answer_ok, trivial⟩⟩⟩⟩⟩⟩⟩⟩⟩⟩⟩⟩) (allLp_of [nthC (loopsOf (bodyOf Try.f3)) 0] (by kernel_rfl) ⟨l08_LastIs_L6_ok, trivial⟩ (by kernel_rfl)) ?_
  intro z; kernel_rfl

def r06_in_L2_step (l : List Int) (n : Int) (i : Int) : Tree (Int ⊕ (Bool ⊕ Unit)) :=
  .ite (decide (i < (l.length : Int))) (
    ask (inb i l.length) <|
    .ite (decide ((l.getD i.toNat (0 : Int)) = n)) (
      .ret (.inr (.inl true))) (
      .ret (.inl (w64 (i + 1))))) (
    .ret (.inr (.inr ())))

def r06_in_L2 : Lp := ⟨2, [], [], (.cons (.val false (.list (.int .i64))) (.cons (.val false (.int .i64)) (.cons .any (.cons .any (.cons .any (.cons (.val false (.int .i64)) (.cons .any (.cons .any (.cons .any (.cons .any (.cons .any (.cons .any (.cons .any (.cons .any (.cons .any (.cons .any (.cons .any (.cons .any .nil)))))))))))))))))), .nil, 0, .more 0 [] (.cons .any (.cons .any (.cons .any (.cons .any (.cons (.val false .bool) (.cons .any (.cons .any (.cons .any (.cons .any (.cons .any (.cons .any (.cons .any (.cons .any (.cons .any (.cons .any (.cons .any (.cons .any (.cons .any .nil)))))))))))))))))) .nil (.one 1 [] (.cons .any (.cons .any (.cons .any (.cons .any (.cons .any (.cons .any (.cons .any (.cons .any (.cons .any (.cons .any (.cons .any (.cons .any (.cons .any (.cons .any (.cons .any (.cons .any (.cons .any (.cons .any .nil)))))))))))))))))) .nil), fun z => .bnd (.loop (fun v => r06_in_L2_step z.1.1 z.1.2.1 v) z.1.2.2.2.2.2.1) fun r => .sum r (fun a0 => .ret (.inl (((), ((), ((), ((), (a0, ((), ((), ((), ((), ((), ((), ((), ((), ((), ((), ((), ((), ((), ())))))))))))))))))), ()))) (fun b0 => .ret (.inr (((), ((), ((), ((), ((), ((), ((), ((), ((), ((), ((), ((), ((), ((), ((), ((), ((), ((), ())))))))))))))))))), ())))⟩

theorem r06_in_L2_ok : r06_in_L2.ok Try.prog (nthC (loopsOf (bodyOf Try.f36)) 0) := by
  refine Lp.lift (π := ((List Int) × Int)) (V := Int) (ρ := (Bool ⊕ Unit)) mix tabOk r06_in_L2 (o := orT [] [] noFz) (orT_sound trivial) (allLp_of [] (by kernel_rfl) trivial rfl) (fun x v => ((x.1, (x.2, ((), ((), ((), (v, ((), ((), ((), ((), ((), ((), ((), ((), ((), ((), ((), ((), ())))))))))))))))))), ())) (fun x r => match r with | .inl a0 => .inl (((), ((), ((), ((), (a0, ((), ((), ((), ((), ((), ((), ((), ((), ((), ((), ((), ((), ((), ())))))))))))))))))), ()) | .inr b0 => (.inr (((), ((), ((), ((), ((), ((), ((), ((), ((), ((), ((), ((), ((), ((), ((), ((), ((), ((), ())))))))))))))))))), ()))) (fun x v => r06_in_L2_step x.1 x.2 v) (fun x r => .sum r (fun a0 => .ret (.inl (((), ((), ((), ((), (a0, ((), ((), ((), ((), ((), ((), ((), ((), ((), ((), ((), ((), ((), ())))))))))))))))))), ()))) (fun b0 => .ret (.inr (((), ((), ((), ((), ((), ((), ((), ((), ((), ((), ((), ((), ((), ((), ((), ((), ((), ((), ())))))))))))))))))), ())))) (fun z => (z.1.1, z.1.2.1)) (fun z => z.1.2.2.2.2.2.1) (fun _ => rfl) (fun _ => rfl) (fun x r Q h => match r, h with | .inl _, h => h | .inr b0, h => (h)) ?_
  intro x v; kernel_rfl

def r06_in_T (x0 : List Int) (x1 : Int) : Tree Bool :=
  .bnd (.loop (fun v => r06_in_L2_step x0 x1 v) 0) fun r1 =>
  .sum r1 (fun r2 =>
    .ret r2) (fun r3 =>
    .ret false)

noncomputable def r06_in (x0 : List Int) (x1 : Int) : Option Bool := (r06_in_T x0 x1).run

def r06_in_g : Sig := ⟨36, (.cons (.val false (.list (.int .i64))) (.cons (.val false (.int .i64)) .nil)), .vals (.val false .bool), fun z => r06_in_T z.1 z.2.1, false⟩

theorem r06_in_ok : r06_in_g.ok Try.prog := by
  refine Sig.lift mix tabOk nms _ Try.func36 (c := (bodyOf Try.f36)) (by kernel_rfl) (o := orT [] [r06_in_L2] noFz) (orT_sound trivial) (allLp_of [nthC (loopsOf (bodyOf Try.f36)) 0] (by kernel_rfl) ⟨r06_in_L2_ok, trivial⟩ (by kernel_rfl)) ?_
  intro z; kernel_rfl

def r06_Has_L2_step (c : List Seen) (d : Str) (d2 : Int) (i : Int) : Tree (Int ⊕ (Bool ⊕ Unit)) :=
  .ite (decide (i < (c.length : Int))) (
    ask (inb i c.length) <|
    ask ((!((((c.getD i.toNat (dfl tSeen : Seen)).1) == d) && (decide ((0 : Int) < d2)))) || inb i c.length) <|
    ask ((!((((c.getD i.toNat (dfl tSeen : Seen)).1) == d) && (!((decide ((0 : Int) < d2)) && (decide (d2 ≤ ((c.getD i.toNat (dfl tSeen : Seen)).2).1)))))) || inb i c.length) <|
    .grd ((((c.getD i.toNat (dfl tSeen : Seen)).1) == d) && (!((decide ((0 : Int) < d2)) && (decide (d2 ≤ ((c.getD i.toNat (dfl tSeen : Seen)).2).1))))) (r06_in_T (((c.getD i.toNat (dfl tSeen : Seen)).2).2) d2) false fun y1 =>
    .ite ((((c.getD i.toNat (dfl tSeen : Seen)).1) == d) && (((decide ((0 : Int) < d2)) && (decide (d2 ≤ ((c.getD i.toNat (dfl tSeen : Seen)).2).1))) || y1)) (
      .ret (.inr (.inl true))) (
      .ret (.inl (w64 (i + 1))))) (
    .ret (.inr (.inr ())))

def r06_Has_L2 : Lp := ⟨2, [], [], (.cons (.val false (.list tSeen)) (.cons .any (.cons .any (.cons (.ref 0 0) (.cons .any (.cons (.val false (.int .i64)) (.cons .any (.cons .any (.cons .any (.cons .any (.cons .any (.cons .any (.cons .any (.cons .any (.cons .any (.cons .any (.cons .any (.cons .any (.cons .any (.cons .any (.cons .any (.cons .any (.cons .any (.cons .any (.cons .any (.cons .any (.cons .any (.cons .any (.cons .any (.cons .any (.cons .any (.cons .any (.cons .any (.cons .any (.cons .any (.cons .any (.cons .any (.cons .any (.cons .any (.cons .any (.cons .any (.cons .any (.cons .any (.cons .any (.cons .any .nil))))))))))))))))))))))))))))))))))))))))))))), (.cells 30 (.cons (.val false .str) (.cons (.val false (.int .i64)) .nil)) .nil), 0, .more 0 [] (.cons .any (.cons .any (.cons .any (.cons .any (.cons (.val false .bool) (.cons .any (.cons .any (.cons .any (.cons .any (.cons .any (.cons .any (.cons .any (.cons .any (.cons .any (.cons .any (.cons .any (.cons .any (.cons .any (.cons .any (.cons .any (.cons .any (.cons .any (.cons .any (.cons .any (.cons .any (.cons .any (.cons .any (.cons .any (.cons .any (.cons .any (.cons .any (.cons .any (.cons .any (.cons .any (.cons .any (.cons .any (.cons .any (.cons .any (.cons .any (.cons .any (.cons .any (.cons .any (.cons .any (.cons .any (.cons .any .nil))))))))))))))))))))))))))))))))))))))))))))) .nil (.one 1 [] (.cons .any (.cons .any (.cons .any (.cons .any (.cons .any (.cons .any (.cons .any (.cons .any (.cons .any (.cons .any (.cons .any (.cons .any (.cons .any (.cons .any (.cons .any (.cons .any (.cons .any (.cons .any (.cons .any (.cons .any (.cons .any (.cons .any (.cons .any (.cons .any (.cons .any (.cons .any (.cons .any (.cons .any (.cons .any (.cons .any (.cons .any (.cons .any (.cons .any (.cons .any (.cons .any (.cons .any (.cons .any (.cons .any (.cons .any (.cons .any (.cons .any (.cons .any (.cons .any (.cons .any (.cons .any .nil))))))))))))))))))))))))))))))))))))))))))))) .nil), fun z => .bnd (.loop (fun v => r06_Has_L2_step z.1.1 z.2.1.1 z.2.1.2.1 v) z.1.2.2.2.2.2.1) fun r => .sum r (fun a0 => .ret (.inl (((), ((), ((), ((), (a0, ((), ((), ((), ((), ((), ((), ((), ((), ((), ((), ((), ((), ((), ((), ((), ((), ((), ((), ((), ((), ((), ((), ((), ((), ((), ((), ((), ((), ((), ((), ((), ((), ((), ((), ((), ((), ((), ((), ((), ((), ()))))))))))))))))))))))))))))))))))))))))))))), ()))) (fun b0 => .ret (.inr (((), ((), ((), ((), ((), ((), ((), ((), ((), ((), ((), ((), ((), ((), ((), ((), ((), ((), ((), ((), ((), ((), ((), ((), ((), ((), ((), ((), ((), ((), ((), ((), ((), ((), ((), ((), ((), ((), ((), ((), ((), ((), ((), ((), ((), ()))))))))))))))))))))))))))))))))))))))))))))), ())))⟩

theorem r06_Has_L2_ok : r06_Has_L2.ok Try.prog (nthC (loopsOf (bodyOf Try.f28)) 0) := by
  refine Lp.lift (π := ((List Seen) × Str × Int)) (V := Int) (ρ := (Bool ⊕ Unit)) mix tabOk r06_Has_L2 (o := orT [r06_in_g] [] noFz) (orT_sound ⟨r06_in_ok, trivial⟩) (allLp_of [] (by kernel_rfl) trivial rfl) (fun x v => ((x.1, ((), ((), ((), ((), (v, ((), ((), ((), ((), ((), ((), ((), ((), ((), ((), ((), ((), ((), ((), ((), ((), ((), ((), ((), ((), ((), ((), ((), ((), ((), ((), ((), ((), ((), ((), ((), ((), ((), ((), ((), ((), ((), ((), ((), ()))))))))))))))))))))))))))))))))))))))))))))), ((x.2.1, (x.2.2, ())), ()))) (fun x r => match r with | .inl a0 => .inl (((), ((), ((), ((), (a0, ((), ((), ((), ((), ((), ((), ((), ((), ((), ((), ((), ((), ((), ((), ((), ((), ((), ((), ((), ((), ((), ((), ((), ((), ((), ((), ((), ((), ((), ((), ((), ((), ((), ((), ((), ((), ((), ((), ((), ((), ()))))))))))))))))))))))))))))))))))))))))))))), ()) | .inr b0 => (.inr (((), ((), ((), ((), ((), ((), ((), ((), ((), ((), ((), ((), ((), ((), ((), ((), ((), ((), ((), ((), ((), ((), ((), ((), ((), ((), ((), ((), ((), ((), ((), ((), ((), ((), ((), ((), ((), ((), ((), ((), ((), ((), ((), ((), ((), ()))))))))))))))))))))))))))))))))))))))))))))), ()))) (fun x v => r06_Has_L2_step x.1 x.2.1 x.2.2 v) (fun x r => .sum r (fun a0 => .ret (.inl (((), ((), ((), ((), (a0, ((), ((), ((), ((), ((), ((), ((), ((), ((), ((), ((), ((), ((), ((), ((), ((), ((), ((), ((), ((), ((), ((), ((), ((), ((), ((), ((), ((), ((), ((), ((), ((), ((), ((), ((), ((), ((), ((), ((), ((), ()))))))))))))))))))))))))))))))))))))))))))))), ()))) (fun b0 => .ret (.inr (((), ((), ((), ((), ((), ((), ((), ((), ((), ((), ((), ((), ((), ((), ((), ((), ((), ((), ((), ((), ((), ((), ((), ((), ((), ((), ((), ((), ((), ((), ((), ((), ((), ((), ((), ((), ((), ((), ((), ((), ((), ((), ((), ((), ((), ()))))))))))))))))))))))))))))))))))))))))))))), ())))) (fun z => (z.1.1, z.2.1.1, z.2.1.2.1)) (fun z => z.1.2.2.2.2.2.1) (fun _ => rfl) (fun _ => rfl) (fun x r Q h => match r, h with | .inl _, h => h | .inr b0, h => (h)) ?_
  intro x v; kernel_rfl

def r06_Has_T (x0 : List Seen) (x1 : Dot) : Tree Bool :=
  .bnd (.loop (fun v => r06_Has_L2_step x0 x1.1 x1.2 v) 0) fun r1 =>
  .sum r1 (fun r2 =>
    .ret r2) (fun r3 =>
    .ret false)

noncomputable def r06_Has (x0 : List Seen) (x1 : Dot) : Option Bool := (r06_Has_T x0 x1).run

def r06_Has_g : Sig := ⟨28, (.cons (.val false (.list tSeen)) (.cons (.val true tDot) .nil)), .vals (.val false .bool), fun z => r06_Has_T z.1 z.2.1, false⟩

theorem r06_Has_ok : r06_Has_g.ok Try.prog := by
  refine Sig.lift mix tabOk nms _ Try.func28 (c := (bodyOf Try.f28)) (by kernel_rfl) (o := orT [r06_in_g] [r06_Has_L2] noFz) (orT_sound ⟨r06_in_ok, trivial⟩) (allLp_of [nthC (loopsOf (bodyOf Try.f28)) 0] (by kernel_rfl) ⟨r06_Has_L2_ok, trivial⟩ (by kernel_rfl)) ?_
  intro z; kernel_rfl

def r08_Apart_L7_step (l : List Sib) (known : List (List Seen)) (i : Int) (k : Int) : Tree (Int ⊕ (Bool ⊕ Unit)) :=
  .ite ((decide (k < (l.length : Int))) && (decide (k < (known.length : Int)))) (
    ask ((!(!decide (i = k))) || inb k known.length) <|
    ask ((!(!decide (i = k))) || inb i l.length) <|
    .grd (!decide (i = k)) (r06_Has_T (known.getD k.toNat ([] : List Seen)) ((l.getD i.toNat (dfl tSib : Sib)).1)) false fun y1 =>
    .ite ((!decide (i = k)) && y1) (
      .ret (.inr (.inl false))) (
      .ret (.inl (w64 (k + 1))))) (
    .ret (.inr (.inr ())))

def r08_Apart_L7 : Lp := ⟨7, [], [], (.cons (.val false (.list tSib)) (.cons (.val false (.list (.list tSeen))) (.cons .any (.cons .any (.cons .any (.cons (.val false (.int .i64)) (.cons (.val false (.int .i64)) (.cons .any (.cons .any (.cons .any (.cons .any (.cons .any (.cons .any (.cons .any (.cons .any (.cons .any (.cons .any (.cons .any (.cons .any (.cons .any (.cons .any (.cons .any (.cons .any (.cons .any (.cons .any (.cons .any (.cons .any (.cons .any (.cons .any (.cons .any (.cons .any (.cons .any (.cons .any (.cons .any (.cons .any (.cons .any (.cons .any (.cons .any (.cons .any (.cons .any (.cons .any (.cons .any (.cons .any (.cons .any (.cons .any .nil))))))))))))))))))))))))))))))))))))))))))))), .nil, 0, .more 0 [] (.cons .any (.cons .any (.cons .any (.cons .any (.cons (.val false .bool) (.cons .any (.cons .any (.cons .any (.cons .any (.cons .any (.cons .any (.cons .any (.cons .any (.cons .any (.cons .any (.cons .any (.cons .any (.cons .any (.cons .any (.cons .any (.cons .any (.cons .any (.cons .any (.cons .any (.cons .any (.cons .any (.cons .any (.cons .any (.cons .any (.cons .any (.cons .any (.cons .any (.cons .any (.cons .any (.cons .any (.cons .any (.cons .any (.cons .any (.cons .any (.cons .any (.cons .any (.cons .any (.cons .any (.cons .any (.cons .any .nil))))))))))))))))))))))))))))))))))))))))))))) .nil (.one 3 [] (.cons (.val false (.list tSib)) (.cons (.val false (.list (.list tSeen))) (.cons .any (.cons .any (.cons .any (.cons (.val false (.int .i64)) (.cons .any (.cons .any (.cons .any (.cons .any (.cons .any (.cons .any (.cons .any (.cons .any (.cons .any (.cons .any (.cons .any (.cons .any (.cons .any (.cons .any (.cons .any (.cons .any (.cons .any (.cons .any (.cons .any (.cons .any (.cons .any (.cons .any (.cons .any (.cons .any (.cons .any (.cons .any (.cons .any (.cons .any (.cons .any (.cons .any (.cons .any (.cons .any (.cons .any (.cons .any (.cons .any (.cons .any (.cons .any (.cons .any (.cons .any .nil))))))))))))))))))))))))))))))))))))))))))))) .nil), fun z => .bnd (.loop (fun v => r08_Apart_L7_step z.1.1 z.1.2.1 z.1.2.2.2.2.2.1 v) z.1.2.2.2.2.2.2.1) fun r => .sum r (fun a0 => .ret (.inl (((), ((), ((), ((), (a0, ((), ((), ((), ((), ((), ((), ((), ((), ((), ((), ((), ((), ((), ((), ((), ((), ((), ((), ((), ((), ((), ((), ((), ((), ((), ((), ((), ((), ((), ((), ((), ((), ((), ((), ((), ((), ((), ((), ((), ((), ()))))))))))))))))))))))))))))))))))))))))))))), ()))) (fun b0 => .ret (.inr ((z.1.1, (z.1.2.1, ((), ((), ((), (z.1.2.2.2.2.2.1, ((), ((), ((), ((), ((), ((), ((), ((), ((), ((), ((), ((), ((), ((), ((), ((), ((), ((), ((), ((), ((), ((), ((), ((), ((), ((), ((), ((), ((), ((), ((), ((), ((), ((), ((), ((), ((), ((), ((), ()))))))))))))))))))))))))))))))))))))))))))))), ())))⟩

theorem r08_Apart_L7_ok : r08_Apart_L7.ok Try.prog (nthC (loopsOf (nthC (loopsOf (bodyOf Try.f21)) 0)) 0) := by
  refine Lp.lift (π := ((List Sib) × (List (List Seen)) × Int)) (V := Int) (ρ := (Bool ⊕ Unit)) mix tabOk r08_Apart_L7 (o := orT [r06_Has_g] [] noFz) (orT_sound ⟨r06_Has_ok, trivial⟩) (allLp_of [] (by kernel_rfl) trivial rfl) (fun x v => ((x.1, (x.2.1, ((), ((), ((), (x.2.2, (v, ((), ((), ((), ((), ((), ((), ((), ((), ((), ((), ((), ((), ((), ((), ((), ((), ((), ((), ((), ((), ((), ((), ((), ((), ((), ((), ((), ((), ((), ((), ((), ((), ((), ((), ((), ((), ((), ((), ()))))))))))))))))))))))))))))))))))))))))))))), ())) (fun x r => match r with | .inl a0 => .inl (((), ((), ((), ((), (a0, ((), ((), ((), ((), ((), ((), ((), ((), ((), ((), ((), ((), ((), ((), ((), ((), ((), ((), ((), ((), ((), ((), ((), ((), ((), ((), ((), ((), ((), ((), ((), ((), ((), ((), ((), ((), ((), ((), ((), ((), ()))))))))))))))))))))))))))))))))))))))))))))), ()) | .inr b0 => (.inr ((x.1, (x.2.1, ((), ((), ((), (x.2.2, ((), ((), ((), ((), ((), ((), ((), ((), ((), ((), ((), ((), ((), ((), ((), ((), ((), ((), ((), ((), ((), ((), ((), ((), ((), ((), ((), ((), ((), ((), ((), ((), ((), ((), ((), ((), ((), ((), ((), ()))))))))))))))))))))))))))))))))))))))))))))), ()))) (fun x v => r08_Apart_L7_step x.1 x.2.1 x.2.2 v) (fun x r => .sum r (fun a0 => .ret (.inl (((), ((), ((), ((), (a0, ((), ((), ((), ((), ((), ((), ((), ((), ((), ((), ((), ((), ((), ((), ((), ((), ((), ((), ((), ((), ((), ((), ((), ((), ((), ((), ((), ((), ((), ((), ((), ((), ((), ((), ((), ((), ((), ((), ((), ((), ()))))))))))))))))))))))))))))))))))))))))))))), ()))) (fun b0 => .ret (.inr ((x.1, (x.2.1, ((), ((), ((), (x.2.2, ((), ((), ((), ((), ((), ((), ((), ((), ((), ((), ((), ((), ((), ((), ((), ((), ((), ((), ((), ((), ((), ((), ((), ((), ((), ((), ((), ((), ((), ((), ((), ((), ((), ((), ((), ((), ((), ((), ((), ()))))))))))))))))))))))))))))))))))))))))))))), ())))) (fun z => (z.1.1, z.1.2.1, z.1.2.2.2.2.2.1)) (fun z => z.1.2.2.2.2.2.2.1) (fun _ => rfl) (fun _ => rfl) (fun x r Q h => match r, h with | .inl _, h => h | .inr b0, h => (h)) ?_
  intro x v; kernel_rfl

def r08_Apart_L4_step (l : List Sib) (known : List (List Seen)) (i : Int) : Tree (Int ⊕ (Bool ⊕ Unit)) :=
  .ite (decide (i < (l.length : Int))) (
    .bnd (.loop (fun v => r08_Apart_L7_step l known i v) 0) fun r1 =>
    .sum r1 (fun r2 =>
      .ret (.inr (.inl r2))) (fun r3 =>
      .ret (.inl (w64 (i + 1))))) (
    .ret (.inr (.inr ())))

def r08_Apart_L4 : Lp := ⟨4, [], [], (.cons (.val false (.list tSib)) (.cons (.val false (.list (.list tSeen))) (.cons .any (.cons .any (.cons .any (.cons (.val false (.int .i64)) (.cons .any (.cons .any (.cons .any (.cons .any (.cons .any (.cons .any (.cons .any (.cons .any (.cons .any (.cons .any (.cons .any (.cons .any (.cons .any (.cons .any (.cons .any (.cons .any (.cons .any (.cons .any (.cons .any (.cons .any (.cons .any (.cons .any (.cons .any (.cons .any (.cons .any (.cons .any (.cons .any (.cons .any (.cons .any (.cons .any (.cons .any (.cons .any (.cons .any (.cons .any (.cons .any (.cons .any (.cons .any (.cons .any (.cons .any .nil))))))))))))))))))))))))))))))))))))))))))))), .nil, 0, .more 0 [] (.cons .any (.cons .any (.cons .any (.cons .any (.cons (.val false .bool) (.cons .any (.cons .any (.cons .any (.cons .any (.cons .any (.cons .any (.cons .any (.cons .any (.cons .any (.cons .any (.cons .any (.cons .any (.cons .any (.cons .any (.cons .any (.cons .any (.cons .any (.cons .any (.cons .any (.cons .any (.cons .any (.cons .any (.cons .any (.cons .any (.cons .any (.cons .any (.cons .any (.cons .any (.cons .any (.cons .any (.cons .any (.cons .any (.cons .any (.cons .any (.cons .any (.cons .any (.cons .any (.cons .any (.cons .any (.cons .any .nil))))))))))))))))))))))))))))))))))))))))))))) .nil (.one 1 [] (.cons .any (.cons .any (.cons .any (.cons .any (.cons .any (.cons .any (.cons .any (.cons .any (.cons .any (.cons .any (.cons .any (.cons .any (.cons .any (.cons .any (.cons .any (.cons .any (.cons .any (.cons .any (.cons .any (.cons .any (.cons .any (.cons .any (.cons .any (.cons .any (.cons .any (.cons .any (.cons .any (.cons .any (.cons .any (.cons .any (.cons .any (.cons .any (.cons .any (.cons .any (.cons .any (.cons .any (.cons .any (.cons .any (.cons .any (.cons .any (.cons .any (.cons .any (.cons .any (.cons .any (.cons .any .nil))))))))))))))))))))))))))))))))))))))))))))) .nil), fun z => .bnd (.loop (fun v => r08_Apart_L4_step z.1.1 z.1.2.1 v) z.1.2.2.2.2.2.1) fun r => .sum r (fun a0 => .ret (.inl (((), ((), ((), ((), (a0, ((), ((), ((), ((), ((), ((), ((), ((), ((), ((), ((), ((), ((), ((), ((), ((), ((), ((), ((), ((), ((), ((), ((), ((), ((), ((), ((), ((), ((), ((), ((), ((), ((), ((), ((), ((), ((), ((), ((), ((), ()))))))))))))))))))))))))))))))))))))))))))))), ()))) (fun b0 => .ret (.inr (((), ((), ((), ((), ((), ((), ((), ((), ((), ((), ((), ((), ((), ((), ((), ((), ((), ((), ((), ((), ((), ((), ((), ((), ((), ((), ((), ((), ((), ((), ((), ((), ((), ((), ((), ((), ((), ((), ((), ((), ((), ((), ((), ((), ((), ()))))))))))))))))))))))))))))))))))))))))))))), ())))⟩

theorem r08_Apart_L4_ok : r08_Apart_L4.ok Try.prog (nthC (loopsOf (bodyOf Try.f21)) 0) := by
  refine Lp.lift (π := ((List Sib) × (List (List Seen)))) (V := Int) (ρ := (Bool ⊕ Unit)) mix tabOk r08_Apart_L4 (o := orT [r06_Has_g] [r08_Apart_L7] noFz) (orT_sound ⟨r06_Has_ok, trivial⟩) (allLp_of [nthC (loopsOf (nthC (loopsOf (bodyOf Try.f21)) 0)) 0] (by kernel_rfl) ⟨r08_Apart_L7_ok, trivial⟩ (by kernel_rfl)) (fun x v => ((x.1, (x.2, ((), ((), ((), (v, ((), ((), ((), ((), ((), ((), ((), ((), ((), ((), ((), ((), ((), ((), ((), ((), ((), ((), ((), ((), ((), ((), ((), ((), ((), ((), ((), ((), ((), ((), ((), ((), ((), ((), ((), ((), ((), ((), ((), ()))))))))))))))))))))))))))))))))))))))))))))), ())) (fun x r => match r with | .inl a0 => .inl (((), ((), ((), ((), (a0, ((), ((), ((), ((), ((), ((), ((), ((), ((), ((), ((), ((), ((), ((), ((), ((), ((), ((), ((), ((), ((), ((), ((), ((), ((), ((), ((), ((), ((), ((), ((), ((), ((), ((), ((), ((), ((), ((), ((), ((), ()))))))))))))))))))))))))))))))))))))))))))))), ()) | .inr b0 => (.inr (((), ((), ((), ((), ((), ((), ((), ((), ((), ((), ((), ((), ((), ((), ((), ((), ((), ((), ((), ((), ((), ((), ((), ((), ((), ((), ((), ((), ((), ((), ((), ((), ((), ((), ((), ((), ((), ((), ((), ((), ((), ((), ((), ((), ((), ()))))))))))))))))))))))))))))))))))))))))))))), ()))) (fun x v => r08_Apart_L4_step x.1 x.2 v) (fun x r => .sum r (fun a0 => .ret (.inl (((), ((), ((), ((), (a0, ((), ((), ((), ((), ((), ((), ((), ((), ((), ((), ((), ((), ((), ((), ((), ((), ((), ((), ((), ((), ((), ((), ((), ((), ((), ((), ((), ((), ((), ((), ((), ((), ((), ((), ((), ((), ((), ((), ((), ((), ()))))))))))))))))))))))))))))))))))))))))))))), ()))) (fun b0 => .ret (.inr (((), ((), ((), ((), ((), ((), ((), ((), ((), ((), ((), ((), ((), ((), ((), ((), ((), ((), ((), ((), ((), ((), ((), ((), ((), ((), ((), ((), ((), ((), ((), ((), ((), ((), ((), ((), ((), ((), ((), ((), ((), ((), ((), ((), ((), ()))))))))))))))))))))))))))))))))))))))))))))), ())))) (fun z => (z.1.1, z.1.2.1)) (fun z => z.1.2.2.2.2.2.1) (fun _ => rfl) (fun _ => rfl) (fun x r Q h => match r, h with | .inl _, h => h | .inr b0, h => (h)) ?_
  intro x v; kernel_rfl

def r08_Apart_T (x0 : List Sib) (x1 : List (List Seen)) : Tree Bool :=
  .ite (!decide ((x0.length : Int) = (x1.length : Int))) (
    .ret false) (
    .bnd (.loop (fun v => r08_Apart_L4_step x0 x1 v) 0) fun r1 =>
    .sum r1 (fun r2 =>
      .ret r2) (fun r3 =>
      .ret true))

noncomputable def r08_Apart (x0 : List Sib) (x1 : List (List Seen)) : Option Bool := (r08_Apart_T x0 x1).run

def r08_Apart_g : Sig := ⟨21, (.cons (.val false (.list tSib)) (.cons (.val false (.list (.list tSeen))) .nil)), .vals (.val false .bool), fun z => r08_Apart_T z.1 z.2.1, false⟩

theorem r08_Apart_ok : r08_Apart_g.ok Try.prog := by
  refine Sig.lift mix tabOk nms _ Try.func21 (c := (bodyOf Try.f21)) (by kernel_rfl) (o := orT [r06_Has_g] [r08_Apart_L4] noFz) (orT_sound ⟨r06_Has_ok, trivial⟩) (allLp_of [nthC (loopsOf (bodyOf Try.f21)) 0] (by kernel_rfl) ⟨r08_Apart_L4_ok, trivial⟩ (by kernel_rfl)) ?_
  intro z; kernel_rfl

def l08_LastApart_L4_step (l : List Sib) (known : List (List Seen)) (i : Int) : Tree (Int ⊕ (Bool ⊕ Unit)) :=
  .ite (decide (i < (known.length : Int))) (
    ask (inb i known.length) <|
    .bnd (r06_Few_T (known.getD i.toNat ([] : List Seen))) fun y1 =>
    .ite (!y1) (
      .bnd l08_awake_T fun y2 =>
      .ret (.inr (.inl y2))) (
      .ret (.inl (w64 (i + 1))))) (
    .ret (.inr (.inr ())))

def l08_LastApart_L4 : Lp := ⟨4, [], [], (.cons (.val false (.list tSib)) (.cons (.val false (.list (.list tSeen))) (.cons .any (.cons .any (.cons .any (.cons (.val false (.int .i64)) (.cons .any (.cons .any (.cons .any (.cons .any (.cons .any (.cons .any (.cons .any (.cons .any (.cons .any (.cons .any (.cons .any (.cons .any (.cons .any (.cons .any (.cons .any (.cons .any (.cons .any (.cons .any (.cons .any (.cons .any (.cons .any (.cons .any (.cons .any (.cons .any (.cons .any (.cons .any (.cons .any (.cons .any (.cons .any (.cons .any (.cons .any (.cons .any .nil)))))))))))))))))))))))))))))))))))))), .nil, 0, .more 0 [] (.cons .any (.cons .any (.cons .any (.cons .any (.cons (.val false .bool) (.cons .any (.cons .any (.cons .any (.cons .any (.cons .any (.cons .any (.cons .any (.cons .any (.cons .any (.cons .any (.cons .any (.cons .any (.cons .any (.cons .any (.cons .any (.cons .any (.cons .any (.cons .any (.cons .any (.cons .any (.cons .any (.cons .any (.cons .any (.cons .any (.cons .any (.cons .any (.cons .any (.cons .any (.cons .any (.cons .any (.cons .any (.cons .any (.cons .any .nil)))))))))))))))))))))))))))))))))))))) .nil (.one 1 [] (.cons (.val false (.list tSib)) (.cons (.val false (.list (.list tSeen))) (.cons .any (.cons .any (.cons .any (.cons .any (.cons .any (.cons .any (.cons .any (.cons .any (.cons .any (.cons .any (.cons .any (.cons .any (.cons .any (.cons .any (.cons .any (.cons .any (.cons .any (.cons .any (.cons .any (.cons .any (.cons .any (.cons .any (.cons .any (.cons .any (.cons .any (.cons .any (.cons .any (.cons .any (.cons .any (.cons .any (.cons .any (.cons .any (.cons .any (.cons .any (.cons .any (.cons .any .nil)))))))))))))))))))))))))))))))))))))) .nil), fun z => .bnd (.loop (fun v => l08_LastApart_L4_step z.1.1 z.1.2.1 v) z.1.2.2.2.2.2.1) fun r => .sum r (fun a0 => .ret (.inl (((), ((), ((), ((), (a0, ((), ((), ((), ((), ((), ((), ((), ((), ((), ((), ((), ((), ((), ((), ((), ((), ((), ((), ((), ((), ((), ((), ((), ((), ((), ((), ((), ((), ((), ((), ((), ((), ((), ())))))))))))))))))))))))))))))))))))))), ()))) (fun b0 => .ret (.inr ((z.1.1, (z.1.2.1, ((), ((), ((), ((), ((), ((), ((), ((), ((), ((), ((), ((), ((), ((), ((), ((), ((), ((), ((), ((), ((), ((), ((), ((), ((), ((), ((), ((), ((), ((), ((), ((), ((), ((), ((), ((), ())))))))))))))))))))))))))))))))))))))), ())))⟩

theorem l08_LastApart_L4_ok : l08_LastApart_L4.ok Try.prog (nthC (loopsOf (bodyOf Try.f4)) 0) := by
  refine Lp.lift (π := ((List Sib) × (List (List Seen)))) (V := Int) (ρ := (Bool ⊕ Unit)) mix tabOk l08_LastApart_L4 (o := orT [r08_Few_g, l08_awake_g, r06_Few_g, last_Apart_g, r08_Apart_g] [] noFz) (orT_sound ⟨r08_Few_ok, ⟨l08_awake_ok, ⟨r06_Few_ok, ⟨last_Apart_ok, ⟨r08_Apart_ok, trivial⟩⟩⟩⟩⟩) (allLp_of [] (by kernel_rfl) trivial rfl) (fun x v => ((x.1, (x.2, ((), ((), ((), (v, ((), ((), ((), ((), ((), ((), ((), ((), ((), ((), ((), ((), ((), ((), ((), ((), ((), ((), ((), ((), ((), ((), ((), ((), ((), ((), ((), ((), ((), ((), ((), ((), ())))))))))))))))))))))))))))))))))))))), ())) (fun x r => match r with | .inl a0 => .inl (((), ((), ((), ((), (a0, ((), ((), ((), ((), ((), ((), ((), ((), ((), ((), ((), ((), ((), ((), ((), ((), ((), ((), ((), ((), ((), ((), ((), ((), ((), ((), ((), ((), ((), ((), ((), ((), ((), ())))))))))))))))))))))))))))))))))))))), ()) | .inr b0 => (.inr ((x.1, (x.2, ((), ((), ((), ((), ((), ((), ((), ((), ((), ((), ((), ((), ((), ((), ((), ((), ((), ((), ((), ((), ((), ((), ((), ((), ((), ((), ((), ((), ((), ((), ((), ((), ((), ((), ((), ((), ())))))))))))))))))))))))))))))))))))))), ()))) (fun x v => l08_LastApart_L4_step x.1 x.2 v) (fun x r => .sum r (fun a0 => .ret (.inl (((), ((), ((), ((), (a0, ((), ((), ((), ((), ((), ((), ((), ((), ((), ((), ((), ((), ((), ((), ((), ((), ((), ((), ((), ((), ((), ((), ((), ((), ((), ((), ((), ((), ((), ((), ((), ((), ((), ())))))))))))))))))))))))))))))))))))))), ()))) (fun b0 => .ret (.inr ((x.1, (x.2, ((), ((), ((), ((), ((), ((), ((), ((), ((), ((), ((), ((), ((), ((), ((), ((), ((), ((), ((), ((), ((), ((), ((), ((), ((), ((), ((), ((), ((), ((), ((), ((), ((), ((), ((), ((), ())))))))))))))))))))))))))))))))))))))), ())))) (fun z => (z.1.1, z.1.2.1)) (fun z => z.1.2.2.2.2.2.1) (fun _ => rfl) (fun _ => rfl) (fun x r Q h => match r, h with | .inl _, h => h | .inr b0, h => (h)) ?_
  intro x v; kernel_rfl

def l08_LastApart_T (x0 : List Sib) (x1 : List (List Seen)) : Tree Bool :=
  .bnd (r08_Few_T x0) fun y1 =>
  .ite ((!y1) || (decide ((12 : Int) < (x1.length : Int)))) (
    .bnd l08_awake_T fun y2 =>
    .ret y2) (
    .bnd (.loop (fun v => l08_LastApart_L4_step x0 x1 v) 0) fun r3 =>
    .sum r3 (fun r4 =>
      .ret r4) (fun r5 =>
      .bnd (last_Apart_T x0 x1) fun y6 =>
      .bnd (r08_Apart_T x0 x1) fun y7 =>
      .grd (y6 == y7) l08_awake_T false fun y8 =>
      .ret ((y6 == y7) && y8)))

noncomputable def l08_LastApart (x0 : List Sib) (x1 : List (List Seen)) : Option Bool := (l08_LastApart_T x0 x1).run

def l08_LastApart_g : Sig := ⟨4, (.cons (.val false (.list tSib)) (.cons (.val false (.list (.list tSeen))) .nil)), .vals (.val false .bool), fun z => l08_LastApart_T z.1 z.2.1, false⟩

theorem l08_LastApart_ok : l08_LastApart_g.ok Try.prog := by
  refine Sig.lift mix tabOk nms _ Try.func4 (c := (bodyOf Try.f4)) (by kernel_rfl) (o := orT [r08_Few_g, l08_awake_g, r06_Few_g, last_Apart_g, r08_Apart_g] [l08_LastApart_L4] noFz) (orT_sound ⟨r08_Few_ok, ⟨l08_awake_ok, ⟨r06_Few_ok, ⟨last_Apart_ok, ⟨r08_Apart_ok, trivial⟩⟩⟩⟩⟩) (allLp_of [nthC (loopsOf (bodyOf Try.f4)) 0] (by kernel_rfl) ⟨l08_LastApart_L4_ok, trivial⟩ (by kernel_rfl)) ?_
  intro z; kernel_rfl

def l08_LastOrder_T (x0 : Sib) (x1 : Sib) (x2 : Sib) : Tree Bool :=
  .bnd (r08_Few_T [x0, x1, x2]) fun y1 =>
  .ite (!y1) (
    .bnd l08_awake_T fun y2 =>
    .ret y2) (
    .bnd (last_Later_T x0 x0) fun y3 =>
    .grd (!y3) (last_Later_T x0 x1) false fun y4 =>
    .grd ((!y3) && y4) (last_Later_T x1 x0) false fun y5 =>
    .grd ((!(y3 || (y4 && y5))) && (!((x0.1.1 == x1.1.1) && ((decide (x0.1.2 = x1.1.2)) && true)))) (last_Later_T x0 x1) false fun y6 =>
    .grd ((!(y3 || (y4 && y5))) && ((!((x0.1.1 == x1.1.1) && ((decide (x0.1.2 = x1.1.2)) && true))) && (!y6))) (last_Later_T x1 x0) false fun y7 =>
    .ite ((y3 || (y4 && y5)) || (((!((x0.1.1 == x1.1.1) && ((decide (x0.1.2 = x1.1.2)) && true))) && (!y6)) && (!y7))) (
      .ret false) (
      .bnd (last_Later_T x0 x1) fun y8 =>
      .grd (!(!y8)) (last_Later_T x1 x2) false fun y9 =>
      .grd (!((!y8) || (!y9))) (last_Later_T x0 x2) false fun y10 =>
      .grd (((!y8) || (!y9)) || y10) l08_awake_T false fun y11 =>
      .ret ((((!y8) || (!y9)) || y10) && y11)))

noncomputable def l08_LastOrder (x0 : Sib) (x1 : Sib) (x2 : Sib) : Option Bool := (l08_LastOrder_T x0 x1 x2).run

def l08_LastOrder_g : Sig := ⟨5, (.cons (.val true tSib) (.cons (.val true tSib) (.cons (.val true tSib) .nil))), .vals (.val false .bool), fun z => l08_LastOrder_T z.1 z.2.1 z.2.2.1, false⟩

theorem l08_LastOrder_ok : l08_LastOrder_g.ok Try.prog := by
  refine Sig.lift mix tabOk nms _ Try.func5 (c := (bodyOf Try.f5)) (by kernel_rfl) (o := orT [r08_Few_g, l08_awake_g, last_Later_g] [] noFz) (orT_sound ⟨r08_Few_ok, ⟨l08_awake_ok, ⟨last_Later_ok, trivial⟩⟩⟩) (allLp_of [] (by kernel_rfl) trivial rfl) ?_
  intro z; kernel_rfl

def l08_LastOne_L7_step (one : List Sib) (all : List Sib) (o : List Seen) (o2 : List Sib) (i : Int) : Tree (Int ⊕ (Bool ⊕ Unit)) :=
  .ite (decide (i < (all.length : Int))) (
    ask (inb i all.length) <|
    .ite ((((all.getD i.toNat (dfl tSib : Sib)).2).2).1) (
      .ret (.inr (.inl false))) (
      .ret (.inl (w64 (i + 1))))) (
    .ret (.inr (.inr ())))

def l08_LastOne_L7 : Lp := ⟨7, [], [], (.cons .any (.cons (.ref 0 0) (.cons .any (.cons (.val false (.list tSib)) (.cons (.val false (.list tSib)) (.cons (.val false (.int .i64)) (.cons .any (.cons .any (.cons .any (.cons .any (.cons .any (.cons .any (.cons .any (.cons .any (.cons .any (.cons .any (.cons .any (.cons .any (.cons .any (.cons .any (.cons .any (.cons .any (.cons .any (.cons .any (.cons .any (.cons .any (.cons .any (.cons .any (.cons .any (.cons .any (.cons .any (.cons .any (.cons .any (.cons .any (.cons .any (.cons .any (.cons .any (.cons .any (.cons .any (.cons .any (.cons .any (.cons .any (.cons .any (.cons .any (.cons .any (.cons .any (.cons .any (.cons .any (.cons .any (.cons .any (.cons .any (.cons .any (.cons .any (.cons .any (.cons .any (.cons .any (.cons .any (.cons .any (.cons .any (.cons .any (.cons .any (.cons .any (.cons .any (.cons .any (.cons .any (.cons .any (.cons .any (.cons .any (.cons .any (.cons .any (.cons .any (.cons .any (.cons .any (.cons .any (.cons .any (.cons .any (.cons .any (.cons .any (.cons .any .nil))))))))))))))))))))))))))))))))))))))))))))))))))))))))))))))))))))))))))))))), (.cells 25 (.cons (.val false (.list tSeen)) (.cons (.val false (.list tSib)) .nil)) .nil), 0, .more 0 [] (.cons .any (.cons .any (.cons (.val false .bool) (.cons .any (.cons .any (.cons .any (.cons .any (.cons .any (.cons .any (.cons .any (.cons .any (.cons .any (.cons .any (.cons .any (.cons .any (.cons .any (.cons .any (.cons .any (.cons .any (.cons .any (.cons .any (.cons .any (.cons .any (.cons .any (.cons .any (.cons .any (.cons .any (.cons .any (.cons .any (.cons .any (.cons .any (.cons .any (.cons .any (.cons .any (.cons .any (.cons .any (.cons .any (.cons .any (.cons .any (.cons .any (.cons .any (.cons .any (.cons .any (.cons .any (.cons .any (.cons .any (.cons .any (.cons .any (.cons .any (.cons .any (.cons .any (.cons .any (.cons .any (.cons .any (.cons .any (.cons .any (.cons .any (.cons .any (.cons .any (.cons .any (.cons .any (.cons .any (.cons .any (.cons .any (.cons .any (.cons .any (.cons .any (.cons .any (.cons .any (.cons .any (.cons .any (.cons .any (.cons .any (.cons .any (.cons .any (.cons .any (.cons .any (.cons .any (.cons .any .nil))))))))))))))))))))))))))))))))))))))))))))))))))))))))))))))))))))))))))))))) .nil (.one 1 [] (.cons .any (.cons (.ref 0 0) (.cons .any (.cons (.val false (.list tSib)) (.cons (.val false (.list tSib)) (.cons .any (.cons .any (.cons .any (.cons .any (.cons .any (.cons .any (.cons .any (.cons .any (.cons .any (.cons .any (.cons .any (.cons .any (.cons .any (.cons .any (.cons .any (.cons .any (.cons .any (.cons .any (.cons .any (.cons .any (.cons .any (.cons .any (.cons .any (.cons .any (.cons .any (.cons .any (.cons .any (.cons .any (.cons .any (.cons .any (.cons .any (.cons .any (.cons .any (.cons .any (.cons .any (.cons .any (.cons .any (.cons .any (.cons .any (.cons .any (.cons .any (.cons .any (.cons .any (.cons .any (.cons .any (.cons .any (.cons .any (.cons .any (.cons .any (.cons .any (.cons .any (.cons .any (.cons .any (.cons .any (.cons .any (.cons .any (.cons .any (.cons .any (.cons .any (.cons .any (.cons .any (.cons .any (.cons .any (.cons .any (.cons .any (.cons .any (.cons .any (.cons .any (.cons .any (.cons .any (.cons .any (.cons .any (.cons .any (.cons .any .nil))))))))))))))))))))))))))))))))))))))))))))))))))))))))))))))))))))))))))))))) (.cells 25 (.cons (.val false (.list tSeen)) (.cons (.val false (.list tSib)) .nil)) .nil)), fun z => .bnd (.loop (fun v => l08_LastOne_L7_step z.1.2.2.2.1 z.1.2.2.2.2.1 z.2.1.1 z.2.1.2.1 v) z.1.2.2.2.2.2.1) fun r => .sum r (fun a0 => .ret (.inl (((), ((), (a0, ((), ((), ((), ((), ((), ((), ((), ((), ((), ((), ((), ((), ((), ((), ((), ((), ((), ((), ((), ((), ((), ((), ((), ((), ((), ((), ((), ((), ((), ((), ((), ((), ((), ((), ((), ((), ((), ((), ((), ((), ((), ((), ((), ((), ((), ((), ((), ((), ((), ((), ((), ((), ((), ((), ((), ((), ((), ((), ((), ((), ((), ((), ((), ((), ((), ((), ((), ((), ((), ((), ((), ((), ((), ((), ((), ((), ()))))))))))))))))))))))))))))))))))))))))))))))))))))))))))))))))))))))))))))))), ()))) (fun b0 => .ret (.inr (((), ((), ((), (z.1.2.2.2.1, (z.1.2.2.2.2.1, ((), ((), ((), ((), ((), ((), ((), ((), ((), ((), ((), ((), ((), ((), ((), ((), ((), ((), ((), ((), ((), ((), ((), ((), ((), ((), ((), ((), ((), ((), ((), ((), ((), ((), ((), ((), ((), ((), ((), ((), ((), ((), ((), ((), ((), ((), ((), ((), ((), ((), ((), ((), ((), ((), ((), ((), ((), ((), ((), ((), ((), ((), ((), ((), ((), ((), ((), ((), ((), ((), ((), ((), ((), ((), ()))))))))))))))))))))))))))))))))))))))))))))))))))))))))))))))))))))))))))))))), ((z.2.1.1, (z.2.1.2.1, ())), ()))))⟩

theorem l08_LastOne_L7_ok : l08_LastOne_L7.ok Try.prog (nthC (loopsOf (bodyOf Try.f6)) 0) := by
  refine Lp.lift (π := ((List Sib) × (List Sib) × (List Seen) × (List Sib))) (V := Int) (ρ := (Bool ⊕ Unit)) mix tabOk l08_LastOne_L7 (o := orT [r07_Few_g, l08_awake_g, last_Answer_g, last_Later_g] [] noFz) (orT_sound ⟨r07_Few_ok, ⟨l08_awake_ok, ⟨last_Answer_ok, ⟨last_Later_ok, trivial⟩⟩⟩⟩) (allLp_of [] (by kernel_rfl) trivial rfl) (fun x v => (((), ((), ((), (x.1, (x.2.1, (v, ((), ((), ((), ((), ((), ((), ((), ((), ((), ((), ((), ((), ((), ((), ((), ((), ((), ((), ((), ((), ((), ((), ((), ((), ((), ((), ((), ((), ((), ((), ((), ((), ((), ((), ((), ((), ((), ((), ((), ((), ((), ((), ((), ((), ((), ((), ((), ((), ((), ((), ((), ((), ((), ((), ((), ((), ((), ((), ((), ((), ((), ((), ((), ((), ((), ((), ((), ((), ((), ((), ((), ((), ((), ()))))))))))))))))))))))))))))))))))))))))))))))))))))))))))))))))))))))))))))))), ((x.2.2.1, (x.2.2.2, ())), ()))) (fun x r => match r with | .inl a0 => .inl (((), ((), (a0, ((), ((), ((), ((), ((), ((), ((), ((), ((), ((), ((), ((), ((), ((), ((), ((), ((), ((), ((), ((), ((), ((), ((), ((), ((), ((), ((), ((), ((), ((), ((), ((), ((), ((), ((), ((), ((), ((), ((), ((), ((), ((), ((), ((), ((), ((), ((), ((), ((), ((), ((), ((), ((), ((), ((), ((), ((), ((), ((), ((), ((), ((), ((), ((), ((), ((), ((), ((), ((), ((), ((), ((), ((), ((), ((), ((), ()))))))))))))))))))))))))))))))))))))))))))))))))))))))))))))))))))))))))))))))), ()) | .inr b0 => (.inr (((), ((), ((), (x.1, (x.2.1, ((), ((), ((), ((), ((), ((), ((), ((), ((), ((), ((), ((), ((), ((), ((), ((), ((), ((), ((), ((), ((), ((), ((), ((), ((), ((), ((), ((), ((), ((), ((), ((), ((), ((), ((), ((), ((), ((), ((), ((), ((), ((), ((), ((), ((), ((), ((), ((), ((), ((), ((), ((), ((), ((), ((), ((), ((), ((), ((), ((), ((), ((), ((), ((), ((), ((), ((), ((), ((), ((), ((), ((), ((), ((), ()))))))))))))))))))))))))))))))))))))))))))))))))))))))))))))))))))))))))))))))), ((x.2.2.1, (x.2.2.2, ())), ())))) (fun x v => l08_LastOne_L7_step x.1 x.2.1 x.2.2.1 x.2.2.2 v) (fun x r => .sum r (fun a0 => .ret (.inl (((), ((), (a0, ((), ((), ((), ((), ((), ((), ((), ((), ((), ((), ((), ((), ((), ((), ((), ((), ((), ((), ((), ((), ((), ((), ((), ((), ((), ((), ((), ((), ((), ((), ((), ((), ((), ((), ((), ((), ((), ((), ((), ((), ((), ((), ((), ((), ((), ((), ((), ((), ((), ((), ((), ((), ((), ((), ((), ((), ((), ((), ((), ((), ((), ((), ((), ((), ((), ((), ((), ((), ((), ((), ((), ((), ((), ((), ((), ((), ()))))))))))))))))))))))))))))))))))))))))))))))))))))))))))))))))))))))))))))))), ()))) (fun b0 => .ret (.inr (((), ((), ((), (x.1, (x.2.1, ((), ((), ((), ((), ((), ((), ((), ((), ((), ((), ((), ((), ((), ((), ((), ((), ((), ((), ((), ((), ((), ((), ((), ((), ((), ((), ((), ((), ((), ((), ((), ((), ((), ((), ((), ((), ((), ((), ((), ((), ((), ((), ((), ((), ((), ((), ((), ((), ((), ((), ((), ((), ((), ((), ((), ((), ((), ((), ((), ((), ((), ((), ((), ((), ((), ((), ((), ((), ((), ((), ((), ((), ((), ((), ()))))))))))))))))))))))))))))))))))))))))))))))))))))))))))))))))))))))))))))))), ((x.2.2.1, (x.2.2.2, ())), ()))))) (fun z => (z.1.2.2.2.1, z.1.2.2.2.2.1, z.2.1.1, z.2.1.2.1)) (fun z => z.1.2.2.2.2.2.1) (fun _ => rfl) (fun _ => rfl) (fun x r Q h => match r, h with | .inl _, h => h | .inr b0, h => (h)) ?_
  intro x v; kernel_rfl

def l08_LastOne_L15_step (one : List Sib) (all : List Sib) (o : List Seen) (o2 : List Sib) (is : Bool) (i : Int) : Tree ((Bool × Int) ⊕ Bool) :=
  .ite (decide (i < (all.length : Int))) (
    ask ((!(!is)) || inb i all.length) <|
    ask ((!(!is)) || inb 0 one.length) <|
    .ret (.inl ((is || ((((((all.getD i.toNat (dfl tSib : Sib)).1).1) == (((one.getD ((0 : Int).toNat) (dfl tSib : Sib)).1).1)) && ((decide (((all.getD i.toNat (dfl tSib : Sib)).1).2 = ((one.getD ((0 : Int).toNat) (dfl tSib : Sib)).1).2)) && true)) && (((((all.getD i.toNat (dfl tSib : Sib)).2).1) == (((one.getD ((0 : Int).toNat) (dfl tSib : Sib)).2).1)) && ((((((all.getD i.toNat (dfl tSib : Sib)).2).2).1) == ((((one.getD ((0 : Int).toNat) (dfl tSib : Sib)).2).2).1)) && ((decide ((((all.getD i.toNat (dfl tSib : Sib)).2).2).2 = (((one.getD ((0 : Int).toNat) (dfl tSib : Sib)).2).2).2)) && true))))), (w64 (i + 1))))) (
    .ret (.inr is))

def l08_LastOne_L15 : Lp := ⟨15, [], [], (.cons .any (.cons (.ref 0 0) (.cons .any (.cons (.val false (.list tSib)) (.cons (.val false (.list tSib)) (.cons .any (.cons (.val false .bool) (.cons (.val false (.int .i64)) (.cons .any (.cons .any (.cons .any (.cons .any (.cons .any (.cons .any (.cons .any (.cons .any (.cons .any (.cons .any (.cons .any (.cons .any (.cons .any (.cons .any (.cons .any (.cons .any (.cons .any (.cons .any (.cons .any (.cons .any (.cons .any (.cons .any (.cons .any (.cons .any (.cons .any (.cons .any (.cons .any (.cons .any (.cons .any (.cons .any (.cons .any (.cons .any (.cons .any (.cons .any (.cons .any (.cons .any (.cons .any (.cons .any (.cons .any (.cons .any (.cons .any (.cons .any (.cons .any (.cons .any (.cons .any (.cons .any (.cons .any (.cons .any (.cons .any (.cons .any (.cons .any (.cons .any (.cons .any (.cons .any (.cons .any (.cons .any (.cons .any (.cons .any (.cons .any (.cons .any (.cons .any (.cons .any (.cons .any (.cons .any (.cons .any (.cons .any (.cons .any (.cons .any (.cons .any (.cons .any (.cons .any .nil))))))))))))))))))))))))))))))))))))))))))))))))))))))))))))))))))))))))))))))), (.cells 25 (.cons (.val false (.list tSeen)) (.cons (.val false (.list tSib)) .nil)) .nil), 0, .one 3 [] (.cons .any (.cons (.ref 0 0) (.cons .any (.cons (.val false (.list tSib)) (.cons .any (.cons .any (.cons (.val false .bool) (.cons .any (.cons .any (.cons .any (.cons .any (.cons .any (.cons .any (.cons .any (.cons .any (.cons .any (.cons .any (.cons .any (.cons .any (.cons .any (.cons .any (.cons .any (.cons .any (.cons .any (.cons .any (.cons .any (.cons .any (.cons .any (.cons .any (.cons .any (.cons .any (.cons .any (.cons .any (.cons .any (.cons .any (.cons .any (.cons .any (.cons .any (.cons .any (.cons .any (.cons .any (.cons .any (.cons .any (.cons .any (.cons .any (.cons .any (.cons .any (.cons .any (.cons .any (.cons .any (.cons .any (.cons .any (.cons .any (.cons .any (.cons .any (.cons .any (.cons .any (.cons .any (.cons .any (.cons .any (.cons .any (.cons .any (.cons .any (.cons .any (.cons .any (.cons .any (.cons .any (.cons .any (.cons .any (.cons .any (.cons .any (.cons .any (.cons .any (.cons .any (.cons .any (.cons .any (.cons .any (.cons .any (.cons .any .nil))))))))))))))))))))))))))))))))))))))))))))))))))))))))))))))))))))))))))))))) (.cells 25 (.cons (.val false (.list tSeen)) (.cons (.val false (.list tSib)) .nil)) .nil), fun z => .bnd (.loop (fun v => l08_LastOne_L15_step z.1.2.2.2.1 z.1.2.2.2.2.1 z.2.1.1 z.2.1.2.1 v.1 v.2) (z.1.2.2.2.2.2.2.1, z.1.2.2.2.2.2.2.2.1)) fun r => .ret (((), ((), ((), (z.1.2.2.2.1, ((), ((), (r, ((), ((), ((), ((), ((), ((), ((), ((), ((), ((), ((), ((), ((), ((), ((), ((), ((), ((), ((), ((), ((), ((), ((), ((), ((), ((), ((), ((), ((), ((), ((), ((), ((), ((), ((), ((), ((), ((), ((), ((), ((), ((), ((), ((), ((), ((), ((), ((), ((), ((), ((), ((), ((), ((), ((), ((), ((), ((), ((), ((), ((), ((), ((), ((), ((), ((), ((), ((), ((), ((), ((), ((), ()))))))))))))))))))))))))))))))))))))))))))))))))))))))))))))))))))))))))))))))), ((z.2.1.1, (z.2.1.2.1, ())), ()))⟩

theorem l08_LastOne_L15_ok : l08_LastOne_L15.ok Try.prog (nthC (loopsOf (bodyOf Try.f6)) 1) := by
  refine Lp.lift (π := ((List Sib) × (List Sib) × (List Seen) × (List Sib))) (V := (Bool × Int)) (ρ := Bool) mix tabOk l08_LastOne_L15 (o := orT [r07_Few_g, l08_awake_g, last_Answer_g, last_Later_g] [] noFz) (orT_sound ⟨r07_Few_ok, ⟨l08_awake_ok, ⟨last_Answer_ok, ⟨last_Later_ok, trivial⟩⟩⟩⟩) (allLp_of [] (by kernel_rfl) trivial rfl) (fun x v => (((), ((), ((), (x.1, (x.2.1, ((), (v.1, (v.2, ((), ((), ((), ((), ((), ((), ((), ((), ((), ((), ((), ((), ((), ((), ((), ((), ((), ((), ((), ((), ((), ((), ((), ((), ((), ((), ((), ((), ((), ((), ((), ((), ((), ((), ((), ((), ((), ((), ((), ((), ((), ((), ((), ((), ((), ((), ((), ((), ((), ((), ((), ((), ((), ((), ((), ((), ((), ((), ((), ((), ((), ((), ((), ((), ((), ((), ((), ((), ((), ((), ((), ()))))))))))))))))))))))))))))))))))))))))))))))))))))))))))))))))))))))))))))))), ((x.2.2.1, (x.2.2.2, ())), ()))) (fun x r => (((), ((), ((), (x.1, ((), ((), (r, ((), ((), ((), ((), ((), ((), ((), ((), ((), ((), ((), ((), ((), ((), ((), ((), ((), ((), ((), ((), ((), ((), ((), ((), ((), ((), ((), ((), ((), ((), ((), ((), ((), ((), ((), ((), ((), ((), ((), ((), ((), ((), ((), ((), ((), ((), ((), ((), ((), ((), ((), ((), ((), ((), ((), ((), ((), ((), ((), ((), ((), ((), ((), ((), ((), ((), ((), ((), ((), ((), ((), ((), ()))))))))))))))))))))))))))))))))))))))))))))))))))))))))))))))))))))))))))))))), ((x.2.2.1, (x.2.2.2, ())), ()))) (fun x v => l08_LastOne_L15_step x.1 x.2.1 x.2.2.1 x.2.2.2 v.1 v.2) (fun x r => .ret (((), ((), ((), (x.1, ((), ((), (r, ((), ((), ((), ((), ((), ((), ((), ((), ((), ((), ((), ((), ((), ((), ((), ((), ((), ((), ((), ((), ((), ((), ((), ((), ((), ((), ((), ((), ((), ((), ((), ((), ((), ((), ((), ((), ((), ((), ((), ((), ((), ((), ((), ((), ((), ((), ((), ((), ((), ((), ((), ((), ((), ((), ((), ((), ((), ((), ((), ((), ((), ((), ((), ((), ((), ((), ((), ((), ((), ((), ((), ((), ()))))))))))))))))))))))))))))))))))))))))))))))))))))))))))))))))))))))))))))))), ((x.2.2.1, (x.2.2.2, ())), ()))) (fun z => (z.1.2.2.2.1, z.1.2.2.2.2.1, z.2.1.1, z.2.1.2.1)) (fun z => (z.1.2.2.2.2.2.2.1, z.1.2.2.2.2.2.2.2.1)) (fun _ => rfl) (fun _ => rfl) (fun _ _ _ h => h) ?_
  intro x v; kernel_rfl

def l08_LastOne_L19_step (one : List Sib) (is : Bool) (o : List Seen) (o2 : List Sib) (i : Int) : Tree (Int ⊕ (Bool ⊕ Unit)) :=
  .ite (decide (i < (o2.length : Int))) (
    ask (inb i o2.length) <|
    ask (inb 0 one.length) <|
    .bnd (last_Later_T (((o2.getD i.toNat (dfl tSib : Sib)).1), (((o2.getD i.toNat (dfl tSib : Sib)).2).1, (((o2.getD i.toNat (dfl tSib : Sib)).2).2))) (((one.getD ((0 : Int).toNat) (dfl tSib : Sib)).1), (((one.getD ((0 : Int).toNat) (dfl tSib : Sib)).2).1, (((one.getD ((0 : Int).toNat) (dfl tSib : Sib)).2).2)))) fun y1 =>
    .ite y1 (
      .ret (.inr (.inl false))) (
      .ret (.inl (w64 (i + 1))))) (
    .ret (.inr (.inr ())))

def l08_LastOne_L19 : Lp := ⟨19, [], [], (.cons .any (.cons (.ref 0 0) (.cons .any (.cons (.val false (.list tSib)) (.cons .any (.cons .any (.cons (.val false .bool) (.cons .any (.cons (.val false (.int .i64)) (.cons .any (.cons .any (.cons .any (.cons .any (.cons .any (.cons .any (.cons .any (.cons .any (.cons .any (.cons .any (.cons .any (.cons .any (.cons .any (.cons .any (.cons .any (.cons .any (.cons .any (.cons .any (.cons .any (.cons .any (.cons .any (.cons .any (.cons .any (.cons .any (.cons .any (.cons .any (.cons .any (.cons .any (.cons .any (.cons .any (.cons .any (.cons .any (.cons .any (.cons .any (.cons .any (.cons .any (.cons .any (.cons .any (.cons .any (.cons .any (.cons .any (.cons .any (.cons .any (.cons .any (.cons .any (.cons .any (.cons .any (.cons .any (.cons .any (.cons .any (.cons .any (.cons .any (.cons .any (.cons .any (.cons .any (.cons .any (.cons .any (.cons .any (.cons .any (.cons .any (.cons .any (.cons .any (.cons .any (.cons .any (.cons .any (.cons .any (.cons .any (.cons .any (.cons .any (.cons .any .nil))))))))))))))))))))))))))))))))))))))))))))))))))))))))))))))))))))))))))))))), (.cells 25 (.cons (.val false (.list tSeen)) (.cons (.val false (.list tSib)) .nil)) .nil), 0, .more 0 [] (.cons .any (.cons .any (.cons (.val false .bool) (.cons .any (.cons .any (.cons .any (.cons .any (.cons .any (.cons .any (.cons .any (.cons .any (.cons .any (.cons .any (.cons .any (.cons .any (.cons .any (.cons .any (.cons .any (.cons .any (.cons .any (.cons .any (.cons .any (.cons .any (.cons .any (.cons .any (.cons .any (.cons .any (.cons .any (.cons .any (.cons .any (.cons .any (.cons .any (.cons .any (.cons .any (.cons .any (.cons .any (.cons .any (.cons .any (.cons .any (.cons .any (.cons .any (.cons .any (.cons .any (.cons .any (.cons .any (.cons .any (.cons .any (.cons .any (.cons .any (.cons .any (.cons .any (.cons .any (.cons .any (.cons .any (.cons .any (.cons .any (.cons .any (.cons .any (.cons .any (.cons .any (.cons .any (.cons .any (.cons .any (.cons .any (.cons .any (.cons .any (.cons .any (.cons .any (.cons .any (.cons .any (.cons .any (.cons .any (.cons .any (.cons .any (.cons .any (.cons .any (.cons .any (.cons .any (.cons .any .nil))))))))))))))))))))))))))))))))))))))))))))))))))))))))))))))))))))))))))))))) .nil (.one 5 [] (.cons .any (.cons .any (.cons .any (.cons .any (.cons .any (.cons .any (.cons (.val false .bool) (.cons .any (.cons .any (.cons .any (.cons .any (.cons .any (.cons .any (.cons .any (.cons .any (.cons .any (.cons .any (.cons .any (.cons .any (.cons .any (.cons .any (.cons .any (.cons .any (.cons .any (.cons .any (.cons .any (.cons .any (.cons .any (.cons .any (.cons .any (.cons .any (.cons .any (.cons .any (.cons .any (.cons .any (.cons .any (.cons .any (.cons .any (.cons .any (.cons .any (.cons .any (.cons .any (.cons .any (.cons .any (.cons .any (.cons .any (.cons .any (.cons .any (.cons .any (.cons .any (.cons .any (.cons .any (.cons .any (.cons .any (.cons .any (.cons .any (.cons .any (.cons .any (.cons .any (.cons .any (.cons .any (.cons .any (.cons .any (.cons .any (.cons .any (.cons .any (.cons .any (.cons .any (.cons .any (.cons .any (.cons .any (.cons .any (.cons .any (.cons .any (.cons .any (.cons .any (.cons .any (.cons .any (.cons .any .nil))))))))))))))))))))))))))))))))))))))))))))))))))))))))))))))))))))))))))))))) .nil), fun z => .bnd (.loop (fun v => l08_LastOne_L19_step z.1.2.2.2.1 z.1.2.2.2.2.2.2.1 z.2.1.1 z.2.1.2.1 v) z.1.2.2.2.2.2.2.2.2.1) fun r => .sum r (fun a0 => .ret (.inl (((), ((), (a0, ((), ((), ((), ((), ((), ((), ((), ((), ((), ((), ((), ((), ((), ((), ((), ((), ((), ((), ((), ((), ((), ((), ((), ((), ((), ((), ((), ((), ((), ((), ((), ((), ((), ((), ((), ((), ((), ((), ((), ((), ((), ((), ((), ((), ((), ((), ((), ((), ((), ((), ((), ((), ((), ((), ((), ((), ((), ((), ((), ((), ((), ((), ((), ((), ((), ((), ((), ((), ((), ((), ((), ((), ((), ((), ((), ((), ()))))))))))))))))))))))))))))))))))))))))))))))))))))))))))))))))))))))))))))))), ()))) (fun b0 => .ret (.inr (((), ((), ((), ((), ((), ((), (z.1.2.2.2.2.2.2.1, ((), ((), ((), ((), ((), ((), ((), ((), ((), ((), ((), ((), ((), ((), ((), ((), ((), ((), ((), ((), ((), ((), ((), ((), ((), ((), ((), ((), ((), ((), ((), ((), ((), ((), ((), ((), ((), ((), ((), ((), ((), ((), ((), ((), ((), ((), ((), ((), ((), ((), ((), ((), ((), ((), ((), ((), ((), ((), ((), ((), ((), ((), ((), ((), ((), ((), ((), ((), ((), ((), ((), ((), ()))))))))))))))))))))))))))))))))))))))))))))))))))))))))))))))))))))))))))))))), ())))⟩

theorem l08_LastOne_L19_ok : l08_LastOne_L19.ok Try.prog (nthC (loopsOf (bodyOf Try.f6)) 2) := by
  refine Lp.lift (π := ((List Sib) × Bool × (List Seen) × (List Sib))) (V := Int) (ρ := (Bool ⊕ Unit)) mix tabOk l08_LastOne_L19 (o := orT [r07_Few_g, l08_awake_g, last_Answer_g, last_Later_g] [] noFz) (orT_sound ⟨r07_Few_ok, ⟨l08_awake_ok, ⟨last_Answer_ok, ⟨last_Later_ok, trivial⟩⟩⟩⟩) (allLp_of [] (by kernel_rfl) trivial rfl) (fun x v => (((), ((), ((), (x.1, ((), ((), (x.2.1, ((), (v, ((), ((), ((), ((), ((), ((), ((), ((), ((), ((), ((), ((), ((), ((), ((), ((), ((), ((), ((), ((), ((), ((), ((), ((), ((), ((), ((), ((), ((), ((), ((), ((), ((), ((), ((), ((), ((), ((), ((), ((), ((), ((), ((), ((), ((), ((), ((), ((), ((), ((), ((), ((), ((), ((), ((), ((), ((), ((), ((), ((), ((), ((), ((), ((), ((), ((), ((), ((), ((), ((), ()))))))))))))))))))))))))))))))))))))))))))))))))))))))))))))))))))))))))))))))), ((x.2.2.1, (x.2.2.2, ())), ()))) (fun x r => match r with | .inl a0 => .inl (((), ((), (a0, ((), ((), ((), ((), ((), ((), ((), ((), ((), ((), ((), ((), ((), ((), ((), ((), ((), ((), ((), ((), ((), ((), ((), ((), ((), ((), ((), ((), ((), ((), ((), ((), ((), ((), ((), ((), ((), ((), ((), ((), ((), ((), ((), ((), ((), ((), ((), ((), ((), ((), ((), ((), ((), ((), ((), ((), ((), ((), ((), ((), ((), ((), ((), ((), ((), ((), ((), ((), ((), ((), ((), ((), ((), ((), ((), ((), ()))))))))))))))))))))))))))))))))))))))))))))))))))))))))))))))))))))))))))))))), ()) | .inr b0 => (.inr (((), ((), ((), ((), ((), ((), (x.2.1, ((), ((), ((), ((), ((), ((), ((), ((), ((), ((), ((), ((), ((), ((), ((), ((), ((), ((), ((), ((), ((), ((), ((), ((), ((), ((), ((), ((), ((), ((), ((), ((), ((), ((), ((), ((), ((), ((), ((), ((), ((), ((), ((), ((), ((), ((), ((), ((), ((), ((), ((), ((), ((), ((), ((), ((), ((), ((), ((), ((), ((), ((), ((), ((), ((), ((), ((), ((), ((), ((), ((), ((), ()))))))))))))))))))))))))))))))))))))))))))))))))))))))))))))))))))))))))))))))), ()))) (fun x v => l08_LastOne_L19_step x.1 x.2.1 x.2.2.1 x.2.2.2 v) (fun x r => .sum r (fun a0 => .ret (.inl (((), ((), (a0, ((), ((), ((), ((), ((), ((), ((), ((), ((), ((), ((), ((), ((), ((), ((), ((), ((), ((), ((), ((), ((), ((), ((), ((), ((), ((), ((), ((), ((), ((), ((), ((), ((), ((), ((), ((), ((), ((), ((), ((), ((), ((), ((), ((), ((), ((), ((), ((), ((), ((), ((), ((), ((), ((), ((), ((), ((), ((), ((), ((), ((), ((), ((), ((), ((), ((), ((), ((), ((), ((), ((), ((), ((), ((), ((), ((), ()))))))))))))))))))))))))))))))))))))))))))))))))))))))))))))))))))))))))))))))), ()))) (fun b0 => .ret (.inr (((), ((), ((), ((), ((), ((), (x.2.1, ((), ((), ((), ((), ((), ((), ((), ((), ((), ((), ((), ((), ((), ((), ((), ((), ((), ((), ((), ((), ((), ((), ((), ((), ((), ((), ((), ((), ((), ((), ((), ((), ((), ((), ((), ((), ((), ((), ((), ((), ((), ((), ((), ((), ((), ((), ((), ((), ((), ((), ((), ((), ((), ((), ((), ((), ((), ((), ((), ((), ((), ((), ((), ((), ((), ((), ((), ((), ((), ((), ((), ((), ()))))))))))))))))))))))))))))))))))))))))))))))))))))))))))))))))))))))))))))))), ())))) (fun z => (z.1.2.2.2.1, z.1.2.2.2.2.2.2.1, z.2.1.1, z.2.1.2.1)) (fun z => z.1.2.2.2.2.2.2.2.2.1) (fun _ => rfl) (fun _ => rfl) (fun x r Q h => match r, h with | .inl _, h => h | .inr b0, h => (h)) ?_
  intro x v; kernel_rfl

def l08_LastOne_T (x0 : Obj) : Tree Bool :=
  .bnd (r07_Few_T x0) fun y1 =>
  .ite (!y1) (
    .bnd l08_awake_T fun y2 =>
    .ret y2) (
    .bnd (last_Answer_T x0 false) fun y3 =>
    .bnd (last_Answer_T x0 true) fun y4 =>
    .ite ((decide ((1 : Int) < (y3.length : Int))) || (decide ((y4.length : Int) < (y3.length : Int)))) (
      .ret false) (
      .bnd (.loop (fun v => l08_LastOne_L7_step y3 y4 x0.1 x0.2 v) 0) fun r5 =>
      .sum r5 (fun r6 =>
        .ret r6) (fun r7 =>
        .ite (decide ((y3.length : Int) = 0)) (
          .bnd l08_awake_T fun y8 =>
          .ret y8) (
          .bnd (.loop (fun v => l08_LastOne_L15_step y3 y4 x0.1 x0.2 v.1 v.2) (false, 0)) fun r9 =>
          .bnd (.loop (fun v => l08_LastOne_L19_step y3 r9 x0.1 x0.2 v) 0) fun r10 =>
          .sum r10 (fun r11 =>
            .ret r11) (fun r12 =>
            .grd r9 l08_awake_T false fun y13 =>
            .ret (r9 && y13))))))

noncomputable def l08_LastOne (x0 : Obj) : Option Bool := (l08_LastOne_T x0).run

def l08_LastOne_g : Sig := ⟨6, (.cons (.val true tObj) .nil), .vals (.val false .bool), fun z => l08_LastOne_T z.1, false⟩

theorem l08_LastOne_ok : l08_LastOne_g.ok Try.prog := by
  refine Sig.lift mix tabOk nms _ Try.func6 (c := (bodyOf Try.f6)) (by kernel_rfl) (o := orT [r07_Few_g, l08_awake_g, last_Answer_g, last_Later_g] [l08_LastOne_L7, l08_LastOne_L15, l08_LastOne_L19] noFz) (orT_sound ⟨r07_Few_ok, ⟨l08_awake_ok, ⟨last_Answer_ok, ⟨last_Later_ok, trivial⟩⟩⟩⟩) (allLp_of [nthC (loopsOf (bodyOf Try.f6)) 0, nthC (loopsOf (bodyOf Try.f6)) 1, nthC (loopsOf (bodyOf Try.f6)) 2] (by kernel_rfl) ⟨l08_LastOne_L7_ok, ⟨l08_LastOne_L15_ok, ⟨l08_LastOne_L19_ok, trivial⟩⟩⟩ (by kernel_rfl)) ?_
  intro z; kernel_rfl

end Go.Eng
