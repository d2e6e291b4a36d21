/- Lifted: 32 functions, part 1. -/
import Derived.Test.YtapnoaalcbcmaaaTrG
import Derived.Test.YtapnoaalcbcmaaaTrF
import Derived.Test.YtapnoaalcbcmaaaEngT
import Derived.Test.YtapnoaalcbcmaaaShf
import Derived.Test.YtapnoaalcbcmaaaTrMk
import Derived.Test.YtapnoaalcbcmaaaTrO
import Derived.Test.YtapnoaalcbcmaaaTrS
namespace Go.Eng
open Go Go.Proofs
set_option maxRecDepth 100000
abbrev R39_Over : Type := (Int × (Str × (Str × List Str)))
abbrev tR39_Over : Ty := (.pair (.int .i64) (.pair .str (.pair .str (.list .str))))

abbrev R39_Hand : Type := (Int × List R39_Over)
abbrev tR39_Hand : Ty := (.pair (.int .i64) (.list tR39_Over))

abbrev R39_Act : Type := (Int × (Str × (Str × (Str × Int))))
abbrev tR39_Act : Ty := (.pair (.int .i64) (.pair .str (.pair .str (.pair .str (.int .i64)))))

def r39_Few_L2_step (l : List R39_Act) (i : Int) : Tree (Int ⊕ (Bool ⊕ Unit)) :=
  .ite ((decide (i < (l.length : Int))) && (decide (i < 40))) (
    ask (inb i l.length) <|
    ask ((!(!(decide ((100 : Int) < ((l.getD i.toNat (dfl tR39_Act : R39_Act)).2.1.length : Int))))) || inb i l.length) <|
    ask ((!(!((decide ((100 : Int) < ((l.getD i.toNat (dfl tR39_Act : R39_Act)).2.1.length : Int))) || (decide ((100 : Int) < ((l.getD i.toNat (dfl tR39_Act : R39_Act)).2.2.1.length : Int)))))) || inb i l.length) <|
    .ite (((decide ((100 : Int) < ((l.getD i.toNat (dfl tR39_Act : R39_Act)).2.1.length : Int))) || (decide ((100 : Int) < ((l.getD i.toNat (dfl tR39_Act : R39_Act)).2.2.1.length : Int)))) || (decide ((100 : Int) < ((l.getD i.toNat (dfl tR39_Act : R39_Act)).2.2.2.1.length : Int)))) (
      .ret (.inr (.inl false))) (
      .ret (.inl (w64 (i + 1))))) (
    .ret (.inr (.inr ())))

def r39_Few_L2 : Lp := ⟨2, [], [], (.cons (.val false (.list tR39_Act)) (ca2 (.cons (.val false (.int .i64)) (ca2 (ca4 (ca32 .nil)))))), .nil, 0, .more 0 [] (ca2 (.cons (.val false .bool) (ca (ca2 (ca4 (ca32 .nil)))))) .nil (.one 1 [] (.cons (.val false (.list tR39_Act)) (ca (ca8 (ca32 .nil)))) .nil), fun z => .bnd (.loop (fun v => r39_Few_L2_step z.1.1 v) z.1.2.2.2.1) fun r => .sum r (fun a0 => .ret (.inl ((cu2 (a0, (cu (cu2 (cu4 (cu32 ())))))), ()))) (fun b0 => .ret (.inr ((z.1.1, (cu (cu8 (cu32 ())))), ())))⟩

theorem r39_Few_L2_ok : r39_Few_L2.ok Try.prog (nthC (loopsOf (bodyOf Try.f5)) 0) := by
  refine Lp.lift (π := List R39_Act) (V := Int) (ρ := (Bool ⊕ Unit)) mix tabOk r39_Few_L2 (o := orT [] [] noFz) (orT_sound trivial) (allLp_of [] (by kernel_rfl) trivial rfl) (fun x v => ((x, (cu2 (v, (cu2 (cu4 (cu32 ())))))), ())) (fun x r => match r with | .inl a0 => .inl ((cu2 (a0, (cu (cu2 (cu4 (cu32 ())))))), ()) | .inr b0 => (.inr ((x, (cu (cu8 (cu32 ())))), ()))) (fun x v => r39_Few_L2_step x v) (fun x r => .sum r (fun a0 => .ret (.inl ((cu2 (a0, (cu (cu2 (cu4 (cu32 ())))))), ()))) (fun b0 => .ret (.inr ((x, (cu (cu8 (cu32 ())))), ())))) (fun z => z.1.1) (fun z => z.1.2.2.2.1) (fun _ => rfl) (fun _ => rfl) (fun x r Q h => match r, h with | .inl _, h => h | .inr b0, h => (h)) ?_
  intro x v; kernel_rfl

def r39_Few_T (x0 : List R39_Act) : Tree Bool :=
  .bnd (.loop (fun v => r39_Few_L2_step x0 v) 0) fun r1 =>
  .sum r1 (fun r2 =>
    .ret r2) (fun r3 =>
    .ret (decide ((x0.length : Int) ≤ 40)))

def r39_Few_g : Sig := ⟨5, (.cons (.val false (.list tR39_Act)) .nil), .vals (.val false .bool), fun z => r39_Few_T z.1, false⟩

theorem r39_Few_ok : r39_Few_g.ok Try.prog := by
  refine Sig.lift mix tabOk nms _ Try.func5 (c := (bodyOf Try.f5)) (by kernel_rfl) (o := orT [] [r39_Few_L2] noFz) (orT_sound trivial) (allLp_of [nthC (loopsOf (bodyOf Try.f5)) 0] (by kernel_rfl) ⟨r39_Few_L2_ok, trivial⟩ (by kernel_rfl)) ?_
  intro z; kernel_rfl

def r01_Few_L2_step (l : List Str) (i : Int) : Tree (Int ⊕ (Bool ⊕ Unit)) :=
  .ite ((decide (i < (l.length : Int))) && (decide (i < 20))) (
    ask (inb i l.length) <|
    .ite (decide ((1024 : Int) < ((l.getD i.toNat ([] : Str)).length : Int))) (
      .ret (.inr (.inl false))) (
      .ret (.inl (w64 (i + 1))))) (
    .ret (.inr (.inr ())))

def r01_Few_L2 : Lp := ⟨2, [], [], (.cons (.val false (.list .str)) (ca2 (.cons (.val false (.int .i64)) (ca (ca2 (ca16 .nil)))))), .nil, 0, .more 0 [] (ca2 (.cons (.val false .bool) (ca4 (ca16 .nil)))) .nil (.one 1 [] (.cons (.val false (.list .str)) (ca2 (ca4 (ca16 .nil)))) .nil), fun z => .bnd (.loop (fun v => r01_Few_L2_step z.1.1 v) z.1.2.2.2.1) fun r => .sum r (fun a0 => .ret (.inl ((cu2 (a0, (cu4 (cu16 ())))), ()))) (fun b0 => .ret (.inr ((z.1.1, (cu2 (cu4 (cu16 ())))), ())))⟩

theorem r01_Few_L2_ok : r01_Few_L2.ok Try.prog (nthC (loopsOf (bodyOf Try.f6)) 0) := by
  refine Lp.lift (π := List Str) (V := Int) (ρ := (Bool ⊕ Unit)) mix tabOk r01_Few_L2 (o := orT [] [] noFz) (orT_sound trivial) (allLp_of [] (by kernel_rfl) trivial rfl) (fun x v => ((x, (cu2 (v, (cu (cu2 (cu16 ())))))), ())) (fun x r => match r with | .inl a0 => .inl ((cu2 (a0, (cu4 (cu16 ())))), ()) | .inr b0 => (.inr ((x, (cu2 (cu4 (cu16 ())))), ()))) (fun x v => r01_Few_L2_step x v) (fun x r => .sum r (fun a0 => .ret (.inl ((cu2 (a0, (cu4 (cu16 ())))), ()))) (fun b0 => .ret (.inr ((x, (cu2 (cu4 (cu16 ())))), ())))) (fun z => z.1.1) (fun z => z.1.2.2.2.1) (fun _ => rfl) (fun _ => rfl) (fun x r Q h => match r, h with | .inl _, h => h | .inr b0, h => (h)) ?_
  intro x v; kernel_rfl

def r01_Few_T (x0 : List Str) : Tree Bool :=
  .bnd (.loop (fun v => r01_Few_L2_step x0 v) 0) fun r1 =>
  .sum r1 (fun r2 =>
    .ret r2) (fun r3 =>
    .ret (decide ((x0.length : Int) ≤ 20)))

def r01_Few_g : Sig := ⟨6, (.cons (.val false (.list .str)) .nil), .vals (.val false .bool), fun z => r01_Few_T z.1, false⟩

theorem r01_Few_ok : r01_Few_g.ok Try.prog := by
  refine Sig.lift mix tabOk nms _ Try.func6 (c := (bodyOf Try.f6)) (by kernel_rfl) (o := orT [] [r01_Few_L2] noFz) (orT_sound trivial) (allLp_of [nthC (loopsOf (bodyOf Try.f6)) 0] (by kernel_rfl) ⟨r01_Few_L2_ok, trivial⟩ (by kernel_rfl)) ?_
  intro z; kernel_rfl

def hand_New_T (x0 : Int) : Tree (Unit × ((Int × (Unit × Unit)) × Unit)) :=
  .ret ((), ((x0, ((), ())), ()))

def hand_New_g : MSig := ⟨8, (.cons (.val false (.int .i64)) .nil), .nil, [], (.ref 0 0), (.cells 36 (.cons (.val false (.int .i64)) (.cons .nilm .nil)) .nil), none, fun z => hand_New_T z.1.1⟩

theorem hand_New_ok : hand_New_g.ok Try.prog := by
  refine MSig.lift mix tabOk nms _ Try.func8 (c := (bodyOf Try.f8)) (by kernel_rfl) (o := orT [] [] noFz) (orT_sound trivial) (allLp_of [] (by kernel_rfl) trivial rfl) (fun _ => rfl) ?_
  intro z; kernel_rfl

def hand_Hand_Start_T (x0 : Str) (x1 : Str) (x2 : Int) (x3 : Fam) : Tree (Int × ((Int × (Unit × Unit)) × (Fam × Unit))) :=
  .ite false (
    .ret (0, ((x2, ((), ())), (x3, ())))) (
    .ite (Nat.beq x3.2.length 0) (
      .both (
        .both (
          ask (decide (1 ≤ ([[]] : List (List (Str × Int))).length)) <|
          ask (decide ((putM .str famU [] x0 ((w64 (x2 + 1)), x1, ((([[]] : List (List (Str × Int))).length - 1 : Nat) : Int))).length ≤ 9223372036854775807)) <|
          .ret ((w64 (x2 + 1)), (((w64 (x2 + 1)), ((), ())), (((putM .str famU [] x0 ((w64 (x2 + 1)), x1, ((([[]] : List (List (Str × Int))).length - 1 : Nat) : Int))), ([[]] ++ [[]])), ())))) (
          ask (decide (1 ≤ ([[]] : List (List (Str × Int))).length)) <|
          ask (decide ((putM .str famU [] x0 ((w64 (x2 + 1)), x1, ((([[]] : List (List (Str × Int))).length - 1 : Nat) : Int))).length ≤ 9223372036854775807)) <|
          .ret ((w64 (x2 + 1)), (((w64 (x2 + 1)), ((), ())), (((putM .str famU [] x0 ((w64 (x2 + 1)), x1, ((([[]] : List (List (Str × Int))).length - 1 : Nat) : Int))), ([[]] ++ [[]])), ()))))) (
        .both (
          .both (
            ask (decide (1 ≤ ([[]] : List (List (Str × Int))).length)) <|
            ask (decide ((putM .str famU [] x0 ((w64 (x2 + 1)), x1, ((([[]] : List (List (Str × Int))).length - 1 : Nat) : Int))).length ≤ 9223372036854775807)) <|
            .ret ((w64 (x2 + 1)), (((w64 (x2 + 1)), ((), ())), (((putM .str famU [] x0 ((w64 (x2 + 1)), x1, ((([[]] : List (List (Str × Int))).length - 1 : Nat) : Int))), ([[]] ++ [[]])), ())))) (
            .both (
              ask (decide (1 ≤ ([[]] : List (List (Str × Int))).length)) <|
              ask (decide ((putM .str famU [] x0 ((w64 (x2 + 1)), x1, ((([[]] : List (List (Str × Int))).length - 1 : Nat) : Int))).length ≤ 9223372036854775807)) <|
              .ret ((w64 (x2 + 1)), (((w64 (x2 + 1)), ((), ())), (((putM .str famU [] x0 ((w64 (x2 + 1)), x1, ((([[]] : List (List (Str × Int))).length - 1 : Nat) : Int))), ([[]] ++ [[]])), ())))) (
              ask (decide (1 ≤ ([[]] : List (List (Str × Int))).length)) <|
              ask (decide ((putM .str famU [] x0 ((w64 (x2 + 1)), x1, ((([[]] : List (List (Str × Int))).length - 1 : Nat) : Int))).length ≤ 9223372036854775807)) <|
              .ret ((w64 (x2 + 1)), (((w64 (x2 + 1)), ((), ())), (((putM .str famU [] x0 ((w64 (x2 + 1)), x1, ((([[]] : List (List (Str × Int))).length - 1 : Nat) : Int))), ([[]] ++ [[]])), ())))))) (
          .both (
            ask (decide (1 ≤ ([[]] : List (List (Str × Int))).length)) <|
            ask (decide ((putM .str famU [] x0 ((w64 (x2 + 1)), x1, ((([[]] : List (List (Str × Int))).length - 1 : Nat) : Int))).length ≤ 9223372036854775807)) <|
            .ret ((w64 (x2 + 1)), (((w64 (x2 + 1)), ((), ())), (((putM .str famU [] x0 ((w64 (x2 + 1)), x1, ((([[]] : List (List (Str × Int))).length - 1 : Nat) : Int))), ([[]] ++ [[]])), ())))) (
            .both (
              ask (decide (1 ≤ ([[]] : List (List (Str × Int))).length)) <|
              ask (decide ((putM .str famU [] x0 ((w64 (x2 + 1)), x1, ((([[]] : List (List (Str × Int))).length - 1 : Nat) : Int))).length ≤ 9223372036854775807)) <|
              .ret ((w64 (x2 + 1)), (((w64 (x2 + 1)), ((), ())), (((putM .str famU [] x0 ((w64 (x2 + 1)), x1, ((([[]] : List (List (Str × Int))).length - 1 : Nat) : Int))), ([[]] ++ [[]])), ())))) (
              ask (decide (1 ≤ ([[]] : List (List (Str × Int))).length)) <|
              ask (decide ((putM .str famU [] x0 ((w64 (x2 + 1)), x1, ((([[]] : List (List (Str × Int))).length - 1 : Nat) : Int))).length ≤ 9223372036854775807)) <|
              .ret ((w64 (x2 + 1)), (((w64 (x2 + 1)), ((), ())), (((putM .str famU [] x0 ((w64 (x2 + 1)), x1, ((([[]] : List (List (Str × Int))).length - 1 : Nat) : Int))), ([[]] ++ [[]])), ())))))))) (
      .both (
        .both (
          ask (decide (1 ≤ x3.2.length)) <|
          ask (decide ((putM .str famU x3.1 x0 ((w64 (x2 + 1)), x1, ((x3.2.length - 1 : Nat) : Int))).length ≤ 9223372036854775807)) <|
          .ret ((w64 (x2 + 1)), (((w64 (x2 + 1)), ((), ())), (((putM .str famU x3.1 x0 ((w64 (x2 + 1)), x1, ((x3.2.length - 1 : Nat) : Int))), (x3.2 ++ [[]])), ())))) (
          ask (decide (1 ≤ x3.2.length)) <|
          ask (decide ((putM .str famU x3.1 x0 ((w64 (x2 + 1)), x1, ((x3.2.length - 1 : Nat) : Int))).length ≤ 9223372036854775807)) <|
          .ret ((w64 (x2 + 1)), (((w64 (x2 + 1)), ((), ())), (((putM .str famU x3.1 x0 ((w64 (x2 + 1)), x1, ((x3.2.length - 1 : Nat) : Int))), (x3.2 ++ [[]])), ()))))) (
        .both (
          .both (
            ask (decide (1 ≤ x3.2.length)) <|
            ask (decide ((putM .str famU x3.1 x0 ((w64 (x2 + 1)), x1, ((x3.2.length - 1 : Nat) : Int))).length ≤ 9223372036854775807)) <|
            .ret ((w64 (x2 + 1)), (((w64 (x2 + 1)), ((), ())), (((putM .str famU x3.1 x0 ((w64 (x2 + 1)), x1, ((x3.2.length - 1 : Nat) : Int))), (x3.2 ++ [[]])), ())))) (
            .both (
              ask (decide (1 ≤ x3.2.length)) <|
              ask (decide ((putM .str famU x3.1 x0 ((w64 (x2 + 1)), x1, ((x3.2.length - 1 : Nat) : Int))).length ≤ 9223372036854775807)) <|
              .ret ((w64 (x2 + 1)), (((w64 (x2 + 1)), ((), ())), (((putM .str famU x3.1 x0 ((w64 (x2 + 1)), x1, ((x3.2.length - 1 : Nat) : Int))), (x3.2 ++ [[]])), ())))) (
              ask (decide (1 ≤ x3.2.length)) <|
              ask (decide ((putM .str famU x3.1 x0 ((w64 (x2 + 1)), x1, ((x3.2.length - 1 : Nat) : Int))).length ≤ 9223372036854775807)) <|
              .ret ((w64 (x2 + 1)), (((w64 (x2 + 1)), ((), ())), (((putM .str famU x3.1 x0 ((w64 (x2 + 1)), x1, ((x3.2.length - 1 : Nat) : Int))), (x3.2 ++ [[]])), ())))))) (
          .both (
            ask (decide (1 ≤ x3.2.length)) <|
            ask (decide ((putM .str famU x3.1 x0 ((w64 (x2 + 1)), x1, ((x3.2.length - 1 : Nat) : Int))).length ≤ 9223372036854775807)) <|
            .ret ((w64 (x2 + 1)), (((w64 (x2 + 1)), ((), ())), (((putM .str famU x3.1 x0 ((w64 (x2 + 1)), x1, ((x3.2.length - 1 : Nat) : Int))), (x3.2 ++ [[]])), ())))) (
            .both (
              ask (decide (1 ≤ x3.2.length)) <|
              ask (decide ((putM .str famU x3.1 x0 ((w64 (x2 + 1)), x1, ((x3.2.length - 1 : Nat) : Int))).length ≤ 9223372036854775807)) <|
              .ret ((w64 (x2 + 1)), (((w64 (x2 + 1)), ((), ())), (((putM .str famU x3.1 x0 ((w64 (x2 + 1)), x1, ((x3.2.length - 1 : Nat) : Int))), (x3.2 ++ [[]])), ())))) (
              ask (decide (1 ≤ x3.2.length)) <|
              ask (decide ((putM .str famU x3.1 x0 ((w64 (x2 + 1)), x1, ((x3.2.length - 1 : Nat) : Int))).length ≤ 9223372036854775807)) <|
              .ret ((w64 (x2 + 1)), (((w64 (x2 + 1)), ((), ())), (((putM .str famU x3.1 x0 ((w64 (x2 + 1)), x1, ((x3.2.length - 1 : Nat) : Int))), (x3.2 ++ [[]])), ())))))))))

def hand_Hand_Start_g : MSig := ⟨18, (.cons (.ref 0 0) (.cons (.val false .str) (.cons (.val false .str) .nil))), (.cells 36 (.cons (.val false (.int .i64)) (.cons (.mp 1) .nil)) (.fam .nil)), [.mvB 2 1], (.val false (.int .i64)), (.cells 36 (.cons (.val false (.int .i64)) (.cons (.mp 1) .nil)) (.fam .nil)), some 1, fun z => hand_Hand_Start_T z.1.2.1 z.1.2.2.1 z.2.1.1 z.2.2.1⟩

theorem hand_Hand_Start_ok : hand_Hand_Start_g.ok Try.prog := by
  refine MSig.lift mix tabOk nms _ Try.func18 (c := (bodyOf Try.f18)) (by kernel_rfl) (o := orT [] [] noFz) (orT_sound trivial) (allLp_of [] (by kernel_rfl) trivial rfl) (fun _ => rfl) ?_
  intro z; kernel_rfl

def slices_Sort_string_T (x0 : List Str) : Tree (Unit × (List Str × Unit)) :=
  ask (decide (x0.length < 4611686018427387904)) <|
  .ret ((), (sortS x0, ()))

def slices_Sort_string_g : MSig := ⟨24, (.cons (.own 0) .nil), (.rows 9 .str .nil), [], .nil, (.rows 9 .str .nil), none, fun z => slices_Sort_string_T z.2.1⟩

theorem slices_Sort_string_ok : slices_Sort_string_g.ok Try.prog := by
  refine sort_scalls (P := Try.prog) (f := 24) (t := .str) (e := 9) rfl encStr sortS (fun l => (isortB_perm _ l).length_eq) (fun l x h => (isortB_perm _ l).mem_iff.1 h) (by intro w S v x h; cases h; rfl) (fun x => rfl) (fun b cap zs w h1 h2 h3 => ?_) (fun p cap w => Try.slices_Sort_string_none p cap w) (fun args w => enters_of Try.func24 (by kernel_rfl) rfl args w)
  rw [← mergeS]; exact Try.slices_Sort_string b 0 cap zs w h1 h2 h3

abbrev PlX : Type := List (Str × (Int × (Str × List (Str × Int))))
def hand_Hand_Places_T (x0 : Int) (x1 : PlX) : Tree (List Str) :=
  ask (decide (x1.length * 16 ≤ roomNat)) <|
  ask (decide (x1.length < 4611686018427387904)) <|
  .ret (sortS (x1.map (·.1)))

def hand_Hand_Places_g : Sig := ⟨16, (.cons (.cp (.cons (.val false (.int .i64)) (.cons (.mv .str viewT) .nil))) .nil), .fresh 9 .str, fun z => hand_Hand_Places_T z.1.1 z.1.2.1, ([] : List Str)⟩

theorem sortS_perm {l k : List Str} (h : l.Perm k) : sortS l = sortS k :=
  List.Perm.eq_of_pairwise (le := fun a b => leS a b = true) (fun a b _ _ h1 h2 => leS_anti a b h1 h2) (isortB_sorted leS_trans leS_total l) (isortB_sorted leS_trans leS_total k) ((isortB_perm _ l).trans (h.trans (isortB_perm _ k).symm))

abbrev plP (a : Int) (x : PlX) : AV := .cptr 2 (nth [.int .i64 a, .mv .str viewT x])
def plF (a : Int) (x : PlX) (ks : List Str) : AS := ⟨[plP a x, .undef, .nilsl, .ownT 0, .undef, .undef, .undef, .undef, .undef, .undef, .undef, .undef, .undef, .undef, .undef, .undef, .undef, .undef, .undef, .undef, .undef, .undef, .undef], [.trows 9 .str ks], 0⟩
noncomputable def plB : Code := bodyOf Try.f16
noncomputable def pl0 : Code := seqL plB
noncomputable def pl1 : Code := seqL (seqR plB)
noncomputable def pl3 : Code := seqL (seqR (seqR plB))
noncomputable def pl4 : Code := seqL (seqR (seqR (seqR plB)))
noncomputable def pl5 : Code := seqR (seqR (seqR (seqR plB)))
def opAt (l : List Oper) (i : Nat) : Oper := (nthO l i).getD ⟨none, .move (.tmp 0), 0, "", #[], none⟩
def plBody (c : Code) : Code := match c with | .block _ (.loop b) => b | c => c
def plIn (c : Code) : Code := match c with | .block _ b => b | c => c
noncomputable def plO4 : List Oper := (opsOf (seqL pl4)).toList
noncomputable def plL : Code := plBody (seqR pl4)
noncomputable def plO5 : List Oper := (opsOf (seqL plL)).toList
noncomputable def plI : Code := plIn (seqR (seqR plL))
noncomputable def plO6 : List Oper := (opsOf (seqL plI)).toList
noncomputable def plO7 : Array Oper := opsOf (seqR plI)

theorem pl_keys (a : Int) (x : PlX) (hx : x.length * 16 ≤ roomNat) :
    AWp Try.prog pl4 (fun e B => e = .normal ∧ ∃ ks, ks.Perm (x.map (·.1)) ∧ B = plF a x ks) ⟨[plP a x, .undef, .nilsl, .nilsl, .undef, .undef, .undef, .undef, .undef, .undef, .undef, .undef, .undef, .undef, .undef, .undef, .undef, .undef, .undef, .undef, .undef, .undef, .undef], [], 0⟩ := by
  rw [show pl4 = .seq (.region 4 (plO4.take 4 ++ [opAt plO4 4]).toArray false) (.block 0 (.loop (.seq (.region 5 #[opAt plO5 0, opAt plO5 1] false) (.seq (.cond (.tmp 13) .skip (.exit 0)) (.block 1 (.seq (.region 6 #[opAt plO6 0, opAt plO6 1, opAt plO6 2] false) (.region 7 plO7 false))))))) by kernel_rfl]
  refine AWp.keys (T := typs) tabOk (call := tblO noPu) noCalls (t := .str) (u := viewT) rfl (mt := 34) (kt := 9) (et := 53) (by kernel_rfl)
    (it := 11) (nx := 12) (ok := 13) (kx := 14) (ke := 15) (lane := 4) (sm := 10) (by kernel_rfl) (by kernel_rfl) (by kernel_rfl) (by kernel_rfl) (by kernel_rfl) (by kernel_rfl) (by kernel_rfl) (by kernel_rfl) (by kernel_rfl) (by kernel_rfl) (by kernel_rfl) (by kernel_rfl) (by kernel_rfl) (by kernel_rfl) (by kernel_rfl) (by kernel_rfl) (by kernel_rfl) (by kernel_rfl)
    (by decide) ?_ (plF a x) 23 (fun ks => ⟨rfl, rfl, rfl, rfl, rfl, rfl⟩) (by decide)
    (s := ⟨[plP a x, .undef, .nilsl, .nilsl, .undef, .undef, .undef, plP a x, plP a x, .cptr 1 (fun j => nth [.int .i64 a, .mv .str viewT x] (1 + j)), .mv .str viewT x, .undef, .undef, .undef, .undef, .undef, .undef, .undef, .undef, .undef, .undef, .undef, .undef], [], [], []⟩) (by kernel_rfl) trivial rfl rfl ?_ ?_
  · intro i o h
    have hall : (plO7.toList.all fun o => match o.dst with | some d => !Nat.beq d 11 | none => true) = true := by kernel_rfl
    have := List.all_eq_true.1 hall o (by rw [← Array.getElem?_toList] at h; exact List.mem_of_getElem? h)
    intro e
    rw [e] at this
    exact absurd this (by decide)
  · refine ALe.trans (B := ⟨[plP a x, .undef, .nilsl, .nilsl, .undef, .undef, .undef, .undef, .undef, .undef, .undef, .undef, .undef, .undef, .undef, .undef, .undef, .undef, .undef, .undef, .undef, .undef, .undef], [], 0⟩) (ALe.drop (by repeat (first | exact .nil | apply Drop.keep | apply Drop.drop))) ?_
    exact ALe.own (A := ⟨[plP a x, .undef, .nilsl, .nilsl, .undef, .undef, .undef, .undef, .undef, .undef, .undef, .undef, .undef, .undef, .undef, .undef, .undef, .undef, .undef, .undef, .undef, .undef, .undef], [], 0⟩) 3 9 .str (.inl rfl)
  · intro ks k hlt
    refine ⟨⟨[plP a x, .undef, .nilsl, .ownT 0, .str k, .undef, .undef, .undef, .undef, .undef, .undef, .undef, .undef, .undef, .undef, .undef, .undef, .str k, .tsl .str [k] true, .ownT 0, .undef, .undef, .undef], [.trows 9 .str (ks ++ [k])], [], [std.ble (std.nmul (ks ++ [k]).length 16) roomNat]⟩, by kernel_rfl, ?_, ?_⟩
    · show decide ((ks ++ [k]).length * 16 ≤ roomNat) = true
      rw [List.length_append, List.length_singleton, decide_eq_true_eq]
      omega
    · exact ALe.drop (by repeat (first | exact .nil | apply Drop.keep | apply Drop.drop))

theorem hand_Hand_Places_ok : hand_Hand_Places_g.ok Try.prog := by
  rintro ⟨⟨a, x, ⟨⟩⟩, ⟨⟩⟩ y hy
  have hy : (bif decide (x.length * 16 ≤ roomNat) then (bif decide (x.length < 4611686018427387904) then some (sortS (x.map (·.1))) else none) else none) = some y := hy
  cases h1 : decide (x.length * 16 ≤ roomNat) with
  | false => rw [h1] at hy; cases hy
  | true =>
  cases h2 : decide (x.length < 4611686018427387904) with
  | false => rw [h1, h2] at hy; cases hy
  | true =>
  rw [h1, h2] at hy
  injection hy with hy
  subst hy
  have h1 := of_decide_eq_true h1
  have h2 := of_decide_eq_true h2
  refine ACalls.of tabOk Try.func16 (c := plB) (by kernel_rfl) (name_ok nms Try.func16) fun _ => ?_
  rw [show (⟨catA (encP hand_Hand_Places_g.ps ((a, x, ()), ())) (und (Try.f16.ntmps - lenA (encP hand_Hand_Places_g.ps ((a, x, ()), ())))), [], 0⟩ : AS) = ⟨[plP a x, .undef, .undef, .undef, .undef, .undef, .undef, .undef, .undef, .undef, .undef, .undef, .undef, .undef, .undef, .undef, .undef, .undef, .undef, .undef, .undef, .undef, .undef], [], 0⟩ by kernel_rfl]
  rw [show plB = .seq pl0 (.seq pl1 (.seq pl3 (.seq pl4 pl5))) by kernel_rfl]
  -- the first parts
  refine AWp.seq (evT_sound mix tabOk (o := orT [] [] noFz) (orT_sound trivial) pl0 (allLp_of [] (by kernel_rfl) trivial rfl) _ _ ?_)
  rw [show evT std typs (orT [] [] noFz) pl0 ⟨[plP a x, .undef, .undef, .undef, .undef, .undef, .undef, .undef, .undef, .undef, .undef, .undef, .undef, .undef, .undef, .undef, .undef, .undef, .undef, .undef, .undef, .undef, .undef], [], 0⟩
    = .ret (.normal, ⟨[plP a x, .undef, .nilsl, .undef, .undef, .undef, .undef, .undef, .undef, .undef, .undef, .undef, .undef, .undef, .undef, .undef, .undef, .undef, .undef, .undef, .undef, .undef, .undef], [], 0⟩) by kernel_rfl]
  show AWp _ _ _ _
  refine AWp.seq (evT_sound mix tabOk (o := orT [] [] noFz) (orT_sound trivial) pl1 (allLp_of [] (by kernel_rfl) trivial rfl) _ _ ?_)
  rw [show evT std typs (orT [] [] noFz) pl1 ⟨[plP a x, .undef, .nilsl, .undef, .undef, .undef, .undef, .undef, .undef, .undef, .undef, .undef, .undef, .undef, .undef, .undef, .undef, .undef, .undef, .undef, .undef, .undef, .undef], [], 0⟩
    = .ite false (.ret (.ret, ⟨[plP a x, .undef, .nilsl, .undef, .undef, plP a x, .bool false, .undef, .undef, .undef, .undef, .undef, .undef, .undef, .undef, .undef, .undef, .undef, .undef, .undef, .undef, .undef, .undef], [], 0⟩))
      (.ret (.normal, ⟨[plP a x, .undef, .nilsl, .undef, .undef, plP a x, .bool false, .undef, .undef, .undef, .undef, .undef, .undef, .undef, .undef, .undef, .undef, .undef, .undef, .undef, .undef, .undef, .undef], [], 0⟩)) by kernel_rfl]
  show AWp _ _ _ _
  refine AWp.seq (AWp.post_le (evT_sound mix tabOk (o := orT [] [] noFz) (orT_sound trivial) pl3 (allLp_of [] (by kernel_rfl) trivial rfl) _ _ ?_))
  rw [show evT std typs (orT [] [] noFz) pl3 ⟨[plP a x, .undef, .nilsl, .undef, .undef, plP a x, .bool false, .undef, .undef, .undef, .undef, .undef, .undef, .undef, .undef, .undef, .undef, .undef, .undef, .undef, .undef, .undef, .undef], [], 0⟩
    = .ret (.normal, ⟨[plP a x, .undef, .nilsl, .nilsl, .undef, plP a x, .bool false, .undef, .undef, .undef, .undef, .undef, .undef, .undef, .undef, .undef, .undef, .undef, .undef, .undef, .undef, .undef, .undef], [], 0⟩) by kernel_rfl]
  refine ⟨⟨[plP a x, .undef, .nilsl, .nilsl, .undef, .undef, .undef, .undef, .undef, .undef, .undef, .undef, .undef, .undef, .undef, .undef, .undef, .undef, .undef, .undef, .undef, .undef, .undef], [], 0⟩, ALe.drop (by repeat (first | exact .nil | apply Drop.keep | apply Drop.drop)), ?_⟩
  show AWp _ _ _ _
  -- the loop, and behind it
  refine AWp.seq ((pl_keys a x h1).mono ?_)
  rintro e B ⟨rfl, ks, hp, rfl⟩
  show AWp _ _ _ _
  have hl : ks.length = x.length := by rw [hp.length_eq, List.length_map]
  have hfin : ((evT std typs (orM [] [slices_Sort_string_g] [] noFz) pl5 (plF a x ks)).bind (finT typs Try.f16.results.toList (.fresh 9 .str))).run = some (sortS (x.map (·.1))) := by
    rw [show (evT std typs (orM [] [slices_Sort_string_g] [] noFz) pl5 (plF a x ks)).bind (finT typs Try.f16.results.toList (.fresh 9 .str)) = .bnd (slices_Sort_string_T ks) fun y => .ret y.2.1 by kernel_rfl]
    show (bif decide (ks.length < 4611686018427387904) then some ((), (sortS ks, ())) else none).bind _ = _
    rw [decide_eq_true (show ks.length < 4611686018427387904 by omega), sortS_perm hp.symm]
    rfl
  exact evT_fin (o := orM [] [slices_Sort_string_g] [] noFz) (rs := .fresh 9 .str) mix tabOk (orM_sound trivial ⟨slices_Sort_string_ok, trivial⟩) (allLp_ofM [] (by kernel_rfl) trivial rfl) hfin

def hand_Hand_Places_gv : Sig := ⟨16, (.cons (.cp (.cons (.val false (.int .i64)) (.cons (.mv .str viewT) .nil))) .nil), .newv 9 .str, fun z => hand_Hand_Places_T z.1.1 z.1.2.1, ([] : List Str)⟩

theorem hand_Hand_Places_okv : hand_Hand_Places_gv.ok Try.prog := fun x y h => acalls_new (hand_Hand_Places_ok x y h)


def hand_Hand_Taken_L1_step (number : Int) (node : Str) (t : Int) (h : Int) (rows2 : List Str) (t2 : Int) (rows : Fam) : Tree ((Int × Fam) ⊕ Fam) :=
  .ite (decide (t2 < t)) (
    ask (inb t2 rows2.length) <|
    .ite ((getM .str famU rows.1 (rows2.getD t2.toNat ([] : Str))).isSome) (
      .ite (decide (((getM .str famU rows.1 (rows2.getD t2.toNat ([] : Str))).getD ((0 : Int), ([] : Str), (0 : Int))).1 = number)) (
        ask (decide ((putM .str (.int .i64) (rows.2.getD (((getM .str famU rows.1 (rows2.getD t2.toNat ([] : Str))).getD ((0 : Int), ([] : Str), (0 : Int))).2.2.toNat + 1) []) node (1 : Int)).length ≤ 9223372036854775807)) <|
        .ret (.inl ((w64 (t2 + 1)), (rows.1, (rows.2.set (((getM .str famU rows.1 (rows2.getD t2.toNat ([] : Str))).getD ((0 : Int), ([] : Str), (0 : Int))).2.2.toNat + 1) (putM .str (.int .i64) (rows.2.getD (((getM .str famU rows.1 (rows2.getD t2.toNat ([] : Str))).getD ((0 : Int), ([] : Str), (0 : Int))).2.2.toNat + 1) []) node (1 : Int))))))) (
        .ret (.inl ((w64 (t2 + 1)), rows)))) (
      .ite (decide ((0 : Int) = number)) (
        ask false <|
        .ret (.inl ((w64 (t2 + 1)), rows))) (
        .ret (.inl ((w64 (t2 + 1)), rows))))) (
    .ret (.inr rows))

def hand_Hand_Taken_L1 : Lp := ⟨1, [], [], (.cons (.ref 0 0) (.cons (.val false (.int .i64)) (.cons (.val false .str) (ca (ca2 (ca4 (.cons (.own 2) (.cons (.val false (.int .i64)) (.cons (.val false (.int .i64)) (ca (ca16 .nil))))))))))), (.cells 36 (.cons (.val false (.int .i64)) (.cons (.mp 1) .nil)) (.fam (.rows 9 .str .nil))), 2, .one 1 [] (ca2 (ca4 (ca8 (ca16 .nil)))) (.cells 36 (.cons (.val false (.int .i64)) (.cons (.mp 1) .nil)) (.fam .nil)), fun z => .bnd (.loop (fun v => hand_Hand_Taken_L1_step z.1.2.1 z.1.2.2.1 z.1.2.2.2.2.2.2.2.2.2.2.2.1 z.2.1.1 z.2.2.2.1 v.1 v.2) (z.1.2.2.2.2.2.2.2.2.2.2.2.2.1, z.2.2.1)) fun r => .ret ((cu2 (cu4 (cu8 (cu16 ())))), ((z.2.1.1, ((), ())), (r, ())))⟩

theorem hand_Hand_Taken_L1_ok : hand_Hand_Taken_L1.ok Try.prog (nthC (loopsOf (bodyOf Try.f19)) 0) := by
  refine Lp.lift (π := (Int × Str × Int × Int × (List Str))) (V := (Int × Fam)) (ρ := Fam) mix tabOk hand_Hand_Taken_L1 (o := orT [hand_Hand_Places_g] [] noFz) (orT_sound ⟨hand_Hand_Places_ok, trivial⟩) (allLp_of [] (by kernel_rfl) trivial rfl) (fun x v => (((), (x.1, (x.2.1, (cu (cu2 (cu4 ((), (x.2.2.1, (v.1, (cu (cu16 ()))))))))))), ((x.2.2.2.1, ((), ())), (v.2, (x.2.2.2.2, ()))))) (fun x r => ((cu2 (cu4 (cu8 (cu16 ())))), ((x.2.2.2.1, ((), ())), (r, ())))) (fun x v => hand_Hand_Taken_L1_step x.1 x.2.1 x.2.2.1 x.2.2.2.1 x.2.2.2.2 v.1 v.2) (fun x r => .ret ((cu2 (cu4 (cu8 (cu16 ())))), ((x.2.2.2.1, ((), ())), (r, ())))) (fun z => (z.1.2.1, z.1.2.2.1, z.1.2.2.2.2.2.2.2.2.2.2.2.1, z.2.1.1, z.2.2.2.1)) (fun z => (z.1.2.2.2.2.2.2.2.2.2.2.2.2.1, z.2.2.1)) (fun _ => rfl) (fun _ => rfl) (fun _ _ _ h => h) ?_
  intro x v; kernel_rfl

def hand_Hand_Taken_T (x0 : Int) (x1 : Str) (x2 : Int) (x3 : Fam) : Tree (Unit × ((Int × (Unit × Unit)) × (Fam × Unit))) :=
  .bnd (hand_Hand_Places_T x2 (famView x3.1 x3.2)) fun y1 =>
  .bnd (.loop (fun v => hand_Hand_Taken_L1_step x0 x1 (y1.length : Int) x2 y1 v.1 v.2) (0, x3)) fun r2 =>
  .ret ((), ((x2, ((), ())), (r2, ())))

def hand_Hand_Taken_g : MSig := ⟨19, (.cons (.ref 0 0) (.cons (.val false (.int .i64)) (.cons (.val false .str) .nil))), (.cells 36 (.cons (.val false (.int .i64)) (.cons (.mp 1) .nil)) (.fam .nil)), [], .nil, (.cells 36 (.cons (.val false (.int .i64)) (.cons (.mp 1) .nil)) (.fam .nil)), some 1, fun z => hand_Hand_Taken_T z.1.2.1 z.1.2.2.1 z.2.1.1 z.2.2.1⟩

theorem hand_Hand_Taken_ok : hand_Hand_Taken_g.ok Try.prog := by
  refine MSig.lift mix tabOk nms _ Try.func19 (c := (bodyOf Try.f19)) (by kernel_rfl) (o := orT [hand_Hand_Places_g] [hand_Hand_Taken_L1] noFz) (orT_sound ⟨hand_Hand_Places_ok, trivial⟩) (allLp_of [nthC (loopsOf (bodyOf Try.f19)) 0] (by kernel_rfl) ⟨hand_Hand_Taken_L1_ok, trivial⟩ (by kernel_rfl)) (fun _ => rfl) ?_
  intro z; kernel_rfl

def hand_Hand_Ready_1_T (x0 : Str) (x1 : Int) (x2 : Str) (x3 : List (Str × Int)) : Tree Bool :=
  .ret (decide (((getM .str (.int .i64) x3 x0).getD (0 : Int)) = 0))

def hand_Hand_Ready_1_g : Sig := ⟨21, (.cons (.val false .str) (.cons (.cp (.cons (.val false (.int .i64)) (.cons (.val false .str) (.cons (.mv .str (.int .i64)) .nil)))) .nil)), .vals (.val false .bool), fun z => hand_Hand_Ready_1_T z.1 z.2.1.1 z.2.1.2.1 z.2.1.2.2.1, false⟩

theorem hand_Hand_Ready_1_ok : hand_Hand_Ready_1_g.ok Try.prog := by
  refine Sig.lift mix tabOk nms _ Try.func21 (c := (bodyOf Try.f21)) (by kernel_rfl) (o := orT [] [] noFz) (orT_sound trivial) (allLp_of [] (by kernel_rfl) trivial rfl) ?_
  intro z; kernel_rfl

def slices_IndexFunc_string_hand_Hand_Ready_1_L2_step (s_ : List Str) (f : Int) (f2 : Str) (f3 : List (Str × Int)) (t : Int) (t2 : Int) : Tree (Int ⊕ (Int ⊕ Unit)) :=
  .ite (decide (t2 < t)) (
    ask (inb t2 s_.length) <|
    .bnd (hand_Hand_Ready_1_T (s_.getD t2.toNat ([] : Str)) f f2 f3) fun y1 =>
    .ite y1 (
      .ret (.inr (.inl t2))) (
      .ret (.inl (w64 (t2 + 1))))) (
    .ret (.inr (.inr ())))

def slices_IndexFunc_string_hand_Hand_Ready_1_L2 : Lp := ⟨2, [], [], (.cons (.val false (.list .str)) (.cons (.fn 21 .nil (.cons (.cp (.cons (.val false (.int .i64)) (.cons (.val false .str) (.cons (.mv .str (.int .i64)) .nil)))) .nil)) (ca (ca4 (.cons (.val false (.int .i64)) (.cons (.val false (.int .i64)) (ca2 (ca8 .nil)))))))), .nil, 0, .more 0 [] (ca4 (.cons (.val false (.int .i64)) (ca2 (ca4 (ca8 .nil))))) .nil (.one 1 [] (ca (ca2 (ca16 .nil))) .nil), fun z => .bnd (.loop (fun v => slices_IndexFunc_string_hand_Hand_Ready_1_L2_step z.1.1 z.1.2.1.2.1.1 z.1.2.1.2.1.2.1 z.1.2.1.2.1.2.2.1 z.1.2.2.2.2.2.2.2.1 v) z.1.2.2.2.2.2.2.2.2.1) fun r => .sum r (fun a0 => .ret (.inl ((cu4 (a0, (cu2 (cu4 (cu8 ()))))), ()))) (fun b0 => .ret (.inr ((cu (cu2 (cu16 ()))), ())))⟩

theorem slices_IndexFunc_string_hand_Hand_Ready_1_L2_ok : slices_IndexFunc_string_hand_Hand_Ready_1_L2.ok Try.prog (nthC (loopsOf (bodyOf Try.f25)) 0) := by
  refine Lp.lift (π := ((List Str) × Int × Str × (List (Str × Int)) × Int)) (V := Int) (ρ := (Int ⊕ Unit)) mix tabOk slices_IndexFunc_string_hand_Hand_Ready_1_L2 (o := orT [hand_Hand_Ready_1_g] [] noFz) (orT_sound ⟨hand_Hand_Ready_1_ok, trivial⟩) (allLp_of [] (by kernel_rfl) trivial rfl) (fun x v => ((x.1, (((), ((x.2.1, (x.2.2.1, (x.2.2.2.1, ()))), ())), (cu (cu4 (x.2.2.2.2, (v, (cu2 (cu8 ())))))))), ())) (fun x r => match r with | .inl a0 => .inl ((cu4 (a0, (cu2 (cu4 (cu8 ()))))), ()) | .inr b0 => (.inr ((cu (cu2 (cu16 ()))), ()))) (fun x v => slices_IndexFunc_string_hand_Hand_Ready_1_L2_step x.1 x.2.1 x.2.2.1 x.2.2.2.1 x.2.2.2.2 v) (fun x r => .sum r (fun a0 => .ret (.inl ((cu4 (a0, (cu2 (cu4 (cu8 ()))))), ()))) (fun b0 => .ret (.inr ((cu (cu2 (cu16 ()))), ())))) (fun z => (z.1.1, z.1.2.1.2.1.1, z.1.2.1.2.1.2.1, z.1.2.1.2.1.2.2.1, z.1.2.2.2.2.2.2.2.1)) (fun z => z.1.2.2.2.2.2.2.2.2.1) (fun _ => rfl) (fun _ => rfl) (fun x r Q h => match r, h with | .inl _, h => h | .inr b0, h => (h)) ?_
  intro x v; kernel_rfl

def slices_IndexFunc_string_hand_Hand_Ready_1_T (x0 : List Str) (x1 : Int) (x2 : Str) (x3 : List (Str × Int)) : Tree Int :=
  .bnd (.loop (fun v => slices_IndexFunc_string_hand_Hand_Ready_1_L2_step x0 x1 x2 x3 (x0.length : Int) v) 0) fun r1 =>
  .sum r1 (fun r2 =>
    .ret r2) (fun r3 =>
    .ret (-1))

def slices_IndexFunc_string_hand_Hand_Ready_1_g : Sig := ⟨25, (.cons (.val false (.list .str)) (.cons (.fn 21 .nil (.cons (.cp (.cons (.val false (.int .i64)) (.cons (.val false .str) (.cons (.mv .str (.int .i64)) .nil)))) .nil)) .nil)), .vals (.val false (.int .i64)), fun z => slices_IndexFunc_string_hand_Hand_Ready_1_T z.1 z.2.1.2.1.1 z.2.1.2.1.2.1 z.2.1.2.1.2.2.1, (0 : Int)⟩

theorem slices_IndexFunc_string_hand_Hand_Ready_1_ok : slices_IndexFunc_string_hand_Hand_Ready_1_g.ok Try.prog := by
  refine Sig.lift mix tabOk nms _ Try.func25 (c := (bodyOf Try.f25)) (by kernel_rfl) (o := orT [hand_Hand_Ready_1_g] [slices_IndexFunc_string_hand_Hand_Ready_1_L2] noFz) (orT_sound ⟨hand_Hand_Ready_1_ok, trivial⟩) (allLp_of [nthC (loopsOf (bodyOf Try.f25)) 0] (by kernel_rfl) ⟨slices_IndexFunc_string_hand_Hand_Ready_1_L2_ok, trivial⟩ (by kernel_rfl)) ?_
  intro z; kernel_rfl

def slices_ContainsFunc_string_hand_Hand_Ready_1_T (x0 : List Str) (x1 : Int) (x2 : Str) (x3 : List (Str × Int)) : Tree Bool :=
  .bnd (slices_IndexFunc_string_hand_Hand_Ready_1_T x0 x1 x2 x3) fun y1 =>
  .ret (decide ((0 : Int) ≤ y1))

def slices_ContainsFunc_string_hand_Hand_Ready_1_g : Sig := ⟨22, (.cons (.val false (.list .str)) (.cons (.fn 21 .nil (.cons (.cp (.cons (.val false (.int .i64)) (.cons (.val false .str) (.cons (.mv .str (.int .i64)) .nil)))) .nil)) .nil)), .vals (.val false .bool), fun z => slices_ContainsFunc_string_hand_Hand_Ready_1_T z.1 z.2.1.2.1.1 z.2.1.2.1.2.1 z.2.1.2.1.2.2.1, false⟩

theorem slices_ContainsFunc_string_hand_Hand_Ready_1_ok : slices_ContainsFunc_string_hand_Hand_Ready_1_g.ok Try.prog := by
  refine Sig.lift mix tabOk nms _ Try.func22 (c := (bodyOf Try.f22)) (by kernel_rfl) (o := orT [slices_IndexFunc_string_hand_Hand_Ready_1_g] [] noFz) (orT_sound ⟨slices_IndexFunc_string_hand_Hand_Ready_1_ok, trivial⟩) (allLp_of [] (by kernel_rfl) trivial rfl) ?_
  intro z; kernel_rfl

def hand_Hand_Ready_1__T (x0 : Str) (x1 : Int) (x2 : Str) : Tree Bool :=
  .ret (decide ((0 : Int) = 0))

def hand_Hand_Ready_1__g : Sig := ⟨21, (.cons (.val false .str) (.cons (.cp (.cons (.val false (.int .i64)) (.cons (.val false .str) (.cons .nilm .nil)))) .nil)), .vals (.val false .bool), fun z => hand_Hand_Ready_1__T z.1 z.2.1.1 z.2.1.2.1, false⟩

theorem hand_Hand_Ready_1__ok : hand_Hand_Ready_1__g.ok Try.prog := by
  refine Sig.lift mix tabOk nms _ Try.func21 (c := (bodyOf Try.f21)) (by kernel_rfl) (o := orT [] [] noFz) (orT_sound trivial) (allLp_of [] (by kernel_rfl) trivial rfl) ?_
  intro z; kernel_rfl

def slices_IndexFunc_string_hand_Hand_Ready_1__L2_step (s_ : List Str) (f : Int) (f2 : Str) (t : Int) (t2 : Int) : Tree (Int ⊕ (Int ⊕ Unit)) :=
  .ite (decide (t2 < t)) (
    ask (inb t2 s_.length) <|
    .bnd (hand_Hand_Ready_1__T (s_.getD t2.toNat ([] : Str)) f f2) fun y1 =>
    .ite y1 (
      .ret (.inr (.inl t2))) (
      .ret (.inl (w64 (t2 + 1))))) (
    .ret (.inr (.inr ())))

def slices_IndexFunc_string_hand_Hand_Ready_1__L2 : Lp := ⟨2, [], [], (.cons (.val false (.list .str)) (.cons (.fn 21 .nil (.cons (.cp (.cons (.val false (.int .i64)) (.cons (.val false .str) (.cons .nilm .nil)))) .nil)) (ca (ca4 (.cons (.val false (.int .i64)) (.cons (.val false (.int .i64)) (ca2 (ca8 .nil)))))))), .nil, 0, .more 0 [] (ca4 (.cons (.val false (.int .i64)) (ca2 (ca4 (ca8 .nil))))) .nil (.one 1 [] (ca (ca2 (ca16 .nil))) .nil), fun z => .bnd (.loop (fun v => slices_IndexFunc_string_hand_Hand_Ready_1__L2_step z.1.1 z.1.2.1.2.1.1 z.1.2.1.2.1.2.1 z.1.2.2.2.2.2.2.2.1 v) z.1.2.2.2.2.2.2.2.2.1) fun r => .sum r (fun a0 => .ret (.inl ((cu4 (a0, (cu2 (cu4 (cu8 ()))))), ()))) (fun b0 => .ret (.inr ((cu (cu2 (cu16 ()))), ())))⟩

theorem slices_IndexFunc_string_hand_Hand_Ready_1__L2_ok : slices_IndexFunc_string_hand_Hand_Ready_1__L2.ok Try.prog (nthC (loopsOf (bodyOf Try.f25)) 0) := by
  refine Lp.lift (π := ((List Str) × Int × Str × Int)) (V := Int) (ρ := (Int ⊕ Unit)) mix tabOk slices_IndexFunc_string_hand_Hand_Ready_1__L2 (o := orT [hand_Hand_Ready_1__g] [] noFz) (orT_sound ⟨hand_Hand_Ready_1__ok, trivial⟩) (allLp_of [] (by kernel_rfl) trivial rfl) (fun x v => ((x.1, (((), ((x.2.1, (x.2.2.1, ((), ()))), ())), (cu (cu4 (x.2.2.2, (v, (cu2 (cu8 ())))))))), ())) (fun x r => match r with | .inl a0 => .inl ((cu4 (a0, (cu2 (cu4 (cu8 ()))))), ()) | .inr b0 => (.inr ((cu (cu2 (cu16 ()))), ()))) (fun x v => slices_IndexFunc_string_hand_Hand_Ready_1__L2_step x.1 x.2.1 x.2.2.1 x.2.2.2 v) (fun x r => .sum r (fun a0 => .ret (.inl ((cu4 (a0, (cu2 (cu4 (cu8 ()))))), ()))) (fun b0 => .ret (.inr ((cu (cu2 (cu16 ()))), ())))) (fun z => (z.1.1, z.1.2.1.2.1.1, z.1.2.1.2.1.2.1, z.1.2.2.2.2.2.2.2.1)) (fun z => z.1.2.2.2.2.2.2.2.2.1) (fun _ => rfl) (fun _ => rfl) (fun x r Q h => match r, h with | .inl _, h => h | .inr b0, h => (h)) ?_
  intro x v; kernel_rfl

def slices_IndexFunc_string_hand_Hand_Ready_1__T (x0 : List Str) (x1 : Int) (x2 : Str) : Tree Int :=
  .bnd (.loop (fun v => slices_IndexFunc_string_hand_Hand_Ready_1__L2_step x0 x1 x2 (x0.length : Int) v) 0) fun r1 =>
  .sum r1 (fun r2 =>
    .ret r2) (fun r3 =>
    .ret (-1))

def slices_IndexFunc_string_hand_Hand_Ready_1__g : Sig := ⟨25, (.cons (.val false (.list .str)) (.cons (.fn 21 .nil (.cons (.cp (.cons (.val false (.int .i64)) (.cons (.val false .str) (.cons .nilm .nil)))) .nil)) .nil)), .vals (.val false (.int .i64)), fun z => slices_IndexFunc_string_hand_Hand_Ready_1__T z.1 z.2.1.2.1.1 z.2.1.2.1.2.1, (0 : Int)⟩

theorem slices_IndexFunc_string_hand_Hand_Ready_1__ok : slices_IndexFunc_string_hand_Hand_Ready_1__g.ok Try.prog := by
  refine Sig.lift mix tabOk nms _ Try.func25 (c := (bodyOf Try.f25)) (by kernel_rfl) (o := orT [hand_Hand_Ready_1__g] [slices_IndexFunc_string_hand_Hand_Ready_1__L2] noFz) (orT_sound ⟨hand_Hand_Ready_1__ok, trivial⟩) (allLp_of [nthC (loopsOf (bodyOf Try.f25)) 0] (by kernel_rfl) ⟨slices_IndexFunc_string_hand_Hand_Ready_1__L2_ok, trivial⟩ (by kernel_rfl)) ?_
  intro z; kernel_rfl

def slices_ContainsFunc_string_hand_Hand_Ready_1__T (x0 : List Str) (x1 : Int) (x2 : Str) : Tree Bool :=
  .bnd (slices_IndexFunc_string_hand_Hand_Ready_1__T x0 x1 x2) fun y1 =>
  .ret (decide ((0 : Int) ≤ y1))

def slices_ContainsFunc_string_hand_Hand_Ready_1__g : Sig := ⟨22, (.cons (.val false (.list .str)) (.cons (.fn 21 .nil (.cons (.cp (.cons (.val false (.int .i64)) (.cons (.val false .str) (.cons .nilm .nil)))) .nil)) .nil)), .vals (.val false .bool), fun z => slices_ContainsFunc_string_hand_Hand_Ready_1__T z.1 z.2.1.2.1.1 z.2.1.2.1.2.1, false⟩

theorem slices_ContainsFunc_string_hand_Hand_Ready_1__ok : slices_ContainsFunc_string_hand_Hand_Ready_1__g.ok Try.prog := by
  refine Sig.lift mix tabOk nms _ Try.func22 (c := (bodyOf Try.f22)) (by kernel_rfl) (o := orT [slices_IndexFunc_string_hand_Hand_Ready_1__g] [] noFz) (orT_sound ⟨slices_IndexFunc_string_hand_Hand_Ready_1__ok, trivial⟩) (allLp_of [] (by kernel_rfl) trivial rfl) ?_
  intro z; kernel_rfl

def hand_Hand_Ready_T (x0 : Int) (x1 : List (Str × (Int × (Str × List (Str × Int))))) (x2 : Str) (x3 : Str) (x4 : List Str) : Tree Bool :=
  .ite false (
    .ret false) (
    .ite ((getM .str viewT x1 x2).isSome) (
      .grd ((true && (((getM .str viewT x1 x2).getD ((0 : Int), ([] : Str), ([] : List (Str × Int)))).2.1 == x3)) && (decide ((0 : Int) < (x4.length : Int)))) (slices_ContainsFunc_string_hand_Hand_Ready_1_T x4 ((getM .str viewT x1 x2).getD ((0 : Int), ([] : Str), ([] : List (Str × Int)))).1 ((getM .str viewT x1 x2).getD ((0 : Int), ([] : Str), ([] : List (Str × Int)))).2.1 ((getM .str viewT x1 x2).getD ((0 : Int), ([] : Str), ([] : List (Str × Int)))).2.2) false fun y1 =>
      .ret (((true && (((getM .str viewT x1 x2).getD ((0 : Int), ([] : Str), ([] : List (Str × Int)))).2.1 == x3)) && (decide ((0 : Int) < (x4.length : Int)))) && (!y1))) (
      .grd ((false && (([] : Str) == x3)) && (decide ((0 : Int) < (x4.length : Int)))) (slices_ContainsFunc_string_hand_Hand_Ready_1__T x4 0 ([] : Str)) false fun y2 =>
      .ret (((false && (([] : Str) == x3)) && (decide ((0 : Int) < (x4.length : Int)))) && (!y2))))

def hand_Hand_Ready_g : Sig := ⟨13, (.cons (.cp (.cons (.val false (.int .i64)) (.cons (.mv .str viewT) .nil))) (.cons (.val false .str) (.cons (.val false .str) (.cons (.val false (.list .str)) .nil)))), .vals (.val false .bool), fun z => hand_Hand_Ready_T z.1.1 z.1.2.1 z.2.1 z.2.2.1 z.2.2.2.1, false⟩

theorem hand_Hand_Ready_ok : hand_Hand_Ready_g.ok Try.prog := by
  refine Sig.lift mix tabOk nms _ Try.func13 (c := (bodyOf Try.f13)) (by kernel_rfl) (o := orT [slices_ContainsFunc_string_hand_Hand_Ready_1_g, slices_ContainsFunc_string_hand_Hand_Ready_1__g] [] noFz) (orT_sound ⟨slices_ContainsFunc_string_hand_Hand_Ready_1_ok, ⟨slices_ContainsFunc_string_hand_Hand_Ready_1__ok, trivial⟩⟩) (allLp_of [] (by kernel_rfl) trivial rfl) ?_
  intro z; kernel_rfl

def r01_SameTexts_L4_step (a : List Str) (b : List Str) (i : Int) : Tree (Int ⊕ (Bool ⊕ Unit)) :=
  .ite ((decide (i < (a.length : Int))) && (decide (i < (b.length : Int)))) (
    ask (inb i a.length) <|
    ask (inb i b.length) <|
    .ite (!((a.getD i.toNat ([] : Str)) == (b.getD i.toNat ([] : Str)))) (
      .ret (.inr (.inl false))) (
      .ret (.inl (w64 (i + 1))))) (
    .ret (.inr (.inr ())))

def r01_SameTexts_L4 : Lp := ⟨4, [], [], (.cons (.val false (.list .str)) (.cons (.val false (.list .str)) (ca (ca2 (.cons (.val false (.int .i64)) (ca2 (ca8 (ca16 .nil)))))))), .nil, 0, .more 0 [] (ca4 (.cons (.val false .bool) (ca (ca2 (ca8 (ca16 .nil)))))) .nil (.one 1 [] (ca32 .nil) .nil), fun z => .bnd (.loop (fun v => r01_SameTexts_L4_step z.1.1 z.1.2.1 v) z.1.2.2.2.2.2.1) fun r => .sum r (fun a0 => .ret (.inl ((cu4 (a0, (cu (cu2 (cu8 (cu16 ())))))), ()))) (fun b0 => .ret (.inr ((cu32 ()), ())))⟩

theorem r01_SameTexts_L4_ok : r01_SameTexts_L4.ok Try.prog (nthC (loopsOf (bodyOf Try.f15)) 0) := by
  refine Lp.lift (π := ((List Str) × (List Str))) (V := Int) (ρ := (Bool ⊕ Unit)) mix tabOk r01_SameTexts_L4 (o := orT [] [] noFz) (orT_sound trivial) (allLp_of [] (by kernel_rfl) trivial rfl) (fun x v => ((x.1, (x.2, (cu (cu2 (v, (cu2 (cu8 (cu16 ())))))))), ())) (fun x r => match r with | .inl a0 => .inl ((cu4 (a0, (cu (cu2 (cu8 (cu16 ())))))), ()) | .inr b0 => (.inr ((cu32 ()), ()))) (fun x v => r01_SameTexts_L4_step x.1 x.2 v) (fun x r => .sum r (fun a0 => .ret (.inl ((cu4 (a0, (cu (cu2 (cu8 (cu16 ())))))), ()))) (fun b0 => .ret (.inr ((cu32 ()), ())))) (fun z => (z.1.1, z.1.2.1)) (fun z => z.1.2.2.2.2.2.1) (fun _ => rfl) (fun _ => rfl) (fun x r Q h => match r, h with | .inl _, h => h | .inr b0, h => (h)) ?_
  intro x v; kernel_rfl

def r01_SameTexts_T (x0 : List Str) (x1 : List Str) : Tree Bool :=
  .ite (!decide ((x0.length : Int) = (x1.length : Int))) (
    .ret false) (
    .bnd (.loop (fun v => r01_SameTexts_L4_step x0 x1 v) 0) fun r1 =>
    .sum r1 (fun r2 =>
      .ret r2) (fun r3 =>
      .ret true))

def r01_SameTexts_g : Sig := ⟨15, (.cons (.val false (.list .str)) (.cons (.val false (.list .str)) .nil)), .vals (.val false .bool), fun z => r01_SameTexts_T z.1 z.2.1, false⟩

theorem r01_SameTexts_ok : r01_SameTexts_g.ok Try.prog := by
  refine Sig.lift mix tabOk nms _ Try.func15 (c := (bodyOf Try.f15)) (by kernel_rfl) (o := orT [] [r01_SameTexts_L4] noFz) (orT_sound trivial) (allLp_of [nthC (loopsOf (bodyOf Try.f15)) 0] (by kernel_rfl) ⟨r01_SameTexts_L4_ok, trivial⟩ (by kernel_rfl)) ?_
  intro z; kernel_rfl

def l39_awake_fz : Nat → List Pre
  | 2 => [.ownC 0 1 0 .smap]
  | _ => []

def l39_awake_T  : Tree Bool :=
  .bnd (hand_New_T 6) fun y1 =>
  .bnd (hand_Hand_Start_T ([112] : Str) ([120] : Str) y1.2.1.1 ([], [])) fun y2 =>
  .bnd (hand_Hand_Taken_T y2.1 ([110, 49] : Str) y2.2.1.1 y2.2.2.1) fun y3 =>
  .bnd (hand_Hand_Taken_T (w64 (y2.1 + 1)) ([110, 50] : Str) y3.2.1.1 y3.2.2.1) fun y4 =>
  .bnd (hand_Hand_Ready_T y4.2.1.1 (famView y4.2.2.1.1 y4.2.2.1.2) ([112] : Str) ([120] : Str) [([110, 49] : Str)]) fun y5 =>
  .bnd (hand_Hand_Ready_T y4.2.1.1 (famView y4.2.2.1.1 y4.2.2.1.2) ([112] : Str) ([120] : Str) [([110, 49] : Str), ([110, 50] : Str)]) fun y6 =>
  .bnd (hand_Hand_Start_T ([112] : Str) ([120] : Str) y4.2.1.1 y4.2.2.1) fun y7 =>
  .bnd (hand_Hand_Taken_T y2.1 ([110, 49] : Str) y7.2.1.1 y7.2.2.1) fun y8 =>
  .grd ((((decide (y2.1 = 7)) && (decide (y7.1 = 8))) && y5) && (!y6)) (hand_Hand_Ready_T y8.2.1.1 (famView y8.2.2.1.1 y8.2.2.1.2) ([112] : Str) ([120] : Str) [([110, 49] : Str)]) false fun y9 =>
  .grd (((((decide (y2.1 = 7)) && (decide (y7.1 = 8))) && y5) && (!y6)) && (!y9)) (hand_Hand_Places_T y8.2.1.1 (famView y8.2.2.1.1 y8.2.2.1.2)) ([] : List Str) fun y10 =>
  .grd (((((decide (y2.1 = 7)) && (decide (y7.1 = 8))) && y5) && (!y6)) && (!y9)) (r01_SameTexts_T y10 [([112] : Str)]) false fun y11 =>
  .ret ((((((decide (y2.1 = 7)) && (decide (y7.1 = 8))) && y5) && (!y6)) && (!y9)) && y11)

def l39_awake_g : Sig := ⟨7, .nil, .vals (.val false .bool), fun z => l39_awake_T, false⟩

theorem l39_awake_ok : l39_awake_g.ok Try.prog := by
  refine Sig.lift mix tabOk nms _ Try.func7 (c := (bodyOf Try.f7)) (by kernel_rfl) (o := orM [hand_Hand_Ready_g, hand_Hand_Places_gv, r01_SameTexts_g] [hand_New_g, hand_Hand_Start_g, hand_Hand_Taken_g] [] l39_awake_fz) (orM_sound ⟨hand_Hand_Ready_ok, ⟨hand_Hand_Places_okv, ⟨r01_SameTexts_ok, trivial⟩⟩⟩ ⟨hand_New_ok, ⟨hand_Hand_Start_ok, ⟨hand_Hand_Taken_ok, trivial⟩⟩⟩) (allLp_ofM [] (by kernel_rfl) trivial rfl) ?_
  intro z; kernel_rfl

def hand_Hand_Drop_T (x0 : Str) (x1 : Int) (x2 : Fam) : Tree (Unit × ((Int × (Unit × Unit)) × (Fam × Unit))) :=
  .ite true (
    .ret ((), ((x1, ((), ())), (((delM .str famU x2.1 x0), x2.2), ())))) (
    .ret ((), ((x1, ((), ())), (x2, ()))))

def hand_Hand_Drop_g : MSig := ⟨20, (.cons (.ref 0 0) (.cons (.val false .str) .nil)), (.cells 36 (.cons (.val false (.int .i64)) (.cons (.mp 1) .nil)) (.fam .nil)), [], .nil, (.cells 36 (.cons (.val false (.int .i64)) (.cons (.mp 1) .nil)) (.fam .nil)), some 1, fun z => hand_Hand_Drop_T z.1.2.1 z.2.1.1 z.2.2.1⟩

theorem hand_Hand_Drop_ok : hand_Hand_Drop_g.ok Try.prog := by
  refine MSig.lift mix tabOk nms _ Try.func20 (c := (bodyOf Try.f20)) (by kernel_rfl) (o := orT [] [] noFz) (orT_sound trivial) (allLp_of [] (by kernel_rfl) trivial rfl) (fun _ => rfl) ?_
  intro z; kernel_rfl

def l39_do_T (x0 : R39_Act) (x1 : Int) (x2 : Fam) : Tree (Int × ((Int × (Unit × Unit)) × (Fam × Unit))) :=
  .ite (decide (x0.1 = 1)) (
    .bnd (hand_Hand_Start_T x0.2.1 x0.2.2.1 x1 x2) fun y1 =>
    .ret (y1.1, ((y1.2.1.1, ((), ())), (y1.2.2.1, ())))) (
    .ite (decide (x0.1 = 2)) (
      .bnd (hand_Hand_Taken_T x0.2.2.2.2 x0.2.2.2.1 x1 x2) fun y2 =>
      .ret (0, ((y2.2.1.1, ((), ())), (y2.2.2.1, ())))) (
      .ite (decide (x0.1 = 3)) (
        .bnd (hand_Hand_Drop_T x0.2.1 x1 x2) fun y3 =>
        .ret (0, ((y3.2.1.1, ((), ())), (y3.2.2.1, ())))) (
        .ret (0, ((x1, ((), ())), (x2, ()))))))

def l39_do_g : MSig := ⟨9, (.cons (.ref 0 0) (.cons (.val true tR39_Act) .nil)), (.cells 36 (.cons (.val false (.int .i64)) (.cons (.mp 1) .nil)) (.fam .nil)), [], (.val false (.int .i64)), (.cells 36 (.cons (.val false (.int .i64)) (.cons (.mp 1) .nil)) (.fam .nil)), some 1, fun z => l39_do_T z.1.2.1 z.2.1.1 z.2.2.1⟩

theorem l39_do_ok : l39_do_g.ok Try.prog := by
  refine MSig.lift mix tabOk nms _ Try.func9 (c := (bodyOf Try.f9)) (by kernel_rfl) (o := orM [] [hand_Hand_Start_g, hand_Hand_Taken_g, hand_Hand_Drop_g] [] noFz) (orM_sound trivial ⟨hand_Hand_Start_ok, ⟨hand_Hand_Taken_ok, ⟨hand_Hand_Drop_ok, trivial⟩⟩⟩) (allLp_ofM [] (by kernel_rfl) trivial rfl) (fun _ => rfl) ?_
  intro z; kernel_rfl

def hand_Hand_Start_nil_T (x0 : Str) (x1 : Str) : Tree Int :=
  .ite true (
    .ret 0) (
    ask false <|
    ask false <|
    ask false <|
    ask false <|
    .fail)

def hand_Hand_Start_nil_g : Sig := ⟨18, (.cons .nilp (.cons (.val false .str) (.cons (.val false .str) .nil))), .vals (.val false (.int .i64)), fun z => hand_Hand_Start_nil_T z.2.1 z.2.2.1, (0 : Int)⟩

theorem hand_Hand_Start_nil_ok : hand_Hand_Start_nil_g.ok Try.prog := by
  refine Sig.lift mix tabOk nms _ Try.func18 (c := (bodyOf Try.f18)) (by kernel_rfl) (o := orT [] [] noFz) (orT_sound trivial) (allLp_of [] (by kernel_rfl) trivial rfl) ?_
  intro z; kernel_rfl

def hand_Hand_Places_nil_T  : Tree (List Str) :=
  .ite true (
    .ret []) (
    ask false <|
    ask false <|
    ask false <|
    ask false <|
    .fail)

def hand_Hand_Places_nil_g : Sig := ⟨16, (.cons .nilp .nil), .vals (.val false (.list .str)), fun z => hand_Hand_Places_nil_T, ([] : List Str)⟩

theorem hand_Hand_Places_nil_ok : hand_Hand_Places_nil_g.ok Try.prog := by
  refine Sig.lift mix tabOk nms _ Try.func16 (c := (bodyOf Try.f16)) (by kernel_rfl) (o := orT [] [] noFz) (orT_sound trivial) (allLp_ofU [] (by kernel_rfl) trivial rfl) ?_
  intro z; kernel_rfl

def hand_Hand_Taken_nil_L1_step (number : Int) (node : Str) (t : List Str) (t2 : Int) (t3 : Int) : Tree (Int ⊕ Unit) :=
  .ite (decide (t3 < t2)) (
    ask (inb t3 t.length) <|
    ask false <|
    ask false <|
    ask false <|
    ask false <|
    ask false <|
    .ite (decide ((0 : Int) = number)) (
      ask false <|
      .ret (.inl (w64 (t3 + 1)))) (
      .ret (.inl (w64 (t3 + 1))))) (
    .ret (.inr ()))

def hand_Hand_Taken_nil_L1 : Lp := ⟨1, [], [], (.cons .nilp (.cons (.val false (.int .i64)) (.cons (.val false .str) (ca (ca2 (ca4 (.cons (.val false (.list .str)) (.cons (.val false (.int .i64)) (.cons (.val false (.int .i64)) (ca (ca16 .nil))))))))))), .nil, 0, .one 1 [] (ca2 (ca4 (ca8 (ca16 .nil)))) .nil, fun z => .bnd (.loop (fun v => hand_Hand_Taken_nil_L1_step z.1.2.1 z.1.2.2.1 z.1.2.2.2.2.2.2.2.2.2.2.1 z.1.2.2.2.2.2.2.2.2.2.2.2.1 v) z.1.2.2.2.2.2.2.2.2.2.2.2.2.1) fun r => .ret ((cu2 (cu4 (cu8 (cu16 ())))), ())⟩

theorem hand_Hand_Taken_nil_L1_ok : hand_Hand_Taken_nil_L1.ok Try.prog (nthC (loopsOf (bodyOf Try.f19)) 0) := by
  refine Lp.lift (π := (Int × Str × (List Str) × Int)) (V := Int) (ρ := Unit) mix tabOk hand_Hand_Taken_nil_L1 (o := orT [hand_Hand_Places_nil_g] [] noFz) (orT_sound ⟨hand_Hand_Places_nil_ok, trivial⟩) (allLp_of [] (by kernel_rfl) trivial rfl) (fun x v => (((), (x.1, (x.2.1, (cu (cu2 (cu4 (x.2.2.1, (x.2.2.2, (v, (cu (cu16 ()))))))))))), ())) (fun x r => ((cu2 (cu4 (cu8 (cu16 ())))), ())) (fun x v => hand_Hand_Taken_nil_L1_step x.1 x.2.1 x.2.2.1 x.2.2.2 v) (fun x r => .ret ((cu2 (cu4 (cu8 (cu16 ())))), ())) (fun z => (z.1.2.1, z.1.2.2.1, z.1.2.2.2.2.2.2.2.2.2.2.1, z.1.2.2.2.2.2.2.2.2.2.2.2.1)) (fun z => z.1.2.2.2.2.2.2.2.2.2.2.2.2.1) (fun _ => rfl) (fun _ => rfl) (fun _ _ _ h => h) ?_
  intro x v; kernel_rfl

def hand_Hand_Taken_nil_T (x0 : Int) (x1 : Str) : Tree (Unit) :=
  .bnd hand_Hand_Places_nil_T fun y1 =>
  .bnd (.loop (fun v => hand_Hand_Taken_nil_L1_step x0 x1 y1 (y1.length : Int) v) 0) fun r2 =>
  .ret ()

def hand_Hand_Taken_nil_g : Sig := ⟨19, (.cons .nilp (.cons (.val false (.int .i64)) (.cons (.val false .str) .nil))), .vals .nil, fun z => hand_Hand_Taken_nil_T z.2.1 z.2.2.1, (())⟩

theorem hand_Hand_Taken_nil_ok : hand_Hand_Taken_nil_g.ok Try.prog := by
  refine Sig.lift mix tabOk nms _ Try.func19 (c := (bodyOf Try.f19)) (by kernel_rfl) (o := orT [hand_Hand_Places_nil_g] [hand_Hand_Taken_nil_L1] noFz) (orT_sound ⟨hand_Hand_Places_nil_ok, trivial⟩) (allLp_of [nthC (loopsOf (bodyOf Try.f19)) 0] (by kernel_rfl) ⟨hand_Hand_Taken_nil_L1_ok, trivial⟩ (by kernel_rfl)) ?_
  intro z; kernel_rfl

def hand_Hand_Drop_nil_T (x0 : Str) : Tree (Unit) :=
  .ite false (
    ask false <|
    ask false <|
    ask false <|
    ask false <|
    .ret ()) (
    .ret ())

def hand_Hand_Drop_nil_g : Sig := ⟨20, (.cons .nilp (.cons (.val false .str) .nil)), .vals .nil, fun z => hand_Hand_Drop_nil_T z.2.1, (())⟩

theorem hand_Hand_Drop_nil_ok : hand_Hand_Drop_nil_g.ok Try.prog := by
  refine Sig.lift mix tabOk nms _ Try.func20 (c := (bodyOf Try.f20)) (by kernel_rfl) (o := orT [] [] noFz) (orT_sound trivial) (allLp_of [] (by kernel_rfl) trivial rfl) ?_
  intro z; kernel_rfl

def l39_do_nil_T (x0 : R39_Act) : Tree Int :=
  .ite (decide (x0.1 = 1)) (
    .bnd (hand_Hand_Start_nil_T x0.2.1 x0.2.2.1) fun y1 =>
    .ret y1) (
    .ite (decide (x0.1 = 2)) (
      .bnd (hand_Hand_Taken_nil_T x0.2.2.2.2 x0.2.2.2.1) fun y2 =>
      .ret 0) (
      .ite (decide (x0.1 = 3)) (
        .bnd (hand_Hand_Drop_nil_T x0.2.1) fun y3 =>
        .ret 0) (
        .ret 0)))

def l39_do_nil_g : Sig := ⟨9, (.cons .nilp (.cons (.val true tR39_Act) .nil)), .vals (.val false (.int .i64)), fun z => l39_do_nil_T z.2.1, (0 : Int)⟩

theorem l39_do_nil_ok : l39_do_nil_g.ok Try.prog := by
  refine Sig.lift mix tabOk nms _ Try.func9 (c := (bodyOf Try.f9)) (by kernel_rfl) (o := orT [hand_Hand_Start_nil_g, hand_Hand_Taken_nil_g, hand_Hand_Drop_nil_g] [] noFz) (orT_sound ⟨hand_Hand_Start_nil_ok, ⟨hand_Hand_Taken_nil_ok, ⟨hand_Hand_Drop_nil_ok, trivial⟩⟩⟩) (allLp_of [] (by kernel_rfl) trivial rfl) ?_
  intro z; kernel_rfl

def r39_Hand_Drop_L2_step (place : Str) (h : Int) (rows : List R39_Over) (i : Int) (out : List R39_Over) : Tree ((Int × (List R39_Over)) ⊕ (List R39_Over)) :=
  .ite (decide (i < (rows.length : Int))) (
    ask (inb i rows.length) <|
    .ite (!((rows.getD i.toNat (dfl tR39_Over : R39_Over)).2.1 == place)) (
      ask (inb i rows.length) <|
      ask (decide ((out ++ [(rows.getD i.toNat (dfl tR39_Over : R39_Over))]).length * 64 ≤ roomNat)) <|
      .ret (.inl ((w64 (i + 1)), (out ++ [(rows.getD i.toNat (dfl tR39_Over : R39_Over))])))) (
      .ret (.inl ((w64 (i + 1)), out)))) (
    .ret (.inr out))

def r39_Hand_Drop_L2 : Lp := ⟨2, [.own 4 50 tR39_Over], [], (.cons (.ref 0 0) (.cons (.val false .str) (ca2 (.cons (.own 2) (.cons (.val false (.int .i64)) (ca (ca32 .nil))))))), (.cells 33 (.cons (.val false (.int .i64)) (.cons (.own 1) .nil)) (.rows 50 tR39_Over (.rows 50 tR39_Over .nil))), 2, .one 1 [] (.cons (.ref 0 0) (ca (ca2 (.cons (.own 2) (ca2 (ca32 .nil)))))) (.cells 33 (.cons (.val false (.int .i64)) (.cons (.own 1) .nil)) (.rows 50 tR39_Over (.rows 50 tR39_Over .nil))), fun z => .bnd (.loop (fun v => r39_Hand_Drop_L2_step z.1.2.1 z.2.1.1 z.2.2.1 v.1 v.2) (z.1.2.2.2.2.2.1, z.2.2.2.1)) fun r => .ret (((), (cu (cu2 ((), (cu2 (cu32 ())))))), ((z.2.1.1, ((), ())), (z.2.2.1, (r, ()))))⟩

theorem r39_Hand_Drop_L2_ok : r39_Hand_Drop_L2.ok Try.prog (nthC (loopsOf (bodyOf Try.f12)) 0) := by
  refine Lp.lift (π := (Str × Int × (List R39_Over))) (V := (Int × (List R39_Over))) (ρ := List R39_Over) mix tabOk r39_Hand_Drop_L2 (o := orT [] [] noFz) (orT_sound trivial) (allLp_of [] (by kernel_rfl) trivial rfl) (fun x v => (((), (x.1, (cu2 ((), (v.1, (cu (cu32 ()))))))), ((x.2.1, ((), ())), (x.2.2, (v.2, ()))))) (fun x r => (((), (cu (cu2 ((), (cu2 (cu32 ())))))), ((x.2.1, ((), ())), (x.2.2, (r, ()))))) (fun x v => r39_Hand_Drop_L2_step x.1 x.2.1 x.2.2 v.1 v.2) (fun x r => .ret (((), (cu (cu2 ((), (cu2 (cu32 ())))))), ((x.2.1, ((), ())), (x.2.2, (r, ()))))) (fun z => (z.1.2.1, z.2.1.1, z.2.2.1)) (fun z => (z.1.2.2.2.2.2.1, z.2.2.2.1)) (fun _ => rfl) (fun _ => rfl) (fun _ _ _ h => h) ?_
  intro x v; kernel_rfl

def r39_Hand_Drop_T (x0 : Str) (x1 : Int) (x2 : List R39_Over) : Tree (Unit × ((Int × (Unit × Unit)) × ((List R39_Over) × Unit))) :=
  .bnd (.loop (fun v => r39_Hand_Drop_L2_step x0 x1 x2 v.1 v.2) (0, ([] : List R39_Over))) fun r1 =>
  .ret ((), ((x1, ((), ())), (r1, ())))

def r39_Hand_Drop_g : MSig := ⟨12, (.cons (.ref 0 0) (.cons (.val false .str) .nil)), (.cells 33 (.cons (.val false (.int .i64)) (.cons (.own 1) .nil)) (.rows 50 tR39_Over .nil)), [.mvB 2 1], .nil, (.cells 33 (.cons (.val false (.int .i64)) (.cons (.own 1) .nil)) (.rows 50 tR39_Over .nil)), some 1, fun z => r39_Hand_Drop_T z.1.2.1 z.2.1.1 z.2.2.1⟩

theorem r39_Hand_Drop_ok : r39_Hand_Drop_g.ok Try.prog := by
  refine MSig.lift mix tabOk nms _ Try.func12 (c := (bodyOf Try.f12)) (by kernel_rfl) (o := orT [] [r39_Hand_Drop_L2] noFz) (orT_sound trivial) (allLp_of [nthC (loopsOf (bodyOf Try.f12)) 0] (by kernel_rfl) ⟨r39_Hand_Drop_L2_ok, trivial⟩ (by kernel_rfl)) (fun _ => rfl) ?_
  intro z; kernel_rfl

def r39_Hand_Start_L4_step (place : Str) (digest : Str) (h : Int) (rows : List R39_Over) (k : Int) : Tree (Int ⊕ Int) :=
  ask ((!(decide (k < (rows.length : Int)))) || inb k rows.length) <|
  .ite ((decide (k < (rows.length : Int))) && (ltS (rows.getD k.toNat (dfl tR39_Over : R39_Over)).2.1 place)) (
    .ret (.inl (w64 (k + 1)))) (
    .ret (.inr k))

def r39_Hand_Start_L4 : Lp := ⟨4, [], [], (.cons (.ref 0 0) (.cons (.val false .str) (.cons (.val false .str) (ca4 (.cons (.val false (.int .i64)) (ca (ca2 (ca32 (ca32 .nil))))))))), (.cells 33 (.cons (.val false (.int .i64)) (.cons (.own 1) .nil)) (.rows 50 tR39_Over .nil)), 2, .one 1 [] (.cons (.ref 0 0) (.cons (.val false .str) (.cons (.val false .str) (ca4 (.cons (.val false (.int .i64)) (ca (ca2 (ca32 (ca32 .nil))))))))) (.cells 33 (.cons (.val false (.int .i64)) (.cons (.own 1) .nil)) (.rows 50 tR39_Over .nil)), fun z => .bnd (.loop (fun v => r39_Hand_Start_L4_step z.1.2.1 z.1.2.2.1 z.2.1.1 z.2.2.1 v) z.1.2.2.2.2.2.2.2.1) fun r => .ret (((), (z.1.2.1, (z.1.2.2.1, (cu4 (r, (cu (cu2 (cu32 (cu32 ()))))))))), ((z.2.1.1, ((), ())), (z.2.2.1, ())))⟩

theorem r39_Hand_Start_L4_ok : r39_Hand_Start_L4.ok Try.prog (nthC (loopsOf (bodyOf Try.f10)) 0) := by
  refine Lp.lift (π := (Str × Str × Int × (List R39_Over))) (V := Int) (ρ := Int) mix tabOk r39_Hand_Start_L4 (o := orM [] [r39_Hand_Drop_g] [] noFz) (orM_sound trivial ⟨r39_Hand_Drop_ok, trivial⟩) (allLp_ofM [] (by kernel_rfl) trivial rfl) (fun x v => (((), (x.1, (x.2.1, (cu4 (v, (cu (cu2 (cu32 (cu32 ()))))))))), ((x.2.2.1, ((), ())), (x.2.2.2, ())))) (fun x r => (((), (x.1, (x.2.1, (cu4 (r, (cu (cu2 (cu32 (cu32 ()))))))))), ((x.2.2.1, ((), ())), (x.2.2.2, ())))) (fun x v => r39_Hand_Start_L4_step x.1 x.2.1 x.2.2.1 x.2.2.2 v) (fun x r => .ret (((), (x.1, (x.2.1, (cu4 (r, (cu (cu2 (cu32 (cu32 ()))))))))), ((x.2.2.1, ((), ())), (x.2.2.2, ())))) (fun z => (z.1.2.1, z.1.2.2.1, z.2.1.1, z.2.2.1)) (fun z => z.1.2.2.2.2.2.2.2.1) (fun _ => rfl) (fun _ => rfl) (fun _ _ _ h => h) ?_
  intro x v; kernel_rfl

def r39_Hand_Start_T (x0 : Str) (x1 : Str) (x2 : Int) (x3 : List R39_Over) : Tree (Int × ((Int × (Unit × Unit)) × ((List R39_Over) × Unit))) :=
  .bnd (r39_Hand_Drop_T x0 x2 x3) fun y1 =>
  .bnd (.loop (fun v => r39_Hand_Start_L4_step x0 x1 (w64 (y1.2.1.1 + 1)) y1.2.2.1 v) 0) fun r2 =>
  ask (inbe r2 y1.2.2.1.length) <|
  ask (decide ((y1.2.2.1.take r2.toNat).length * 64 ≤ roomNat)) <|
  ask (decide (((y1.2.2.1.take r2.toNat) ++ [((w64 (y1.2.1.1 + 1)), (x0, (x1, [])))]).length * 64 ≤ roomNat)) <|
  ask (inbe r2 y1.2.2.1.length) <|
  ask (decide ((((y1.2.2.1.take r2.toNat) ++ [((w64 (y1.2.1.1 + 1)), (x0, (x1, [])))]) ++ ((y1.2.2.1.drop r2.toNat).take (y1.2.2.1.length - r2.toNat))).length * 64 ≤ roomNat)) <|
  .ret ((w64 (y1.2.1.1 + 1)), (((w64 (y1.2.1.1 + 1)), ((), ())), ((((y1.2.2.1.take r2.toNat) ++ [((w64 (y1.2.1.1 + 1)), (x0, (x1, [])))]) ++ ((y1.2.2.1.drop r2.toNat).take (y1.2.2.1.length - r2.toNat))), ())))

def r39_Hand_Start_g : MSig := ⟨10, (.cons (.ref 0 0) (.cons (.val false .str) (.cons (.val false .str) .nil))), (.cells 33 (.cons (.val false (.int .i64)) (.cons (.own 1) .nil)) (.rows 50 tR39_Over .nil)), [.mvB 2 1], (.val false (.int .i64)), (.cells 33 (.cons (.val false (.int .i64)) (.cons (.own 1) .nil)) (.rows 50 tR39_Over .nil)), some 1, fun z => r39_Hand_Start_T z.1.2.1 z.1.2.2.1 z.2.1.1 z.2.2.1⟩

theorem r39_Hand_Start_ok : r39_Hand_Start_g.ok Try.prog := by
  refine MSig.lift mix tabOk nms _ Try.func10 (c := (bodyOf Try.f10)) (by kernel_rfl) (o := orM [] [r39_Hand_Drop_g] [r39_Hand_Start_L4] noFz) (orM_sound trivial ⟨r39_Hand_Drop_ok, trivial⟩) (allLp_ofM [nthC (loopsOf (bodyOf Try.f10)) 0] (by kernel_rfl) ⟨r39_Hand_Start_L4_ok, trivial⟩ (by kernel_rfl)) (fun _ => rfl) ?_
  intro z; kernel_rfl

def r39_in_L2_step (l : List Str) (s_ : Str) (i : Int) : Tree (Int ⊕ (Bool ⊕ Unit)) :=
  .ite (decide (i < (l.length : Int))) (
    ask (inb i l.length) <|
    .ite ((l.getD i.toNat ([] : Str)) == s_) (
      .ret (.inr (.inl true))) (
      .ret (.inl (w64 (i + 1))))) (
    .ret (.inr (.inr ())))

def r39_in_L2 : Lp := ⟨2, [], [], (.cons (.val false (.list .str)) (.cons (.val false .str) (ca (ca2 (.cons (.val false (.int .i64)) (ca4 (ca8 .nil))))))), .nil, 0, .more 0 [] (ca4 (.cons (.val false .bool) (ca (ca4 (ca8 .nil))))) .nil (.one 1 [] (ca2 (ca16 .nil)) .nil), fun z => .bnd (.loop (fun v => r39_in_L2_step z.1.1 z.1.2.1 v) z.1.2.2.2.2.2.1) fun r => .sum r (fun a0 => .ret (.inl ((cu4 (a0, (cu (cu4 (cu8 ()))))), ()))) (fun b0 => .ret (.inr ((cu2 (cu16 ())), ())))⟩

theorem r39_in_L2_ok : r39_in_L2.ok Try.prog (nthC (loopsOf (bodyOf Try.f23)) 0) := by
  refine Lp.lift (π := ((List Str) × Str)) (V := Int) (ρ := (Bool ⊕ Unit)) mix tabOk r39_in_L2 (o := orT [] [] noFz) (orT_sound trivial) (allLp_of [] (by kernel_rfl) trivial rfl) (fun x v => ((x.1, (x.2, (cu (cu2 (v, (cu4 (cu8 ()))))))), ())) (fun x r => match r with | .inl a0 => .inl ((cu4 (a0, (cu (cu4 (cu8 ()))))), ()) | .inr b0 => (.inr ((cu2 (cu16 ())), ()))) (fun x v => r39_in_L2_step x.1 x.2 v) (fun x r => .sum r (fun a0 => .ret (.inl ((cu4 (a0, (cu (cu4 (cu8 ()))))), ()))) (fun b0 => .ret (.inr ((cu2 (cu16 ())), ())))) (fun z => (z.1.1, z.1.2.1)) (fun z => z.1.2.2.2.2.2.1) (fun _ => rfl) (fun _ => rfl) (fun x r Q h => match r, h with | .inl _, h => h | .inr b0, h => (h)) ?_
  intro x v; kernel_rfl

def r39_in_T (x0 : List Str) (x1 : Str) : Tree Bool :=
  .bnd (.loop (fun v => r39_in_L2_step x0 x1 v) 0) fun r1 =>
  .sum r1 (fun r2 =>
    .ret r2) (fun r3 =>
    .ret false)

def r39_in_g : Sig := ⟨23, (.cons (.val false (.list .str)) (.cons (.val false .str) .nil)), .vals (.val false .bool), fun z => r39_in_T z.1 z.2.1, false⟩

theorem r39_in_ok : r39_in_g.ok Try.prog := by
  refine Sig.lift mix tabOk nms _ Try.func23 (c := (bodyOf Try.f23)) (by kernel_rfl) (o := orT [] [r39_in_L2] noFz) (orT_sound trivial) (allLp_of [nthC (loopsOf (bodyOf Try.f23)) 0] (by kernel_rfl) ⟨r39_in_L2_ok, trivial⟩ (by kernel_rfl)) ?_
  intro z; kernel_rfl

def r39_Hand_Ready_L7_step (nodes : List Str) (x_ : R39_Over) (k : Int) : Tree (Int ⊕ (Bool ⊕ Unit)) :=
  .ite (decide (k < (nodes.length : Int))) (
    ask (inb k nodes.length) <|
    .bnd (r39_in_T x_.2.2.2 (nodes.getD k.toNat ([] : Str))) fun y1 =>
    .ite (!y1) (
      .ret (.inr (.inl false))) (
      .ret (.inl (w64 (k + 1))))) (
    .ret (.inr (.inr ())))

def r39_Hand_Ready_L7 : Lp := ⟨7, [], [], (ca (ca2 (.cons (.val false (.list .str)) (ca2 (ca4 (.cons (.ref 0 0) (.cons (.val false (.int .i64)) (ca (ca2 (ca8 (ca32 .nil))))))))))), (.cells 50 (.cons (.flat tR39_Over) .nil) .nil), 0, .more 0 [] (ca8 (.cons (.val false .bool) (ca2 (ca4 (ca8 (ca32 .nil)))))) .nil (.one 3 [] (ca (ca2 (.cons (.val false (.list .str)) (ca (ca2 (ca16 (ca32 .nil))))))) .nil), fun z => .bnd (.loop (fun v => r39_Hand_Ready_L7_step z.1.2.2.2.1 z.2.1.1 v) z.1.2.2.2.2.2.2.2.2.2.2.2.1) fun r => .sum r (fun a0 => .ret (.inl ((cu8 (a0, (cu2 (cu4 (cu8 (cu32 ())))))), ()))) (fun b0 => .ret (.inr ((cu (cu2 (z.1.2.2.2.1, (cu (cu2 (cu16 (cu32 ()))))))), ())))⟩

theorem r39_Hand_Ready_L7_ok : r39_Hand_Ready_L7.ok Try.prog (nthC (loopsOf (nthC (loopsOf (bodyOf Try.f14)) 0)) 0) := by
  refine Lp.lift (π := ((List Str) × R39_Over)) (V := Int) (ρ := (Bool ⊕ Unit)) mix tabOk r39_Hand_Ready_L7 (o := orT [r39_in_g] [] noFz) (orT_sound ⟨r39_in_ok, trivial⟩) (allLp_of [] (by kernel_rfl) trivial rfl) (fun x v => ((cu (cu2 (x.1, (cu2 (cu4 ((), (v, (cu (cu2 (cu8 (cu32 ()))))))))))), ((x.2, ()), ()))) (fun x r => match r with | .inl a0 => .inl ((cu8 (a0, (cu2 (cu4 (cu8 (cu32 ())))))), ()) | .inr b0 => (.inr ((cu (cu2 (x.1, (cu (cu2 (cu16 (cu32 ()))))))), ()))) (fun x v => r39_Hand_Ready_L7_step x.1 x.2 v) (fun x r => .sum r (fun a0 => .ret (.inl ((cu8 (a0, (cu2 (cu4 (cu8 (cu32 ())))))), ()))) (fun b0 => .ret (.inr ((cu (cu2 (x.1, (cu (cu2 (cu16 (cu32 ()))))))), ())))) (fun z => (z.1.2.2.2.1, z.2.1.1)) (fun z => z.1.2.2.2.2.2.2.2.2.2.2.2.1) (fun _ => rfl) (fun _ => rfl) (fun x r Q h => match r, h with | .inl _, h => h | .inr b0, h => (h)) ?_
  intro x v; kernel_rfl

def r39_Hand_Ready_L2_step (h : R39_Hand) (place : Str) (digest : Str) (nodes : List Str) (i : Int) : Tree (Int ⊕ (Bool ⊕ Unit)) :=
  .ite (decide (i < (h.2.length : Int))) (
    ask (inb i h.2.length) <|
    .ite ((!((h.2.getD i.toNat (dfl tR39_Over : R39_Over)).2.1 == place)) || (!((h.2.getD i.toNat (dfl tR39_Over : R39_Over)).2.2.1 == digest))) (
      .ret (.inl (w64 (i + 1)))) (
      .bnd (.loop (fun v => r39_Hand_Ready_L7_step nodes (h.2.getD i.toNat (dfl tR39_Over : R39_Over)) v) 0) fun r1 =>
      .sum r1 (fun r2 =>
        .ret (.inr (.inl r2))) (fun r3 =>
        .ret (.inr (.inl (decide ((0 : Int) < (nodes.length : Int)))))))) (
    .ret (.inr (.inr ())))

def r39_Hand_Ready_L2 : Lp := ⟨2, [], [], (.cons (.ptr tR39_Hand) (.cons (.val false .str) (.cons (.val false .str) (.cons (.val false (.list .str)) (ca (ca4 (.cons (.val false (.int .i64)) (ca (ca4 (ca8 (ca32 .nil))))))))))), .nil, 0, .more 0 [] (ca8 (.cons (.val false .bool) (ca2 (ca4 (ca8 (ca32 .nil)))))) .nil (.one 1 [] (ca (ca2 (ca4 (ca16 (ca32 .nil))))) .nil), fun z => .bnd (.loop (fun v => r39_Hand_Ready_L2_step z.1.1 z.1.2.1 z.1.2.2.1 z.1.2.2.2.1 v) z.1.2.2.2.2.2.2.2.2.2.1) fun r => .sum r (fun a0 => .ret (.inl ((cu8 (a0, (cu2 (cu4 (cu8 (cu32 ())))))), ()))) (fun b0 => .ret (.inr ((cu (cu2 (cu4 (cu16 (cu32 ()))))), ())))⟩

theorem r39_Hand_Ready_L2_ok : r39_Hand_Ready_L2.ok Try.prog (nthC (loopsOf (bodyOf Try.f14)) 0) := by
  refine Lp.lift (π := (R39_Hand × Str × Str × (List Str))) (V := Int) (ρ := (Bool ⊕ Unit)) mix tabOk r39_Hand_Ready_L2 (o := orT [r39_in_g] [r39_Hand_Ready_L7] noFz) (orT_sound ⟨r39_in_ok, trivial⟩) (allLp_of [nthC (loopsOf (nthC (loopsOf (bodyOf Try.f14)) 0)) 0] (by kernel_rfl) ⟨r39_Hand_Ready_L7_ok, trivial⟩ (by kernel_rfl)) (fun x v => ((x.1, (x.2.1, (x.2.2.1, (x.2.2.2, (cu (cu4 (v, (cu (cu4 (cu8 (cu32 ()))))))))))), ())) (fun x r => match r with | .inl a0 => .inl ((cu8 (a0, (cu2 (cu4 (cu8 (cu32 ())))))), ()) | .inr b0 => (.inr ((cu (cu2 (cu4 (cu16 (cu32 ()))))), ()))) (fun x v => r39_Hand_Ready_L2_step x.1 x.2.1 x.2.2.1 x.2.2.2 v) (fun x r => .sum r (fun a0 => .ret (.inl ((cu8 (a0, (cu2 (cu4 (cu8 (cu32 ())))))), ()))) (fun b0 => .ret (.inr ((cu (cu2 (cu4 (cu16 (cu32 ()))))), ())))) (fun z => (z.1.1, z.1.2.1, z.1.2.2.1, z.1.2.2.2.1)) (fun z => z.1.2.2.2.2.2.2.2.2.2.1) (fun _ => rfl) (fun _ => rfl) (fun x r Q h => match r, h with | .inl _, h => h | .inr b0, h => (h)) ?_
  intro x v; kernel_rfl

def r39_Hand_Ready_T (x0 : R39_Hand) (x1 : Str) (x2 : Str) (x3 : List Str) : Tree Bool :=
  .bnd (.loop (fun v => r39_Hand_Ready_L2_step x0 x1 x2 x3 v) 0) fun r1 =>
  .sum r1 (fun r2 =>
    .ret r2) (fun r3 =>
    .ret false)

def r39_Hand_Ready_g : Sig := ⟨14, (.cons (.ptr tR39_Hand) (.cons (.val false .str) (.cons (.val false .str) (.cons (.val false (.list .str)) .nil)))), .vals (.val false .bool), fun z => r39_Hand_Ready_T z.1 z.2.1 z.2.2.1 z.2.2.2.1, false⟩

theorem r39_Hand_Ready_ok : r39_Hand_Ready_g.ok Try.prog := by
  refine Sig.lift mix tabOk nms _ Try.func14 (c := (bodyOf Try.f14)) (by kernel_rfl) (o := orT [r39_in_g] [r39_Hand_Ready_L2] noFz) (orT_sound ⟨r39_in_ok, trivial⟩) (allLp_of [nthC (loopsOf (bodyOf Try.f14)) 0] (by kernel_rfl) ⟨r39_Hand_Ready_L2_ok, trivial⟩ (by kernel_rfl)) ?_
  intro z; kernel_rfl

def hand_Hand_Ready_nil_T (x0 : Str) (x1 : Str) (x2 : List Str) : Tree Bool :=
  .ite true (
    .ret false) (
    ask false <|
    ask false <|
    ask false <|
    ask false <|
    ask false <|
    ask false <|
    ask false <|
    ask false <|
    ask false <|
    ask false <|
    ask false <|
    ask false <|
    ask false <|
    ask false <|
    ask false <|
    ask false <|
    ask false <|
    ask false <|
    .fail)

def hand_Hand_Ready_nil_g : Sig := ⟨13, (.cons .nilp (.cons (.val false .str) (.cons (.val false .str) (.cons (.val false (.list .str)) .nil)))), .vals (.val false .bool), fun z => hand_Hand_Ready_nil_T z.2.1 z.2.2.1 z.2.2.2.1, false⟩

theorem hand_Hand_Ready_nil_ok : hand_Hand_Ready_nil_g.ok Try.prog := by
  refine Sig.lift mix tabOk nms _ Try.func13 (c := (bodyOf Try.f13)) (by kernel_rfl) (o := orT [] [] noFz) (orT_sound trivial) (allLp_of [] (by kernel_rfl) trivial rfl) ?_
  intro z; kernel_rfl

def r39_Hand_Places_L3_step (h : R39_Hand) (i : Int) (out : List Str) : Tree ((Int × (List Str)) ⊕ (List Str)) :=
  .ite (decide (i < (h.2.length : Int))) (
    ask (inb i h.2.length) <|
    ask (decide ((out ++ [(h.2.getD i.toNat (dfl tR39_Over : R39_Over)).2.1]).length * 16 ≤ roomNat)) <|
    .ret (.inl ((w64 (i + 1)), (out ++ [(h.2.getD i.toNat (dfl tR39_Over : R39_Over)).2.1])))) (
    .ret (.inr out))

def r39_Hand_Places_L3 : Lp := ⟨3, [.own 3 9 .str], [], (.cons (.ptr tR39_Hand) (ca2 (.cons (.own 0) (.cons (.val false (.int .i64)) (ca (ca4 (ca16 .nil))))))), (.rows 9 .str .nil), 0, .one 1 [] (ca (ca2 (.cons (.own 0) (ca2 (ca4 (ca16 .nil)))))) (.rows 9 .str .nil), fun z => .bnd (.loop (fun v => r39_Hand_Places_L3_step z.1.1 v.1 v.2) (z.1.2.2.2.2.1, z.2.1)) fun r => .ret ((cu (cu2 ((), (cu2 (cu4 (cu16 ())))))), (r, ()))⟩

theorem r39_Hand_Places_L3_ok : r39_Hand_Places_L3.ok Try.prog (nthC (loopsOf (bodyOf Try.f17)) 0) := by
  refine Lp.lift (π := R39_Hand) (V := (Int × (List Str))) (ρ := List Str) mix tabOk r39_Hand_Places_L3 (o := orT [] [] noFz) (orT_sound trivial) (allLp_of [] (by kernel_rfl) trivial rfl) (fun x v => ((x, (cu2 ((), (v.1, (cu (cu4 (cu16 ()))))))), (v.2, ()))) (fun x r => ((cu (cu2 ((), (cu2 (cu4 (cu16 ())))))), (r, ()))) (fun x v => r39_Hand_Places_L3_step x v.1 v.2) (fun x r => .ret ((cu (cu2 ((), (cu2 (cu4 (cu16 ())))))), (r, ()))) (fun z => z.1.1) (fun z => (z.1.2.2.2.2.1, z.2.1)) (fun _ => rfl) (fun _ => rfl) (fun _ _ _ h => h) ?_
  intro x v; kernel_rfl

def r39_Hand_Places_T (x0 : R39_Hand) : Tree (List Str) :=
  .bnd (.loop (fun v => r39_Hand_Places_L3_step x0 v.1 v.2) (0, ([] : List Str))) fun r1 =>
  .ret r1

def r39_Hand_Places_g : Sig := ⟨17, (.cons (.ptr tR39_Hand) .nil), .fresh 9 .str, fun z => r39_Hand_Places_T z.1, ([] : List Str)⟩

theorem r39_Hand_Places_ok : r39_Hand_Places_g.ok Try.prog := by
  refine Sig.lift mix tabOk nms _ Try.func17 (c := (bodyOf Try.f17)) (by kernel_rfl) (o := orT [] [r39_Hand_Places_L3] noFz) (orT_sound trivial) (allLp_of [nthC (loopsOf (bodyOf Try.f17)) 0] (by kernel_rfl) ⟨r39_Hand_Places_L3_ok, trivial⟩ (by kernel_rfl)) ?_
  intro z; kernel_rfl

def r39_Hand_Places_gv : Sig := ⟨17, (.cons (.ptr tR39_Hand) .nil), .newv 9 .str, fun z => r39_Hand_Places_T z.1, ([] : List Str)⟩

theorem r39_Hand_Places_okv : r39_Hand_Places_gv.ok Try.prog := fun x y h => acalls_new (r39_Hand_Places_ok x y h)

def r39_Hand_Taken_fz : Nat → List Pre
  | 10 => [.frz 4]
  | _ => []

def r39_Hand_Taken_L2_step (number : Int) (node : Str) (h : Int) (rows : List R39_Over) (i : Int) (out : List R39_Over) : Tree ((Int × (List R39_Over)) ⊕ (List R39_Over)) :=
  .ite (decide (i < (rows.length : Int))) (
    ask (inb i rows.length) <|
    .ite (decide ((rows.getD i.toNat (dfl tR39_Over : R39_Over)).1 = number)) (
      ask (decide ((rows.getD i.toNat (dfl tR39_Over : R39_Over)).2.2.2.length * 16 ≤ roomNat)) <|
      ask (decide (((rows.getD i.toNat (dfl tR39_Over : R39_Over)).2.2.2 ++ [node]).length * 16 ≤ roomNat)) <|
      ask (decide ((out ++ [((rows.getD i.toNat (dfl tR39_Over : R39_Over)).1, ((rows.getD i.toNat (dfl tR39_Over : R39_Over)).2.1, ((rows.getD i.toNat (dfl tR39_Over : R39_Over)).2.2.1, ((rows.getD i.toNat (dfl tR39_Over : R39_Over)).2.2.2 ++ [node]))))]).length * 64 ≤ roomNat)) <|
      .ret (.inl ((w64 (i + 1)), (out ++ [((rows.getD i.toNat (dfl tR39_Over : R39_Over)).1, ((rows.getD i.toNat (dfl tR39_Over : R39_Over)).2.1, ((rows.getD i.toNat (dfl tR39_Over : R39_Over)).2.2.1, ((rows.getD i.toNat (dfl tR39_Over : R39_Over)).2.2.2 ++ [node]))))])))) (
      ask (decide ((out ++ [(rows.getD i.toNat (dfl tR39_Over : R39_Over))]).length * 64 ≤ roomNat)) <|
      .ret (.inl ((w64 (i + 1)), (out ++ [(rows.getD i.toNat (dfl tR39_Over : R39_Over))]))))) (
    .ret (.inr out))

def r39_Hand_Taken_L2 : Lp := ⟨2, [.own 6 50 tR39_Over], [], (.cons (.ref 0 0) (.cons (.val false (.int .i64)) (.cons (.val false .str) (ca (ca2 (.cons (.own 2) (.cons (.val false (.int .i64)) (ca8 (ca32 .nil))))))))), (.cells 33 (.cons (.val false (.int .i64)) (.cons (.own 1) .nil)) (.rows 50 tR39_Over (.rows 50 tR39_Over .nil))), 2, .one 1 [] (.cons (.ref 0 0) (ca (ca4 (.cons (.own 2) (ca (ca8 (ca32 .nil))))))) (.cells 33 (.cons (.val false (.int .i64)) (.cons (.own 1) .nil)) (.rows 50 tR39_Over (.rows 50 tR39_Over .nil))), fun z => .bnd (.loop (fun v => r39_Hand_Taken_L2_step z.1.2.1 z.1.2.2.1 z.2.1.1 z.2.2.1 v.1 v.2) (z.1.2.2.2.2.2.2.2.1, z.2.2.2.1)) fun r => .ret (((), (cu (cu4 ((), (cu (cu8 (cu32 ()))))))), ((z.2.1.1, ((), ())), (z.2.2.1, (r, ()))))⟩

theorem r39_Hand_Taken_L2_ok : r39_Hand_Taken_L2.ok Try.prog (nthC (loopsOf (bodyOf Try.f11)) 0) := by
  refine Lp.lift (π := (Int × Str × Int × (List R39_Over))) (V := (Int × (List R39_Over))) (ρ := List R39_Over) mix tabOk r39_Hand_Taken_L2 (o := orT [] [] r39_Hand_Taken_fz) (orT_sound trivial) (allLp_of [] (by kernel_rfl) trivial rfl) (fun x v => (((), (x.1, (x.2.1, (cu (cu2 ((), (v.1, (cu8 (cu32 ()))))))))), ((x.2.2.1, ((), ())), (x.2.2.2, (v.2, ()))))) (fun x r => (((), (cu (cu4 ((), (cu (cu8 (cu32 ()))))))), ((x.2.2.1, ((), ())), (x.2.2.2, (r, ()))))) (fun x v => r39_Hand_Taken_L2_step x.1 x.2.1 x.2.2.1 x.2.2.2 v.1 v.2) (fun x r => .ret (((), (cu (cu4 ((), (cu (cu8 (cu32 ()))))))), ((x.2.2.1, ((), ())), (x.2.2.2, (r, ()))))) (fun z => (z.1.2.1, z.1.2.2.1, z.2.1.1, z.2.2.1)) (fun z => (z.1.2.2.2.2.2.2.2.1, z.2.2.2.1)) (fun _ => rfl) (fun _ => rfl) (fun _ _ _ h => h) ?_
  intro x v; kernel_rfl

def r39_Hand_Taken_T (x0 : Int) (x1 : Str) (x2 : Int) (x3 : List R39_Over) : Tree (Unit × ((Int × (Unit × Unit)) × ((List R39_Over) × Unit))) :=
  .bnd (.loop (fun v => r39_Hand_Taken_L2_step x0 x1 x2 x3 v.1 v.2) (0, ([] : List R39_Over))) fun r1 =>
  .ret ((), ((x2, ((), ())), (r1, ())))

def r39_Hand_Taken_g : MSig := ⟨11, (.cons (.ref 0 0) (.cons (.val false (.int .i64)) (.cons (.val false .str) .nil))), (.cells 33 (.cons (.val false (.int .i64)) (.cons (.own 1) .nil)) (.rows 50 tR39_Over .nil)), [.mvB 2 1], .nil, (.cells 33 (.cons (.val false (.int .i64)) (.cons (.own 1) .nil)) (.rows 50 tR39_Over .nil)), some 1, fun z => r39_Hand_Taken_T z.1.2.1 z.1.2.2.1 z.2.1.1 z.2.2.1⟩

theorem r39_Hand_Taken_ok : r39_Hand_Taken_g.ok Try.prog := by
  refine MSig.lift mix tabOk nms _ Try.func11 (c := (bodyOf Try.f11)) (by kernel_rfl) (o := orT [] [r39_Hand_Taken_L2] r39_Hand_Taken_fz) (orT_sound trivial) (allLp_of [nthC (loopsOf (bodyOf Try.f11)) 0] (by kernel_rfl) ⟨r39_Hand_Taken_L2_ok, trivial⟩ (by kernel_rfl)) (fun _ => rfl) ?_
  intro z; kernel_rfl

def l39_HandPlays_fz : Nat → List Pre
  | 4 => [.ownC 0 1 0 .smap, .ownC 1 1 50 tR39_Over]
  | 5 => [.ownC 4 1 0 .smap, .ownC 5 1 50 tR39_Over]
  | 10 => [.twoN 1000, .frz 8]
  | _ => []

def l39_HandPlays_L7_step (l : List R39_Act) (nodes : List Str) (i : Int) (h : Int) (x_ : Int) (rows : Fam) (rows2 : List R39_Over) (z : Int) (y_ : Int) (rows3 : Fam) (rows4 : List R39_Over) : Tree ((Int × Int × Int × Fam × (List R39_Over) × Int × Int × Fam × (List R39_Over)) ⊕ (Bool ⊕ Unit)) :=
  .ite (decide (i < (l.length : Int))) (
    ask (inb i l.length) <|
    .bnd (l39_do_T (l.getD i.toNat (dfl tR39_Act : R39_Act)) h rows) fun y1 =>
    .bnd (l39_do_T (l.getD i.toNat (dfl tR39_Act : R39_Act)) z rows3) fun y2 =>
    .bnd (l39_do_nil_T (l.getD i.toNat (dfl tR39_Act : R39_Act))) fun y3 =>
    .ite (decide ((l.getD i.toNat (dfl tR39_Act : R39_Act)).1 = 1)) (
      .bnd (r39_Hand_Start_T (l.getD i.toNat (dfl tR39_Act : R39_Act)).2.1 (l.getD i.toNat (dfl tR39_Act : R39_Act)).2.2.1 x_ rows2) fun y4 =>
      .bnd (r39_Hand_Start_T (l.getD i.toNat (dfl tR39_Act : R39_Act)).2.1 (l.getD i.toNat (dfl tR39_Act : R39_Act)).2.2.1 y_ rows4) fun y5 =>
      .grd (!(((!decide (y1.1 = y4.1)) || (!decide (y2.1 = y5.1))) || (!decide (y3 = 0)))) (hand_Hand_Ready_T y1.2.1.1 (famView y1.2.2.1.1 y1.2.2.1.2) (l.getD i.toNat (dfl tR39_Act : R39_Act)).2.1 (l.getD i.toNat (dfl tR39_Act : R39_Act)).2.2.1 nodes) false fun y6 =>
      .grd (!(((!decide (y1.1 = y4.1)) || (!decide (y2.1 = y5.1))) || (!decide (y3 = 0)))) (r39_Hand_Ready_T (y4.2.1.1, y4.2.2.1) (l.getD i.toNat (dfl tR39_Act : R39_Act)).2.1 (l.getD i.toNat (dfl tR39_Act : R39_Act)).2.2.1 nodes) false fun y7 =>
      .grd (!((((!decide (y1.1 = y4.1)) || (!decide (y2.1 = y5.1))) || (!decide (y3 = 0))) || (!(y6 == y7)))) (hand_Hand_Ready_T y2.2.1.1 (famView y2.2.2.1.1 y2.2.2.1.2) (l.getD i.toNat (dfl tR39_Act : R39_Act)).2.1 (l.getD i.toNat (dfl tR39_Act : R39_Act)).2.2.1 nodes) false fun y8 =>
      .grd (!((((!decide (y1.1 = y4.1)) || (!decide (y2.1 = y5.1))) || (!decide (y3 = 0))) || (!(y6 == y7)))) (r39_Hand_Ready_T (y5.2.1.1, y5.2.2.1) (l.getD i.toNat (dfl tR39_Act : R39_Act)).2.1 (l.getD i.toNat (dfl tR39_Act : R39_Act)).2.2.1 nodes) false fun y9 =>
      .grd (!(((((!decide (y1.1 = y4.1)) || (!decide (y2.1 = y5.1))) || (!decide (y3 = 0))) || (!(y6 == y7))) || (!(y8 == y9)))) (hand_Hand_Ready_nil_T (l.getD i.toNat (dfl tR39_Act : R39_Act)).2.1 (l.getD i.toNat (dfl tR39_Act : R39_Act)).2.2.1 nodes) false fun y10 =>
      .grd (!((((((!decide (y1.1 = y4.1)) || (!decide (y2.1 = y5.1))) || (!decide (y3 = 0))) || (!(y6 == y7))) || (!(y8 == y9))) || y10)) (hand_Hand_Places_T y1.2.1.1 (famView y1.2.2.1.1 y1.2.2.1.2)) ([] : List Str) fun y11 =>
      .grd (!((((((!decide (y1.1 = y4.1)) || (!decide (y2.1 = y5.1))) || (!decide (y3 = 0))) || (!(y6 == y7))) || (!(y8 == y9))) || y10)) (r39_Hand_Places_T (y4.2.1.1, y4.2.2.1)) ([] : List Str) fun y12 =>
      .grd (!((((((!decide (y1.1 = y4.1)) || (!decide (y2.1 = y5.1))) || (!decide (y3 = 0))) || (!(y6 == y7))) || (!(y8 == y9))) || y10)) (r01_SameTexts_T y11 y12) false fun y13 =>
      .grd (!(((((((!decide (y1.1 = y4.1)) || (!decide (y2.1 = y5.1))) || (!decide (y3 = 0))) || (!(y6 == y7))) || (!(y8 == y9))) || y10) || (!y13))) hand_Hand_Places_nil_T ([] : List Str) fun y14 =>
      .ite ((((((((!decide (y1.1 = y4.1)) || (!decide (y2.1 = y5.1))) || (!decide (y3 = 0))) || (!(y6 == y7))) || (!(y8 == y9))) || y10) || (!y13)) || (!decide ((y14.length : Int) = 0))) (
        .ret (.inr (.inl false))) (
        .ret (.inl ((w64 (i + 1)), y1.2.1.1, y4.2.1.1, y1.2.2.1, y4.2.2.1, y2.2.1.1, y5.2.1.1, y2.2.2.1, y5.2.2.1)))) (
      .ite (decide ((l.getD i.toNat (dfl tR39_Act : R39_Act)).1 = 2)) (
        .bnd (r39_Hand_Taken_T (l.getD i.toNat (dfl tR39_Act : R39_Act)).2.2.2.2 (l.getD i.toNat (dfl tR39_Act : R39_Act)).2.2.2.1 x_ rows2) fun y15 =>
        .bnd (r39_Hand_Taken_T (l.getD i.toNat (dfl tR39_Act : R39_Act)).2.2.2.2 (l.getD i.toNat (dfl tR39_Act : R39_Act)).2.2.2.1 y_ rows4) fun y16 =>
        .grd (!(((!decide (y1.1 = 0)) || (!decide (y2.1 = 0))) || (!decide (y3 = 0)))) (hand_Hand_Ready_T y1.2.1.1 (famView y1.2.2.1.1 y1.2.2.1.2) (l.getD i.toNat (dfl tR39_Act : R39_Act)).2.1 (l.getD i.toNat (dfl tR39_Act : R39_Act)).2.2.1 nodes) false fun y17 =>
        .grd (!(((!decide (y1.1 = 0)) || (!decide (y2.1 = 0))) || (!decide (y3 = 0)))) (r39_Hand_Ready_T (y15.2.1.1, y15.2.2.1) (l.getD i.toNat (dfl tR39_Act : R39_Act)).2.1 (l.getD i.toNat (dfl tR39_Act : R39_Act)).2.2.1 nodes) false fun y18 =>
        .grd (!((((!decide (y1.1 = 0)) || (!decide (y2.1 = 0))) || (!decide (y3 = 0))) || (!(y17 == y18)))) (hand_Hand_Ready_T y2.2.1.1 (famView y2.2.2.1.1 y2.2.2.1.2) (l.getD i.toNat (dfl tR39_Act : R39_Act)).2.1 (l.getD i.toNat (dfl tR39_Act : R39_Act)).2.2.1 nodes) false fun y19 =>
        .grd (!((((!decide (y1.1 = 0)) || (!decide (y2.1 = 0))) || (!decide (y3 = 0))) || (!(y17 == y18)))) (r39_Hand_Ready_T (y16.2.1.1, y16.2.2.1) (l.getD i.toNat (dfl tR39_Act : R39_Act)).2.1 (l.getD i.toNat (dfl tR39_Act : R39_Act)).2.2.1 nodes) false fun y20 =>
        .grd (!(((((!decide (y1.1 = 0)) || (!decide (y2.1 = 0))) || (!decide (y3 = 0))) || (!(y17 == y18))) || (!(y19 == y20)))) (hand_Hand_Ready_nil_T (l.getD i.toNat (dfl tR39_Act : R39_Act)).2.1 (l.getD i.toNat (dfl tR39_Act : R39_Act)).2.2.1 nodes) false fun y21 =>
        .grd (!((((((!decide (y1.1 = 0)) || (!decide (y2.1 = 0))) || (!decide (y3 = 0))) || (!(y17 == y18))) || (!(y19 == y20))) || y21)) (hand_Hand_Places_T y1.2.1.1 (famView y1.2.2.1.1 y1.2.2.1.2)) ([] : List Str) fun y22 =>
        .grd (!((((((!decide (y1.1 = 0)) || (!decide (y2.1 = 0))) || (!decide (y3 = 0))) || (!(y17 == y18))) || (!(y19 == y20))) || y21)) (r39_Hand_Places_T (y15.2.1.1, y15.2.2.1)) ([] : List Str) fun y23 =>
        .grd (!((((((!decide (y1.1 = 0)) || (!decide (y2.1 = 0))) || (!decide (y3 = 0))) || (!(y17 == y18))) || (!(y19 == y20))) || y21)) (r01_SameTexts_T y22 y23) false fun y24 =>
        .grd (!(((((((!decide (y1.1 = 0)) || (!decide (y2.1 = 0))) || (!decide (y3 = 0))) || (!(y17 == y18))) || (!(y19 == y20))) || y21) || (!y24))) hand_Hand_Places_nil_T ([] : List Str) fun y25 =>
        .ite ((((((((!decide (y1.1 = 0)) || (!decide (y2.1 = 0))) || (!decide (y3 = 0))) || (!(y17 == y18))) || (!(y19 == y20))) || y21) || (!y24)) || (!decide ((y25.length : Int) = 0))) (
          .ret (.inr (.inl false))) (
          .ret (.inl ((w64 (i + 1)), y1.2.1.1, y15.2.1.1, y1.2.2.1, y15.2.2.1, y2.2.1.1, y16.2.1.1, y2.2.2.1, y16.2.2.1)))) (
        .ite (decide ((l.getD i.toNat (dfl tR39_Act : R39_Act)).1 = 3)) (
          .bnd (r39_Hand_Drop_T (l.getD i.toNat (dfl tR39_Act : R39_Act)).2.1 x_ rows2) fun y26 =>
          .bnd (r39_Hand_Drop_T (l.getD i.toNat (dfl tR39_Act : R39_Act)).2.1 y_ rows4) fun y27 =>
          .grd (!(((!decide (y1.1 = 0)) || (!decide (y2.1 = 0))) || (!decide (y3 = 0)))) (hand_Hand_Ready_T y1.2.1.1 (famView y1.2.2.1.1 y1.2.2.1.2) (l.getD i.toNat (dfl tR39_Act : R39_Act)).2.1 (l.getD i.toNat (dfl tR39_Act : R39_Act)).2.2.1 nodes) false fun y28 =>
          .grd (!(((!decide (y1.1 = 0)) || (!decide (y2.1 = 0))) || (!decide (y3 = 0)))) (r39_Hand_Ready_T (y26.2.1.1, y26.2.2.1) (l.getD i.toNat (dfl tR39_Act : R39_Act)).2.1 (l.getD i.toNat (dfl tR39_Act : R39_Act)).2.2.1 nodes) false fun y29 =>
          .grd (!((((!decide (y1.1 = 0)) || (!decide (y2.1 = 0))) || (!decide (y3 = 0))) || (!(y28 == y29)))) (hand_Hand_Ready_T y2.2.1.1 (famView y2.2.2.1.1 y2.2.2.1.2) (l.getD i.toNat (dfl tR39_Act : R39_Act)).2.1 (l.getD i.toNat (dfl tR39_Act : R39_Act)).2.2.1 nodes) false fun y30 =>
          .grd (!((((!decide (y1.1 = 0)) || (!decide (y2.1 = 0))) || (!decide (y3 = 0))) || (!(y28 == y29)))) (r39_Hand_Ready_T (y27.2.1.1, y27.2.2.1) (l.getD i.toNat (dfl tR39_Act : R39_Act)).2.1 (l.getD i.toNat (dfl tR39_Act : R39_Act)).2.2.1 nodes) false fun y31 =>
          .grd (!(((((!decide (y1.1 = 0)) || (!decide (y2.1 = 0))) || (!decide (y3 = 0))) || (!(y28 == y29))) || (!(y30 == y31)))) (hand_Hand_Ready_nil_T (l.getD i.toNat (dfl tR39_Act : R39_Act)).2.1 (l.getD i.toNat (dfl tR39_Act : R39_Act)).2.2.1 nodes) false fun y32 =>
          .grd (!((((((!decide (y1.1 = 0)) || (!decide (y2.1 = 0))) || (!decide (y3 = 0))) || (!(y28 == y29))) || (!(y30 == y31))) || y32)) (hand_Hand_Places_T y1.2.1.1 (famView y1.2.2.1.1 y1.2.2.1.2)) ([] : List Str) fun y33 =>
          .grd (!((((((!decide (y1.1 = 0)) || (!decide (y2.1 = 0))) || (!decide (y3 = 0))) || (!(y28 == y29))) || (!(y30 == y31))) || y32)) (r39_Hand_Places_T (y26.2.1.1, y26.2.2.1)) ([] : List Str) fun y34 =>
          .grd (!((((((!decide (y1.1 = 0)) || (!decide (y2.1 = 0))) || (!decide (y3 = 0))) || (!(y28 == y29))) || (!(y30 == y31))) || y32)) (r01_SameTexts_T y33 y34) false fun y35 =>
          .grd (!(((((((!decide (y1.1 = 0)) || (!decide (y2.1 = 0))) || (!decide (y3 = 0))) || (!(y28 == y29))) || (!(y30 == y31))) || y32) || (!y35))) hand_Hand_Places_nil_T ([] : List Str) fun y36 =>
          .ite ((((((((!decide (y1.1 = 0)) || (!decide (y2.1 = 0))) || (!decide (y3 = 0))) || (!(y28 == y29))) || (!(y30 == y31))) || y32) || (!y35)) || (!decide ((y36.length : Int) = 0))) (
            .ret (.inr (.inl false))) (
            .ret (.inl ((w64 (i + 1)), y1.2.1.1, y26.2.1.1, y1.2.2.1, y26.2.2.1, y2.2.1.1, y27.2.1.1, y2.2.2.1, y27.2.2.1)))) (
          .grd (!(((!decide (y1.1 = 0)) || (!decide (y2.1 = 0))) || (!decide (y3 = 0)))) (hand_Hand_Ready_T y1.2.1.1 (famView y1.2.2.1.1 y1.2.2.1.2) (l.getD i.toNat (dfl tR39_Act : R39_Act)).2.1 (l.getD i.toNat (dfl tR39_Act : R39_Act)).2.2.1 nodes) false fun y37 =>
          .grd (!(((!decide (y1.1 = 0)) || (!decide (y2.1 = 0))) || (!decide (y3 = 0)))) (r39_Hand_Ready_T (x_, rows2) (l.getD i.toNat (dfl tR39_Act : R39_Act)).2.1 (l.getD i.toNat (dfl tR39_Act : R39_Act)).2.2.1 nodes) false fun y38 =>
          .grd (!((((!decide (y1.1 = 0)) || (!decide (y2.1 = 0))) || (!decide (y3 = 0))) || (!(y37 == y38)))) (hand_Hand_Ready_T y2.2.1.1 (famView y2.2.2.1.1 y2.2.2.1.2) (l.getD i.toNat (dfl tR39_Act : R39_Act)).2.1 (l.getD i.toNat (dfl tR39_Act : R39_Act)).2.2.1 nodes) false fun y39 =>
          .grd (!((((!decide (y1.1 = 0)) || (!decide (y2.1 = 0))) || (!decide (y3 = 0))) || (!(y37 == y38)))) (r39_Hand_Ready_T (y_, rows4) (l.getD i.toNat (dfl tR39_Act : R39_Act)).2.1 (l.getD i.toNat (dfl tR39_Act : R39_Act)).2.2.1 nodes) false fun y40 =>
          .grd (!(((((!decide (y1.1 = 0)) || (!decide (y2.1 = 0))) || (!decide (y3 = 0))) || (!(y37 == y38))) || (!(y39 == y40)))) (hand_Hand_Ready_nil_T (l.getD i.toNat (dfl tR39_Act : R39_Act)).2.1 (l.getD i.toNat (dfl tR39_Act : R39_Act)).2.2.1 nodes) false fun y41 =>
          .grd (!((((((!decide (y1.1 = 0)) || (!decide (y2.1 = 0))) || (!decide (y3 = 0))) || (!(y37 == y38))) || (!(y39 == y40))) || y41)) (hand_Hand_Places_T y1.2.1.1 (famView y1.2.2.1.1 y1.2.2.1.2)) ([] : List Str) fun y42 =>
          .grd (!((((((!decide (y1.1 = 0)) || (!decide (y2.1 = 0))) || (!decide (y3 = 0))) || (!(y37 == y38))) || (!(y39 == y40))) || y41)) (r39_Hand_Places_T (x_, rows2)) ([] : List Str) fun y43 =>
          .grd (!((((((!decide (y1.1 = 0)) || (!decide (y2.1 = 0))) || (!decide (y3 = 0))) || (!(y37 == y38))) || (!(y39 == y40))) || y41)) (r01_SameTexts_T y42 y43) false fun y44 =>
          .grd (!(((((((!decide (y1.1 = 0)) || (!decide (y2.1 = 0))) || (!decide (y3 = 0))) || (!(y37 == y38))) || (!(y39 == y40))) || y41) || (!y44))) hand_Hand_Places_nil_T ([] : List Str) fun y45 =>
          .ite ((((((((!decide (y1.1 = 0)) || (!decide (y2.1 = 0))) || (!decide (y3 = 0))) || (!(y37 == y38))) || (!(y39 == y40))) || y41) || (!y44)) || (!decide ((y45.length : Int) = 0))) (
            .ret (.inr (.inl false))) (
            .ret (.inl ((w64 (i + 1)), y1.2.1.1, x_, y1.2.2.1, rows2, y2.2.1.1, y_, y2.2.2.1, rows4))))))) (
    .ret (.inr (.inr ())))

def l39_HandPlays_L7 : Lp := ⟨7, [], [], (ca (.cons (.val false (.list tR39_Act)) (.cons (.val false (.list .str)) (ca4 (.cons (.ref 0 0) (.cons (.ref 1 0) (.cons (.ref 4 0) (.cons (.ref 5 0) (.cons .nilp (.cons (.val false (.int .i64)) (ca (ca2 (ca4 (ca8 (ca16 (ca32 (ca32 (ca32 (ca32 .nil))))))))))))))))))), (.cells 36 (.cons (.val false (.int .i64)) (.cons (.mp 2) .nil)) (.cells 33 (.cons (.val false (.int .i64)) (.cons (.own 3) .nil)) (.fam (.rows 50 tR39_Over (.cells 36 (.cons (.val false (.int .i64)) (.cons (.mp 6) .nil)) (.cells 33 (.cons (.val false (.int .i64)) (.cons (.own 7) .nil)) (.fam (.rows 50 tR39_Over .nil)))))))), 0, .more 0 [] (ca2 (ca4 (.cons (.val false .bool) (ca (ca4 (ca32 (ca32 (ca32 (ca32 (ca32 .nil)))))))))) .nil (.one 1 [] (ca4 (ca8 (ca32 (ca32 (ca32 (ca32 (ca32 .nil))))))) .nil), fun z => .bnd (.loop (fun v => l39_HandPlays_L7_step z.1.2.1 z.1.2.2.1 v.1 v.2.1 v.2.2.1 v.2.2.2.1 v.2.2.2.2.1 v.2.2.2.2.2.1 v.2.2.2.2.2.2.1 v.2.2.2.2.2.2.2.1 v.2.2.2.2.2.2.2.2) (z.1.2.2.2.2.2.2.2.2.2.2.2.2.1, z.2.1.1, z.2.2.1.1, z.2.2.2.1, z.2.2.2.2.1, z.2.2.2.2.2.1.1, z.2.2.2.2.2.2.1.1, z.2.2.2.2.2.2.2.1, z.2.2.2.2.2.2.2.2.1)) fun r => .sum r (fun a0 => .ret (.inl ((cu2 (cu4 (a0, (cu (cu4 (cu32 (cu32 (cu32 (cu32 (cu32 ())))))))))), ()))) (fun b0 => .ret (.inr ((cu4 (cu8 (cu32 (cu32 (cu32 (cu32 (cu32 ()))))))), ())))⟩

theorem l39_HandPlays_L7_ok : l39_HandPlays_L7.ok Try.prog (nthC (loopsOf (bodyOf Try.f3)) 0) := by
  refine Lp.lift (π := ((List R39_Act) × (List Str))) (V := (Int × Int × Int × Fam × (List R39_Over) × Int × Int × Fam × (List R39_Over))) (ρ := (Bool ⊕ Unit)) mix tabOk l39_HandPlays_L7 (o := orM [r39_Few_g, r01_Few_g, l39_awake_g, l39_do_nil_g, hand_Hand_Ready_g, r39_Hand_Ready_g, hand_Hand_Ready_nil_g, hand_Hand_Places_gv, r39_Hand_Places_gv, r01_SameTexts_g, hand_Hand_Places_nil_g] [hand_New_g, l39_do_g, r39_Hand_Start_g, r39_Hand_Taken_g, r39_Hand_Drop_g] [] l39_HandPlays_fz) (orM_sound ⟨r39_Few_ok, ⟨r01_Few_ok, ⟨l39_awake_ok, ⟨l39_do_nil_ok, ⟨hand_Hand_Ready_ok, ⟨r39_Hand_Ready_ok, ⟨hand_Hand_Ready_nil_ok, ⟨hand_Hand_Places_okv, ⟨r39_Hand_Places_okv, ⟨r01_SameTexts_ok, ⟨hand_Hand_Places_nil_ok, trivial⟩⟩⟩⟩⟩⟩⟩⟩⟩⟩⟩ ⟨hand_New_ok, ⟨l39_do_ok, ⟨r39_Hand_Start_ok, ⟨r39_Hand_Taken_ok, ⟨r39_Hand_Drop_ok, trivial⟩⟩⟩⟩⟩) (allLp_ofM [] (by kernel_rfl) trivial rfl) (fun x v => ((cu (x.1, (x.2, (cu4 ((), ((), ((), ((), ((), (v.1, (cu (cu2 (cu4 (cu8 (cu16 (cu32 (cu32 (cu32 (cu32 ()))))))))))))))))))), ((v.2.1, ((), ())), ((v.2.2.1, ((), ())), (v.2.2.2.1, (v.2.2.2.2.1, ((v.2.2.2.2.2.1, ((), ())), ((v.2.2.2.2.2.2.1, ((), ())), (v.2.2.2.2.2.2.2.1, (v.2.2.2.2.2.2.2.2, ())))))))))) (fun x r => match r with | .inl a0 => .inl ((cu2 (cu4 (a0, (cu (cu4 (cu32 (cu32 (cu32 (cu32 (cu32 ())))))))))), ()) | .inr b0 => (.inr ((cu4 (cu8 (cu32 (cu32 (cu32 (cu32 (cu32 ()))))))), ()))) (fun x v => l39_HandPlays_L7_step x.1 x.2 v.1 v.2.1 v.2.2.1 v.2.2.2.1 v.2.2.2.2.1 v.2.2.2.2.2.1 v.2.2.2.2.2.2.1 v.2.2.2.2.2.2.2.1 v.2.2.2.2.2.2.2.2) (fun x r => .sum r (fun a0 => .ret (.inl ((cu2 (cu4 (a0, (cu (cu4 (cu32 (cu32 (cu32 (cu32 (cu32 ())))))))))), ()))) (fun b0 => .ret (.inr ((cu4 (cu8 (cu32 (cu32 (cu32 (cu32 (cu32 ()))))))), ())))) (fun z => (z.1.2.1, z.1.2.2.1)) (fun z => (z.1.2.2.2.2.2.2.2.2.2.2.2.2.1, z.2.1.1, z.2.2.1.1, z.2.2.2.1, z.2.2.2.2.1, z.2.2.2.2.2.1.1, z.2.2.2.2.2.2.1.1, z.2.2.2.2.2.2.2.1, z.2.2.2.2.2.2.2.2.1)) (fun _ => rfl) (fun _ => rfl) (fun x r Q h => match r, h with | .inl _, h => h | .inr b0, h => (h)) ?_
  intro x v; kernel_rfl

def l39_HandPlays_T (x0 : Int) (x1 : List R39_Act) (x2 : List Str) : Tree Bool :=
  .bnd (r39_Few_T x1) fun y1 =>
  .grd (!(!y1)) (r01_Few_T x2) false fun y2 =>
  .ite (((!y1) || (!y2)) || (decide ((1073741824 : Int) < x0))) (
    .bnd l39_awake_T fun y3 =>
    .ret y3) (
    .bnd (hand_New_T (w64 (x0))) fun y4 =>
    .bnd (.loop (fun v => l39_HandPlays_L7_step x1 x2 v.1 v.2.1 v.2.2.1 v.2.2.2.1 v.2.2.2.2.1 v.2.2.2.2.2.1 v.2.2.2.2.2.2.1 v.2.2.2.2.2.2.2.1 v.2.2.2.2.2.2.2.2) (0, y4.2.1.1, (w64 (x0)), ([], []), ([] : List R39_Over), 0, 0, ([], []), ([] : List R39_Over))) fun r5 =>
    .sum r5 (fun r6 =>
      .ret r6) (fun r7 =>
      .bnd l39_awake_T fun y8 =>
      .ret y8))

def l39_HandPlays_g : Sig := ⟨3, (.cons (.val false (.int .u32)) (.cons (.val false (.list tR39_Act)) (.cons (.val false (.list .str)) .nil))), .vals (.val false .bool), fun z => l39_HandPlays_T z.1 z.2.1 z.2.2.1, false⟩

theorem l39_HandPlays_ok : l39_HandPlays_g.ok Try.prog := by
  refine Sig.lift mix tabOk nms _ Try.func3 (c := (bodyOf Try.f3)) (by kernel_rfl) (o := orM [r39_Few_g, r01_Few_g, l39_awake_g, l39_do_nil_g, hand_Hand_Ready_g, r39_Hand_Ready_g, hand_Hand_Ready_nil_g, hand_Hand_Places_gv, r39_Hand_Places_gv, r01_SameTexts_g, hand_Hand_Places_nil_g] [hand_New_g, l39_do_g, r39_Hand_Start_g, r39_Hand_Taken_g, r39_Hand_Drop_g] [l39_HandPlays_L7] l39_HandPlays_fz) (orM_sound ⟨r39_Few_ok, ⟨r01_Few_ok, ⟨l39_awake_ok, ⟨l39_do_nil_ok, ⟨hand_Hand_Ready_ok, ⟨r39_Hand_Ready_ok, ⟨hand_Hand_Ready_nil_ok, ⟨hand_Hand_Places_okv, ⟨r39_Hand_Places_okv, ⟨r01_SameTexts_ok, ⟨hand_Hand_Places_nil_ok, trivial⟩⟩⟩⟩⟩⟩⟩⟩⟩⟩⟩ ⟨hand_New_ok, ⟨l39_do_ok, ⟨r39_Hand_Start_ok, ⟨r39_Hand_Taken_ok, ⟨r39_Hand_Drop_ok, trivial⟩⟩⟩⟩⟩) (allLp_ofM [nthC (loopsOf (bodyOf Try.f3)) 0] (by kernel_rfl) ⟨l39_HandPlays_L7_ok, trivial⟩ (by kernel_rfl)) ?_
  intro z; kernel_rfl

def l39_HandJust_fz : Nat → List Pre
  | 4 => [.ownC 1 1 0 .smap]
  | _ => []

def l39_HandJust_L6_step (l : List R39_Act) (x_ : (Str × (Str × Str))) (number : Int) (under : Str) (taken : Bool) (i : Int) (h : Int) (rows : Fam) : Tree ((Int × Str × Bool × Int × Int × Fam) ⊕ (Bool ⊕ (Int × Str × Bool × Int × Fam))) :=
  .ite (decide (i < (l.length : Int))) (
    ask (inb i l.length) <|
    .ite (decide ((l.getD i.toNat (dfl tR39_Act : R39_Act)).1 = 3)) (
      .bnd l39_awake_T fun y1 =>
      .ret (.inr (.inl y1))) (
      .bnd (l39_do_T (l.getD i.toNat (dfl tR39_Act : R39_Act)) h rows) fun y2 =>
      ask ((!(decide ((l.getD i.toNat (dfl tR39_Act : R39_Act)).1 = 1))) || inb 0 3) <|
      .ite ((decide ((l.getD i.toNat (dfl tR39_Act : R39_Act)).1 = 1)) && ((l.getD i.toNat (dfl tR39_Act : R39_Act)).2.1 == x_.1)) (
        .ret (.inl (y2.1, (l.getD i.toNat (dfl tR39_Act : R39_Act)).2.2.1, false, (w64 (i + 1)), y2.2.1.1, y2.2.2.1))) (
        .ite (decide ((l.getD i.toNat (dfl tR39_Act : R39_Act)).1 = 2)) (
          ask ((!((!taken) && ((decide ((0 : Int) < number)) && (decide ((l.getD i.toNat (dfl tR39_Act : R39_Act)).2.2.2.2 = number))))) || inb 2 3) <|
          .ret (.inl (number, under, (taken || (((decide ((0 : Int) < number)) && (decide ((l.getD i.toNat (dfl tR39_Act : R39_Act)).2.2.2.2 = number))) && ((l.getD i.toNat (dfl tR39_Act : R39_Act)).2.2.2.1 == x_.2.2))), (w64 (i + 1)), y2.2.1.1, y2.2.2.1))) (
          .ret (.inl (number, under, taken, (w64 (i + 1)), y2.2.1.1, y2.2.2.1)))))) (
    .ret (.inr (.inr (number, under, taken, h, rows))))

def l39_HandJust_L6 : Lp := ⟨6, [], [], (.cons (.val false (.list tR39_Act)) (ca2 (.cons (.ref 0 0) (ca (.cons (.ref 1 0) (.cons (.val false (.int .i64)) (.cons (.val false .str) (.cons (.val false .bool) (.cons (.val false (.int .i64)) (ca (ca2 (ca4 (ca8 (ca32 (ca32 (ca32 .nil)))))))))))))))), (.cells 47 (.cons (.flat (.pair .str (.pair .str .str))) .nil) (.cells 36 (.cons (.val false (.int .i64)) (.cons (.mp 2) .nil)) (.fam .nil))), 0, .more 0 [] (ca4 (.cons (.val false .bool) (ca4 (ca16 (ca32 (ca32 (ca32 .nil))))))) .nil (.one 1 [] (ca (ca2 (.cons (.ref 0 0) (ca (.cons (.ref 1 0) (.cons (.val false (.int .i64)) (.cons (.val false .str) (.cons (.val false .bool) (ca16 (ca32 (ca32 (ca32 .nil)))))))))))) (.cells 47 (.cons (.flat (.pair .str (.pair .str .str))) .nil) (.cells 36 (.cons (.val false (.int .i64)) (.cons (.mp 2) .nil)) (.fam .nil)))), fun z => .bnd (.loop (fun v => l39_HandJust_L6_step z.1.1 z.2.1.1 v.1 v.2.1 v.2.2.1 v.2.2.2.1 v.2.2.2.2.1 v.2.2.2.2.2) (z.1.2.2.2.2.2.2.1, z.1.2.2.2.2.2.2.2.1, z.1.2.2.2.2.2.2.2.2.1, z.1.2.2.2.2.2.2.2.2.2.1, z.2.2.1.1, z.2.2.2.1)) fun r => .sum r (fun a0 => .ret (.inl ((cu4 (a0, (cu4 (cu16 (cu32 (cu32 (cu32 ()))))))), ()))) (fun b0 => .ret (.inr ((cu (cu2 ((), (cu ((), (b0.1, (b0.2.1, (b0.2.2.1, (cu16 (cu32 (cu32 (cu32 ())))))))))))), ((z.2.1.1, ()), ((b0.2.2.2.1, ((), ())), (b0.2.2.2.2, ()))))))⟩

theorem l39_HandJust_L6_ok : l39_HandJust_L6.ok Try.prog (nthC (loopsOf (bodyOf Try.f4)) 0) := by
  refine Lp.lift (π := ((List R39_Act) × (Str × (Str × Str)))) (V := (Int × Str × Bool × Int × Int × Fam)) (ρ := (Bool ⊕ (Int × Str × Bool × Int × Fam))) mix tabOk l39_HandJust_L6 (o := orM [r39_Few_g, l39_awake_g, hand_Hand_Ready_g] [hand_New_g, l39_do_g] [] l39_HandJust_fz) (orM_sound ⟨r39_Few_ok, ⟨l39_awake_ok, ⟨hand_Hand_Ready_ok, trivial⟩⟩⟩ ⟨hand_New_ok, ⟨l39_do_ok, trivial⟩⟩) (allLp_ofM [] (by kernel_rfl) trivial rfl) (fun x v => ((x.1, (cu2 ((), (cu ((), (v.1, (v.2.1, (v.2.2.1, (v.2.2.2.1, (cu (cu2 (cu4 (cu8 (cu32 (cu32 (cu32 ())))))))))))))))), ((x.2, ()), ((v.2.2.2.2.1, ((), ())), (v.2.2.2.2.2, ()))))) (fun x r => match r with | .inl a0 => .inl ((cu4 (a0, (cu4 (cu16 (cu32 (cu32 (cu32 ()))))))), ()) | .inr b0 => (.inr ((cu (cu2 ((), (cu ((), (b0.1, (b0.2.1, (b0.2.2.1, (cu16 (cu32 (cu32 (cu32 ())))))))))))), ((x.2, ()), ((b0.2.2.2.1, ((), ())), (b0.2.2.2.2, ())))))) (fun x v => l39_HandJust_L6_step x.1 x.2 v.1 v.2.1 v.2.2.1 v.2.2.2.1 v.2.2.2.2.1 v.2.2.2.2.2) (fun x r => .sum r (fun a0 => .ret (.inl ((cu4 (a0, (cu4 (cu16 (cu32 (cu32 (cu32 ()))))))), ()))) (fun b0 => .ret (.inr ((cu (cu2 ((), (cu ((), (b0.1, (b0.2.1, (b0.2.2.1, (cu16 (cu32 (cu32 (cu32 ())))))))))))), ((x.2, ()), ((b0.2.2.2.1, ((), ())), (b0.2.2.2.2, ()))))))) (fun z => (z.1.1, z.2.1.1)) (fun z => (z.1.2.2.2.2.2.2.1, z.1.2.2.2.2.2.2.2.1, z.1.2.2.2.2.2.2.2.2.1, z.1.2.2.2.2.2.2.2.2.2.1, z.2.2.1.1, z.2.2.2.1)) (fun _ => rfl) (fun _ => rfl) (fun x r Q h => match r, h with | .inl _, h => h | .inr b0, h => (h)) ?_
  intro x v; kernel_rfl

def l39_HandJust_T (x0 : List R39_Act) (x1 : (Str × (Str × Str))) : Tree Bool :=
  .bnd (r39_Few_T x0) fun y1 =>
  ask ((!(!(!y1))) || inb 0 3) <|
  ask ((!(!((!y1) || (decide ((100 : Int) < (x1.1.length : Int)))))) || inb 1 3) <|
  ask ((!(!(((!y1) || (decide ((100 : Int) < (x1.1.length : Int)))) || (decide ((100 : Int) < (x1.2.1.length : Int)))))) || inb 2 3) <|
  .ite ((((!y1) || (decide ((100 : Int) < (x1.1.length : Int)))) || (decide ((100 : Int) < (x1.2.1.length : Int)))) || (decide ((100 : Int) < (x1.2.2.length : Int)))) (
    .bnd l39_awake_T fun y2 =>
    .ret y2) (
    .bnd (hand_New_T 0) fun y3 =>
    .bnd (.loop (fun v => l39_HandJust_L6_step x0 x1 v.1 v.2.1 v.2.2.1 v.2.2.2.1 v.2.2.2.2.1 v.2.2.2.2.2) ((-1), ([] : Str), false, 0, y3.2.1.1, ([], []))) fun r4 =>
    .sum r4 (fun r5 =>
      .ret r5) (fun r6 =>
      ask (inb 0 3) <|
      ask (inb 1 3) <|
      ask (inb 2 3) <|
      .bnd (hand_Hand_Ready_T r6.2.2.2.1 (famView r6.2.2.2.2.1 r6.2.2.2.2.2) x1.1 x1.2.1 [x1.2.2]) fun y7 =>
      ask ((!(decide ((0 : Int) < r6.1))) || inb 1 3) <|
      ask ((!(y7 == (((decide ((0 : Int) < r6.1)) && (r6.2.1 == x1.2.1)) && r6.2.2.1))) || inb 0 3) <|
      ask ((!(y7 == (((decide ((0 : Int) < r6.1)) && (r6.2.1 == x1.2.1)) && r6.2.2.1))) || inb 1 3) <|
      .grd (y7 == (((decide ((0 : Int) < r6.1)) && (r6.2.1 == x1.2.1)) && r6.2.2.1)) (hand_Hand_Ready_T r6.2.2.2.1 (famView r6.2.2.2.2.1 r6.2.2.2.2.2) x1.1 x1.2.1 []) false fun y8 =>
      .grd ((y7 == (((decide ((0 : Int) < r6.1)) && (r6.2.1 == x1.2.1)) && r6.2.2.1)) && (!y8)) l39_awake_T false fun y9 =>
      .ret (((y7 == (((decide ((0 : Int) < r6.1)) && (r6.2.1 == x1.2.1)) && r6.2.2.1)) && (!y8)) && y9)))

def l39_HandJust_g : Sig := ⟨4, (.cons (.val false (.list tR39_Act)) (.cons (.val true (.pair .str (.pair .str .str))) .nil)), .vals (.val false .bool), fun z => l39_HandJust_T z.1 z.2.1, false⟩

theorem l39_HandJust_ok : l39_HandJust_g.ok Try.prog := by
  refine Sig.lift mix tabOk nms _ Try.func4 (c := (bodyOf Try.f4)) (by kernel_rfl) (o := orM [r39_Few_g, l39_awake_g, hand_Hand_Ready_g] [hand_New_g, l39_do_g] [l39_HandJust_L6] l39_HandJust_fz) (orM_sound ⟨r39_Few_ok, ⟨l39_awake_ok, ⟨hand_Hand_Ready_ok, trivial⟩⟩⟩ ⟨hand_New_ok, ⟨l39_do_ok, trivial⟩⟩) (allLp_ofM [nthC (loopsOf (bodyOf Try.f4)) 0] (by kernel_rfl) ⟨l39_HandJust_L6_ok, trivial⟩ (by kernel_rfl)) ?_
  intro z; kernel_rfl

end Go.Eng
