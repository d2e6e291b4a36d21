/- Lifted: 19 functions, part 1. -/
import Derived.Test.YtgpbegogphcabaaTrG
import Derived.Test.YtgpbegogphcabaaTrF
import Derived.Test.YtgpbegogphcabaaEngT
import Derived.Test.YtgpbegogphcabaaShf
import Derived.Test.YtgpbegogphcabaaTrH
import Derived.Test.YtgpbegogphcabaaTrMk
import Derived.Test.YtgpbegogphcabaaTrO
import Derived.Test.YtgpbegogphcabaaTrS
namespace Go.Eng
open Go Go.Proofs
set_option maxRecDepth 100000


noncomputable def match_pairs_grow_1_rg (r : (Int → (List (Int × Int)) → (List (Int × Int)) → (List (Int × Int)) → (List (Int × Int)) → Tree (Bool × ((Unit × Unit) × ((Unit × Unit) × (((Unit × (Unit × (Unit × (Unit × Unit)))) × Unit) × (((List (Int × Int)) × (Unit × (Unit × Unit))) × ((List (Int × Int)) × ((List (Int × Int)) × ((List (Int × Int)) × Unit)))))))))) : MSig := ⟨82, (.cons (.val false (.int .i64)) (.cons (.ref 0 0) (.cons (.ref 1 0) (.cons (.ref 2 0) .nil)))), (.cells 101 (.cons (.ref 3 0) .nil) (.cells 98 (.cons (.mp 4) .nil) (.cells 128 (.cons (.fn 82 .nil (.cons (.ref 0 0) (.cons (.ref 1 0) (.cons (.ref 2 0) .nil)))) .nil) (.cells 100 (.cons (.val false (.list (.pair (.int .i64) (.int .i64)))) (.cons (.mp 5) (.cons (.mp 6) .nil))) (.map (.int .i64) (.int .i64) (.map (.int .i64) (.int .i64) (.map (.int .i64) (.int .i64) .nil))))))), [], (.val false .bool), (.cells 101 (.cons (.ref 3 0) .nil) (.cells 98 (.cons (.mp 4) .nil) (.cells 128 (.cons (.fn 82 .nil (.cons (.ref 0 0) (.cons (.ref 1 0) (.cons (.ref 2 0) .nil)))) .nil) (.cells 100 (.cons (.val false (.list (.pair (.int .i64) (.int .i64)))) (.cons (.mp 5) (.cons (.mp 6) .nil))) (.map (.int .i64) (.int .i64) (.map (.int .i64) (.int .i64) (.map (.int .i64) (.int .i64) .nil))))))), none, fun z => r z.1.1 z.2.2.2.2.1.1 z.2.2.2.2.2.1 z.2.2.2.2.2.2.1 z.2.2.2.2.2.2.2.1⟩

noncomputable def match_pairs_grow_1_fz : Nat → List Pre
  | 7 => [.twoN 12]
  | 8 => [.frz 7]
  | _ => []

noncomputable def match_pairs_grow_1_L2_step (r : (Int → (List (Int × Int)) → (List (Int × Int)) → (List (Int × Int)) → (List (Int × Int)) → Tree (Bool × ((Unit × Unit) × ((Unit × Unit) × (((Unit × (Unit × (Unit × (Unit × Unit)))) × Unit) × (((List (Int × Int)) × (Unit × (Unit × Unit))) × ((List (Int × Int)) × ((List (Int × Int)) × ((List (Int × Int)) × Unit)))))))))) (number : Int) (t : List (Int × Int)) (t2 : Int) (t3 : Int) (c : List (Int × Int)) (rows : List (Int × Int)) (rows2 : List (Int × Int)) (rows3 : List (Int × Int)) : Tree ((Int × (List (Int × Int)) × (List (Int × Int)) × (List (Int × Int)) × (List (Int × Int))) ⊕ ((Bool × (List (Int × Int)) × (List (Int × Int)) × (List (Int × Int)) × (List (Int × Int))) ⊕ ((List (Int × Int)) × (List (Int × Int)) × (List (Int × Int)) × (List (Int × Int))))) :=
  .ite (decide (t3 < t2)) (
    ask (inb t3 t.length) <|
    ask (inb 0 2) <|
    ask ((!(!(!decide ((t.getD t3.toNat (dfl (.pair (.int .i64) (.int .i64)) : (Int × Int))).1 = number)))) || inb 1 2) <|
    .ite ((!decide ((t.getD t3.toNat (dfl (.pair (.int .i64) (.int .i64)) : (Int × Int))).1 = number)) || (decide ((0 : Int) < ((getM (.int .i64) (.int .i64) rows (t.getD t3.toNat (dfl (.pair (.int .i64) (.int .i64)) : (Int × Int))).2).getD (0 : Int))))) (
      .ret (.inl ((w64 (t3 + 1)), c, rows, rows2, rows3))) (
      ask (inb 1 2) <|
      ask (decide ((putM (.int .i64) (.int .i64) rows (t.getD t3.toNat (dfl (.pair (.int .i64) (.int .i64)) : (Int × Int))).2 1).length ≤ 9223372036854775807)) <|
      ask (inb 1 2) <|
      ask ((!(!(!((getM (.int .i64) (.int .i64) rows3 (t.getD t3.toNat (dfl (.pair (.int .i64) (.int .i64)) : (Int × Int))).2).isSome)))) || inb ((getM (.int .i64) (.int .i64) rows3 (t.getD t3.toNat (dfl (.pair (.int .i64) (.int .i64)) : (Int × Int))).2).getD (0 : Int)) c.length) <|
      ask ((!(!(!((getM (.int .i64) (.int .i64) rows3 (t.getD t3.toNat (dfl (.pair (.int .i64) (.int .i64)) : (Int × Int))).2).isSome)))) || inb 0 2) <|
      .ite (!(!((getM (.int .i64) (.int .i64) rows3 (t.getD t3.toNat (dfl (.pair (.int .i64) (.int .i64)) : (Int × Int))).2).isSome))) (
        .bnd (r (c.getD (((getM (.int .i64) (.int .i64) rows3 (t.getD t3.toNat (dfl (.pair (.int .i64) (.int .i64)) : (Int × Int))).2).getD (0 : Int)).toNat) (dfl (.pair (.int .i64) (.int .i64)) : (Int × Int))).1 c (putM (.int .i64) (.int .i64) rows (t.getD t3.toNat (dfl (.pair (.int .i64) (.int .i64)) : (Int × Int))).2 1) rows2 rows3) fun y1 =>
        .ite ((!((getM (.int .i64) (.int .i64) rows3 (t.getD t3.toNat (dfl (.pair (.int .i64) (.int .i64)) : (Int × Int))).2).isSome)) || y1.1) (
          ask (inb 1 2) <|
          .both (
            .both (
              ask (decide ((entM (.int .i64) (.int .i64) y1.2.2.2.2.2.2.1 number (0 : Int)).length ≤ 9223372036854775807)) <|
              ask (inb ((posM (.int .i64) (.int .i64) y1.2.2.2.2.2.2.1 number : Nat) : Int) (entM (.int .i64) (.int .i64) y1.2.2.2.2.2.2.1 number (0 : Int)).length) <|
              ask (decide ((entM (.int .i64) (.int .i64) y1.2.2.2.2.2.2.2.1 (t.getD t3.toNat (dfl (.pair (.int .i64) (.int .i64)) : (Int × Int))).2 (0 : Int)).length ≤ 9223372036854775807)) <|
              ask (inb ((posM (.int .i64) (.int .i64) y1.2.2.2.2.2.2.2.1 (t.getD t3.toNat (dfl (.pair (.int .i64) (.int .i64)) : (Int × Int))).2 : Nat) : Int) (entM (.int .i64) (.int .i64) y1.2.2.2.2.2.2.2.1 (t.getD t3.toNat (dfl (.pair (.int .i64) (.int .i64)) : (Int × Int))).2 (0 : Int)).length) <|
              .ret (.inr (.inl (true, y1.2.2.2.2.1.1, y1.2.2.2.2.2.1, ((entM (.int .i64) (.int .i64) y1.2.2.2.2.2.2.1 number (0 : Int)).modify ((posM (.int .i64) (.int .i64) y1.2.2.2.2.2.2.1 number : Nat) : Int).toNat fun q => (q.1, t3)), ((entM (.int .i64) (.int .i64) y1.2.2.2.2.2.2.2.1 (t.getD t3.toNat (dfl (.pair (.int .i64) (.int .i64)) : (Int × Int))).2 (0 : Int)).modify ((posM (.int .i64) (.int .i64) y1.2.2.2.2.2.2.2.1 (t.getD t3.toNat (dfl (.pair (.int .i64) (.int .i64)) : (Int × Int))).2 : Nat) : Int).toNat fun q => (q.1, t3)))))) (
              .both (
                ask (decide ((entM (.int .i64) (.int .i64) y1.2.2.2.2.2.2.1 number (0 : Int)).length ≤ 9223372036854775807)) <|
                ask (inb ((posM (.int .i64) (.int .i64) y1.2.2.2.2.2.2.1 number : Nat) : Int) (entM (.int .i64) (.int .i64) y1.2.2.2.2.2.2.1 number (0 : Int)).length) <|
                ask (decide ((entM (.int .i64) (.int .i64) y1.2.2.2.2.2.2.2.1 (t.getD t3.toNat (dfl (.pair (.int .i64) (.int .i64)) : (Int × Int))).2 (0 : Int)).length ≤ 9223372036854775807)) <|
                ask (inb ((posM (.int .i64) (.int .i64) y1.2.2.2.2.2.2.2.1 (t.getD t3.toNat (dfl (.pair (.int .i64) (.int .i64)) : (Int × Int))).2 : Nat) : Int) (entM (.int .i64) (.int .i64) y1.2.2.2.2.2.2.2.1 (t.getD t3.toNat (dfl (.pair (.int .i64) (.int .i64)) : (Int × Int))).2 (0 : Int)).length) <|
                .ret (.inr (.inl (true, y1.2.2.2.2.1.1, y1.2.2.2.2.2.1, ((entM (.int .i64) (.int .i64) y1.2.2.2.2.2.2.1 number (0 : Int)).modify ((posM (.int .i64) (.int .i64) y1.2.2.2.2.2.2.1 number : Nat) : Int).toNat fun q => (q.1, t3)), ((entM (.int .i64) (.int .i64) y1.2.2.2.2.2.2.2.1 (t.getD t3.toNat (dfl (.pair (.int .i64) (.int .i64)) : (Int × Int))).2 (0 : Int)).modify ((posM (.int .i64) (.int .i64) y1.2.2.2.2.2.2.2.1 (t.getD t3.toNat (dfl (.pair (.int .i64) (.int .i64)) : (Int × Int))).2 : Nat) : Int).toNat fun q => (q.1, t3)))))) (
                ask (decide ((entM (.int .i64) (.int .i64) y1.2.2.2.2.2.2.1 number (0 : Int)).length ≤ 9223372036854775807)) <|
                ask (inb ((posM (.int .i64) (.int .i64) y1.2.2.2.2.2.2.1 number : Nat) : Int) (entM (.int .i64) (.int .i64) y1.2.2.2.2.2.2.1 number (0 : Int)).length) <|
                ask (decide ((entM (.int .i64) (.int .i64) y1.2.2.2.2.2.2.2.1 (t.getD t3.toNat (dfl (.pair (.int .i64) (.int .i64)) : (Int × Int))).2 (0 : Int)).length ≤ 9223372036854775807)) <|
                ask (inb ((posM (.int .i64) (.int .i64) y1.2.2.2.2.2.2.2.1 (t.getD t3.toNat (dfl (.pair (.int .i64) (.int .i64)) : (Int × Int))).2 : Nat) : Int) (entM (.int .i64) (.int .i64) y1.2.2.2.2.2.2.2.1 (t.getD t3.toNat (dfl (.pair (.int .i64) (.int .i64)) : (Int × Int))).2 (0 : Int)).length) <|
                .ret (.inr (.inl (true, y1.2.2.2.2.1.1, y1.2.2.2.2.2.1, ((entM (.int .i64) (.int .i64) y1.2.2.2.2.2.2.1 number (0 : Int)).modify ((posM (.int .i64) (.int .i64) y1.2.2.2.2.2.2.1 number : Nat) : Int).toNat fun q => (q.1, t3)), ((entM (.int .i64) (.int .i64) y1.2.2.2.2.2.2.2.1 (t.getD t3.toNat (dfl (.pair (.int .i64) (.int .i64)) : (Int × Int))).2 (0 : Int)).modify ((posM (.int .i64) (.int .i64) y1.2.2.2.2.2.2.2.1 (t.getD t3.toNat (dfl (.pair (.int .i64) (.int .i64)) : (Int × Int))).2 : Nat) : Int).toNat fun q => (q.1, t3)))))))) (
            .both (
              .both (
                ask (decide ((entM (.int .i64) (.int .i64) y1.2.2.2.2.2.2.1 number (0 : Int)).length ≤ 9223372036854775807)) <|
                ask (inb ((posM (.int .i64) (.int .i64) y1.2.2.2.2.2.2.1 number : Nat) : Int) (entM (.int .i64) (.int .i64) y1.2.2.2.2.2.2.1 number (0 : Int)).length) <|
                ask (decide ((entM (.int .i64) (.int .i64) y1.2.2.2.2.2.2.2.1 (t.getD t3.toNat (dfl (.pair (.int .i64) (.int .i64)) : (Int × Int))).2 (0 : Int)).length ≤ 9223372036854775807)) <|
                ask (inb ((posM (.int .i64) (.int .i64) y1.2.2.2.2.2.2.2.1 (t.getD t3.toNat (dfl (.pair (.int .i64) (.int .i64)) : (Int × Int))).2 : Nat) : Int) (entM (.int .i64) (.int .i64) y1.2.2.2.2.2.2.2.1 (t.getD t3.toNat (dfl (.pair (.int .i64) (.int .i64)) : (Int × Int))).2 (0 : Int)).length) <|
                .ret (.inr (.inl (true, y1.2.2.2.2.1.1, y1.2.2.2.2.2.1, ((entM (.int .i64) (.int .i64) y1.2.2.2.2.2.2.1 number (0 : Int)).modify ((posM (.int .i64) (.int .i64) y1.2.2.2.2.2.2.1 number : Nat) : Int).toNat fun q => (q.1, t3)), ((entM (.int .i64) (.int .i64) y1.2.2.2.2.2.2.2.1 (t.getD t3.toNat (dfl (.pair (.int .i64) (.int .i64)) : (Int × Int))).2 (0 : Int)).modify ((posM (.int .i64) (.int .i64) y1.2.2.2.2.2.2.2.1 (t.getD t3.toNat (dfl (.pair (.int .i64) (.int .i64)) : (Int × Int))).2 : Nat) : Int).toNat fun q => (q.1, t3)))))) (
                ask (decide ((entM (.int .i64) (.int .i64) y1.2.2.2.2.2.2.1 number (0 : Int)).length ≤ 9223372036854775807)) <|
                ask (inb ((posM (.int .i64) (.int .i64) y1.2.2.2.2.2.2.1 number : Nat) : Int) (entM (.int .i64) (.int .i64) y1.2.2.2.2.2.2.1 number (0 : Int)).length) <|
                ask (decide ((entM (.int .i64) (.int .i64) y1.2.2.2.2.2.2.2.1 (t.getD t3.toNat (dfl (.pair (.int .i64) (.int .i64)) : (Int × Int))).2 (0 : Int)).length ≤ 9223372036854775807)) <|
                ask (inb ((posM (.int .i64) (.int .i64) y1.2.2.2.2.2.2.2.1 (t.getD t3.toNat (dfl (.pair (.int .i64) (.int .i64)) : (Int × Int))).2 : Nat) : Int) (entM (.int .i64) (.int .i64) y1.2.2.2.2.2.2.2.1 (t.getD t3.toNat (dfl (.pair (.int .i64) (.int .i64)) : (Int × Int))).2 (0 : Int)).length) <|
                .ret (.inr (.inl (true, y1.2.2.2.2.1.1, y1.2.2.2.2.2.1, ((entM (.int .i64) (.int .i64) y1.2.2.2.2.2.2.1 number (0 : Int)).modify ((posM (.int .i64) (.int .i64) y1.2.2.2.2.2.2.1 number : Nat) : Int).toNat fun q => (q.1, t3)), ((entM (.int .i64) (.int .i64) y1.2.2.2.2.2.2.2.1 (t.getD t3.toNat (dfl (.pair (.int .i64) (.int .i64)) : (Int × Int))).2 (0 : Int)).modify ((posM (.int .i64) (.int .i64) y1.2.2.2.2.2.2.2.1 (t.getD t3.toNat (dfl (.pair (.int .i64) (.int .i64)) : (Int × Int))).2 : Nat) : Int).toNat fun q => (q.1, t3))))))) (
              ask (decide ((entM (.int .i64) (.int .i64) y1.2.2.2.2.2.2.1 number (0 : Int)).length ≤ 9223372036854775807)) <|
              ask (inb ((posM (.int .i64) (.int .i64) y1.2.2.2.2.2.2.1 number : Nat) : Int) (entM (.int .i64) (.int .i64) y1.2.2.2.2.2.2.1 number (0 : Int)).length) <|
              ask (decide ((entM (.int .i64) (.int .i64) y1.2.2.2.2.2.2.2.1 (t.getD t3.toNat (dfl (.pair (.int .i64) (.int .i64)) : (Int × Int))).2 (0 : Int)).length ≤ 9223372036854775807)) <|
              ask (inb ((posM (.int .i64) (.int .i64) y1.2.2.2.2.2.2.2.1 (t.getD t3.toNat (dfl (.pair (.int .i64) (.int .i64)) : (Int × Int))).2 : Nat) : Int) (entM (.int .i64) (.int .i64) y1.2.2.2.2.2.2.2.1 (t.getD t3.toNat (dfl (.pair (.int .i64) (.int .i64)) : (Int × Int))).2 (0 : Int)).length) <|
              .ret (.inr (.inl (true, y1.2.2.2.2.1.1, y1.2.2.2.2.2.1, ((entM (.int .i64) (.int .i64) y1.2.2.2.2.2.2.1 number (0 : Int)).modify ((posM (.int .i64) (.int .i64) y1.2.2.2.2.2.2.1 number : Nat) : Int).toNat fun q => (q.1, t3)), ((entM (.int .i64) (.int .i64) y1.2.2.2.2.2.2.2.1 (t.getD t3.toNat (dfl (.pair (.int .i64) (.int .i64)) : (Int × Int))).2 (0 : Int)).modify ((posM (.int .i64) (.int .i64) y1.2.2.2.2.2.2.2.1 (t.getD t3.toNat (dfl (.pair (.int .i64) (.int .i64)) : (Int × Int))).2 : Nat) : Int).toNat fun q => (q.1, t3)))))))) (
          .ret (.inl ((w64 (t3 + 1)), y1.2.2.2.2.1.1, y1.2.2.2.2.2.1, y1.2.2.2.2.2.2.1, y1.2.2.2.2.2.2.2.1)))) (
        .ite ((!((getM (.int .i64) (.int .i64) rows3 (t.getD t3.toNat (dfl (.pair (.int .i64) (.int .i64)) : (Int × Int))).2).isSome)) || true) (
          ask (inb 1 2) <|
          .both (
            .both (
              ask (decide ((entM (.int .i64) (.int .i64) rows2 number (0 : Int)).length ≤ 9223372036854775807)) <|
              ask (inb ((posM (.int .i64) (.int .i64) rows2 number : Nat) : Int) (entM (.int .i64) (.int .i64) rows2 number (0 : Int)).length) <|
              ask (decide ((entM (.int .i64) (.int .i64) rows3 (t.getD t3.toNat (dfl (.pair (.int .i64) (.int .i64)) : (Int × Int))).2 (0 : Int)).length ≤ 9223372036854775807)) <|
              ask (inb ((posM (.int .i64) (.int .i64) rows3 (t.getD t3.toNat (dfl (.pair (.int .i64) (.int .i64)) : (Int × Int))).2 : Nat) : Int) (entM (.int .i64) (.int .i64) rows3 (t.getD t3.toNat (dfl (.pair (.int .i64) (.int .i64)) : (Int × Int))).2 (0 : Int)).length) <|
              .ret (.inr (.inl (true, c, (putM (.int .i64) (.int .i64) rows (t.getD t3.toNat (dfl (.pair (.int .i64) (.int .i64)) : (Int × Int))).2 1), ((entM (.int .i64) (.int .i64) rows2 number (0 : Int)).modify ((posM (.int .i64) (.int .i64) rows2 number : Nat) : Int).toNat fun q => (q.1, t3)), ((entM (.int .i64) (.int .i64) rows3 (t.getD t3.toNat (dfl (.pair (.int .i64) (.int .i64)) : (Int × Int))).2 (0 : Int)).modify ((posM (.int .i64) (.int .i64) rows3 (t.getD t3.toNat (dfl (.pair (.int .i64) (.int .i64)) : (Int × Int))).2 : Nat) : Int).toNat fun q => (q.1, t3)))))) (
              .both (
                ask (decide ((entM (.int .i64) (.int .i64) rows2 number (0 : Int)).length ≤ 9223372036854775807)) <|
                ask (inb ((posM (.int .i64) (.int .i64) rows2 number : Nat) : Int) (entM (.int .i64) (.int .i64) rows2 number (0 : Int)).length) <|
                ask (decide ((entM (.int .i64) (.int .i64) rows3 (t.getD t3.toNat (dfl (.pair (.int .i64) (.int .i64)) : (Int × Int))).2 (0 : Int)).length ≤ 9223372036854775807)) <|
                ask (inb ((posM (.int .i64) (.int .i64) rows3 (t.getD t3.toNat (dfl (.pair (.int .i64) (.int .i64)) : (Int × Int))).2 : Nat) : Int) (entM (.int .i64) (.int .i64) rows3 (t.getD t3.toNat (dfl (.pair (.int .i64) (.int .i64)) : (Int × Int))).2 (0 : Int)).length) <|
                .ret (.inr (.inl (true, c, (putM (.int .i64) (.int .i64) rows (t.getD t3.toNat (dfl (.pair (.int .i64) (.int .i64)) : (Int × Int))).2 1), ((entM (.int .i64) (.int .i64) rows2 number (0 : Int)).modify ((posM (.int .i64) (.int .i64) rows2 number : Nat) : Int).toNat fun q => (q.1, t3)), ((entM (.int .i64) (.int .i64) rows3 (t.getD t3.toNat (dfl (.pair (.int .i64) (.int .i64)) : (Int × Int))).2 (0 : Int)).modify ((posM (.int .i64) (.int .i64) rows3 (t.getD t3.toNat (dfl (.pair (.int .i64) (.int .i64)) : (Int × Int))).2 : Nat) : Int).toNat fun q => (q.1, t3)))))) (
                ask (decide ((entM (.int .i64) (.int .i64) rows2 number (0 : Int)).length ≤ 9223372036854775807)) <|
                ask (inb ((posM (.int .i64) (.int .i64) rows2 number : Nat) : Int) (entM (.int .i64) (.int .i64) rows2 number (0 : Int)).length) <|
                ask (decide ((entM (.int .i64) (.int .i64) rows3 (t.getD t3.toNat (dfl (.pair (.int .i64) (.int .i64)) : (Int × Int))).2 (0 : Int)).length ≤ 9223372036854775807)) <|
                ask (inb ((posM (.int .i64) (.int .i64) rows3 (t.getD t3.toNat (dfl (.pair (.int .i64) (.int .i64)) : (Int × Int))).2 : Nat) : Int) (entM (.int .i64) (.int .i64) rows3 (t.getD t3.toNat (dfl (.pair (.int .i64) (.int .i64)) : (Int × Int))).2 (0 : Int)).length) <|
                .ret (.inr (.inl (true, c, (putM (.int .i64) (.int .i64) rows (t.getD t3.toNat (dfl (.pair (.int .i64) (.int .i64)) : (Int × Int))).2 1), ((entM (.int .i64) (.int .i64) rows2 number (0 : Int)).modify ((posM (.int .i64) (.int .i64) rows2 number : Nat) : Int).toNat fun q => (q.1, t3)), ((entM (.int .i64) (.int .i64) rows3 (t.getD t3.toNat (dfl (.pair (.int .i64) (.int .i64)) : (Int × Int))).2 (0 : Int)).modify ((posM (.int .i64) (.int .i64) rows3 (t.getD t3.toNat (dfl (.pair (.int .i64) (.int .i64)) : (Int × Int))).2 : Nat) : Int).toNat fun q => (q.1, t3)))))))) (
            .both (
              .both (
                ask (decide ((entM (.int .i64) (.int .i64) rows2 number (0 : Int)).length ≤ 9223372036854775807)) <|
                ask (inb ((posM (.int .i64) (.int .i64) rows2 number : Nat) : Int) (entM (.int .i64) (.int .i64) rows2 number (0 : Int)).length) <|
                ask (decide ((entM (.int .i64) (.int .i64) rows3 (t.getD t3.toNat (dfl (.pair (.int .i64) (.int .i64)) : (Int × Int))).2 (0 : Int)).length ≤ 9223372036854775807)) <|
                ask (inb ((posM (.int .i64) (.int .i64) rows3 (t.getD t3.toNat (dfl (.pair (.int .i64) (.int .i64)) : (Int × Int))).2 : Nat) : Int) (entM (.int .i64) (.int .i64) rows3 (t.getD t3.toNat (dfl (.pair (.int .i64) (.int .i64)) : (Int × Int))).2 (0 : Int)).length) <|
                .ret (.inr (.inl (true, c, (putM (.int .i64) (.int .i64) rows (t.getD t3.toNat (dfl (.pair (.int .i64) (.int .i64)) : (Int × Int))).2 1), ((entM (.int .i64) (.int .i64) rows2 number (0 : Int)).modify ((posM (.int .i64) (.int .i64) rows2 number : Nat) : Int).toNat fun q => (q.1, t3)), ((entM (.int .i64) (.int .i64) rows3 (t.getD t3.toNat (dfl (.pair (.int .i64) (.int .i64)) : (Int × Int))).2 (0 : Int)).modify ((posM (.int .i64) (.int .i64) rows3 (t.getD t3.toNat (dfl (.pair (.int .i64) (.int .i64)) : (Int × Int))).2 : Nat) : Int).toNat fun q => (q.1, t3)))))) (
                ask (decide ((entM (.int .i64) (.int .i64) rows2 number (0 : Int)).length ≤ 9223372036854775807)) <|
                ask (inb ((posM (.int .i64) (.int .i64) rows2 number : Nat) : Int) (entM (.int .i64) (.int .i64) rows2 number (0 : Int)).length) <|
                ask (decide ((entM (.int .i64) (.int .i64) rows3 (t.getD t3.toNat (dfl (.pair (.int .i64) (.int .i64)) : (Int × Int))).2 (0 : Int)).length ≤ 9223372036854775807)) <|
                ask (inb ((posM (.int .i64) (.int .i64) rows3 (t.getD t3.toNat (dfl (.pair (.int .i64) (.int .i64)) : (Int × Int))).2 : Nat) : Int) (entM (.int .i64) (.int .i64) rows3 (t.getD t3.toNat (dfl (.pair (.int .i64) (.int .i64)) : (Int × Int))).2 (0 : Int)).length) <|
                .ret (.inr (.inl (true, c, (putM (.int .i64) (.int .i64) rows (t.getD t3.toNat (dfl (.pair (.int .i64) (.int .i64)) : (Int × Int))).2 1), ((entM (.int .i64) (.int .i64) rows2 number (0 : Int)).modify ((posM (.int .i64) (.int .i64) rows2 number : Nat) : Int).toNat fun q => (q.1, t3)), ((entM (.int .i64) (.int .i64) rows3 (t.getD t3.toNat (dfl (.pair (.int .i64) (.int .i64)) : (Int × Int))).2 (0 : Int)).modify ((posM (.int .i64) (.int .i64) rows3 (t.getD t3.toNat (dfl (.pair (.int .i64) (.int .i64)) : (Int × Int))).2 : Nat) : Int).toNat fun q => (q.1, t3))))))) (
              ask (decide ((entM (.int .i64) (.int .i64) rows2 number (0 : Int)).length ≤ 9223372036854775807)) <|
              ask (inb ((posM (.int .i64) (.int .i64) rows2 number : Nat) : Int) (entM (.int .i64) (.int .i64) rows2 number (0 : Int)).length) <|
              ask (decide ((entM (.int .i64) (.int .i64) rows3 (t.getD t3.toNat (dfl (.pair (.int .i64) (.int .i64)) : (Int × Int))).2 (0 : Int)).length ≤ 9223372036854775807)) <|
              ask (inb ((posM (.int .i64) (.int .i64) rows3 (t.getD t3.toNat (dfl (.pair (.int .i64) (.int .i64)) : (Int × Int))).2 : Nat) : Int) (entM (.int .i64) (.int .i64) rows3 (t.getD t3.toNat (dfl (.pair (.int .i64) (.int .i64)) : (Int × Int))).2 (0 : Int)).length) <|
              .ret (.inr (.inl (true, c, (putM (.int .i64) (.int .i64) rows (t.getD t3.toNat (dfl (.pair (.int .i64) (.int .i64)) : (Int × Int))).2 1), ((entM (.int .i64) (.int .i64) rows2 number (0 : Int)).modify ((posM (.int .i64) (.int .i64) rows2 number : Nat) : Int).toNat fun q => (q.1, t3)), ((entM (.int .i64) (.int .i64) rows3 (t.getD t3.toNat (dfl (.pair (.int .i64) (.int .i64)) : (Int × Int))).2 (0 : Int)).modify ((posM (.int .i64) (.int .i64) rows3 (t.getD t3.toNat (dfl (.pair (.int .i64) (.int .i64)) : (Int × Int))).2 : Nat) : Int).toNat fun q => (q.1, t3)))))))) (
          .ret (.inl ((w64 (t3 + 1)), c, (putM (.int .i64) (.int .i64) rows (t.getD t3.toNat (dfl (.pair (.int .i64) (.int .i64)) : (Int × Int))).2 1), rows2, rows3)))))) (
    .ret (.inr (.inr (c, rows, rows2, rows3))))

noncomputable def match_pairs_grow_1_L2 (r : (Int → (List (Int × Int)) → (List (Int × Int)) → (List (Int × Int)) → (List (Int × Int)) → Tree (Bool × ((Unit × Unit) × ((Unit × Unit) × (((Unit × (Unit × (Unit × (Unit × Unit)))) × Unit) × (((List (Int × Int)) × (Unit × (Unit × Unit))) × ((List (Int × Int)) × ((List (Int × Int)) × ((List (Int × Int)) × Unit)))))))))) : Lp := ⟨2, [], [], (.cons (.val false (.int .i64)) (.cons (.ref 0 0) (.cons (.ref 1 0) (.cons (.ref 2 0) (ca (ca8 (.cons (.val false (.list (.pair (.int .i64) (.int .i64)))) (.cons (.val false (.int .i64)) (.cons (.val false (.int .i64)) (ca4 (ca8 (ca16 (ca32 .nil))))))))))))), (.cells 101 (.cons (.ref 3 0) .nil) (.cells 98 (.cons (.mp 4) .nil) (.cells 128 (.cons (.fn 82 .nil (.cons (.ref 0 0) (.cons (.ref 1 0) (.cons (.ref 2 0) .nil)))) .nil) (.cells 100 (.cons (.val false (.list (.pair (.int .i64) (.int .i64)))) (.cons (.mp 5) (.cons (.mp 6) .nil))) (.map (.int .i64) (.int .i64) (.map (.int .i64) (.int .i64) (.map (.int .i64) (.int .i64) .nil))))))), 7, .more 0 [] (ca (ca4 (.cons (.val false .bool) (ca2 (ca4 (ca32 (ca32 .nil))))))) (.cells 101 (.cons (.ref 3 0) .nil) (.cells 98 (.cons (.mp 4) .nil) (.cells 128 (.cons (.fn 82 .nil (.cons (.ref 0 0) (.cons (.ref 1 0) (.cons (.ref 2 0) .nil)))) .nil) (.cells 100 (.cons (.val false (.list (.pair (.int .i64) (.int .i64)))) (.cons (.mp 5) (.cons (.mp 6) .nil))) (.map (.int .i64) (.int .i64) (.map (.int .i64) (.int .i64) (.map (.int .i64) (.int .i64) .nil))))))) (.one 1 [] (ca4 (ca8 (ca32 (ca32 .nil)))) (.cells 101 (.cons (.ref 3 0) .nil) (.cells 98 (.cons (.mp 4) .nil) (.cells 128 (.cons (.fn 82 .nil (.cons (.ref 0 0) (.cons (.ref 1 0) (.cons (.ref 2 0) .nil)))) .nil) (.cells 100 (.cons (.val false (.list (.pair (.int .i64) (.int .i64)))) (.cons (.mp 5) (.cons (.mp 6) .nil))) (.map (.int .i64) (.int .i64) (.map (.int .i64) (.int .i64) (.map (.int .i64) (.int .i64) .nil)))))))), fun z => .bnd (.loop (fun v => (match_pairs_grow_1_L2_step r) z.1.1 z.1.2.2.2.2.2.2.2.2.2.2.2.2.2.1 z.1.2.2.2.2.2.2.2.2.2.2.2.2.2.2.1 v.1 v.2.1 v.2.2.1 v.2.2.2.1 v.2.2.2.2) (z.1.2.2.2.2.2.2.2.2.2.2.2.2.2.2.2.1, z.2.2.2.2.1.1, z.2.2.2.2.2.1, z.2.2.2.2.2.2.1, z.2.2.2.2.2.2.2.1)) fun r => .sum r (fun a0 => .ret (.inl ((cu (cu4 (a0.1, (cu2 (cu4 (cu32 (cu32 ()))))))), (((), ()), (((), ()), ((((), ((), ((), ((), ())))), ()), ((a0.2.1, ((), ((), ()))), (a0.2.2.1, (a0.2.2.2.1, (a0.2.2.2.2, ())))))))))) (fun b0 => .ret (.inr ((cu4 (cu8 (cu32 (cu32 ())))), (((), ()), (((), ()), ((((), ((), ((), ((), ())))), ()), ((b0.1, ((), ((), ()))), (b0.2.1, (b0.2.2.1, (b0.2.2.2, ()))))))))))⟩

theorem match_pairs_grow_1_L2_ok (r : (Int → (List (Int × Int)) → (List (Int × Int)) → (List (Int × Int)) → (List (Int × Int)) → Tree (Bool × ((Unit × Unit) × ((Unit × Unit) × (((Unit × (Unit × (Unit × (Unit × Unit)))) × Unit) × (((List (Int × Int)) × (Unit × (Unit × Unit))) × ((List (Int × Int)) × ((List (Int × Int)) × ((List (Int × Int)) × Unit)))))))))) (hr : (match_pairs_grow_1_rg r).ok Try.prog) : (match_pairs_grow_1_L2 r).ok Try.prog (nthC (loopsOf (bodyOf Try.f82)) 0) := by
  refine Lp.lift (π := (Int × (List (Int × Int)) × Int)) (V := (Int × (List (Int × Int)) × (List (Int × Int)) × (List (Int × Int)) × (List (Int × Int)))) (ρ := ((Bool × (List (Int × Int)) × (List (Int × Int)) × (List (Int × Int)) × (List (Int × Int))) ⊕ ((List (Int × Int)) × (List (Int × Int)) × (List (Int × Int)) × (List (Int × Int))))) mix tabOk (match_pairs_grow_1_L2 r) (o := orM [] [(match_pairs_grow_1_rg r)] [] match_pairs_grow_1_fz) (orM_sound trivial ⟨hr, trivial⟩) (allLp_ofM [] (by kernel_rfl) trivial rfl) (fun x v => ((x.1, ((), ((), ((), (cu (cu8 (x.2.1, (x.2.2, (v.1, (cu4 (cu8 (cu16 (cu32 ()))))))))))))), (((), ()), (((), ()), ((((), ((), ((), ((), ())))), ()), ((v.2.1, ((), ((), ()))), (v.2.2.1, (v.2.2.2.1, (v.2.2.2.2, ()))))))))) (fun x r => match r with | .inl a0 => .inl ((cu (cu4 (a0.1, (cu2 (cu4 (cu32 (cu32 ()))))))), (((), ()), (((), ()), ((((), ((), ((), ((), ())))), ()), ((a0.2.1, ((), ((), ()))), (a0.2.2.1, (a0.2.2.2.1, (a0.2.2.2.2, ())))))))) | .inr b0 => (.inr ((cu4 (cu8 (cu32 (cu32 ())))), (((), ()), (((), ()), ((((), ((), ((), ((), ())))), ()), ((b0.1, ((), ((), ()))), (b0.2.1, (b0.2.2.1, (b0.2.2.2, ())))))))))) (fun x v => (match_pairs_grow_1_L2_step r) x.1 x.2.1 x.2.2 v.1 v.2.1 v.2.2.1 v.2.2.2.1 v.2.2.2.2) (fun x r => .sum r (fun a0 => .ret (.inl ((cu (cu4 (a0.1, (cu2 (cu4 (cu32 (cu32 ()))))))), (((), ()), (((), ()), ((((), ((), ((), ((), ())))), ()), ((a0.2.1, ((), ((), ()))), (a0.2.2.1, (a0.2.2.2.1, (a0.2.2.2.2, ())))))))))) (fun b0 => .ret (.inr ((cu4 (cu8 (cu32 (cu32 ())))), (((), ()), (((), ()), ((((), ((), ((), ((), ())))), ()), ((b0.1, ((), ((), ()))), (b0.2.1, (b0.2.2.1, (b0.2.2.2, ()))))))))))) (fun z => (z.1.1, z.1.2.2.2.2.2.2.2.2.2.2.2.2.2.1, z.1.2.2.2.2.2.2.2.2.2.2.2.2.2.2.1)) (fun z => (z.1.2.2.2.2.2.2.2.2.2.2.2.2.2.2.2.1, z.2.2.2.2.1.1, z.2.2.2.2.2.1, z.2.2.2.2.2.2.1, z.2.2.2.2.2.2.2.1)) (fun _ => rfl) (fun _ => rfl) (fun x r Q h => match r, h with | .inl _, h => h | .inr b0, h => (h)) ?_
  intro x v; kernel_rfl

noncomputable def match_pairs_grow_1_BT (r : (Int → (List (Int × Int)) → (List (Int × Int)) → (List (Int × Int)) → (List (Int × Int)) → Tree (Bool × ((Unit × Unit) × ((Unit × Unit) × (((Unit × (Unit × (Unit × (Unit × Unit)))) × Unit) × (((List (Int × Int)) × (Unit × (Unit × Unit))) × ((List (Int × Int)) × ((List (Int × Int)) × ((List (Int × Int)) × Unit)))))))))) (x0 : Int) (x1 : List (Int × Int)) (x2 : List (Int × Int)) (x3 : List (Int × Int)) (x4 : List (Int × Int)) : Tree (Bool × ((Unit × Unit) × ((Unit × Unit) × (((Unit × (Unit × (Unit × (Unit × Unit)))) × Unit) × (((List (Int × Int)) × (Unit × (Unit × Unit))) × ((List (Int × Int)) × ((List (Int × Int)) × ((List (Int × Int)) × Unit)))))))) :=
  .bnd (.loop (fun v => (match_pairs_grow_1_L2_step r) x0 x1 (x1.length : Int) v.1 v.2.1 v.2.2.1 v.2.2.2.1 v.2.2.2.2) (0, x1, x2, x3, x4)) fun r1 =>
  .sum r1 (fun r2 =>
    .ret (r2.1, (((), ()), (((), ()), ((((), ((), ((), ((), ())))), ()), ((r2.2.1, ((), ((), ()))), (r2.2.2.1, (r2.2.2.2.1, (r2.2.2.2.2, ()))))))))) (fun r3 =>
    .ret (false, (((), ()), (((), ()), ((((), ((), ((), ((), ())))), ()), ((r3.1, ((), ((), ()))), (r3.2.1, (r3.2.2.1, (r3.2.2.2, ())))))))))

noncomputable def match_pairs_grow_1_Bg (r : (Int → (List (Int × Int)) → (List (Int × Int)) → (List (Int × Int)) → (List (Int × Int)) → Tree (Bool × ((Unit × Unit) × ((Unit × Unit) × (((Unit × (Unit × (Unit × (Unit × Unit)))) × Unit) × (((List (Int × Int)) × (Unit × (Unit × Unit))) × ((List (Int × Int)) × ((List (Int × Int)) × ((List (Int × Int)) × Unit)))))))))) : MSig := ⟨82, (.cons (.val false (.int .i64)) (.cons (.ref 0 0) (.cons (.ref 1 0) (.cons (.ref 2 0) .nil)))), (.cells 101 (.cons (.ref 3 0) .nil) (.cells 98 (.cons (.mp 4) .nil) (.cells 128 (.cons (.fn 82 .nil (.cons (.ref 0 0) (.cons (.ref 1 0) (.cons (.ref 2 0) .nil)))) .nil) (.cells 100 (.cons (.val false (.list (.pair (.int .i64) (.int .i64)))) (.cons (.mp 5) (.cons (.mp 6) .nil))) (.map (.int .i64) (.int .i64) (.map (.int .i64) (.int .i64) (.map (.int .i64) (.int .i64) .nil))))))), [], (.val false .bool), (.cells 101 (.cons (.ref 3 0) .nil) (.cells 98 (.cons (.mp 4) .nil) (.cells 128 (.cons (.fn 82 .nil (.cons (.ref 0 0) (.cons (.ref 1 0) (.cons (.ref 2 0) .nil)))) .nil) (.cells 100 (.cons (.val false (.list (.pair (.int .i64) (.int .i64)))) (.cons (.mp 5) (.cons (.mp 6) .nil))) (.map (.int .i64) (.int .i64) (.map (.int .i64) (.int .i64) (.map (.int .i64) (.int .i64) .nil))))))), none, fun z => (match_pairs_grow_1_BT r) z.1.1 z.2.2.2.2.1.1 z.2.2.2.2.2.1 z.2.2.2.2.2.2.1 z.2.2.2.2.2.2.2.1⟩

theorem match_pairs_grow_1_Bok (r : (Int → (List (Int × Int)) → (List (Int × Int)) → (List (Int × Int)) → (List (Int × Int)) → Tree (Bool × ((Unit × Unit) × ((Unit × Unit) × (((Unit × (Unit × (Unit × (Unit × Unit)))) × Unit) × (((List (Int × Int)) × (Unit × (Unit × Unit))) × ((List (Int × Int)) × ((List (Int × Int)) × ((List (Int × Int)) × Unit)))))))))) (hr : (match_pairs_grow_1_rg r).ok Try.prog) : (match_pairs_grow_1_Bg r).ok Try.prog := by
  refine MSig.lift mix tabOk nms _ Try.func82 (c := (bodyOf Try.f82)) (by kernel_rfl) (o := orM [] [(match_pairs_grow_1_rg r)] [(match_pairs_grow_1_L2 r)] match_pairs_grow_1_fz) (orM_sound trivial ⟨hr, trivial⟩) (allLp_ofM [nthC (loopsOf (bodyOf Try.f82)) 0] (by kernel_rfl) ⟨(match_pairs_grow_1_L2_ok r hr), trivial⟩ (by kernel_rfl)) (fun _ => rfl) ?_
  intro z; kernel_rfl

noncomputable def match_pairs_grow_1_rT : Nat → (Int → (List (Int × Int)) → (List (Int × Int)) → (List (Int × Int)) → (List (Int × Int)) → Tree (Bool × ((Unit × Unit) × ((Unit × Unit) × (((Unit × (Unit × (Unit × (Unit × Unit)))) × Unit) × (((List (Int × Int)) × (Unit × (Unit × Unit))) × ((List (Int × Int)) × ((List (Int × Int)) × ((List (Int × Int)) × Unit)))))))))
  | 0 => fun _ _ _ _ _ => .fail
  | n + 1 => match_pairs_grow_1_BT (match_pairs_grow_1_rT n)

theorem match_pairs_grow_1_rok : ∀ n, (match_pairs_grow_1_rg (match_pairs_grow_1_rT n)).ok Try.prog
  | 0 => fun x y h => by exact absurd h (by simp [match_pairs_grow_1_rg, match_pairs_grow_1_rT, Tree.run])
  | n + 1 => match_pairs_grow_1_Bok (match_pairs_grow_1_rT n) (match_pairs_grow_1_rok n)

noncomputable def match_pairs_grow_1_T (x0 : Int) (x1 : List (Int × Int)) (x2 : List (Int × Int)) (x3 : List (Int × Int)) (x4 : List (Int × Int)) : Tree (Bool × ((Unit × Unit) × ((Unit × Unit) × (((Unit × (Unit × (Unit × (Unit × Unit)))) × Unit) × (((List (Int × Int)) × (Unit × (Unit × Unit))) × ((List (Int × Int)) × ((List (Int × Int)) × ((List (Int × Int)) × Unit)))))))) := recT fun n => match_pairs_grow_1_rT n x0 x1 x2 x3 x4

noncomputable def match_pairs_grow_1_g : MSig := ⟨82, (.cons (.val false (.int .i64)) (.cons (.ref 0 0) (.cons (.ref 1 0) (.cons (.ref 2 0) .nil)))), (.cells 101 (.cons (.ref 3 0) .nil) (.cells 98 (.cons (.mp 4) .nil) (.cells 128 (.cons (.fn 82 .nil (.cons (.ref 0 0) (.cons (.ref 1 0) (.cons (.ref 2 0) .nil)))) .nil) (.cells 100 (.cons (.val false (.list (.pair (.int .i64) (.int .i64)))) (.cons (.mp 5) (.cons (.mp 6) .nil))) (.map (.int .i64) (.int .i64) (.map (.int .i64) (.int .i64) (.map (.int .i64) (.int .i64) .nil))))))), [], (.val false .bool), (.cells 101 (.cons (.ref 3 0) .nil) (.cells 98 (.cons (.mp 4) .nil) (.cells 128 (.cons (.fn 82 .nil (.cons (.ref 0 0) (.cons (.ref 1 0) (.cons (.ref 2 0) .nil)))) .nil) (.cells 100 (.cons (.val false (.list (.pair (.int .i64) (.int .i64)))) (.cons (.mp 5) (.cons (.mp 6) .nil))) (.map (.int .i64) (.int .i64) (.map (.int .i64) (.int .i64) (.map (.int .i64) (.int .i64) .nil))))))), none, fun z => match_pairs_grow_1_T z.1.1 z.2.2.2.2.1.1 z.2.2.2.2.2.1 z.2.2.2.2.2.2.1 z.2.2.2.2.2.2.2.1⟩

theorem match_pairs_grow_1_ok : match_pairs_grow_1_g.ok Try.prog := fun x y h => by
  obtain ⟨n, hn⟩ := recT_some h
  exact match_pairs_grow_1_rok n x y hn

noncomputable def match_pairs_grow_T (x0 : Int) (x1 : List (Int × Int)) (x2 : List (Int × Int)) (x3 : List (Int × Int)) : Tree (Unit × (((List (Int × Int)) × (Unit × (Unit × Unit))) × ((List (Int × Int)) × ((List (Int × Int)) × Unit)))) :=
  .bnd (match_pairs_grow_1_T x0 x1 ([] : List (Int × Int)) x2 x3) fun y1 =>
  .ret ((), ((y1.2.2.2.2.1.1, ((), ((), ()))), (y1.2.2.2.2.2.2.1, (y1.2.2.2.2.2.2.2.1, ()))))

noncomputable def match_pairs_grow_g : MSig := ⟨68, (.cons (.ref 0 0) (.cons (.val false (.int .i64)) .nil)), (.cells 100 (.cons (.val false (.list (.pair (.int .i64) (.int .i64)))) (.cons (.mp 1) (.cons (.mp 2) .nil))) (.map (.int .i64) (.int .i64) (.map (.int .i64) (.int .i64) .nil))), [], .nil, (.cells 100 (.cons (.val false (.list (.pair (.int .i64) (.int .i64)))) (.cons (.mp 1) (.cons (.mp 2) .nil))) (.map (.int .i64) (.int .i64) (.map (.int .i64) (.int .i64) .nil))), none, fun z => match_pairs_grow_T z.1.2.1 z.2.1.1 z.2.2.1 z.2.2.2.1⟩

theorem match_pairs_grow_ok : match_pairs_grow_g.ok Try.prog := by
  refine MSig.lift mix tabOk nms _ Try.func68 (c := (bodyOf Try.f68)) (by kernel_rfl) (o := orM [] [match_pairs_grow_1_g] [] noFz) (orM_sound trivial ⟨match_pairs_grow_1_ok, trivial⟩) (allLp_ofM [] (by kernel_rfl) trivial rfl) (fun _ => rfl) ?_
  intro z; kernel_rfl

noncomputable def match_choose_L3_step (t : List (Int × Int)) (t2 : Int) (t3 : Int) (rows : List (Int × Int)) (rows2 : List (Int × Int)) (p : List (Int × Int)) : Tree ((Int × (List (Int × Int)) × (List (Int × Int)) × (List (Int × Int))) ⊕ ((List (Int × Int)) × (List (Int × Int)) × (List (Int × Int)))) :=
  .ite (decide (t3 < t2)) (
    ask (inb t3 t.length) <|
    ask (inb 0 2) <|
    .ite (!((getM (.int .i64) (.int .i64) rows (t.getD t3.toNat (dfl (.pair (.int .i64) (.int .i64)) : (Int × Int))).1).isSome)) (
      ask (inb 0 2) <|
      .bnd (match_pairs_grow_T (t.getD t3.toNat (dfl (.pair (.int .i64) (.int .i64)) : (Int × Int))).1 p rows rows2) fun y1 =>
      .ret (.inl ((w64 (t3 + 1)), y1.2.2.1, y1.2.2.2.1, y1.2.1.1))) (
      .ret (.inl ((w64 (t3 + 1)), rows, rows2, p)))) (
    .ret (.inr (rows, rows2, p)))

noncomputable def match_choose_L3 : Lp := ⟨3, [], [], (ca (ca2 (.cons (.ref 2 0) (ca (ca8 (.cons (.val false (.list (.pair (.int .i64) (.int .i64)))) (.cons (.val false (.int .i64)) (.cons (.val false (.int .i64)) (ca (ca4 (ca16 .nil))))))))))), (.map (.int .i64) (.int .i64) (.map (.int .i64) (.int .i64) (.cells 100 (.cons (.val false (.list (.pair (.int .i64) (.int .i64)))) (.cons (.mp 0) (.cons (.mp 1) .nil))) .nil))), 0, .one 1 [] (ca (ca2 (.cons (.ref 2 0) (ca (ca32 .nil))))) (.map (.int .i64) (.int .i64) (.map (.int .i64) (.int .i64) (.cells 100 (.cons (.val false (.list (.pair (.int .i64) (.int .i64)))) (.cons (.mp 0) (.cons (.mp 1) .nil))) .nil))), fun z => .bnd (.loop (fun v => match_choose_L3_step z.1.2.2.2.2.2.2.2.2.2.2.2.2.2.1 z.1.2.2.2.2.2.2.2.2.2.2.2.2.2.2.1 v.1 v.2.1 v.2.2.1 v.2.2.2) (z.1.2.2.2.2.2.2.2.2.2.2.2.2.2.2.2.1, z.2.1, z.2.2.1, z.2.2.2.1.1)) fun r => .ret ((cu (cu2 ((), (cu (cu32 ()))))), (r.1, (r.2.1, ((r.2.2, ((), ((), ()))), ()))))⟩

theorem match_choose_L3_ok : match_choose_L3.ok Try.prog (nthC (loopsOf (bodyOf Try.f57)) 0) := by
  refine Lp.lift (π := ((List (Int × Int)) × Int)) (V := (Int × (List (Int × Int)) × (List (Int × Int)) × (List (Int × Int)))) (ρ := ((List (Int × Int)) × (List (Int × Int)) × (List (Int × Int)))) mix tabOk match_choose_L3 (o := orM [] [match_pairs_grow_g] [] noFz) (orM_sound trivial ⟨match_pairs_grow_ok, trivial⟩) (allLp_ofM [] (by kernel_rfl) trivial rfl) (fun x v => ((cu (cu2 ((), (cu (cu8 (x.1, (x.2, (v.1, (cu (cu4 (cu16 ()))))))))))), (v.2.1, (v.2.2.1, ((v.2.2.2, ((), ((), ()))), ()))))) (fun x r => ((cu (cu2 ((), (cu (cu32 ()))))), (r.1, (r.2.1, ((r.2.2, ((), ((), ()))), ()))))) (fun x v => match_choose_L3_step x.1 x.2 v.1 v.2.1 v.2.2.1 v.2.2.2) (fun x r => .ret ((cu (cu2 ((), (cu (cu32 ()))))), (r.1, (r.2.1, ((r.2.2, ((), ((), ()))), ()))))) (fun z => (z.1.2.2.2.2.2.2.2.2.2.2.2.2.2.1, z.1.2.2.2.2.2.2.2.2.2.2.2.2.2.2.1)) (fun z => (z.1.2.2.2.2.2.2.2.2.2.2.2.2.2.2.2.1, z.2.1, z.2.2.1, z.2.2.2.1.1)) (fun _ => rfl) (fun _ => rfl) (fun _ _ _ h => h) ?_
  intro x v; kernel_rfl

noncomputable def match_choose_T (x0 : List (Int × Int)) : Tree (Unit × ((List (Int × Int)) × ((List (Int × Int)) × (((List (Int × Int)) × (Unit × (Unit × Unit))) × Unit)))) :=
  .bnd (.loop (fun v => match_choose_L3_step x0 (x0.length : Int) v.1 v.2.1 v.2.2.1 v.2.2.2) (0, ([] : List (Int × Int)), ([] : List (Int × Int)), x0)) fun r1 =>
  .ret ((), (r1.1, (r1.2.1, ((r1.2.2, ((), ((), ()))), ()))))

noncomputable def match_choose_g : MSig := ⟨57, (.cons (.val false (.list (.pair (.int .i64) (.int .i64)))) .nil), .nil, [], (.ref 2 0), (.map (.int .i64) (.int .i64) (.map (.int .i64) (.int .i64) (.cells 100 (.cons (.val false (.list (.pair (.int .i64) (.int .i64)))) (.cons (.mp 0) (.cons (.mp 1) .nil))) .nil))), none, fun z => match_choose_T z.1.1⟩

theorem match_choose_ok : match_choose_g.ok Try.prog := by
  refine MSig.lift mix tabOk nms _ Try.func57 (c := (bodyOf Try.f57)) (by kernel_rfl) (o := orM [] [match_pairs_grow_g] [match_choose_L3] noFz) (orM_sound trivial ⟨match_pairs_grow_ok, trivial⟩) (allLp_ofM [nthC (loopsOf (bodyOf Try.f57)) 0] (by kernel_rfl) ⟨match_choose_L3_ok, trivial⟩ (by kernel_rfl)) (fun _ => rfl) ?_
  intro z; kernel_rfl

noncomputable def match_Max_T (x0 : List (Int × Int)) : Tree Int :=
  .bnd (match_choose_T x0) fun y1 =>
  .ret (y1.2.1.length : Int)

noncomputable def match_Max_g : Sig := ⟨36, (.cons (.val false (.list (.pair (.int .i64) (.int .i64)))) .nil), .vals (.val false (.int .i64)), fun z => match_Max_T z.1, (0 : Int)⟩

theorem match_Max_ok : match_Max_g.ok Try.prog := by
  refine Sig.lift mix tabOk nms _ Try.func36 (c := (bodyOf Try.f36)) (by kernel_rfl) (o := orM [] [match_choose_g] [] noFz) (orM_sound trivial ⟨match_choose_ok, trivial⟩) (allLp_ofM [] (by kernel_rfl) trivial rfl) ?_
  intro z; kernel_rfl

noncomputable def r16_Free_L2_step (l : List (Int × Int)) (places : List Int) (at_ : Int) (i : Int) : Tree (Int ⊕ (Bool ⊕ Unit)) :=
  .ite (decide (i < (places.length : Int))) (
    ask (inb i places.length) <|
    ask (inb (places.getD i.toNat (0 : Int)) l.length) <|
    ask (inb 0 2) <|
    ask (inb at_ l.length) <|
    ask (inb 0 2) <|
    ask ((!(!(decide ((l.getD ((places.getD i.toNat (0 : Int)).toNat) (dfl (.pair (.int .i64) (.int .i64)) : (Int × Int))).1 = (l.getD at_.toNat (dfl (.pair (.int .i64) (.int .i64)) : (Int × Int))).1)))) || inb 1 2) <|
    ask ((!(!(decide ((l.getD ((places.getD i.toNat (0 : Int)).toNat) (dfl (.pair (.int .i64) (.int .i64)) : (Int × Int))).1 = (l.getD at_.toNat (dfl (.pair (.int .i64) (.int .i64)) : (Int × Int))).1)))) || inb at_ l.length) <|
    ask ((!(!(decide ((l.getD ((places.getD i.toNat (0 : Int)).toNat) (dfl (.pair (.int .i64) (.int .i64)) : (Int × Int))).1 = (l.getD at_.toNat (dfl (.pair (.int .i64) (.int .i64)) : (Int × Int))).1)))) || inb 1 2) <|
    .ite ((decide ((l.getD ((places.getD i.toNat (0 : Int)).toNat) (dfl (.pair (.int .i64) (.int .i64)) : (Int × Int))).1 = (l.getD at_.toNat (dfl (.pair (.int .i64) (.int .i64)) : (Int × Int))).1)) || (decide ((l.getD ((places.getD i.toNat (0 : Int)).toNat) (dfl (.pair (.int .i64) (.int .i64)) : (Int × Int))).2 = (l.getD at_.toNat (dfl (.pair (.int .i64) (.int .i64)) : (Int × Int))).2))) (
      .ret (.inr (.inl false))) (
      .ret (.inl (w64 (i + 1))))) (
    .ret (.inr (.inr ())))

noncomputable def r16_Free_L2 : Lp := ⟨2, [], [], (.cons (.val false (.list (.pair (.int .i64) (.int .i64)))) (.cons (.val false (.list (.int .i64))) (.cons (.val false (.int .i64)) (ca4 (.cons (.val false (.int .i64)) (ca32 .nil)))))), .nil, 0, .more 0 [] (ca2 (ca4 (.cons (.val false .bool) (ca (ca32 .nil))))) .nil (.one 1 [] (ca8 (ca32 .nil)) .nil), fun z => .bnd (.loop (fun v => r16_Free_L2_step z.1.1 z.1.2.1 z.1.2.2.1 v) z.1.2.2.2.2.2.2.2.1) fun r => .sum r (fun a0 => .ret (.inl ((cu2 (cu4 (a0, (cu (cu32 ()))))), ()))) (fun b0 => .ret (.inr ((cu8 (cu32 ())), ())))⟩

theorem r16_Free_L2_ok : r16_Free_L2.ok Try.prog (nthC (loopsOf (bodyOf Try.f42)) 0) := by
  refine Lp.lift (π := ((List (Int × Int)) × (List Int) × Int)) (V := Int) (ρ := (Bool ⊕ Unit)) mix tabOk r16_Free_L2 (o := orT [] [] noFz) (orT_sound trivial) (allLp_of [] (by kernel_rfl) trivial rfl) (fun x v => ((x.1, (x.2.1, (x.2.2, (cu4 (v, (cu32 ())))))), ())) (fun x r => match r with | .inl a0 => .inl ((cu2 (cu4 (a0, (cu (cu32 ()))))), ()) | .inr b0 => (.inr ((cu8 (cu32 ())), ()))) (fun x v => r16_Free_L2_step x.1 x.2.1 x.2.2 v) (fun x r => .sum r (fun a0 => .ret (.inl ((cu2 (cu4 (a0, (cu (cu32 ()))))), ()))) (fun b0 => .ret (.inr ((cu8 (cu32 ())), ())))) (fun z => (z.1.1, z.1.2.1, z.1.2.2.1)) (fun z => z.1.2.2.2.2.2.2.2.1) (fun _ => rfl) (fun _ => rfl) (fun x r Q h => match r, h with | .inl _, h => h | .inr b0, h => (h)) ?_
  intro x v; kernel_rfl

noncomputable def r16_Free_T (x0 : List (Int × Int)) (x1 : List Int) (x2 : Int) : Tree Bool :=
  .bnd (.loop (fun v => r16_Free_L2_step x0 x1 x2 v) 0) fun r1 =>
  .sum r1 (fun r2 =>
    .ret r2) (fun r3 =>
    .ret true)

noncomputable def r16_Free_g : Sig := ⟨42, (.cons (.val false (.list (.pair (.int .i64) (.int .i64)))) (.cons (.val false (.list (.int .i64))) (.cons (.val false (.int .i64)) .nil))), .vals (.val false .bool), fun z => r16_Free_T z.1 z.2.1 z.2.2.1, false⟩

theorem r16_Free_ok : r16_Free_g.ok Try.prog := by
  refine Sig.lift mix tabOk nms _ Try.func42 (c := (bodyOf Try.f42)) (by kernel_rfl) (o := orT [] [r16_Free_L2] noFz) (orT_sound trivial) (allLp_of [nthC (loopsOf (bodyOf Try.f42)) 0] (by kernel_rfl) ⟨r16_Free_L2_ok, trivial⟩ (by kernel_rfl)) ?_
  intro z; kernel_rfl

noncomputable def r16_most_rg (r : ((List (Int × Int)) → Int → (List Int) → Tree Int)) : Sig := ⟨58, (.cons (.val false (.list (.pair (.int .i64) (.int .i64)))) (.cons (.val false (.int .i64)) (.cons (.val false (.list (.int .i64))) .nil))), .vals (.val false (.int .i64)), fun z => r z.1 z.2.1 z.2.2.1, (0 : Int)⟩

noncomputable def r16_most_BT (r : ((List (Int × Int)) → Int → (List Int) → Tree Int)) (x0 : List (Int × Int)) (x1 : Int) (x2 : List Int) : Tree Int :=
  .ite (decide ((x0.length : Int) ≤ x1)) (
    .ret 0) (
    .bnd (r x0 (w64 (x1 + 1)) x2) fun y1 =>
    .bnd (r16_Free_T x0 x2 x1) fun y2 =>
    .ite y2 (
      ask (decide (x2.length * 8 ≤ roomNat)) <|
      ask (decide ((x2 ++ [x1]).length * 8 ≤ roomNat)) <|
      .bnd (r x0 (w64 (x1 + 1)) (x2 ++ [x1])) fun y3 =>
      .ret (std.imax y1 (w64 ((1 : Int) + y3)))) (
      .ret y1))

noncomputable def r16_most_Bg (r : ((List (Int × Int)) → Int → (List Int) → Tree Int)) : Sig := ⟨58, (.cons (.val false (.list (.pair (.int .i64) (.int .i64)))) (.cons (.val false (.int .i64)) (.cons (.val false (.list (.int .i64))) .nil))), .vals (.val false (.int .i64)), fun z => (r16_most_BT r) z.1 z.2.1 z.2.2.1, (0 : Int)⟩

theorem r16_most_Bok (r : ((List (Int × Int)) → Int → (List Int) → Tree Int)) (hr : (r16_most_rg r).ok Try.prog) : (r16_most_Bg r).ok Try.prog := by
  refine Sig.lift mix tabOk nms _ Try.func58 (c := (bodyOf Try.f58)) (by kernel_rfl) (o := orT [(r16_most_rg r), r16_Free_g] [] noFz) (orT_sound ⟨hr, ⟨r16_Free_ok, trivial⟩⟩) (allLp_of [] (by kernel_rfl) trivial rfl) ?_
  intro z; kernel_rfl

noncomputable def r16_most_rT : Nat → ((List (Int × Int)) → Int → (List Int) → Tree Int)
  | 0 => fun _ _ _ => .fail
  | n + 1 => r16_most_BT (r16_most_rT n)

theorem r16_most_rok : ∀ n, (r16_most_rg (r16_most_rT n)).ok Try.prog
  | 0 => fun x y h => by exact absurd h (by simp [r16_most_rg, r16_most_rT, Tree.run])
  | n + 1 => r16_most_Bok (r16_most_rT n) (r16_most_rok n)

noncomputable def r16_most_T (x0 : List (Int × Int)) (x1 : Int) (x2 : List Int) : Tree Int := recT fun n => r16_most_rT n x0 x1 x2

noncomputable def r16_most_g : Sig := ⟨58, (.cons (.val false (.list (.pair (.int .i64) (.int .i64)))) (.cons (.val false (.int .i64)) (.cons (.val false (.list (.int .i64))) .nil))), .vals (.val false (.int .i64)), fun z => r16_most_T z.1 z.2.1 z.2.2.1, (0 : Int)⟩

theorem r16_most_ok : r16_most_g.ok Try.prog := fun x y h => by
  obtain ⟨n, hn⟩ := recT_some h
  exact r16_most_rok n x y hn

noncomputable def r16_Max_T (x0 : List (Int × Int)) : Tree Int :=
  .bnd (r16_most_T x0 0 []) fun y1 =>
  .ret y1

noncomputable def r16_Max_g : Sig := ⟨37, (.cons (.val false (.list (.pair (.int .i64) (.int .i64)))) .nil), .vals (.val false (.int .i64)), fun z => r16_Max_T z.1, (0 : Int)⟩

theorem r16_Max_ok : r16_Max_g.ok Try.prog := by
  refine Sig.lift mix tabOk nms _ Try.func37 (c := (bodyOf Try.f37)) (by kernel_rfl) (o := orT [r16_most_g] [] noFz) (orT_sound ⟨r16_most_ok, trivial⟩) (allLp_of [] (by kernel_rfl) trivial rfl) ?_
  intro z; kernel_rfl

noncomputable def match_pairs_reach_1_rg (r : (Int → (List (Int × Int)) → (List (Int × Int)) → (List (Int × Int)) → (List (Int × Int)) → (List (Int × Int)) → Tree (Unit × ((Unit × Unit) × ((Unit × Unit) × ((Unit × Unit) × (((Unit × (Unit × (Unit × (Unit × (Unit × Unit))))) × Unit) × ((List (Int × Int)) × (((List (Int × Int)) × (Unit × (Unit × Unit))) × ((List (Int × Int)) × ((List (Int × Int)) × ((List (Int × Int)) × Unit)))))))))))) : MSig := ⟨70, (.cons (.val false (.int .i64)) (.cons (.ref 0 0) (.cons (.ref 1 0) (.cons (.ref 2 0) (.cons (.ref 3 0) .nil))))), (.cells 98 (.cons (.mp 4) .nil) (.cells 101 (.cons (.ref 5 0) .nil) (.cells 98 (.cons (.mp 6) .nil) (.cells 115 (.cons (.fn 70 .nil (.cons (.ref 0 0) (.cons (.ref 1 0) (.cons (.ref 2 0) (.cons (.ref 3 0) .nil))))) .nil) (.map (.int .i64) (.int .i64) (.cells 100 (.cons (.val false (.list (.pair (.int .i64) (.int .i64)))) (.cons (.mp 7) (.cons (.mp 8) .nil))) (.map (.int .i64) (.int .i64) (.map (.int .i64) (.int .i64) (.map (.int .i64) (.int .i64) .nil))))))))), [], .nil, (.cells 98 (.cons (.mp 4) .nil) (.cells 101 (.cons (.ref 5 0) .nil) (.cells 98 (.cons (.mp 6) .nil) (.cells 115 (.cons (.fn 70 .nil (.cons (.ref 0 0) (.cons (.ref 1 0) (.cons (.ref 2 0) (.cons (.ref 3 0) .nil))))) .nil) (.map (.int .i64) (.int .i64) (.cells 100 (.cons (.val false (.list (.pair (.int .i64) (.int .i64)))) (.cons (.mp 7) (.cons (.mp 8) .nil))) (.map (.int .i64) (.int .i64) (.map (.int .i64) (.int .i64) (.map (.int .i64) (.int .i64) .nil))))))))), none, fun z => r z.1.1 z.2.2.2.2.2.1 z.2.2.2.2.2.2.1.1 z.2.2.2.2.2.2.2.1 z.2.2.2.2.2.2.2.2.1 z.2.2.2.2.2.2.2.2.2.1⟩

noncomputable def match_pairs_reach_1_fz : Nat → List Pre
  | 9 => [.two]
  | _ => []

noncomputable def match_pairs_reach_1_L3_step (r : (Int → (List (Int × Int)) → (List (Int × Int)) → (List (Int × Int)) → (List (Int × Int)) → (List (Int × Int)) → Tree (Unit × ((Unit × Unit) × ((Unit × Unit) × ((Unit × Unit) × (((Unit × (Unit × (Unit × (Unit × (Unit × Unit))))) × Unit) × ((List (Int × Int)) × (((List (Int × Int)) × (Unit × (Unit × Unit))) × ((List (Int × Int)) × ((List (Int × Int)) × ((List (Int × Int)) × Unit)))))))))))) (number : Int) (t : List (Int × Int)) (t2 : Int) (t3 : Int) (rows : List (Int × Int)) (c : List (Int × Int)) (rows2 : List (Int × Int)) (rows3 : List (Int × Int)) (rows4 : List (Int × Int)) : Tree ((Int × (List (Int × Int)) × (List (Int × Int)) × (List (Int × Int)) × (List (Int × Int)) × (List (Int × Int))) ⊕ ((List (Int × Int)) × (List (Int × Int)) × (List (Int × Int)) × (List (Int × Int)) × (List (Int × Int)))) :=
  .ite (decide (t3 < t2)) (
    ask (inb t3 t.length) <|
    ask (inb 0 2) <|
    .ite (!decide ((t.getD t3.toNat (dfl (.pair (.int .i64) (.int .i64)) : (Int × Int))).1 = number)) (
      .ret (.inl ((w64 (t3 + 1)), rows, c, rows2, rows3, rows4))) (
      ask (inb 1 2) <|
      ask (decide ((putM (.int .i64) (.int .i64) rows2 (t.getD t3.toNat (dfl (.pair (.int .i64) (.int .i64)) : (Int × Int))).2 1).length ≤ 9223372036854775807)) <|
      ask (inb 1 2) <|
      .ite ((getM (.int .i64) (.int .i64) rows4 (t.getD t3.toNat (dfl (.pair (.int .i64) (.int .i64)) : (Int × Int))).2).isSome) (
        ask (inb ((getM (.int .i64) (.int .i64) rows4 (t.getD t3.toNat (dfl (.pair (.int .i64) (.int .i64)) : (Int × Int))).2).getD (0 : Int)) c.length) <|
        ask (inb 0 2) <|
        .bnd (r (c.getD (((getM (.int .i64) (.int .i64) rows4 (t.getD t3.toNat (dfl (.pair (.int .i64) (.int .i64)) : (Int × Int))).2).getD (0 : Int)).toNat) (dfl (.pair (.int .i64) (.int .i64)) : (Int × Int))).1 rows c (putM (.int .i64) (.int .i64) rows2 (t.getD t3.toNat (dfl (.pair (.int .i64) (.int .i64)) : (Int × Int))).2 1) rows3 rows4) fun y1 =>
        .ret (.inl ((w64 (t3 + 1)), y1.2.2.2.2.2.1, y1.2.2.2.2.2.2.1.1, y1.2.2.2.2.2.2.2.1, y1.2.2.2.2.2.2.2.2.1, y1.2.2.2.2.2.2.2.2.2.1))) (
        .ret (.inl ((w64 (t3 + 1)), rows, c, (putM (.int .i64) (.int .i64) rows2 (t.getD t3.toNat (dfl (.pair (.int .i64) (.int .i64)) : (Int × Int))).2 1), rows3, rows4))))) (
    .ret (.inr (rows, c, rows2, rows3, rows4)))

noncomputable def match_pairs_reach_1_L3 (r : (Int → (List (Int × Int)) → (List (Int × Int)) → (List (Int × Int)) → (List (Int × Int)) → (List (Int × Int)) → Tree (Unit × ((Unit × Unit) × ((Unit × Unit) × ((Unit × Unit) × (((Unit × (Unit × (Unit × (Unit × (Unit × Unit))))) × Unit) × ((List (Int × Int)) × (((List (Int × Int)) × (Unit × (Unit × Unit))) × ((List (Int × Int)) × ((List (Int × Int)) × ((List (Int × Int)) × Unit)))))))))))) : Lp := ⟨3, [], [], (.cons (.val false (.int .i64)) (ca (.cons (.ref 1 0) (.cons (.ref 2 0) (.cons (.ref 3 0) (ca2 (ca4 (ca8 (.cons (.val false (.list (.pair (.int .i64) (.int .i64)))) (.cons (.val false (.int .i64)) (.cons (.val false (.int .i64)) (ca32 .nil)))))))))))), (.cells 98 (.cons (.mp 4) .nil) (.cells 101 (.cons (.ref 5 0) .nil) (.cells 98 (.cons (.mp 6) .nil) (.cells 115 (.cons (.fn 70 .nil (.cons (.ref 0 0) (.cons (.ref 1 0) (.cons (.ref 2 0) (.cons (.ref 3 0) .nil))))) .nil) (.map (.int .i64) (.int .i64) (.cells 100 (.cons (.val false (.list (.pair (.int .i64) (.int .i64)))) (.cons (.mp 7) (.cons (.mp 8) .nil))) (.map (.int .i64) (.int .i64) (.map (.int .i64) (.int .i64) (.map (.int .i64) (.int .i64) .nil))))))))), 9, .one 1 [] (ca2 (ca4 (ca16 (ca32 .nil)))) (.cells 98 (.cons (.mp 4) .nil) (.cells 101 (.cons (.ref 5 0) .nil) (.cells 98 (.cons (.mp 6) .nil) (.cells 115 (.cons (.fn 70 .nil (.cons (.ref 0 0) (.cons (.ref 1 0) (.cons (.ref 2 0) (.cons (.ref 3 0) .nil))))) .nil) (.map (.int .i64) (.int .i64) (.cells 100 (.cons (.val false (.list (.pair (.int .i64) (.int .i64)))) (.cons (.mp 7) (.cons (.mp 8) .nil))) (.map (.int .i64) (.int .i64) (.map (.int .i64) (.int .i64) (.map (.int .i64) (.int .i64) .nil))))))))), fun z => .bnd (.loop (fun v => (match_pairs_reach_1_L3_step r) z.1.1 z.1.2.2.2.2.2.2.2.2.2.2.2.2.2.2.2.2.2.2.2.1 z.1.2.2.2.2.2.2.2.2.2.2.2.2.2.2.2.2.2.2.2.2.1 v.1 v.2.1 v.2.2.1 v.2.2.2.1 v.2.2.2.2.1 v.2.2.2.2.2) (z.1.2.2.2.2.2.2.2.2.2.2.2.2.2.2.2.2.2.2.2.2.2.1, z.2.2.2.2.2.1, z.2.2.2.2.2.2.1.1, z.2.2.2.2.2.2.2.1, z.2.2.2.2.2.2.2.2.1, z.2.2.2.2.2.2.2.2.2.1)) fun r => .ret ((cu2 (cu4 (cu16 (cu32 ())))), (((), ()), (((), ()), (((), ()), ((((), ((), ((), ((), ((), ()))))), ()), (r.1, ((r.2.1, ((), ((), ()))), (r.2.2.1, (r.2.2.2.1, (r.2.2.2.2, ()))))))))))⟩

theorem match_pairs_reach_1_L3_ok (r : (Int → (List (Int × Int)) → (List (Int × Int)) → (List (Int × Int)) → (List (Int × Int)) → (List (Int × Int)) → Tree (Unit × ((Unit × Unit) × ((Unit × Unit) × ((Unit × Unit) × (((Unit × (Unit × (Unit × (Unit × (Unit × Unit))))) × Unit) × ((List (Int × Int)) × (((List (Int × Int)) × (Unit × (Unit × Unit))) × ((List (Int × Int)) × ((List (Int × Int)) × ((List (Int × Int)) × Unit)))))))))))) (hr : (match_pairs_reach_1_rg r).ok Try.prog) : (match_pairs_reach_1_L3 r).ok Try.prog (nthC (loopsOf (bodyOf Try.f70)) 0) := by
  refine Lp.lift (π := (Int × (List (Int × Int)) × Int)) (V := (Int × (List (Int × Int)) × (List (Int × Int)) × (List (Int × Int)) × (List (Int × Int)) × (List (Int × Int)))) (ρ := ((List (Int × Int)) × (List (Int × Int)) × (List (Int × Int)) × (List (Int × Int)) × (List (Int × Int)))) mix tabOk (match_pairs_reach_1_L3 r) (o := orM [] [(match_pairs_reach_1_rg r)] [] match_pairs_reach_1_fz) (orM_sound trivial ⟨hr, trivial⟩) (allLp_ofM [] (by kernel_rfl) trivial rfl) (fun x v => ((x.1, (cu ((), ((), ((), (cu2 (cu4 (cu8 (x.2.1, (x.2.2, (v.1, (cu32 ())))))))))))), (((), ()), (((), ()), (((), ()), ((((), ((), ((), ((), ((), ()))))), ()), (v.2.1, ((v.2.2.1, ((), ((), ()))), (v.2.2.2.1, (v.2.2.2.2.1, (v.2.2.2.2.2, ()))))))))))) (fun x r => ((cu2 (cu4 (cu16 (cu32 ())))), (((), ()), (((), ()), (((), ()), ((((), ((), ((), ((), ((), ()))))), ()), (r.1, ((r.2.1, ((), ((), ()))), (r.2.2.1, (r.2.2.2.1, (r.2.2.2.2, ()))))))))))) (fun x v => (match_pairs_reach_1_L3_step r) x.1 x.2.1 x.2.2 v.1 v.2.1 v.2.2.1 v.2.2.2.1 v.2.2.2.2.1 v.2.2.2.2.2) (fun x r => .ret ((cu2 (cu4 (cu16 (cu32 ())))), (((), ()), (((), ()), (((), ()), ((((), ((), ((), ((), ((), ()))))), ()), (r.1, ((r.2.1, ((), ((), ()))), (r.2.2.1, (r.2.2.2.1, (r.2.2.2.2, ()))))))))))) (fun z => (z.1.1, z.1.2.2.2.2.2.2.2.2.2.2.2.2.2.2.2.2.2.2.2.1, z.1.2.2.2.2.2.2.2.2.2.2.2.2.2.2.2.2.2.2.2.2.1)) (fun z => (z.1.2.2.2.2.2.2.2.2.2.2.2.2.2.2.2.2.2.2.2.2.2.1, z.2.2.2.2.2.1, z.2.2.2.2.2.2.1.1, z.2.2.2.2.2.2.2.1, z.2.2.2.2.2.2.2.2.1, z.2.2.2.2.2.2.2.2.2.1)) (fun _ => rfl) (fun _ => rfl) (fun _ _ _ h => h) ?_
  intro x v; kernel_rfl

noncomputable def match_pairs_reach_1_BT (r : (Int → (List (Int × Int)) → (List (Int × Int)) → (List (Int × Int)) → (List (Int × Int)) → (List (Int × Int)) → Tree (Unit × ((Unit × Unit) × ((Unit × Unit) × ((Unit × Unit) × (((Unit × (Unit × (Unit × (Unit × (Unit × Unit))))) × Unit) × ((List (Int × Int)) × (((List (Int × Int)) × (Unit × (Unit × Unit))) × ((List (Int × Int)) × ((List (Int × Int)) × ((List (Int × Int)) × Unit)))))))))))) (x0 : Int) (x1 : List (Int × Int)) (x2 : List (Int × Int)) (x3 : List (Int × Int)) (x4 : List (Int × Int)) (x5 : List (Int × Int)) : Tree (Unit × ((Unit × Unit) × ((Unit × Unit) × ((Unit × Unit) × (((Unit × (Unit × (Unit × (Unit × (Unit × Unit))))) × Unit) × ((List (Int × Int)) × (((List (Int × Int)) × (Unit × (Unit × Unit))) × ((List (Int × Int)) × ((List (Int × Int)) × ((List (Int × Int)) × Unit)))))))))) :=
  .ite (decide ((0 : Int) < ((getM (.int .i64) (.int .i64) x1 x0).getD (0 : Int)))) (
    .ret ((), (((), ()), (((), ()), (((), ()), ((((), ((), ((), ((), ((), ()))))), ()), (x1, ((x2, ((), ((), ()))), (x3, (x4, (x5, ()))))))))))) (
    ask (decide ((putM (.int .i64) (.int .i64) x1 x0 1).length ≤ 9223372036854775807)) <|
    .bnd (.loop (fun v => (match_pairs_reach_1_L3_step r) x0 x2 (x2.length : Int) v.1 v.2.1 v.2.2.1 v.2.2.2.1 v.2.2.2.2.1 v.2.2.2.2.2) (0, (putM (.int .i64) (.int .i64) x1 x0 1), x2, x3, x4, x5)) fun r1 =>
    .ret ((), (((), ()), (((), ()), (((), ()), ((((), ((), ((), ((), ((), ()))))), ()), (r1.1, ((r1.2.1, ((), ((), ()))), (r1.2.2.1, (r1.2.2.2.1, (r1.2.2.2.2, ())))))))))))

noncomputable def match_pairs_reach_1_Bg (r : (Int → (List (Int × Int)) → (List (Int × Int)) → (List (Int × Int)) → (List (Int × Int)) → (List (Int × Int)) → Tree (Unit × ((Unit × Unit) × ((Unit × Unit) × ((Unit × Unit) × (((Unit × (Unit × (Unit × (Unit × (Unit × Unit))))) × Unit) × ((List (Int × Int)) × (((List (Int × Int)) × (Unit × (Unit × Unit))) × ((List (Int × Int)) × ((List (Int × Int)) × ((List (Int × Int)) × Unit)))))))))))) : MSig := ⟨70, (.cons (.val false (.int .i64)) (.cons (.ref 0 0) (.cons (.ref 1 0) (.cons (.ref 2 0) (.cons (.ref 3 0) .nil))))), (.cells 98 (.cons (.mp 4) .nil) (.cells 101 (.cons (.ref 5 0) .nil) (.cells 98 (.cons (.mp 6) .nil) (.cells 115 (.cons (.fn 70 .nil (.cons (.ref 0 0) (.cons (.ref 1 0) (.cons (.ref 2 0) (.cons (.ref 3 0) .nil))))) .nil) (.map (.int .i64) (.int .i64) (.cells 100 (.cons (.val false (.list (.pair (.int .i64) (.int .i64)))) (.cons (.mp 7) (.cons (.mp 8) .nil))) (.map (.int .i64) (.int .i64) (.map (.int .i64) (.int .i64) (.map (.int .i64) (.int .i64) .nil))))))))), [], .nil, (.cells 98 (.cons (.mp 4) .nil) (.cells 101 (.cons (.ref 5 0) .nil) (.cells 98 (.cons (.mp 6) .nil) (.cells 115 (.cons (.fn 70 .nil (.cons (.ref 0 0) (.cons (.ref 1 0) (.cons (.ref 2 0) (.cons (.ref 3 0) .nil))))) .nil) (.map (.int .i64) (.int .i64) (.cells 100 (.cons (.val false (.list (.pair (.int .i64) (.int .i64)))) (.cons (.mp 7) (.cons (.mp 8) .nil))) (.map (.int .i64) (.int .i64) (.map (.int .i64) (.int .i64) (.map (.int .i64) (.int .i64) .nil))))))))), none, fun z => (match_pairs_reach_1_BT r) z.1.1 z.2.2.2.2.2.1 z.2.2.2.2.2.2.1.1 z.2.2.2.2.2.2.2.1 z.2.2.2.2.2.2.2.2.1 z.2.2.2.2.2.2.2.2.2.1⟩

theorem match_pairs_reach_1_Bok (r : (Int → (List (Int × Int)) → (List (Int × Int)) → (List (Int × Int)) → (List (Int × Int)) → (List (Int × Int)) → Tree (Unit × ((Unit × Unit) × ((Unit × Unit) × ((Unit × Unit) × (((Unit × (Unit × (Unit × (Unit × (Unit × Unit))))) × Unit) × ((List (Int × Int)) × (((List (Int × Int)) × (Unit × (Unit × Unit))) × ((List (Int × Int)) × ((List (Int × Int)) × ((List (Int × Int)) × Unit)))))))))))) (hr : (match_pairs_reach_1_rg r).ok Try.prog) : (match_pairs_reach_1_Bg r).ok Try.prog := by
  refine MSig.lift mix tabOk nms _ Try.func70 (c := (bodyOf Try.f70)) (by kernel_rfl) (o := orM [] [(match_pairs_reach_1_rg r)] [(match_pairs_reach_1_L3 r)] match_pairs_reach_1_fz) (orM_sound trivial ⟨hr, trivial⟩) (allLp_ofM [nthC (loopsOf (bodyOf Try.f70)) 0] (by kernel_rfl) ⟨(match_pairs_reach_1_L3_ok r hr), trivial⟩ (by kernel_rfl)) (fun _ => rfl) ?_
  intro z; kernel_rfl

noncomputable def match_pairs_reach_1_rT : Nat → (Int → (List (Int × Int)) → (List (Int × Int)) → (List (Int × Int)) → (List (Int × Int)) → (List (Int × Int)) → Tree (Unit × ((Unit × Unit) × ((Unit × Unit) × ((Unit × Unit) × (((Unit × (Unit × (Unit × (Unit × (Unit × Unit))))) × Unit) × ((List (Int × Int)) × (((List (Int × Int)) × (Unit × (Unit × Unit))) × ((List (Int × Int)) × ((List (Int × Int)) × ((List (Int × Int)) × Unit)))))))))))
  | 0 => fun _ _ _ _ _ _ => .fail
  | n + 1 => match_pairs_reach_1_BT (match_pairs_reach_1_rT n)

theorem match_pairs_reach_1_rok : ∀ n, (match_pairs_reach_1_rg (match_pairs_reach_1_rT n)).ok Try.prog
  | 0 => fun x y h => by exact absurd h (by simp [match_pairs_reach_1_rg, match_pairs_reach_1_rT, Tree.run])
  | n + 1 => match_pairs_reach_1_Bok (match_pairs_reach_1_rT n) (match_pairs_reach_1_rok n)

noncomputable def match_pairs_reach_1_T (x0 : Int) (x1 : List (Int × Int)) (x2 : List (Int × Int)) (x3 : List (Int × Int)) (x4 : List (Int × Int)) (x5 : List (Int × Int)) : Tree (Unit × ((Unit × Unit) × ((Unit × Unit) × ((Unit × Unit) × (((Unit × (Unit × (Unit × (Unit × (Unit × Unit))))) × Unit) × ((List (Int × Int)) × (((List (Int × Int)) × (Unit × (Unit × Unit))) × ((List (Int × Int)) × ((List (Int × Int)) × ((List (Int × Int)) × Unit)))))))))) := recT fun n => match_pairs_reach_1_rT n x0 x1 x2 x3 x4 x5

noncomputable def match_pairs_reach_1_g : MSig := ⟨70, (.cons (.val false (.int .i64)) (.cons (.ref 0 0) (.cons (.ref 1 0) (.cons (.ref 2 0) (.cons (.ref 3 0) .nil))))), (.cells 98 (.cons (.mp 4) .nil) (.cells 101 (.cons (.ref 5 0) .nil) (.cells 98 (.cons (.mp 6) .nil) (.cells 115 (.cons (.fn 70 .nil (.cons (.ref 0 0) (.cons (.ref 1 0) (.cons (.ref 2 0) (.cons (.ref 3 0) .nil))))) .nil) (.map (.int .i64) (.int .i64) (.cells 100 (.cons (.val false (.list (.pair (.int .i64) (.int .i64)))) (.cons (.mp 7) (.cons (.mp 8) .nil))) (.map (.int .i64) (.int .i64) (.map (.int .i64) (.int .i64) (.map (.int .i64) (.int .i64) .nil))))))))), [], .nil, (.cells 98 (.cons (.mp 4) .nil) (.cells 101 (.cons (.ref 5 0) .nil) (.cells 98 (.cons (.mp 6) .nil) (.cells 115 (.cons (.fn 70 .nil (.cons (.ref 0 0) (.cons (.ref 1 0) (.cons (.ref 2 0) (.cons (.ref 3 0) .nil))))) .nil) (.map (.int .i64) (.int .i64) (.cells 100 (.cons (.val false (.list (.pair (.int .i64) (.int .i64)))) (.cons (.mp 7) (.cons (.mp 8) .nil))) (.map (.int .i64) (.int .i64) (.map (.int .i64) (.int .i64) (.map (.int .i64) (.int .i64) .nil))))))))), none, fun z => match_pairs_reach_1_T z.1.1 z.2.2.2.2.2.1 z.2.2.2.2.2.2.1.1 z.2.2.2.2.2.2.2.1 z.2.2.2.2.2.2.2.2.1 z.2.2.2.2.2.2.2.2.2.1⟩

theorem match_pairs_reach_1_ok : match_pairs_reach_1_g.ok Try.prog := fun x y h => by
  obtain ⟨n, hn⟩ := recT_some h
  exact match_pairs_reach_1_rok n x y hn

noncomputable def match_pairs_reach_L5_step (t : List (Int × Int)) (t2 : Int) (t3 : Int) (p : List (Int × Int)) (rows : List (Int × Int)) (rows2 : List (Int × Int)) (rows3 : List (Int × Int)) (rows4 : List (Int × Int)) : Tree ((Int × (List (Int × Int)) × (List (Int × Int)) × (List (Int × Int)) × (List (Int × Int)) × (List (Int × Int))) ⊕ ((List (Int × Int)) × (List (Int × Int)) × (List (Int × Int)) × (List (Int × Int)) × (List (Int × Int)))) :=
  .ite (decide (t3 < t2)) (
    ask (inb t3 t.length) <|
    ask (inb 0 2) <|
    .ite (!((getM (.int .i64) (.int .i64) rows (t.getD t3.toNat (dfl (.pair (.int .i64) (.int .i64)) : (Int × Int))).1).isSome)) (
      ask (inb 0 2) <|
      .bnd (match_pairs_reach_1_T (t.getD t3.toNat (dfl (.pair (.int .i64) (.int .i64)) : (Int × Int))).1 rows3 p rows4 rows rows2) fun y1 =>
      .ret (.inl ((w64 (t3 + 1)), y1.2.2.2.2.2.2.1.1, y1.2.2.2.2.2.2.2.2.1, y1.2.2.2.2.2.2.2.2.2.1, y1.2.2.2.2.2.1, y1.2.2.2.2.2.2.2.1))) (
      .ret (.inl ((w64 (t3 + 1)), p, rows, rows2, rows3, rows4)))) (
    .ret (.inr (p, rows, rows2, rows3, rows4)))

noncomputable def match_pairs_reach_L5 : Lp := ⟨5, [], [], (ca (.cons (.ref 3 0) (ca2 (.cons (.ref 6 0) (.cons (.ref 7 0) (.cons (.ref 8 0) (ca2 (ca8 (.cons (.val false (.list (.pair (.int .i64) (.int .i64)))) (.cons (.val false (.int .i64)) (.cons (.val false (.int .i64)) (ca2 (ca4 (ca16 .nil)))))))))))))), (.cells 100 (.cons (.val false (.list (.pair (.int .i64) (.int .i64)))) (.cons (.mp 1) (.cons (.mp 2) .nil))) (.map (.int .i64) (.int .i64) (.map (.int .i64) (.int .i64) (.cells 101 (.cons (.ref 0 0) .nil) (.map (.int .i64) (.int .i64) (.map (.int .i64) (.int .i64) (.cells 98 (.cons (.mp 4) .nil) (.cells 98 (.cons (.mp 5) .nil) (.cells 115 (.cons (.fn 70 .nil (.cons (.ref 6 0) (.cons (.ref 3 0) (.cons (.ref 7 0) (.cons (.ref 8 0) .nil))))) .nil) .nil))))))))), 3, .one 1 [] (ca4 (.cons (.ref 6 0) (.cons (.ref 7 0) (ca4 (ca32 .nil))))) (.cells 100 (.cons (.val false (.list (.pair (.int .i64) (.int .i64)))) (.cons (.mp 1) (.cons (.mp 2) .nil))) (.map (.int .i64) (.int .i64) (.map (.int .i64) (.int .i64) (.cells 101 (ca .nil) (.map (.int .i64) (.int .i64) (.map (.int .i64) (.int .i64) (.cells 98 (.cons (.mp 4) .nil) (.cells 98 (.cons (.mp 5) .nil) .nil)))))))), fun z => .bnd (.loop (fun v => match_pairs_reach_L5_step z.1.2.2.2.2.2.2.2.2.2.2.2.2.2.2.2.2.2.1 z.1.2.2.2.2.2.2.2.2.2.2.2.2.2.2.2.2.2.2.1 v.1 v.2.1 v.2.2.1 v.2.2.2.1 v.2.2.2.2.1 v.2.2.2.2.2) (z.1.2.2.2.2.2.2.2.2.2.2.2.2.2.2.2.2.2.2.2.1, z.2.1.1, z.2.2.1, z.2.2.2.1, z.2.2.2.2.2.1, z.2.2.2.2.2.2.1)) fun r => .ret ((cu4 ((), ((), (cu4 (cu32 ()))))), ((r.1, ((), ((), ()))), (r.2.1, (r.2.2.1, ((cu ()), (r.2.2.2.1, (r.2.2.2.2, (((), ()), (((), ()), ())))))))))⟩

theorem match_pairs_reach_L5_ok : match_pairs_reach_L5.ok Try.prog (nthC (loopsOf (bodyOf Try.f60)) 0) := by
  refine Lp.lift (π := ((List (Int × Int)) × Int)) (V := (Int × (List (Int × Int)) × (List (Int × Int)) × (List (Int × Int)) × (List (Int × Int)) × (List (Int × Int)))) (ρ := ((List (Int × Int)) × (List (Int × Int)) × (List (Int × Int)) × (List (Int × Int)) × (List (Int × Int)))) mix tabOk match_pairs_reach_L5 (o := orM [] [match_pairs_reach_1_g] [] noFz) (orM_sound trivial ⟨match_pairs_reach_1_ok, trivial⟩) (allLp_ofM [] (by kernel_rfl) trivial rfl) (fun x v => ((cu ((), (cu2 ((), ((), ((), (cu2 (cu8 (x.1, (x.2, (v.1, (cu2 (cu4 (cu16 ())))))))))))))), ((v.2.1, ((), ((), ()))), (v.2.2.1, (v.2.2.2.1, (((), ()), (v.2.2.2.2.1, (v.2.2.2.2.2, (((), ()), (((), ()), ((((), ((), ((), ((), ((), ()))))), ()), ()))))))))))) (fun x r => ((cu4 ((), ((), (cu4 (cu32 ()))))), ((r.1, ((), ((), ()))), (r.2.1, (r.2.2.1, ((cu ()), (r.2.2.2.1, (r.2.2.2.2, (((), ()), (((), ()), ())))))))))) (fun x v => match_pairs_reach_L5_step x.1 x.2 v.1 v.2.1 v.2.2.1 v.2.2.2.1 v.2.2.2.2.1 v.2.2.2.2.2) (fun x r => .ret ((cu4 ((), ((), (cu4 (cu32 ()))))), ((r.1, ((), ((), ()))), (r.2.1, (r.2.2.1, ((cu ()), (r.2.2.2.1, (r.2.2.2.2, (((), ()), (((), ()), ())))))))))) (fun z => (z.1.2.2.2.2.2.2.2.2.2.2.2.2.2.2.2.2.2.1, z.1.2.2.2.2.2.2.2.2.2.2.2.2.2.2.2.2.2.2.1)) (fun z => (z.1.2.2.2.2.2.2.2.2.2.2.2.2.2.2.2.2.2.2.2.1, z.2.1.1, z.2.2.1, z.2.2.2.1, z.2.2.2.2.2.1, z.2.2.2.2.2.2.1)) (fun _ => rfl) (fun _ => rfl) (fun _ _ _ h => h) ?_
  intro x v; kernel_rfl

noncomputable def match_pairs_reach_T (x0 : List (Int × Int)) (x1 : List (Int × Int)) (x2 : List (Int × Int)) : Tree ((Unit × (Unit × Unit)) × (((List (Int × Int)) × (Unit × (Unit × Unit))) × ((List (Int × Int)) × ((List (Int × Int)) × ((Unit × Unit) × ((List (Int × Int)) × ((List (Int × Int)) × Unit))))))) :=
  .bnd (.loop (fun v => match_pairs_reach_L5_step x0 (x0.length : Int) v.1 v.2.1 v.2.2.1 v.2.2.2.1 v.2.2.2.2.1 v.2.2.2.2.2) (0, x0, x1, x2, ([] : List (Int × Int)), ([] : List (Int × Int)))) fun r1 =>
  .ret (((), ((), ())), ((r1.1, ((), ((), ()))), (r1.2.1, (r1.2.2.1, (((), ()), (r1.2.2.2.1, (r1.2.2.2.2, ())))))))

noncomputable def match_pairs_reach_g : MSig := ⟨60, (.cons (.ref 0 0) .nil), (.cells 100 (.cons (.val false (.list (.pair (.int .i64) (.int .i64)))) (.cons (.mp 1) (.cons (.mp 2) .nil))) (.map (.int .i64) (.int .i64) (.map (.int .i64) (.int .i64) .nil))), [], (.cons (.mp 4) (.cons (.mp 5) .nil)), (.cells 100 (.cons (.val false (.list (.pair (.int .i64) (.int .i64)))) (.cons (.mp 1) (.cons (.mp 2) .nil))) (.map (.int .i64) (.int .i64) (.map (.int .i64) (.int .i64) (.cells 101 (ca .nil) (.map (.int .i64) (.int .i64) (.map (.int .i64) (.int .i64) .nil)))))), none, fun z => match_pairs_reach_T z.2.1.1 z.2.2.1 z.2.2.2.1⟩

theorem match_pairs_reach_ok : match_pairs_reach_g.ok Try.prog := by
  refine MSig.lift mix tabOk nms _ Try.func60 (c := (bodyOf Try.f60)) (by kernel_rfl) (o := orM [] [match_pairs_reach_1_g] [match_pairs_reach_L5] noFz) (orM_sound trivial ⟨match_pairs_reach_1_ok, trivial⟩) (allLp_ofM [nthC (loopsOf (bodyOf Try.f60)) 0] (by kernel_rfl) ⟨match_pairs_reach_L5_ok, trivial⟩ (by kernel_rfl)) (fun _ => rfl) ?_
  intro z; kernel_rfl

noncomputable def slices_Sort_int_T (x0 : List Int) : Tree (Unit × (List Int × Unit)) :=
  ask (decide (x0.length < 4611686018427387904)) <|
  .ret ((), (sortI x0, ()))

noncomputable def slices_Sort_int_g : MSig := ⟨59, (.cons (.own 0) .nil), (.rows 3 (.int .i64) .nil), [], .nil, (.rows 3 (.int .i64) .nil), none, fun z => slices_Sort_int_T z.2.1⟩

theorem slices_Sort_int_ok : slices_Sort_int_g.ok Try.prog := by
  refine sort_scalls (P := Try.prog) (f := 59) (t := (.int .i64)) (e := 3) rfl (Value.int .i64) sortI (fun l => (isortB_perm _ l).length_eq) (fun l x h => (isortB_perm _ l).mem_iff.1 h) (by intro w S v x h; cases h; rfl) (fun x => rfl) (fun b cap zs w h1 h2 h3 => ?_) (fun p cap w => Try.slices_Sort_int_none p cap w) (fun args w => enters_of Try.func59 (by kernel_rfl) rfl args w)
  rw [← mergeI]; exact Try.slices_Sort_int b 0 cap zs w h1 h2 h3

noncomputable def slices_Compact_int_T (x0 : List Int) : Tree (Unit × (List Int × Unit)) :=
  .ret ((), (compL eqI x0, ()))

noncomputable def slices_Compact_int_g : MSig := ⟨61, (.cons (.own 0) .nil), (.rows 3 (.int .i64) .nil), [], .own 0, (.rows 3 (.int .i64) .nil), some 0, fun z => slices_Compact_int_T z.2.1⟩

theorem slices_Compact_int_ok : slices_Compact_int_g.ok Try.prog := by
  refine compact_scalls (P := Try.prog) (f := 61) (t := (.int .i64)) (e := 3) rfl (Value.int .i64) (compL eqI) (0 : Int) (fun l => (compL_sub _ l).1) (fun l x h => (compL_sub _ l).2 x h) (by intro w S v x h; cases h; rfl) (fun x => rfl) (fun b cap zs w h1 h2 h3 => ?_) (fun p cap w => Try.slices_Compact_int_empty p cap w) (fun args w => enters_of Try.func61 (by kernel_rfl) rfl args w)
  rw [← compact_eq eqI (fun a b => by unfold eqI; simp)]; exact Try.slices_Compact_int b 0 cap zs w h1 h2 h3

noncomputable def match_Cover_L5_step (t : List (Int × Int)) (t2 : Int) (rows : List (Int × Int)) (rows2 : List (Int × Int)) (rows3 : List (Int × Int)) (rows4 : List (Int × Int)) (t3 : Int) (a : List Int) (b : List Int) : Tree ((Int × (List Int) × (List Int)) ⊕ ((List Int) × (List Int))) :=
  .ite (decide (t3 < t2)) (
    ask (inb t3 t.length) <|
    ask (inb 0 2) <|
    .ite (decide (((getM (.int .i64) (.int .i64) rows3 (t.getD t3.toNat (dfl (.pair (.int .i64) (.int .i64)) : (Int × Int))).1).getD (0 : Int)) = 0)) (
      ask (inb 0 2) <|
      ask (decide ((a ++ [(t.getD t3.toNat (dfl (.pair (.int .i64) (.int .i64)) : (Int × Int))).1]).length * 8 ≤ roomNat)) <|
      ask (inb 1 2) <|
      .ite (decide ((0 : Int) < ((getM (.int .i64) (.int .i64) rows4 (t.getD t3.toNat (dfl (.pair (.int .i64) (.int .i64)) : (Int × Int))).2).getD (0 : Int)))) (
        ask (inb 1 2) <|
        ask (decide ((b ++ [(t.getD t3.toNat (dfl (.pair (.int .i64) (.int .i64)) : (Int × Int))).2]).length * 8 ≤ roomNat)) <|
        .ret (.inl ((w64 (t3 + 1)), (a ++ [(t.getD t3.toNat (dfl (.pair (.int .i64) (.int .i64)) : (Int × Int))).1]), (b ++ [(t.getD t3.toNat (dfl (.pair (.int .i64) (.int .i64)) : (Int × Int))).2])))) (
        .ret (.inl ((w64 (t3 + 1)), (a ++ [(t.getD t3.toNat (dfl (.pair (.int .i64) (.int .i64)) : (Int × Int))).1]), b)))) (
      ask (inb 1 2) <|
      .ite (decide ((0 : Int) < ((getM (.int .i64) (.int .i64) rows4 (t.getD t3.toNat (dfl (.pair (.int .i64) (.int .i64)) : (Int × Int))).2).getD (0 : Int)))) (
        ask (inb 1 2) <|
        ask (decide ((b ++ [(t.getD t3.toNat (dfl (.pair (.int .i64) (.int .i64)) : (Int × Int))).2]).length * 8 ≤ roomNat)) <|
        .ret (.inl ((w64 (t3 + 1)), a, (b ++ [(t.getD t3.toNat (dfl (.pair (.int .i64) (.int .i64)) : (Int × Int))).2])))) (
        .ret (.inl ((w64 (t3 + 1)), a, b))))) (
    .ret (.inr (a, b)))

noncomputable def match_Cover_L5 : Lp := ⟨5, [.own 7 3 (.int .i64), .own 8 3 (.int .i64)], [], (ca (ca4 (.cons (.mp 4) (.cons (.mp 5) (.cons (.own 6) (.cons (.own 7) (ca (ca8 (.cons (.val false (.list (.pair (.int .i64) (.int .i64)))) (.cons (.val false (.int .i64)) (.cons (.val false (.int .i64)) (ca32 .nil)))))))))))), (.map (.int .i64) (.int .i64) (.map (.int .i64) (.int .i64) (.cells 100 (ca (ca2 .nil)) (.cells 101 (ca .nil) (.map (.int .i64) (.int .i64) (.map (.int .i64) (.int .i64) (.rows 3 (.int .i64) (.rows 3 (.int .i64) .nil)))))))), 0, .one 1 [] (ca (ca2 (ca4 (.cons (.own 6) (.cons (.own 7) (ca4 (ca8 (ca32 .nil)))))))) (.map (.int .i64) (.int .i64) (.map (.int .i64) (.int .i64) (.cells 100 (ca (ca2 .nil)) (.cells 101 (ca .nil) (.map (.int .i64) (.int .i64) (.map (.int .i64) (.int .i64) (.rows 3 (.int .i64) (.rows 3 (.int .i64) .nil)))))))), fun z => .bnd (.loop (fun v => match_Cover_L5_step z.1.2.2.2.2.2.2.2.2.2.2.2.2.2.2.2.2.2.2.1 z.1.2.2.2.2.2.2.2.2.2.2.2.2.2.2.2.2.2.2.2.1 z.2.1 z.2.2.1 z.2.2.2.2.2.1 z.2.2.2.2.2.2.1 v.1 v.2.1 v.2.2) (z.1.2.2.2.2.2.2.2.2.2.2.2.2.2.2.2.2.2.2.2.2.1, z.2.2.2.2.2.2.2.1, z.2.2.2.2.2.2.2.2.1)) fun r => .ret ((cu (cu2 (cu4 ((), ((), (cu4 (cu8 (cu32 ())))))))), (z.2.1, (z.2.2.1, ((cu (cu2 ())), ((cu ()), (z.2.2.2.2.2.1, (z.2.2.2.2.2.2.1, (r.1, (r.2, ())))))))))⟩

theorem match_Cover_L5_ok : match_Cover_L5.ok Try.prog (nthC (loopsOf (bodyOf Try.f40)) 0) := by
  refine Lp.lift (π := ((List (Int × Int)) × Int × (List (Int × Int)) × (List (Int × Int)) × (List (Int × Int)) × (List (Int × Int)))) (V := (Int × (List Int) × (List Int))) (ρ := ((List Int) × (List Int))) mix tabOk match_Cover_L5 (o := orM [] [match_choose_g, match_pairs_reach_g, slices_Sort_int_g, slices_Compact_int_g] [] noFz) (orM_sound trivial ⟨match_choose_ok, ⟨match_pairs_reach_ok, ⟨slices_Sort_int_ok, ⟨slices_Compact_int_ok, trivial⟩⟩⟩⟩) (allLp_ofM [] (by kernel_rfl) trivial rfl) (fun x v => ((cu (cu4 ((), ((), ((), ((), (cu (cu8 (x.1, (x.2.1, (v.1, (cu32 ())))))))))))), (x.2.2.1, (x.2.2.2.1, ((cu (cu2 ())), ((cu ()), (x.2.2.2.2.1, (x.2.2.2.2.2, (v.2.1, (v.2.2, ())))))))))) (fun x r => ((cu (cu2 (cu4 ((), ((), (cu4 (cu8 (cu32 ())))))))), (x.2.2.1, (x.2.2.2.1, ((cu (cu2 ())), ((cu ()), (x.2.2.2.2.1, (x.2.2.2.2.2, (r.1, (r.2, ())))))))))) (fun x v => match_Cover_L5_step x.1 x.2.1 x.2.2.1 x.2.2.2.1 x.2.2.2.2.1 x.2.2.2.2.2 v.1 v.2.1 v.2.2) (fun x r => .ret ((cu (cu2 (cu4 ((), ((), (cu4 (cu8 (cu32 ())))))))), (x.2.2.1, (x.2.2.2.1, ((cu (cu2 ())), ((cu ()), (x.2.2.2.2.1, (x.2.2.2.2.2, (r.1, (r.2, ())))))))))) (fun z => (z.1.2.2.2.2.2.2.2.2.2.2.2.2.2.2.2.2.2.2.1, z.1.2.2.2.2.2.2.2.2.2.2.2.2.2.2.2.2.2.2.2.1, z.2.1, z.2.2.1, z.2.2.2.2.2.1, z.2.2.2.2.2.2.1)) (fun z => (z.1.2.2.2.2.2.2.2.2.2.2.2.2.2.2.2.2.2.2.2.2.1, z.2.2.2.2.2.2.2.1, z.2.2.2.2.2.2.2.2.1)) (fun _ => rfl) (fun _ => rfl) (fun _ _ _ h => h) ?_
  intro x v; kernel_rfl

noncomputable def match_Cover_T (x0 : List (Int × Int)) : Tree ((List Int) × (List Int) × Unit) :=
  .bnd (match_choose_T x0) fun y1 =>
  .bnd (match_pairs_reach_T y1.2.2.2.1.1 y1.2.1 y1.2.2.1) fun y2 =>
  .bnd (.loop (fun v => match_Cover_L5_step x0 (x0.length : Int) y2.2.2.1 y2.2.2.2.1 y2.2.2.2.2.2.1 y2.2.2.2.2.2.2.1 v.1 v.2.1 v.2.2) (0, ([] : List Int), ([] : List Int))) fun r3 =>
  .bnd (slices_Sort_int_T r3.1) fun y4 =>
  .bnd (slices_Sort_int_T r3.2) fun y5 =>
  .bnd (slices_Compact_int_T y4.2.1) fun y6 =>
  .bnd (slices_Compact_int_T y5.2.1) fun y7 =>
  .ret (y6.2.1, y7.2.1, ())

noncomputable def match_Cover_g : Sig := ⟨40, (.cons (.val false (.list (.pair (.int .i64) (.int .i64)))) .nil), .vals (.cons (.val false (.list (.int .i64))) (.cons (.val false (.list (.int .i64))) .nil)), fun z => match_Cover_T z.1, (([] : List Int), ([] : List Int), ())⟩

theorem match_Cover_ok : match_Cover_g.ok Try.prog := by
  refine Sig.lift mix tabOk nms _ Try.func40 (c := (bodyOf Try.f40)) (by kernel_rfl) (o := orM [] [match_choose_g, match_pairs_reach_g, slices_Sort_int_g, slices_Compact_int_g] [match_Cover_L5] noFz) (orM_sound trivial ⟨match_choose_ok, ⟨match_pairs_reach_ok, ⟨slices_Sort_int_ok, ⟨slices_Compact_int_ok, trivial⟩⟩⟩⟩) (allLp_ofM [nthC (loopsOf (bodyOf Try.f40)) 0] (by kernel_rfl) ⟨match_Cover_L5_ok, trivial⟩ (by kernel_rfl)) ?_
  intro z; kernel_rfl

noncomputable def match_Find_T (x0 : List (Int × Int)) : Tree (List Int) :=
  .bnd (match_choose_T x0) fun y =>
  ask (decide (y.2.1.length * 8 ≤ roomNat)) <|
  ask (decide (y.2.1.length < 4611686018427387904)) <|
  .ret (sortI (y.2.1.map (·.2)))

noncomputable def match_Find_g : Sig := ⟨39, (.cons (.val false (.list (.pair (.int .i64) (.int .i64)))) .nil), .fresh 3 (.int .i64), fun z => match_Find_T z.1, ([] : List Int)⟩

theorem sortI_perm {l k : List Int} (h : l.Perm k) : sortI l = sortI k :=
  List.Perm.eq_of_pairwise (le := fun a b => leI a b = true) (fun a b _ _ h1 h2 => by unfold leI at h1 h2; simp only [decide_eq_true_eq] at h1 h2; omega)
    (isortB_sorted (fun a b c h k => by unfold leI at *; simp only [decide_eq_true_eq] at *; omega) (fun a b h => by unfold leI at *; simp only [decide_eq_true_eq, decide_eq_false_iff_not] at *; omega) l)
    (isortB_sorted (fun a b c h k => by unfold leI at *; simp only [decide_eq_true_eq] at *; omega) (fun a b h => by unfold leI at *; simp only [decide_eq_true_eq, decide_eq_false_iff_not] at *; omega) k) ((isortB_perm _ l).trans (h.trans (isortB_perm _ k).symm))

abbrev fdP (x : List (Int × Int)) : AV := .tsl (.pair (.int .i64) (.int .i64)) x false
abbrev FdY : Type := (Unit × ((List (Int × Int)) × ((List (Int × Int)) × (((List (Int × Int)) × (Unit × (Unit × Unit))) × Unit))))
noncomputable def fdF (x : List (Int × Int)) (y : FdY) (ks : List Int) : AS := ⟨[fdP x, .undef, .nilsl, .ownT 3, .undef, .undef, .undef, .undef, .undef, .undef, .undef, .undef, .undef, .undef, .undef, .undef, .undef, .undef, .undef, .undef, .undef, .undef, .undef], [.dead, .map (.int .i64) (.int .i64) y.2.2.1, .cells 100 [fdP y.2.2.2.1.1, .mv (.int .i64) (.int .i64) y.2.1, .mp 1], .trows 3 (.int .i64) ks], 0⟩
noncomputable def fdA (x : List (Int × Int)) (y : FdY) : AS := ⟨[fdP x, .undef, .nilsl, .nilsl, .undef, .undef, fdP x, .ref 2 0, .ref 2 0, .ref 2 1, .mv (.int .i64) (.int .i64) y.2.1, .undef, .undef, .undef, .undef, .undef, .undef, .undef, .undef, .undef, .undef, .undef, .undef], [.dead, .map (.int .i64) (.int .i64) y.2.2.1, .cells 100 [fdP y.2.2.2.1.1, .mv (.int .i64) (.int .i64) y.2.1, .mp 1]], 0⟩
noncomputable def fdB : Code := bodyOf Try.f39
noncomputable def fd0 : Code := seqL fdB
noncomputable def fd1 : Code := seqL (seqR fdB)
noncomputable def fd4 : Code := seqL (seqR (seqR fdB))
noncomputable def fd5 : Code := seqR (seqR (seqR fdB))
noncomputable def fdAt (l : List Oper) (i : Nat) : Oper := (nthO l i).getD ⟨none, .move (.tmp 0), 0, "", #[], none⟩
noncomputable def fdBody (c : Code) : Code := match c with | .block _ (.loop b) => b | c => c
noncomputable def fdIn (c : Code) : Code := match c with | .block _ b => b | c => c
noncomputable def fdO2 : List Oper := (opsOf (seqL fd4)).toList
noncomputable def fdL : Code := fdBody (seqR fd4)
noncomputable def fdO3 : List Oper := (opsOf (seqL fdL)).toList
noncomputable def fdI : Code := fdIn (seqR (seqR fdL))
noncomputable def fdO4 : List Oper := (opsOf (seqL fdI)).toList
noncomputable def fdO5 : Array Oper := opsOf (seqR fdI)
noncomputable def fdOr : OrT := orM [] [match_choose_g] [] noFz
theorem fdOr_ok : SoundT Try.prog fdOr := orM_sound trivial ⟨match_choose_ok, trivial⟩

theorem fd_vals (x : List (Int × Int)) (y : FdY) (hy : (match_choose_T x).run = some y) (hx : y.2.1.length * 8 ≤ roomNat) :
    AWp Try.prog fd4 (fun e B => e = .normal ∧ ∃ ks, ks.Perm (y.2.1.map (·.2)) ∧ B = fdF x y ks) ⟨[fdP x, .undef, .nilsl, .nilsl, .undef, .undef, .undef, .undef, .undef, .undef, .undef, .undef, .undef, .undef, .undef, .undef, .undef, .undef, .undef, .undef, .undef, .undef, .undef], [], 0⟩ := by
  rw [show fd4 = .seq (.region 2 (fdO2.take 5 ++ [fdAt fdO2 5]).toArray false) (.block 0 (.loop (.seq (.region 3 #[fdAt fdO3 0, fdAt fdO3 1] false) (.seq (.cond (.tmp 13) .skip (.exit 0)) (.block 1 (.seq (.region 4 #[fdAt fdO4 0, fdAt fdO4 1, fdAt fdO4 2] false) (.region 5 fdO5 false))))))) by kernel_rfl]
  refine AWp.vals (T := typs) tabOk (o := fdOr) fdOr_ok (t := .int .i64) (u := .int .i64) (l := y.2.1) rfl rfl (mt := 98) (kt := 3) (et := 3) (by kernel_rfl)
    (it := 11) (nx := 12) (ok := 13) (kx := 14) (ke := 15) (lane := 5) (sm := 10) (by kernel_rfl) (by kernel_rfl) (by kernel_rfl) (by kernel_rfl) (by kernel_rfl) (by kernel_rfl) (by kernel_rfl) (by kernel_rfl) (by kernel_rfl) (by kernel_rfl) (by kernel_rfl) (by kernel_rfl) (by kernel_rfl) (by kernel_rfl) (by kernel_rfl) (by kernel_rfl) (by kernel_rfl) (by kernel_rfl)
    (by decide) ?_ (fdF x y) 23 (fun ks => ⟨rfl, rfl, rfl, rfl, rfl, rfl⟩) (by decide)
    (s := ⟨[fdP x, .undef, .nilsl, .nilsl, .undef, .undef, fdP x, .ref 2 0, .ref 2 0, .ref 2 1, .mp 0, .undef, .undef, .undef, .undef, .undef, .undef, .undef, .undef, .undef, .undef, .undef, .undef], [.map (.int .i64) (.int .i64) y.2.1, .map (.int .i64) (.int .i64) y.2.2.1, .cells 100 [fdP y.2.2.2.1.1, .mp 0, .mp 1]], [], []⟩) ?_ (A1 := fdA x y) ?_ rfl ?_ ?_
  · intro i o h
    have hall : (fdO5.toList.all fun o => match o.dst with | some d => !Nat.beq d 11 | none => true) = true := by kernel_rfl
    have := List.all_eq_true.1 hall o (by rw [← Array.getElem?_toList] at h; exact List.mem_of_getElem? h)
    intro e
    rw [e] at this
    exact absurd this (by decide)
  · rw [show opsT std typs fdOr (fdO2.take 5 ++ [fdAt fdO2 5]) (fdO2.take 5) ⟨[fdP x, .undef, .nilsl, .nilsl, .undef, .undef, .undef, .undef, .undef, .undef, .undef, .undef, .undef, .undef, .undef, .undef, .undef, .undef, .undef, .undef, .undef, .undef, .undef], [], [], []⟩ = .bnd (match_choose_T x) fun y => .ret ⟨[fdP x, .undef, .nilsl, .nilsl, .undef, .undef, fdP x, .ref 2 0, .ref 2 0, .ref 2 1, .mp 0, .undef, .undef, .undef, .undef, .undef, .undef, .undef, .undef, .undef, .undef, .undef, .undef], [.map (.int .i64) (.int .i64) y.2.1, .map (.int .i64) (.int .i64) y.2.2.1, .cells 100 [fdP y.2.2.2.1.1, .mp 0, .mp 1]], [], []⟩ by kernel_rfl]
    exact (run_bnd hy).trans rfl
  · exact ALe.freeze (A := ⟨[fdP x, .undef, .nilsl, .nilsl, .undef, .undef, fdP x, .ref 2 0, .ref 2 0, .ref 2 1, .mp 0, .undef, .undef, .undef, .undef, .undef, .undef, .undef, .undef, .undef, .undef, .undef, .undef], [.map (.int .i64) (.int .i64) y.2.1, .map (.int .i64) (.int .i64) y.2.2.1, .cells 100 [fdP y.2.2.2.1.1, .mp 0, .mp 1]], 0⟩) 0 (B := .map (.int .i64) (.int .i64) y.2.1) rfl rfl (.inl rfl)
  · refine ALe.trans (B := ⟨[fdP x, .undef, .nilsl, .nilsl, .undef, .undef, .undef, .undef, .undef, .undef, .undef, .undef, .undef, .undef, .undef, .undef, .undef, .undef, .undef, .undef, .undef, .undef, .undef], [.dead, .map (.int .i64) (.int .i64) y.2.2.1, .cells 100 [fdP y.2.2.2.1.1, .mv (.int .i64) (.int .i64) y.2.1, .mp 1]], 0⟩) (ALe.drop (by repeat (first | exact .nil | apply Drop.keep | apply Drop.drop))) ?_
    exact ALe.own (A := ⟨[fdP x, .undef, .nilsl, .nilsl, .undef, .undef, .undef, .undef, .undef, .undef, .undef, .undef, .undef, .undef, .undef, .undef, .undef, .undef, .undef, .undef, .undef, .undef, .undef], [.dead, .map (.int .i64) (.int .i64) y.2.2.1, .cells 100 [fdP y.2.2.2.1.1, .mv (.int .i64) (.int .i64) y.2.1, .mp 1]], 0⟩) 3 3 (.int .i64) (.inl rfl)
  · intro ks k hlt
    refine ⟨⟨[fdP x, .undef, .nilsl, .ownT 3, .undef, .int .i64 k, .undef, .undef, .undef, .undef, .undef, .undef, .undef, .undef, .undef, .undef, .undef, .int .i64 k, .tsl (.int .i64) [k] true, .ownT 3, .undef, .undef, .undef], [.dead, .map (.int .i64) (.int .i64) y.2.2.1, .cells 100 [fdP y.2.2.2.1.1, .mv (.int .i64) (.int .i64) y.2.1, .mp 1], .trows 3 (.int .i64) (ks ++ [k])], [], [std.ble (std.nmul (ks ++ [k]).length 8) roomNat]⟩, by kernel_rfl, ?_, ?_⟩
    · show decide ((ks ++ [k]).length * 8 ≤ roomNat) = true
      rw [List.length_append, List.length_singleton, decide_eq_true_eq]
      omega
    · exact ALe.drop (by repeat (first | exact .nil | apply Drop.keep | apply Drop.drop))

theorem match_Find_ok : match_Find_g.ok Try.prog := by
  rintro ⟨x, ⟨⟩⟩ z hz
  have hz : (match_Find_T x).run = some z := hz
  unfold match_Find_T at hz
  cases hy : (match_choose_T x).run with
  | none => simp only [Tree.run, hy, Option.bind_none] at hz; cases hz
  | some y =>
  have hz : (bif decide (y.2.1.length * 8 ≤ roomNat) then (bif decide (y.2.1.length < 4611686018427387904) then some (sortI (y.2.1.map (·.2))) else none) else none) = some z := by
    rw [run_bnd hy] at hz; exact hz
  cases h1 : decide (y.2.1.length * 8 ≤ roomNat) with
  | false => rw [h1] at hz; cases hz
  | true =>
  cases h2 : decide (y.2.1.length < 4611686018427387904) with
  | false => rw [h1, h2] at hz; cases hz
  | true =>
  rw [h1, h2] at hz
  injection hz with hz
  subst hz
  have h1 := of_decide_eq_true h1
  have h2 := of_decide_eq_true h2
  refine ACalls.of tabOk Try.func39 (c := fdB) (by kernel_rfl) (name_ok nms Try.func39) fun _ => ?_
  rw [show (⟨catA (encP match_Find_g.ps (x, ())) (und (Try.f39.ntmps - lenA (encP match_Find_g.ps (x, ())))), [], 0⟩ : AS) = ⟨[fdP x, .undef, .undef, .undef, .undef, .undef, .undef, .undef, .undef, .undef, .undef, .undef, .undef, .undef, .undef, .undef, .undef, .undef, .undef, .undef, .undef, .undef, .undef], [], 0⟩ by kernel_rfl]
  rw [show fdB = .seq fd0 (.seq fd1 (.seq fd4 fd5)) by kernel_rfl]
  refine AWp.seq (evT_sound mix tabOk (o := orT [] [] noFz) (orT_sound trivial) fd0 (allLp_of [] (by kernel_rfl) trivial rfl) _ _ ?_)
  rw [show evT std typs (orT [] [] noFz) fd0 ⟨[fdP x, .undef, .undef, .undef, .undef, .undef, .undef, .undef, .undef, .undef, .undef, .undef, .undef, .undef, .undef, .undef, .undef, .undef, .undef, .undef, .undef, .undef, .undef], [], 0⟩ = .ret (.normal, ⟨[fdP x, .undef, .nilsl, .undef, .undef, .undef, .undef, .undef, .undef, .undef, .undef, .undef, .undef, .undef, .undef, .undef, .undef, .undef, .undef, .undef, .undef, .undef, .undef], [], 0⟩) by kernel_rfl]
  show AWp _ _ _ _
  refine AWp.seq (evT_sound mix tabOk (o := orT [] [] noFz) (orT_sound trivial) fd1 (allLp_of [] (by kernel_rfl) trivial rfl) _ _ ?_)
  rw [show evT std typs (orT [] [] noFz) fd1 ⟨[fdP x, .undef, .nilsl, .undef, .undef, .undef, .undef, .undef, .undef, .undef, .undef, .undef, .undef, .undef, .undef, .undef, .undef, .undef, .undef, .undef, .undef, .undef, .undef], [], 0⟩ = .ret (.normal, ⟨[fdP x, .undef, .nilsl, .nilsl, .undef, .undef, .undef, .undef, .undef, .undef, .undef, .undef, .undef, .undef, .undef, .undef, .undef, .undef, .undef, .undef, .undef, .undef, .undef], [], 0⟩) by kernel_rfl]
  show AWp _ _ _ _
  refine AWp.seq ((fd_vals x y hy h1).mono ?_)
  rintro e B ⟨rfl, ks, hp, rfl⟩
  show AWp _ _ _ _
  have hl : ks.length = y.2.1.length := by rw [hp.length_eq, List.length_map]
  have hfin : ((evT std typs (orM [] [slices_Sort_int_g] [] noFz) fd5 (fdF x y ks)).bind (finT typs Try.f39.results.toList (.fresh 3 (.int .i64)))).run = some (sortI (y.2.1.map (·.2))) := by
    rw [show (evT std typs (orM [] [slices_Sort_int_g] [] noFz) fd5 (fdF x y ks)).bind (finT typs Try.f39.results.toList (.fresh 3 (.int .i64))) = .bnd (slices_Sort_int_T ks) fun y => .ret y.2.1 by kernel_rfl]
    have hs : (slices_Sort_int_T ks).run = some ((), (sortI ks, ())) := run_ask (decide_eq_true (by omega))
    rw [run_bnd hs, sortI_perm hp.symm]
    rfl
  exact evT_fin (o := orM [] [slices_Sort_int_g] [] noFz) (rs := .fresh 3 (.int .i64)) mix tabOk (orM_sound trivial ⟨slices_Sort_int_ok, trivial⟩) (allLp_ofM [] (by kernel_rfl) trivial rfl) hfin

noncomputable def match_Find_gv : Sig := ⟨39, (.cons (.val false (.list (.pair (.int .i64) (.int .i64)))) .nil), .newv 3 (.int .i64), fun z => match_Find_T z.1, ([] : List Int)⟩

theorem match_Find_okv : match_Find_gv.ok Try.prog := fun x y h => acalls_new (match_Find_ok x y h)


noncomputable def l16_awake_T  : Tree Bool :=
  .bnd (match_Cover_T [(1, 1), (1, 2), (2, 1)]) fun y1 =>
  .bnd (match_Max_T [(1, 1), (1, 2), (2, 1)]) fun y2 =>
  .grd (decide (y2 = 2)) (match_Find_T [(1, 1), (1, 2), (2, 1)]) ([] : List Int) fun y3 =>
  .ret (((decide (y2 = 2)) && (decide ((y3.length : Int) = 2))) && (decide ((w64 ((y1.1.length : Int) + (y1.2.1.length : Int))) = 2)))

noncomputable def l16_awake_g : Sig := ⟨38, .nil, .vals (.val false .bool), fun z => l16_awake_T, false⟩

theorem l16_awake_ok : l16_awake_g.ok Try.prog := by
  refine Sig.lift mix tabOk nms _ Try.func38 (c := (bodyOf Try.f38)) (by kernel_rfl) (o := orT [match_Cover_g, match_Max_g, match_Find_gv] [] noFz) (orT_sound ⟨match_Cover_ok, ⟨match_Max_ok, ⟨match_Find_okv, trivial⟩⟩⟩) (allLp_of [] (by kernel_rfl) trivial rfl) ?_
  intro z; kernel_rfl

noncomputable def l16_MatchMax_T (x0 : List (Int × Int)) : Tree Bool :=
  .grd (!(decide ((12 : Int) < (x0.length : Int)))) (match_Max_T x0) (0 : Int) fun y1 =>
  .grd (!(decide ((12 : Int) < (x0.length : Int)))) (r16_Max_T x0) (0 : Int) fun y2 =>
  .grd ((decide ((12 : Int) < (x0.length : Int))) || (decide (y1 = y2))) l16_awake_T false fun y3 =>
  .ret (((decide ((12 : Int) < (x0.length : Int))) || (decide (y1 = y2))) && y3)

noncomputable def l16_MatchMax_g : Sig := ⟨8, (.cons (.val false (.list (.pair (.int .i64) (.int .i64)))) .nil), .vals (.val false .bool), fun z => l16_MatchMax_T z.1, false⟩

theorem l16_MatchMax_ok : l16_MatchMax_g.ok Try.prog := by
  refine Sig.lift mix tabOk nms _ Try.func8 (c := (bodyOf Try.f8)) (by kernel_rfl) (o := orT [match_Max_g, r16_Max_g, l16_awake_g] [] noFz) (orT_sound ⟨match_Max_ok, ⟨r16_Max_ok, ⟨l16_awake_ok, trivial⟩⟩⟩) (allLp_of [] (by kernel_rfl) trivial rfl) ?_
  intro z; kernel_rfl

noncomputable def r16_Rise_L2_step (l : List Int) (i : Int) : Tree (Int ⊕ (Bool ⊕ Unit)) :=
  .ite (decide (i < (l.length : Int))) (
    ask (inb (w64 (i - 1)) l.length) <|
    ask (inb i l.length) <|
    .ite (decide ((l.getD i.toNat (0 : Int)) ≤ (l.getD ((w64 (i - 1)).toNat) (0 : Int)))) (
      .ret (.inr (.inl false))) (
      .ret (.inl (w64 (i + 1))))) (
    .ret (.inr (.inr ())))

noncomputable def r16_Rise_L2 : Lp := ⟨2, [], [], (.cons (.val false (.list (.int .i64))) (ca2 (.cons (.val false (.int .i64)) (ca16 .nil)))), .nil, 0, .more 0 [] (ca2 (.cons (.val false .bool) (ca (ca16 .nil)))) .nil (.one 1 [] (ca4 (ca16 .nil)) .nil), fun z => .bnd (.loop (fun v => r16_Rise_L2_step z.1.1 v) z.1.2.2.2.1) fun r => .sum r (fun a0 => .ret (.inl ((cu2 (a0, (cu (cu16 ())))), ()))) (fun b0 => .ret (.inr ((cu4 (cu16 ())), ())))⟩

theorem r16_Rise_L2_ok : r16_Rise_L2.ok Try.prog (nthC (loopsOf (bodyOf Try.f41)) 0) := by
  refine Lp.lift (π := List Int) (V := Int) (ρ := (Bool ⊕ Unit)) mix tabOk r16_Rise_L2 (o := orT [] [] noFz) (orT_sound trivial) (allLp_of [] (by kernel_rfl) trivial rfl) (fun x v => ((x, (cu2 (v, (cu16 ())))), ())) (fun x r => match r with | .inl a0 => .inl ((cu2 (a0, (cu (cu16 ())))), ()) | .inr b0 => (.inr ((cu4 (cu16 ())), ()))) (fun x v => r16_Rise_L2_step x v) (fun x r => .sum r (fun a0 => .ret (.inl ((cu2 (a0, (cu (cu16 ())))), ()))) (fun b0 => .ret (.inr ((cu4 (cu16 ())), ())))) (fun z => z.1.1) (fun z => z.1.2.2.2.1) (fun _ => rfl) (fun _ => rfl) (fun x r Q h => match r, h with | .inl _, h => h | .inr b0, h => (h)) ?_
  intro x v; kernel_rfl

noncomputable def r16_Rise_T (x0 : List Int) : Tree Bool :=
  .bnd (.loop (fun v => r16_Rise_L2_step x0 v) 1) fun r1 =>
  .sum r1 (fun r2 =>
    .ret r2) (fun r3 =>
    .ret true)

noncomputable def r16_Rise_g : Sig := ⟨41, (.cons (.val false (.list (.int .i64))) .nil), .vals (.val false .bool), fun z => r16_Rise_T z.1, false⟩

theorem r16_Rise_ok : r16_Rise_g.ok Try.prog := by
  refine Sig.lift mix tabOk nms _ Try.func41 (c := (bodyOf Try.f41)) (by kernel_rfl) (o := orT [] [r16_Rise_L2] noFz) (orT_sound trivial) (allLp_of [nthC (loopsOf (bodyOf Try.f41)) 0] (by kernel_rfl) ⟨r16_Rise_L2_ok, trivial⟩ (by kernel_rfl)) ?_
  intro z; kernel_rfl

noncomputable def r16_In_L2_step (l : List Int) (n : Int) (i : Int) : Tree (Int ⊕ (Bool ⊕ Unit)) :=
  .ite (decide (i < (l.length : Int))) (
    ask (inb i l.length) <|
    .ite (decide ((l.getD i.toNat (0 : Int)) = n)) (
      .ret (.inr (.inl true))) (
      .ret (.inl (w64 (i + 1))))) (
    .ret (.inr (.inr ())))

noncomputable def r16_In_L2 : Lp := ⟨2, [], [], (.cons (.val false (.list (.int .i64))) (.cons (.val false (.int .i64)) (ca (ca2 (.cons (.val false (.int .i64)) (ca4 (ca8 .nil))))))), .nil, 0, .more 0 [] (ca4 (.cons (.val false .bool) (ca (ca4 (ca8 .nil))))) .nil (.one 1 [] (ca2 (ca16 .nil)) .nil), fun z => .bnd (.loop (fun v => r16_In_L2_step z.1.1 z.1.2.1 v) z.1.2.2.2.2.2.1) fun r => .sum r (fun a0 => .ret (.inl ((cu4 (a0, (cu (cu4 (cu8 ()))))), ()))) (fun b0 => .ret (.inr ((cu2 (cu16 ())), ())))⟩

theorem r16_In_L2_ok : r16_In_L2.ok Try.prog (nthC (loopsOf (bodyOf Try.f43)) 0) := by
  refine Lp.lift (π := ((List Int) × Int)) (V := Int) (ρ := (Bool ⊕ Unit)) mix tabOk r16_In_L2 (o := orT [] [] noFz) (orT_sound trivial) (allLp_of [] (by kernel_rfl) trivial rfl) (fun x v => ((x.1, (x.2, (cu (cu2 (v, (cu4 (cu8 ()))))))), ())) (fun x r => match r with | .inl a0 => .inl ((cu4 (a0, (cu (cu4 (cu8 ()))))), ()) | .inr b0 => (.inr ((cu2 (cu16 ())), ()))) (fun x v => r16_In_L2_step x.1 x.2 v) (fun x r => .sum r (fun a0 => .ret (.inl ((cu4 (a0, (cu (cu4 (cu8 ()))))), ()))) (fun b0 => .ret (.inr ((cu2 (cu16 ())), ())))) (fun z => (z.1.1, z.1.2.1)) (fun z => z.1.2.2.2.2.2.1) (fun _ => rfl) (fun _ => rfl) (fun x r Q h => match r, h with | .inl _, h => h | .inr b0, h => (h)) ?_
  intro x v; kernel_rfl

noncomputable def r16_In_T (x0 : List Int) (x1 : Int) : Tree Bool :=
  .bnd (.loop (fun v => r16_In_L2_step x0 x1 v) 0) fun r1 =>
  .sum r1 (fun r2 =>
    .ret r2) (fun r3 =>
    .ret false)

noncomputable def r16_In_g : Sig := ⟨43, (.cons (.val false (.list (.int .i64))) (.cons (.val false (.int .i64)) .nil)), .vals (.val false .bool), fun z => r16_In_T z.1 z.2.1, false⟩

theorem r16_In_ok : r16_In_g.ok Try.prog := by
  refine Sig.lift mix tabOk nms _ Try.func43 (c := (bodyOf Try.f43)) (by kernel_rfl) (o := orT [] [r16_In_L2] noFz) (orT_sound trivial) (allLp_of [nthC (loopsOf (bodyOf Try.f43)) 0] (by kernel_rfl) ⟨r16_In_L2_ok, trivial⟩ (by kernel_rfl)) ?_
  intro z; kernel_rfl

noncomputable def l16_MatchProof_L8_step (l : List (Int × Int)) (a : List Int) (b : List Int) (f : List Int) (i : Int) : Tree (Int ⊕ (Bool ⊕ Unit)) :=
  .ite (decide (i < (f.length : Int))) (
    ask (inb i f.length) <|
    ask ((!(!(decide ((f.getD i.toNat (0 : Int)) < 0)))) || inb i f.length) <|
    ask ((!(!((decide ((f.getD i.toNat (0 : Int)) < 0)) || (decide ((l.length : Int) ≤ (f.getD i.toNat (0 : Int))))))) || inbe i f.length) <|
    ask ((!(!((decide ((f.getD i.toNat (0 : Int)) < 0)) || (decide ((l.length : Int) ≤ (f.getD i.toNat (0 : Int))))))) || inb i f.length) <|
    .grd (!((decide ((f.getD i.toNat (0 : Int)) < 0)) || (decide ((l.length : Int) ≤ (f.getD i.toNat (0 : Int)))))) (r16_Free_T l (f.take i.toNat) (f.getD i.toNat (0 : Int))) false fun y1 =>
    .ite (((decide ((f.getD i.toNat (0 : Int)) < 0)) || (decide ((l.length : Int) ≤ (f.getD i.toNat (0 : Int))))) || (!y1)) (
      .ret (.inr (.inl false))) (
      .ret (.inl (w64 (i + 1))))) (
    .ret (.inr (.inr ())))

noncomputable def l16_MatchProof_L8 : Lp := ⟨8, [], [], (.cons (.val false (.list (.pair (.int .i64) (.int .i64)))) (ca2 (.cons (.own 0) (.cons (.val false (.list (.int .i64))) (.cons (.val false (.list (.int .i64))) (.cons (.val false (.int .i64)) (ca (ca2 (ca32 (ca32 (ca32 .nil))))))))))), (.rows 3 (.int .i64) .nil), 0, .more 0 [] (ca2 (.cons (.val false .bool) (ca (ca2 (ca4 (ca32 (ca32 (ca32 .nil)))))))) .nil (.one 1 [] (.cons (.val false (.list (.pair (.int .i64) (.int .i64)))) (ca (ca2 (.cons (.val false (.list (.int .i64))) (.cons (.val false (.list (.int .i64))) (ca4 (ca32 (ca32 (ca32 .nil))))))))) .nil), fun z => .bnd (.loop (fun v => l16_MatchProof_L8_step z.1.1 z.1.2.2.2.2.1 z.1.2.2.2.2.2.1 z.2.1 v) z.1.2.2.2.2.2.2.1) fun r => .sum r (fun a0 => .ret (.inl ((cu2 (a0, (cu (cu2 (cu4 (cu32 (cu32 (cu32 ())))))))), ()))) (fun b0 => .ret (.inr ((z.1.1, (cu (cu2 (z.1.2.2.2.2.1, (z.1.2.2.2.2.2.1, (cu4 (cu32 (cu32 (cu32 ()))))))))), ())))⟩

theorem l16_MatchProof_L8_ok : l16_MatchProof_L8.ok Try.prog (nthC (loopsOf (bodyOf Try.f9)) 0) := by
  refine Lp.lift (π := ((List (Int × Int)) × (List Int) × (List Int) × (List Int))) (V := Int) (ρ := (Bool ⊕ Unit)) mix tabOk l16_MatchProof_L8 (o := orT [l16_awake_g, match_Find_g, match_Cover_g, r16_Rise_g, match_Max_g, r16_Free_g, r16_In_g] [] noFz) (orT_sound ⟨l16_awake_ok, ⟨match_Find_ok, ⟨match_Cover_ok, ⟨r16_Rise_ok, ⟨match_Max_ok, ⟨r16_Free_ok, ⟨r16_In_ok, trivial⟩⟩⟩⟩⟩⟩⟩) (allLp_of [] (by kernel_rfl) trivial rfl) (fun x v => ((x.1, (cu2 ((), (x.2.1, (x.2.2.1, (v, (cu (cu2 (cu32 (cu32 (cu32 ()))))))))))), (x.2.2.2, ()))) (fun x r => match r with | .inl a0 => .inl ((cu2 (a0, (cu (cu2 (cu4 (cu32 (cu32 (cu32 ())))))))), ()) | .inr b0 => (.inr ((x.1, (cu (cu2 (x.2.1, (x.2.2.1, (cu4 (cu32 (cu32 (cu32 ()))))))))), ()))) (fun x v => l16_MatchProof_L8_step x.1 x.2.1 x.2.2.1 x.2.2.2 v) (fun x r => .sum r (fun a0 => .ret (.inl ((cu2 (a0, (cu (cu2 (cu4 (cu32 (cu32 (cu32 ())))))))), ()))) (fun b0 => .ret (.inr ((x.1, (cu (cu2 (x.2.1, (x.2.2.1, (cu4 (cu32 (cu32 (cu32 ()))))))))), ())))) (fun z => (z.1.1, z.1.2.2.2.2.1, z.1.2.2.2.2.2.1, z.2.1)) (fun z => z.1.2.2.2.2.2.2.1) (fun _ => rfl) (fun _ => rfl) (fun x r Q h => match r, h with | .inl _, h => h | .inr b0, h => (h)) ?_
  intro x v; kernel_rfl

noncomputable def l16_MatchProof_L13_step (l : List (Int × Int)) (a : List Int) (b : List Int) (i : Int) : Tree (Int ⊕ (Bool ⊕ Unit)) :=
  .ite (decide (i < (l.length : Int))) (
    ask (inb i l.length) <|
    ask (inb 0 2) <|
    .bnd (r16_In_T a (l.getD i.toNat (dfl (.pair (.int .i64) (.int .i64)) : (Int × Int))).1) fun y1 =>
    ask ((!(!y1)) || inb i l.length) <|
    ask ((!(!y1)) || inb 1 2) <|
    .grd (!y1) (r16_In_T b (l.getD i.toNat (dfl (.pair (.int .i64) (.int .i64)) : (Int × Int))).2) false fun y2 =>
    .ite ((!y1) && (!y2)) (
      .ret (.inr (.inl false))) (
      .ret (.inl (w64 (i + 1))))) (
    .ret (.inr (.inr ())))

noncomputable def l16_MatchProof_L13 : Lp := ⟨13, [], [], (.cons (.val false (.list (.pair (.int .i64) (.int .i64)))) (ca (ca2 (.cons (.val false (.list (.int .i64))) (.cons (.val false (.list (.int .i64))) (ca (.cons (.val false (.int .i64)) (ca2 (ca32 (ca32 (ca32 .nil))))))))))), .nil, 0, .more 0 [] (ca2 (.cons (.val false .bool) (ca (ca2 (ca4 (ca32 (ca32 (ca32 .nil)))))))) .nil (.one 3 [] (ca2 (ca8 (ca32 (ca32 (ca32 .nil))))) .nil), fun z => .bnd (.loop (fun v => l16_MatchProof_L13_step z.1.1 z.1.2.2.2.2.1 z.1.2.2.2.2.2.1 v) z.1.2.2.2.2.2.2.2.1) fun r => .sum r (fun a0 => .ret (.inl ((cu2 (a0, (cu (cu2 (cu4 (cu32 (cu32 (cu32 ())))))))), ()))) (fun b0 => .ret (.inr ((cu2 (cu8 (cu32 (cu32 (cu32 ()))))), ())))⟩

theorem l16_MatchProof_L13_ok : l16_MatchProof_L13.ok Try.prog (nthC (loopsOf (bodyOf Try.f9)) 1) := by
  refine Lp.lift (π := ((List (Int × Int)) × (List Int) × (List Int))) (V := Int) (ρ := (Bool ⊕ Unit)) mix tabOk l16_MatchProof_L13 (o := orT [l16_awake_g, match_Find_g, match_Cover_g, r16_Rise_g, match_Max_g, r16_Free_g, r16_In_g] [] noFz) (orT_sound ⟨l16_awake_ok, ⟨match_Find_ok, ⟨match_Cover_ok, ⟨r16_Rise_ok, ⟨match_Max_ok, ⟨r16_Free_ok, ⟨r16_In_ok, trivial⟩⟩⟩⟩⟩⟩⟩) (allLp_of [] (by kernel_rfl) trivial rfl) (fun x v => ((x.1, (cu (cu2 (x.2.1, (x.2.2, (cu (v, (cu2 (cu32 (cu32 (cu32 ()))))))))))), ())) (fun x r => match r with | .inl a0 => .inl ((cu2 (a0, (cu (cu2 (cu4 (cu32 (cu32 (cu32 ())))))))), ()) | .inr b0 => (.inr ((cu2 (cu8 (cu32 (cu32 (cu32 ()))))), ()))) (fun x v => l16_MatchProof_L13_step x.1 x.2.1 x.2.2 v) (fun x r => .sum r (fun a0 => .ret (.inl ((cu2 (a0, (cu (cu2 (cu4 (cu32 (cu32 (cu32 ())))))))), ()))) (fun b0 => .ret (.inr ((cu2 (cu8 (cu32 (cu32 (cu32 ()))))), ())))) (fun z => (z.1.1, z.1.2.2.2.2.1, z.1.2.2.2.2.2.1)) (fun z => z.1.2.2.2.2.2.2.2.1) (fun _ => rfl) (fun _ => rfl) (fun x r Q h => match r, h with | .inl _, h => h | .inr b0, h => (h)) ?_
  intro x v; kernel_rfl

noncomputable def l16_MatchProof_T (x0 : List (Int × Int)) : Tree Bool :=
  .ite (decide ((60 : Int) < (x0.length : Int))) (
    .bnd l16_awake_T fun y1 =>
    .ret y1) (
    .bnd (match_Find_T x0) fun y2 =>
    .bnd (match_Cover_T x0) fun y3 =>
    .bnd (r16_Rise_T y2) fun y4 =>
    .grd (!(!y4)) (r16_Rise_T y3.1) false fun y5 =>
    .grd (!((!y4) || (!y5))) (r16_Rise_T y3.2.1) false fun y6 =>
    .grd (!(((!y4) || (!y5)) || (!y6))) (match_Max_T x0) (0 : Int) fun y7 =>
    .ite (((((!y4) || (!y5)) || (!y6)) || (!decide ((y2.length : Int) = y7))) || (!decide ((y2.length : Int) = (w64 ((y3.1.length : Int) + (y3.2.1.length : Int)))))) (
      .ret false) (
      .bnd (.loop (fun v => l16_MatchProof_L8_step x0 y3.1 y3.2.1 y2 v) 0) fun r8 =>
      .sum r8 (fun r9 =>
        .ret r9) (fun r10 =>
        .bnd (.loop (fun v => l16_MatchProof_L13_step x0 y3.1 y3.2.1 v) 0) fun r11 =>
        .sum r11 (fun r12 =>
          .ret r12) (fun r13 =>
          .bnd l16_awake_T fun y14 =>
          .ret y14))))

noncomputable def l16_MatchProof_g : Sig := ⟨9, (.cons (.val false (.list (.pair (.int .i64) (.int .i64)))) .nil), .vals (.val false .bool), fun z => l16_MatchProof_T z.1, false⟩

theorem l16_MatchProof_ok : l16_MatchProof_g.ok Try.prog := by
  refine Sig.lift mix tabOk nms _ Try.func9 (c := (bodyOf Try.f9)) (by kernel_rfl) (o := orT [l16_awake_g, match_Find_g, match_Cover_g, r16_Rise_g, match_Max_g, r16_Free_g, r16_In_g] [l16_MatchProof_L8, l16_MatchProof_L13] noFz) (orT_sound ⟨l16_awake_ok, ⟨match_Find_ok, ⟨match_Cover_ok, ⟨r16_Rise_ok, ⟨match_Max_ok, ⟨r16_Free_ok, ⟨r16_In_ok, trivial⟩⟩⟩⟩⟩⟩⟩) (allLp_of [nthC (loopsOf (bodyOf Try.f9)) 0, nthC (loopsOf (bodyOf Try.f9)) 1] (by kernel_rfl) ⟨l16_MatchProof_L8_ok, ⟨l16_MatchProof_L13_ok, trivial⟩⟩ (by kernel_rfl)) ?_
  intro z; kernel_rfl

noncomputable def l16_MatchMore_fz : Nat → List Pre
  | 4 => [.frz 0]
  | _ => []

noncomputable def l16_MatchMore_T (x0 : List (Int × Int)) (x1 : (Int × Int)) : Tree Bool :=
  .ite (decide ((60 : Int) < (x0.length : Int))) (
    .bnd l16_awake_T fun y1 =>
    .ret y1) (
    .bnd (match_Max_T x0) fun y2 =>
    .both (
      .both (
        ask (decide (x0.length * 16 ≤ roomNat)) <|
        ask (decide ((x0 ++ [x1]).length * 16 ≤ roomNat)) <|
        .bnd (match_Max_T (x0 ++ [x1])) fun y7 =>
        .grd (((decide (y7 = y2)) || (decide (y7 = (w64 (y2 + 1))))) && (decide (y2 ≤ (x0.length : Int)))) l16_awake_T false fun y8 =>
        .ret ((((decide (y7 = y2)) || (decide (y7 = (w64 (y2 + 1))))) && (decide (y2 ≤ (x0.length : Int)))) && y8)) (
        ask (decide (x0.length * 16 ≤ roomNat)) <|
        ask (decide ((x0 ++ [x1]).length * 16 ≤ roomNat)) <|
        .bnd (match_Max_T (x0 ++ [x1])) fun y5 =>
        .grd (((decide (y5 = y2)) || (decide (y5 = (w64 (y2 + 1))))) && (decide (y2 ≤ (x0.length : Int)))) l16_awake_T false fun y6 =>
        .ret ((((decide (y5 = y2)) || (decide (y5 = (w64 (y2 + 1))))) && (decide (y2 ≤ (x0.length : Int)))) && y6))) (
      ask (decide (x0.length * 16 ≤ roomNat)) <|
      ask (decide ((x0 ++ [x1]).length * 16 ≤ roomNat)) <|
      .bnd (match_Max_T (x0 ++ [x1])) fun y3 =>
      .grd (((decide (y3 = y2)) || (decide (y3 = (w64 (y2 + 1))))) && (decide (y2 ≤ (x0.length : Int)))) l16_awake_T false fun y4 =>
      .ret ((((decide (y3 = y2)) || (decide (y3 = (w64 (y2 + 1))))) && (decide (y2 ≤ (x0.length : Int)))) && y4)))

noncomputable def l16_MatchMore_g : Sig := ⟨10, (.cons (.val false (.list (.pair (.int .i64) (.int .i64)))) (.cons (.val true (.pair (.int .i64) (.int .i64))) .nil)), .vals (.val false .bool), fun z => l16_MatchMore_T z.1 z.2.1, false⟩

theorem l16_MatchMore_ok : l16_MatchMore_g.ok Try.prog := by
  refine Sig.lift mix tabOk nms _ Try.func10 (c := (bodyOf Try.f10)) (by kernel_rfl) (o := orT [l16_awake_g, match_Max_g] [] l16_MatchMore_fz) (orT_sound ⟨l16_awake_ok, ⟨match_Max_ok, trivial⟩⟩) (allLp_of [] (by kernel_rfl) trivial rfl) ?_
  intro z; kernel_rfl

end Go.Eng
