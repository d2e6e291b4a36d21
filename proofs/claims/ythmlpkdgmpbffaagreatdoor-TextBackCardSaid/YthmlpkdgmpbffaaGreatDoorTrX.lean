/- A byte's first place in a string: what the library's inner part answers. -/
import Derived.Test.YthmlpkdgmpbffaaGreatDoorTrG
import Derived.Lib.Bytealg
namespace Go.Eng
open Go Go.RowKit

variable {P : Program}

theorem indexByte_le (l : List UInt8) (c : UInt8) : Lib.indexByte l c ≤ (l.length : Int) := by
  induction l with
  | nil => exact (by decide : (-1 : Int) ≤ 0)
  | cons b l ih =>
    unfold Lib.indexByte
    rw [List.length_cons]
    split
    · omega
    · split <;> omega
theorem ACalls.indexByteS {f : FuncId} {fn : Func} (hf : P.funcs[f]? = some fn) (hname : (fn.name == "runtime.NumGoroutine") = false) (hb : fn.body.isNone = true) (hn : Extern.findNext fn = none)
    (he : Extern.find fn = some Extern.BytealgIndexByte.indexByte) (s : List UInt8) (c : Int) : ACalls P f [.str s, .int .u8 c] (.val (.int .i64 (Lib.indexByte s c.toNat.toUInt8))) := by
  intro w S vs _ hsb hr
  obtain ⟨x, y, rfl, hx, hy⟩ := args2 hr
  cases hx with | str _ _ hs => ?_
  cases hy
  refine .inr ⟨.int .i64 (Lib.indexByte s c.toNat.toUInt8), w, ?_, _, rfl, Below.refl _ _, ?_⟩
  · rw [run_callFunc_extern hf hname hb hn he, Lib.run_indexByteString]; rfl
  · show Rel w _ [] _ (.int .i64 _)
    refine .int _ _ _ ?_
    have h1 := Lib.indexByte_ge s c.toNat.toUInt8
    have h2 := indexByte_le s c.toNat.toUInt8
    unfold maxLen at hs
    rw [wf_iff]
    generalize Lib.indexByte s c.toNat.toUInt8 = r at h1 h2
    simp [IntKind.min, IntKind.max, IntKind.signed, IntKind.bits]
    omega

end Go.Eng
