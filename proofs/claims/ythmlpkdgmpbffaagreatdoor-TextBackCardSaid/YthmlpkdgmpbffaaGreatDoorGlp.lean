/- The table of powers of ten, by its name. -/
import Derived.Test.YthmlpkdgmpbffaaGreatDoorGlo
import Derived.Test.YthmlpkdgmpbffaaGreatDoorProg
import Derived.WalkKit
import Derived.BigCall
import Derived.Lib.AtoiErrMem
import Derived.Lib.LaidTab
namespace Go.Eng
open Go Go.Proofs Go.RowKit

theorem gl_pow10 {w : World} (h : GL w) : Lib.TabIs Tryz.prog w "internal/strconv.uint64pow10" .u64 Lib.pow10Tab := by
  have hg : Tryz.prog.globalNamed "internal/strconv.uint64pow10" = some 3 := by kernel_rfl
  unfold Lib.TabIs World.var?
  rw [hg]
  exact h.pow10
end Go.Eng
