/- The table of powers of ten, by its name. -/
import Derived.Test.YtjkhncojgilbaaaGreatDoorGlo
import Derived.Test.YtjkhncojgilbaaaGreatDoorProg
import Derived.BigCall
import Derived.Lib.AtoiErrMem
import Derived.Lib.LaidTab
namespace Go.aT
open Go Go.Proofs Go.RowKit
theorem adN {w : World} (h : GL w) : Lib.TabIs Tryz.prog w "internal/strconv.uint64pow10" .u64 Lib.pow10Tab := by
 have hg : Tryz.prog.globalNamed "internal/strconv.uint64pow10" = some 1 := by kernel_rfl
 unfold Lib.TabIs World.var?
 rw [hg]
 exact h.UZ
end Go.aT
