/- awake() of chapter 09: a closed call. -/
import Derived.Test.YtpbpmbfgcgjgdaaRegB
namespace Go.Eng
open Go Go.Proofs Go.RowKit
set_option maxHeartbeats 4000000
set_option maxRecDepth 100000

theorem awake_run : callN typs (fnsOf Try.prog) (cExt Lib.compareBytes) 100 20 std 7 [] = some ⟨.val (.bool true), []⟩ := by kernel_rfl
theorem awake_c : ACalls Try.prog 7 [] (.val (.bool true)) := callN_sound mix tabOk fnsOk cExt_ok 20 _ _ _ _ awake_run trivial

end Go.Eng
