/- The runs of Go's generic library functions in lifted texts. Printed by a program. -/
import Derived.Test.YthmlpkdgmpbffaaGreatDoorL52z
import Derived.Test.YthmlpkdgmpbffaaGreatDoorTrI
namespace Go.Eng
open Go Go.Proofs

end Go.Eng
