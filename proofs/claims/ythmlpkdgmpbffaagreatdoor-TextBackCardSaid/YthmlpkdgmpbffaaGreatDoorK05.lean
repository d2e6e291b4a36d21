/- Names: name.Is and the reference's Is come to one plain function. -/
import Derived.Test.YthmlpkdgmpbffaaGreatDoorL52z
import Derived.Test.YthmlpkdgmpbffaaGreatDoorTrI
import Derived.Laws.RangeAny
namespace Go.Eng
open Go Go.Proofs Go.RowKit
