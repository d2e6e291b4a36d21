/- slices.Sort, handed memory of the caller's own: by the library's contract. Conditions: less than 2^62 elements (asked). -/
import Derived.Test.YtjkhncojgilbaaaGreatDoorTrO
import Derived.Test.YtjkhncojgilbaaaGreatDoorTrG
import Derived.Shelf.Sort.Plain
import Derived.Shelf.Slices.In.SortNone
import Derived.Lib.SlicesCompact
namespace Go.aT
open Go Go.RowKit Go.Sort
variable {P:Program}
end Go.aT
