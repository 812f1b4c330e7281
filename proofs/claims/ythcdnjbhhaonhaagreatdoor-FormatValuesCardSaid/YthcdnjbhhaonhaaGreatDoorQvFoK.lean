/- Layer 02: the law FormatWithin. -/
import Derived.Test.YthcdnjbhhaonhaaGreatDoorQvFoHToFoN

namespace Go.Proofs.YthcdnjbhhaonhaaGreatDoor
open Go.RowKit
set_option linter.unusedSimpArgs false
end Go.Proofs.YthcdnjbhhaonhaaGreatDoor
