/- Layer 02: package format's Field; the reference's among. -/
import Derived.Test.YthcdnjbhhaonhaaGreatDoorQgFoMToFoO
import Derived.Test.YthcdnjbhhaonhaaGreatDoorQgChTToChX

namespace Go.Proofs.YthcdnjbhhaonhaaGreatDoor
open Go.RowKit
set_option linter.unusedSimpArgs false
end Go.Proofs.YthcdnjbhhaonhaaGreatDoor
