/- Facts of the types and functions of this program, each by evaluation. -/
import Derived.Test.YtolamibbionobaaGreatDoorProg
import Derived.Test.YtolamibbionobaaGreatDoorQnMwBase

namespace Go.Proofs.YtolamibbionobaaGreatDoor
open Go.RowKit
set_option maxRecDepth 100000
end Go.Proofs.YtolamibbionobaaGreatDoor
