/- Tied cards over layouts: what the frames share. No condition. -/
import Derived.Test.YtfieilbcdhbigaaGreatDoorItmL
import Derived.Test.YtfieilbcdhbigaaGreatDoorLawD
import Derived.Test.YtfieilbcdhbigaaGreatDoorCMatL
import Derived.Test.YtfieilbcdhbigaaGreatDoorRely
import Derived.Test.YtfieilbcdhbigaaGreatDoorTie
import Derived.Test.YtfieilbcdhbigaaGreatDoorCards
import Derived.Lay
import Derived.Shelf.Vars
namespace Go.Proofs.YtfieilbcdhbigaaGreatDoor
open Go.ChangeShapes Go.WideShapes Go.ChangeAt Go.RowKit
set_option linter.unusedVariables false
set_option maxRecDepth 100000
end Go.Proofs.YtfieilbcdhbigaaGreatDoor
