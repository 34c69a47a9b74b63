/- Lemmas on the way to the law FnTop. No condition. -/
import Derived.Test.YtmindpfmgnnieaaGreatDoorTP25
import Derived.Test.YtmindpfmgnnieaaGreatDoorTP27
import Derived.Test.YtmindpfmgnnieaaGreatDoorTP15
namespace Go.Proofs.YtmindpfmgnnieaaGreatDoor
set_option linter.unusedSimpArgs false
open Go.ChangeShapes Go.WideShapes Go.ChangeAt Go.RowKit
set_option linter.unusedVariables false
set_option maxRecDepth 100000
end Go.Proofs.YtmindpfmgnnieaaGreatDoor
