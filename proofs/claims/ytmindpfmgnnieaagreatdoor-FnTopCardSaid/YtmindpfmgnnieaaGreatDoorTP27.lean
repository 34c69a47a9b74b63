/- Lemmas on the way to the law FnTop. No condition. -/
import Derived.Test.YtmindpfmgnnieaaGreatDoorTP25
import Derived.Test.YtmindpfmgnnieaaGreatDoorTP16
namespace Go.Proofs.YtmindpfmgnnieaaGreatDoor
set_option linter.unusedSimpArgs false
open Go.ChangeShapes Go.WideShapes Go.ChangeAt Go.RowKit
set_option linter.unusedVariables false
set_option maxRecDepth 100000
theorem okSm {n:Int} (h:0<=n/\n<=1000000):eI.ok n:=by show -9223372036854775808<=n/\n<=9223372036854775807;omega
end Go.Proofs.YtmindpfmgnnieaaGreatDoor
