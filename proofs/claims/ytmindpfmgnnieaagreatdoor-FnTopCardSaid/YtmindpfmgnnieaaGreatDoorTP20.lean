/- Lemmas on the way to the law FnTop. No condition. -/
import Derived.Test.YtmindpfmgnnieaaGreatDoorTP2
import Derived.Test.YtmindpfmgnnieaaGreatDoorTP5
import Derived.Test.YtmindpfmgnnieaaGreatDoorTP13
import Derived.Deep.AppendSrc
import Derived.Laws.CopyRow
import Derived.Laws.IdiomCopy
import Derived.Laws.IdiomStrings
namespace Go.Proofs.YtmindpfmgnnieaaGreatDoor
set_option linter.unusedSimpArgs false
open Go.ChangeShapes Go.WideShapes Go.ChangeAt Go.RowKit
set_option linter.unusedVariables false
set_option maxRecDepth 100000
theorem eB_allS (xs:List Int):eB.all xs=xs.map (Value.int .u8):=by
 show xs.flatMap (fun x=>[Value.int .u8 x])=_
 induction xs with
 | nil=>rfl
 | cons x xs ih=>simp [List.flatMap_cons,ih]
theorem byteCells_bytesI (s:ByteArray):eB.all (bytesI s)=byteCells s:=by
 rw [eB_allS];unfold bytesI byteCells;rw [List.map_map];rfl
end Go.Proofs.YtmindpfmgnnieaaGreatDoor
