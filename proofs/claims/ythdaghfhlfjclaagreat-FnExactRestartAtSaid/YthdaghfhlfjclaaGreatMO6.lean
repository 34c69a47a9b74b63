/- Lemmas on the way to the law that OfficeAt returns what the reference's returns. No condition. -/
import Derived.Test.YthdaghfhlfjclaaGreatMO4
import Derived.Test.YthdaghfhlfjclaaGreatMO3
import Derived.Laws.BitsAllLaws
namespace Go.Proofs.YthdaghfhlfjclaaGreat
set_option linter.unusedSimpArgs false
open Go.ChangeShapes Go.WideShapes Go.ChangeAt Go.RowKit
set_option linter.unusedVariables false
set_option maxRecDepth 100000
def eB:Elt Int:={ sz:=1,cells:=fun x=>[.int .u8 x],ok:=fun x=>0≤x∧x≤255,len:=fun _=>rfl,one:=fun x u hu=>by simp at hu;subst hu;rfl }
end Go.Proofs.YthdaghfhlfjclaaGreat
