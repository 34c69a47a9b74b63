/- Lemmas on the way to the law FnTop. No condition. -/
import Derived.Test.YtmindpfmgnnieaaGreatDoorTP8
import Derived.OpenVars
import Derived.LaidMore
import Derived.SevenTiedAt
import Derived.Lib.LaidTab
namespace Go.Proofs.YtmindpfmgnnieaaGreatDoor
set_option linter.unusedSimpArgs false
open Go.ChangeShapes Go.WideShapes Go.ChangeAt Go.RowKit
set_option linter.unusedVariables false
set_option maxRecDepth 100000
section
variable {H:Type} {enc:TypeId × Value->H} {P:Program}
theorem law_postV {f:Func} {s:ChangeSpec} {W W':World} {args:Array Value} {ds gs:List (DataW H)} {before:List MemPlace} {T:TypeId}
 (hl:laidOutB P=true) (ht:∀ t∈f.params.toList,P.readableRec t=true/\t<P.types.size) (hv:varsRowed P s.vars=true)
 (hr:f.resultTypes=#[T]) (hT:P.underlying T=some .bool)
 (hs:s.fn H (ds++gs)={ results:=[.lit (.bool true)],args:=ds,vars:=gs })
 (hW:DataW.Whole enc P f.params.toList s.vars false W args.toList ds gs before) (hb:Below W.heap.size W W') :
 s.post enc P f false true false false W args (.bool true) W':=by
 have hlt:=hW.lt;obtain ⟨p,q,hA,hV,hpq,hfz,hnd⟩:=id hW;subst hpq;refine ⟨ds,gs,p++q,[],p,q,hW,?_,?_,?_,?_,fun h=>by cases h⟩
 . rw [hs,hr]
   exact trodAll_cons_mk (shut_bool hT true) trodAll_mk0
 . rw [hs]
   exact trodAll_below hl hb _ _ _ _ ht (fun x hx=>hlt x (List.mem_append_left _ hx)) hA
 . rw [hs]
   exact Below.trodVars hl hb hv hV
 . exact hb.frame _
end
end Go.Proofs.YtmindpfmgnnieaaGreatDoor
