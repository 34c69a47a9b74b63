/- Lemmas on the way to the law FnTop. No condition. -/
import Derived.Test.YtmindpfmgnnieaaGreatDoorTP20
import Derived.Laws.BytesArg
namespace Go.Proofs.YtmindpfmgnnieaaGreatDoor
set_option linter.unusedSimpArgs false
open Go.ChangeShapes Go.WideShapes Go.ChangeAt Go.RowKit
set_option linter.unusedVariables false
set_option maxRecDepth 100000
theorem Tryz.infoU8t:(Tryz.prog.info? 5).map (fun i=>(i.zero,i.size,i.bytes))=some (some (.int .u8 0),1,1):=by kernel_rfl
theorem conv_own {base:Nat} {w:World} {v:Value} {T:ByteArray} (h:Own eB 5 base w v (bytesI T)):(convert 22 9 v).run Tryz.prog w=.ok (.string T) w:=by
 have hl:(bytesI T).length=T.data.toList.length:=by simp [bytesI]
 rcases h.1.2 with ⟨hv,hn⟩ | ⟨g,cap,cur,hv,_⟩
 . have h0:T.data.toList=[]:=List.eq_nil_of_length_eq_zero (by omega)
   have hT:T=⟨#[]⟩:=by
    cases T with
    | mk d=>congr 1;exact Array.toList_inj.1 h0
   subst hT;rw [hv];exact run_convert_bytes_nil _ 22 5 Tryz.underlying22 Tryz.underlying5 0 0 _ Tryz.underlying9
 . have hc:=h.1.cells (g:=g) (by rw [hv];rfl)
   rw [hv,hl];refine run_convert_bytes_back w 22 9 5 ⟨g,0,none⟩ cap T.data.toList Tryz.underlying22 Tryz.underlying5 Tryz.underlying9 (fun j hj=>hc j _ ?_);rw [byteCells_bytesI];unfold byteCells;have hj':j<T.data.size:=by simpa using hj
   simp [Array.getElem?_eq_getElem hj']
end Go.Proofs.YtmindpfmgnnieaaGreatDoor
