/- Lemmas on the way to the law FnRestarts. No condition. -/
import Derived.Test.YthdaghfhlfjclaaGreatMR3
import Derived.SizedLaws
import Derived.Carry
namespace Go.Proofs.YthdaghfhlfjclaaGreat
set_option linter.unusedSimpArgs false
open Go.ChangeShapes Go.WideShapes Go.ChangeAt Go.RowKit
section
variable {H:Type} {enc:TypeId × Value->H} {P:Program}
theorem trodAll_below {W W':World} (hl:laidOutB P=true) (hb:Below W.heap.size W W'):∀ (ts:List TypeId) (vs:List Value) (ds:List (DataW H)) (ps:List MemPlace),
 (∀ t∈ts,P.readableRec t=true/\t<P.types.size)->(∀ p∈ps,p.block<W.heap.size) ->
 DataW.TrodAll enc P W 0 (fun _=>true) true ts vs ds ps->DataW.TrodAll enc P W' 0 (fun b=>decide (b<W.heap.size)) true ts vs ds ps:=by
 intro ts;induction ts with
 | nil=>intro vs ds ps _ _ h;cases vs <;> cases ds <;> first | exact h | exact h.elim
 | cons t ts ih =>
  intro vs ds ps ht hp h;obtain ⟨v,vs',d,ds',p,q,rfl,rfl,rfl,h1,h2⟩:=trodAll_cons h;have hh:=ht t (List.mem_cons_self ..);exact trodAll_cons_mk (Below.trod hl hh.1 hh.2 h1 hb fun x hx=>hp x (List.mem_append_left _ hx))
   (ih vs' ds' q (fun t' h'=>ht t' (List.mem_cons_of_mem _ h')) (fun x hx=>hp x (List.mem_append_right _ hx)) h2)
theorem law_post {f:Func} {s:ChangeSpec} {W W':World} {args:Array Value} {ds gs:List (DataW H)} {before:List MemPlace} {T:TypeId}
 (hl:laidOutB P=true) (ht:∀ t∈f.params.toList,P.readableRec t=true/\t<P.types.size) (hv:s.vars=[])
 (hr:f.resultTypes=#[T]) (hT:P.underlying T=some .bool)
 (hs:s.fn H (ds++[])={ results:=[.lit (.bool true)],args:=ds,vars:=[] })
 (hW:DataW.Whole enc P f.params.toList s.vars false W args.toList ds gs before) (hb:Below W.heap.size W W') :
 s.post enc P f false true false false W args (.bool true) W':=by
 have hlt:=hW.lt;obtain ⟨p,q,hA,hV,hpq,hfz,hnd⟩:=id hW;rw [hv] at hV;obtain ⟨rfl,rfl⟩:=trodVars_none hV;rw [List.append_nil] at hpq;subst hpq;refine ⟨ds,[],before,[],before,[],hW,?_,?_,?_,?_,fun h=>by cases h⟩
 . rw [hs,hr]
   exact trodAll_cons_mk (shut_bool hT true) trodAll_mk0
 . rw [hs]
   exact trodAll_below hl hb _ _ _ _ ht hlt hA
 . rw [hs,hv]
   rfl
 . exact hb.frame _
end
end Go.Proofs.YthdaghfhlfjclaaGreat
