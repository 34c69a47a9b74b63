/- Lemmas on the way to the law FnTop. No condition. -/
import Derived.Test.YtmindpfmgnnieaaGreatDoorTP45
import Derived.Test.YtmindpfmgnnieaaGreatDoorTP42
import Derived.Test.YtmindpfmgnnieaaGreatDoorTP13
namespace Go.Proofs.YtmindpfmgnnieaaGreatDoor
set_option linter.unusedSimpArgs false
open Go.ChangeShapes Go.WideShapes Go.ChangeAt Go.RowKit Go.Sort
set_option linter.unusedVariables false
set_option maxRecDepth 100000
theorem DeckC.ok {n:Nat} {d:List (List Int)} (h:DeckC n d) (hn:1<=n/\n<=3):deckB d=true:=by
 unfold deckB;rw [Bool.and_eq_true,List.all_eq_true];refine ⟨fun c hc=>?_,decide_eq_true (by have:=h.1;omega)⟩;have h0:(d.headD []).length=n:=by
  cases d with
  | nil=>cases hc
  | cons y ys=>exact (h.2 y (by simp)).1
 obtain ⟨h1,h2⟩:=h.2 c hc;unfold okAt cardB;rw [h0,h1];simp only [decide_true,Bool.and_true,Bool.and_eq_true,Bool.not_eq_true'];refine ⟨decide_eq_true (by omega),?_⟩;rw [List.any_eq_false];intro x hx;unfold badHole;rw [decide_eq_true (h2 x hx).2];simp
theorem DeckC.cols {n:Nat} {d:List (List Int)} (h:DeckC n d):d=[]\/colsD d=n:=by
 cases d with
 | nil=>exact .inl rfl
 | cons c r =>
  refine .inr ?_;unfold colsD;rw [if_neg (by simp)];show ((c.length:Nat):Int)=n
  rw [(h.2 c (by simp)).1]
theorem DeckC.field {n:Nat} {d:List (List Int)} (h:DeckC n d) {f m:Nat} (hm:1<=m) (hf:f+m<=widA n d):fieldP (f:Int) (f+m) (colsD d):=by
 rcases h.cols with rfl | e
 . have hw:widA n []=1:=rfl
   rw [hw] at hf;exact ⟨by omega,by omega,by show _<=(20:Int);omega⟩
 . have hw:widA n d<=n\/d=[]:=by unfold widA;split <;> simp_all
   rcases hw with hw | rfl
   . exact ⟨by omega,by omega,by omega⟩
   . have hw:widA n []=1:=rfl
     rw [hw] at hf;exact ⟨by omega,by omega,by show _<=(20:Int);omega⟩
theorem DeckC.has {n:Nat} {d:List (List Int)} (h:DeckC n d) (f t:Int):hasD d f t=true:=by
 unfold hasD;have e:d.any (notF f t)=false:=List.any_eq_false.2 fun c hc=>by
  have h1:okTx (partC c f t)=true:=by
   unfold okTx;have h2:(partC c f t).any noCh=false:=List.any_eq_false.2 fun x hx=>by
    have h3:x∈c:=by
     unfold partC at hx;exact List.mem_of_mem_take (List.mem_of_mem_drop hx)
    rw [((h.2 c hc).2 x h3).1];decide
   rw [h2];rfl
  unfold notF;rw [h1];decide
 rw [e];rfl
theorem DeckC.sort {n:Nat} {d:List (List Int)} (h:DeckC n d) (hn:1<=n/\n<=3) {f m:Nat} (hm:1<=m) (hf:f+m<=widA n d):sortC d (f:Int) (f+m)=0:=by
 unfold sortC;rw [if_neg (by rw [h.ok hn];decide),if_neg (fun e=>e (h.field hm hf)),if_neg (by rw [h.has];decide)]
theorem few_le {xs:List Int} {fs:List FaultT} {r:ReportT} (h:amtOk xs=true) (hf:fsOk xs fs) (hr:r=repOf (afterL xs fs)):(fewA xs r).length<=fs.length:=by
 have hB:fewB xs r=true:=by rw [hr];exact few_found h hf
 have hR:isRep r=true:=by rw [hr];exact rep_isRep h hf
 have ho:=isRep_ok hR;have hc:=few_count hB;by_cases e:repOf xs=r
 . have:fewA xs r=[]:=by unfold fewA;rw [few_same h e];rfl
   rw [this];exact zK _
 . rcases fsOk_cases hf with rfl | ⟨f,rfl,h1⟩ | ⟨f,g,rfl,h1,h2,-⟩
   . rw [rep_none] at hr;exact absurd hr.symm e
   . rw [rep_one h1] at hr
     have hz:=(miss_zero h ho h1).2 hr;have hm:f∈sglF xs r:=List.mem_filter.2 ⟨mem_allF.2 h1,by rw [hz];exact beq_self_eq_true _⟩;have hs:sglF xs r ≠ []:=fun e2=>by rw [e2] at hm;cases hm
     have h3:(fewF xs r).2=1:=by rw [few_sgl hR e hs]
     simp only [List.length_cons,List.length_nil];omega
   . have:=fewA_len xs r
     simpa using this
end Go.Proofs.YtmindpfmgnnieaaGreatDoor
