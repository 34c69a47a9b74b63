/- Lemmas on the way to the law FnTop. No condition. -/
import Derived.Test.YtmindpfmgnnieaaGreatDoorTP7
import Derived.Test.YtmindpfmgnnieaaGreatDoorTP13
import Derived.Test.YtmindpfmgnnieaaGreatDoorTP2
namespace Go.Proofs.YtmindpfmgnnieaaGreatDoor
set_option linter.unusedSimpArgs false
open Go.ChangeShapes Go.WideShapes Go.ChangeAt Go.RowKit
set_option linter.unusedVariables false
set_option maxRecDepth 100000
section
variable {P:Program}
theorem relAt_mono {o:Oper} {a:Act} {w:World} {K K':Value->World->Prop} (h:relAt P o a w K) (hk:∀ v w',K v w'->K' v w'):relAt P o a w K':=by
 unfold relAt at h |-;generalize (execOp a.eval o).run P w=r at *
 cases r with
 | ok n w' =>
  cases n <;> simp only [relUpon] at h |-
  case value u=>exact hk _ _ h
  case skip=>exact hk _ _ h
  case enter f args=>exact h.mono fun e w'' ⟨v,he,hv⟩=>⟨v,he,hk _ _ hv⟩
 | halt x w'=>simp only [relUpon] at h
def upd (L:Nat->Bool) (i:Nat):Nat->Bool:=fun j=>if j=i then true else L j
theorem upd_self (L:Nat->Bool) (i:Nat):upd L i i=true:=if_pos rfl
theorem yAL {L:Nat->Bool} {i j:Nat} (h:j ≠ i):upd L i j=L j:=if_neg h
theorem wpAny_inv {ops:Array Oper} {md:Region.Mode} {Q:Exit->Act->World->Prop} {J:(Nat->Bool)->List Value->World->Prop} {a0:Act}
 (hd:dstsOk ops.toList=true) (ho:ordOk md 0 ops.toList=true)
 (hs:∀ (i:Nat) (o:Oper) (L:Nat->Bool) (vs:List Value) (w:World),ops.toList[i]?=some o->vs.length=ops.toList.length->L i=false->(∀ e∈o.after,Region.binds md e=true->L e.on=true)->J L vs w ->
  relAt P o (putAll ops.toList vs a0) w fun v w'=>J (upd L i) (vs.set i v) w')
 (he:∀ (L:Nat->Bool) (vs:List Value) w,vs.length=ops.toList.length->(∀ i,i<ops.toList.length->L i=true)->J L vs w->Q .normal (putAll ops.toList vs a0) w) :
 ∀ (fuel:Nat) (listed:Array Bool) (vs:List Value) (w:World),vs.length=ops.toList.length->listed.size=ops.size->listed.toList.count false<=fuel ->
  J (fun j=>listed.getD j false) vs w->wpAny P md ops Q fuel listed (putAll ops.toList vs a0) w:=by
 have hdone:∀ (listed:Array Bool),listed.size=ops.size->Region.ready md ops listed=[]->∀ i,i<ops.toList.length->listed.getD i false=true:=by
  intro listed hls hr i;induction i using Nat.strongRecOn with
  | _ i ih =>
   intro hi;cases hq:listed.getD i false with
   | true=>rfl
   | false =>
    exfalso;have hil:i<ops.size:=by simpa using hi
    have h0:ops[i]?=some ops[i]:=Array.getElem?_eq_getElem hil;have hor:=ordOk_at ops.toList 0 i ops[i] ho (by rw [Array.getElem?_toList];exact h0);have hm:i∈Region.ready md ops listed:=by
     refine mem_ready.2 ⟨?_,ops[i],h0,fun e hee hb=>?_⟩
     . have hil2:i<listed.size:=by omega
       simp [hil2] at hq |-;exact hq
     . have:=hor.2 e hee hb
       exact ih e.on (by omega) (by omega)
    rw [hr] at hm;cases hm
 intro fuel;induction fuel with
 | zero =>
  intro listed vs w hvl hls hc hI;have hall:∀ i,i<listed.size->listed.getD i false=true:=by
   intro i hi;cases hq:listed.getD i false with
   | true=>rfl
   | false =>
    exfalso;have hm:false∈listed.toList:=by
     have h2:listed[i]=false:=by simpa [hi] using hq
     rw [<- h2];simp
    have:=List.count_pos_iff.2 hm;omega
  have hr:Region.ready md ops listed=[]:=by
   cases hr:Region.ready md ops listed with
   | nil=>rfl
   | cons x xs =>
    exfalso;have hm:x∈Region.ready md ops listed:=by rw [hr];exact List.mem_cons_self ..
    obtain ⟨h1,o,h2,_⟩:=mem_ready.1 hm;have hx:x<listed.size:=by rw [hls];exact (Array.getElem?_eq_some_iff.1 h2).1
    have h3:=hall x hx;simp [hx] at h1 h3;rw [h3] at h1;cases h1
  exact ⟨hr,he _ vs w hvl (fun i hi=>hall i (by rw [hls];simpa using hi)) hI⟩
 | succ fuel ih =>
  intro listed vs w hvl hls hc hI;refine ⟨fun hr=>he _ vs w hvl (fun i hi=>hdone listed hls hr i hi) hI,fun i hi=>?_⟩;obtain ⟨h1,o,h2,h3⟩:=mem_ready.1 hi;have hio:i<ops.size:=(Array.getElem?_eq_some_iff.1 h2).1;have hil:i<listed.size:=by omega
  have h2l:ops.toList[i]?=some o:=by rw [Array.getElem?_toList];exact h2
  have hor:=ordOk_at ops.toList 0 i o ho h2l;have hf:listed.toList[i]'(by simpa using hil)=false:=by simpa [hil] using h1
  have hrel:=hs i o (fun j=>listed.getD j false) vs w h2l hvl (by simpa [hil] using h1) (fun e hee hb=>h3 e (by simpa using hee) hb) hI;unfold wpOp;simp only [h2];have hw:Region.wanted o (yielded ops (putAll ops.toList vs a0).tmps)=true:=by simp [Region.wanted,hor.1]
  rw [if_pos hw];refine .inl (Oper.wp_mono ?_ (wp_of_rel hrel));rintro a' w' ⟨v,rfl,hJ⟩;rw [putAll_set ops.toList vs a0 i o hd hvl h2l];refine ih _ (vs.set i v) w' (by simpa using hvl) (by simpa using hls) ?_ ?_
  . have hm:false∈listed.toList:=by rw [<- hf];exact List.getElem_mem _
    have:=List.count_pos_iff.2 hm;have h9:=List.count_set (a:=true) (b:=false) (l:=listed.toList) (i:=i) (by simpa using hil);rw [hf] at h9;rw [Array.toList_setIfInBounds,h9];have e1:(if (false == false)=true then 1 else 0)=1:=rfl;have e2:(if (true == false)=true then 1 else 0)=0:=rfl;rw [e1,e2];omega
  . have e:(fun j=>(listed.setIfInBounds i true).getD j false)=upd (fun j=>listed.getD j false) i:=by
     funext j;unfold upd;by_cases hj:j=i
     . subst hj
       rw [if_pos rfl];simp [hil]
     . rw [if_neg hj,getD_set_ne false (fun h=>hj h.symm)]
    rw [e];exact hJ
end
section
variable {P:Program}
def reachB (l:List Oper):Nat->Nat->Nat->Bool
 | 0,p,i=>p == i
 | f+1,p,i=>p == i || (match l[p]? with | some o=>o.after.toList.any fun e=>Region.binds .any e && reachB l f e.on i | none=>false)
theorem reach_of {l:List Oper} {L:Nat->Bool} (hc:∀ (j:Nat) (o:Oper),l[j]?=some o->L j=true->∀ e∈o.after,Region.binds .any e=true->L e.on=true) :
 ∀ (f p i:Nat),L p=true->reachB l f p i=true->L i=true
 | 0,p,i,h,hr=>by
  have e:p=i:=by simpa [reachB] using hr
  rw [<- e];exact h
 | f+1,p,i,h,hr=>by
  unfold reachB at hr;rw [Bool.or_eq_true] at hr;rcases hr with hr | hr
  . have e:p=i:=by simpa using hr
    rw [<- e];exact h
  . cases ho:l[p]? with
    | none=>rw [ho] at hr;cases hr
    | some o =>
     rw [ho] at hr;obtain ⟨e,he,hb⟩:=List.any_eq_true.1 hr;rw [Bool.and_eq_true] at hb;exact reach_of hc f e.on i (hc p o ho h e (by simpa using he) hb.1) hb.2
theorem reach_dep {l:List Oper} {L:Nat->Bool} (hc:∀ (j:Nat) (o:Oper),l[j]?=some o->L j=true->∀ e∈o.after,Region.binds .any e=true->L e.on=true) {f p i:Nat} {o:Oper}
 (ho:l[p]?=some o) (hd:∀ e∈o.after,Region.binds .any e=true->L e.on=true) (hne:p ≠ i) (hr:reachB l (f+1) p i=true):L i=true:=by
 unfold reachB at hr;rw [ho,Bool.or_eq_true] at hr;rcases hr with hr | hr
 . exact absurd (by simpa using hr) hne
 . obtain ⟨e,he,hb⟩:=List.any_eq_true.1 hr
   rw [Bool.and_eq_true] at hb;exact reach_of hc f e.on i (hd e (by simpa using he) hb.1) hb.2
def appStep (P:Program) (W:World) (Inv:Nat->Value->World->Prop) (pu:Nat->Bool) (A:Value->World->Prop) (Z:Value->Value->World->Prop) (l:List Oper) (x0:Value) (p s:Nat) (a:Act) (vs:List Value) (i:Nat) (o:Oper):Prop :=
 if i=p then ∀ w,vs.getD s undef=x0->Below W.heap.size W w->depInv .any Inv vs w o.after.toList->relAt P o a w fun v w'=>A v w'
 else if i=s then ∀ w,vs.getD s undef=x0->A (vs.getD p undef) w->depInv .any (fun j v w=>pu j=true->Inv j v w) vs w o.after.toList->relAt P o a w fun v w'=>Z (vs.getD p undef) v w'
 else if pu i=true then ∀ w,(reachB l (l.length+1) s i=true->vs.getD s undef=x0)->depInv .any (fun j v w=>pu j=true->Inv j v w) vs w o.after.toList->relAt P o a w fun v w'=>Inv i v w'/\w'=w
 else ∀ w,vs.getD s undef=x0->Below W.heap.size W w->depInv .any Inv vs w o.after.toList->relAt P o a w fun v w'=>Below w.heap.size w w'/\Inv i v w'
section
variable {W:World} {Inv:Nat->Value->World->Prop} {pu:Nat->Bool} {A:Value->World->Prop} {Z:Value->Value->World->Prop} {l:List Oper} {x0:Value} {p s:Nat} {a:Act} {vs:List Value} {i:Nat} {o:Oper}
theorem appStep_p (h:i=p) (k:∀ w,vs.getD s undef=x0->Below W.heap.size W w->depInv .any Inv vs w o.after.toList->relAt P o a w fun v w'=>A v w'):appStep P W Inv pu A Z l x0 p s a vs i o:=by unfold appStep;rw [if_pos h];exact k
theorem appStep_s (h1:i ≠ p) (h:i=s) (k:∀ w,vs.getD s undef=x0->A (vs.getD p undef) w->depInv .any (fun j v w=>pu j=true->Inv j v w) vs w o.after.toList->relAt P o a w fun v w'=>Z (vs.getD p undef) v w'):appStep P W Inv pu A Z l x0 p s a vs i o:=by
 unfold appStep;rw [if_neg h1,if_pos h];exact k
theorem yAK (h1:i ≠ p) (h2:i ≠ s) (h:pu i=true) (k:∀ w,(reachB l (l.length+1) s i=true->vs.getD s undef=x0)->depInv .any (fun j v w=>pu j=true->Inv j v w) vs w o.after.toList->relAt P o a w fun v w'=>Inv i v w'/\w'=w):appStep P W Inv pu A Z l x0 p s a vs i o:=by
 unfold appStep;rw [if_neg h1,if_neg h2,if_pos h];exact k
theorem yAI (h1:i ≠ p) (h2:i ≠ s) (h:pu i=false) (k:∀ w,vs.getD s undef=x0->Below W.heap.size W w->depInv .any Inv vs w o.after.toList->relAt P o a w fun v w'=>Below w.heap.size w w'/\Inv i v w'):appStep P W Inv pu A Z l x0 p s a vs i o:=by
 unfold appStep;rw [if_neg h1,if_neg h2,if_neg (by rw [h];decide)];exact k
end
def appSteps (P:Program) (W:World) (Inv:Nat->Value->World->Prop) (pu:Nat->Bool) (A:Value->World->Prop) (Z:Value->Value->World->Prop) (l:List Oper) (x0:Value) (p s:Nat) (a:Act) (vs:List Value):Nat->List Oper->Prop
 | _,[]=>True
 | i,o :: os=>appStep P W Inv pu A Z l x0 p s a vs i o/\appSteps P W Inv pu A Z l x0 p s a vs (i+1) os
theorem appSteps_at {W:World} {Inv:Nat->Value->World->Prop} {pu:Nat->Bool} {A:Value->World->Prop} {Z:Value->Value->World->Prop} {l:List Oper} {x0:Value} {p s:Nat} {a:Act} {vs:List Value} :
 ∀ (os:List Oper) (k i:Nat) (o:Oper),appSteps P W Inv pu A Z l x0 p s a vs k os->os[i]?=some o->appStep P W Inv pu A Z l x0 p s a vs (k+i) o
 | [],_,_,_,_,h=>by simp at h
 | o :: os,k,0,o',hh,h=>by
  obtain rfl:o=o':=by simpa using h
  exact hh.1
 | o :: os,k,i+1,o',hh,h=>by
  have:=appSteps_at os (k+1) i o' hh.2 (by simpa using h);rwa [show k+1+i=k+(i+1) by omega] at this
def appOk (l:List Oper) (pu:Nat->Bool) (p s:Nat):Bool :=
 decide (p<l.length) && decide (s<l.length) && decide (p ≠ s) && !pu p && !pu s && reachB l (l.length+1) s p &&
 ((List.range l.length).all fun i=>i == p || i == s || (if pu i then true else reachB l (l.length+1) p i))
theorem wp_region_app {id:Nat} {Q:Exit->Act->World->Prop} {a:Act} {W:World} {l:List Oper} (x0:Value) (p s:Nat) (pu:Nat->Bool) (Inv:Nat->Value->World->Prop) (A:Value->World->Prop) (Z:Value->Value->World->Prop)
 (hm:P.follows .mixedOrders=true) (hd:dstsOk l=true) (ho:ordOk .any 0 l=true) (hk:appOk l pu p s=true) (hx0:(ownVals l a).getD s undef=x0)
 (hst:∀ i v w w',Inv i v w->Below w.heap.size w w'->Inv i v w')
 (hpu:∀ i v w w',pu i=true->Inv i v w->Inv i v w')
 (hs:∀ vs:List Value,vs.length=l.length->appSteps P W Inv pu A Z l x0 p s (putAll l vs a) vs 0 l)
 (he:∀ (vs:List Value) w,vs.length=l.length->Z (vs.getD p undef) (vs.getD s undef) w->(∀ i,i<l.length->pu i=true->Inv i (vs.getD i undef) w)->Q .normal (putAll l vs a) w):(Code.region id l.toArray true).wp P Q a W:=by
 unfold appOk at hk;simp only [Bool.and_eq_true,decide_eq_true_iff,Bool.not_eq_true'] at hk;obtain ⟨⟨⟨⟨⟨⟨k1,k2⟩,k3⟩,k4⟩,k8⟩,k5⟩,k6⟩:=hk;have k7:∀ i,i<l.length->i ≠ p->i ≠ s->pu i=false->reachB l (l.length+1) p i=true:=by
  intro i hi h1 h2 hp;have h:=List.all_eq_true.1 k6 i (List.mem_range.2 hi);rw [Bool.or_eq_true,Bool.or_eq_true] at h;rcases h with (h | h) | h
  . exact absurd (by simpa using h) h1
  . exact absurd (by simpa using h) h2
  . rw [if_neg (by rw [hp];decide)] at h
    exact h
 refine wp_region_any hm ?_;have h:=wpAny_inv (P:=P) (ops:=l.toArray) (md:=.any) (Q:=Q) (a0:=a)
  (J:=fun L vs w=>(L s=false->vs.getD s undef=x0)/\(∀ (j:Nat) (o:Oper),l[j]?=some o->L j=true->∀ e∈o.after,Region.binds .any e=true->L e.on=true)/\(∀ j,j<l.length->L j=true->pu j=true->Inv j (vs.getD j undef) w) /\
   (if L s=true then Z (vs.getD p undef) (vs.getD s undef) w else if L p=true then A (vs.getD p undef) w else Below W.heap.size W w/\∀ j,j<l.length->L j=true->Inv j (vs.getD j undef) w))
  (by simpa using hd) (by simpa using ho) ?_ ?_
  l.toArray.size (Array.replicate l.toArray.size false) (ownVals l a) { W with drawn:=W.drawn+1 } (by simp [ownVals]) (by simp) (by simp) ?_
 . have e:putAll l.toArray.toList (ownVals l a) a=a:=by rw [List.toList_toArray];exact putAll_own l a
   rw [e] at h;exact h
 . intro i o L vs w hio hvl hLi hdep ⟨hx,hcl,hJp,hJ⟩
   simp only [List.toList_toArray] at hio hvl |-;have hil:i<l.length:=(zS.1 hio).1;have hst1:=appSteps_at l 0 i o (hs vs hvl) hio;rw [Nat.zero_add] at hst1;have hcl':∀ (j:Nat) (o':Oper),l[j]?=some o'->upd L i j=true->∀ e∈o'.after,Region.binds .any e=true->upd L i e.on=true:=by
    intro j o' hj hu e hee hb;have h9:L e.on=true:=by
     by_cases hji:j=i
     . subst hji
       rw [hio] at hj;obtain rfl:o=o':=zD hj;exact hdep e hee hb
     . rw [yAL hji] at hu
       exact hcl j o' hj hu e hee hb
    by_cases hq:e.on=i
    . rw [hq];exact upd_self L i
    . rw [yAL hq];exact h9
   have hget:∀ (v:Value) (j:Nat),j ≠ i->(vs.set i v).getD j undef=vs.getD j undef:=fun v j hj=>by rw [List.getD_eq_getElem?_getD,List.getD_eq_getElem?_getD,List.getElem?_set_ne (fun e=>hj e.symm)]
   have hgets:∀ (v:Value),(vs.set i v).getD i undef=v:=fun v=>by rw [List.getD_eq_getElem?_getD,List.getElem?_set_self (by omega)];rfl
   have hsp:L s=true->L p=true:=fun h=>reach_of hcl _ s p h k5;unfold appStep at hst1;by_cases hip:i=p
   . rw [if_pos hip] at hst1
     subst hip;have hs0:L s ≠ true:=fun h=>by rw [hsp h] at hLi;cases hLi
     rw [if_neg hs0,if_neg (by rw [hLi];decide)] at hJ;refine relAt_mono (hst1 w (hx (by cases h9:L s with | false=>rfl | true=>exact absurd h9 hs0)) hJ.1 (depInv_of _ (fun e hee hb=>hJ.2 e.on (by have h9:=ordOk_at l 0 i o (by simpa using ho) hio;have:=h9.2 e (by simpa using hee) hb;omega) (hdep e (by simpa using hee) hb)))) fun v w' hA=>⟨fun h=>by rw [hget v s (fun e=>k3 e.symm)];exact hx (by rw [yAL (fun e=>k3 e.symm)] at h;exact h),hcl',fun j hj hL hp=>?_,?_⟩
     . have hji:j ≠ i:=fun e=>by rw [e,k4] at hp;cases hp
       rw [yAL hji] at hL;rw [hget v j hji];exact hpu j _ w w' hp (hJp j hj hL hp)
     . rw [yAL (fun e=>k3 e.symm),if_neg hs0,upd_self,if_pos rfl,hgets]
       exact hA
   . rw [if_neg hip] at hst1
     by_cases his:i=s
     . rw [if_pos his] at hst1
       subst his;have hp1:L p=true:=reach_dep hcl hio hdep hip k5;rw [if_neg (by rw [hLi];decide),if_pos hp1] at hJ;refine relAt_mono (hst1 w (hx hLi) hJ (depInv_of _ (fun e hee hb hp=>hJp e.on (by have h9:=ordOk_at l 0 i o (by simpa using ho) hio;have:=h9.2 e (by simpa using hee) hb;omega) (hdep e (by simpa using hee) hb) hp))) fun v w' hZ=>⟨(fun h=>by rw [upd_self] at h;cases h),hcl',fun j hj hL hp=>?_,?_⟩
       . by_cases hji:j=i
         . subst hji
           rw [k8] at hp;cases hp
         . rw [yAL hji] at hL
           rw [hget v j hji];exact hpu j _ w w' hp (hJp j hj hL hp)
       . rw [upd_self,if_pos rfl,hgets,hget v p (fun e=>hip e.symm)]
         exact hZ
     . rw [if_neg his] at hst1
       cases hpi:pu i with
       | true =>
        rw [if_pos hpi] at hst1;refine relAt_mono (hst1 w (fun hr=>hx (by cases h9:L s with | false=>rfl | true=>exact absurd (reach_of hcl _ s i h9 hr) (by rw [hLi];decide))) (depInv_of _ (fun e hee hb hp9=>hJp e.on (by have h9:=ordOk_at l 0 i o (by simpa using ho) hio;have:=h9.2 e (by simpa using hee) hb;omega) (hdep e (by simpa using hee) hb) hp9))) fun v w' hI=>?_;obtain ⟨hI,rfl⟩:=hI;refine ⟨fun h=>by rw [hget v s (fun e=>his e.symm)];exact hx (by rw [yAL (fun e=>his e.symm)] at h;exact h),hcl',fun j hj hL hp=>?_,?_⟩
        . by_cases hji:j=i
          . subst hji;rw [hgets];exact hI
          . rw [yAL hji] at hL
            rw [hget v j hji];exact hJp j hj hL hp
        . rw [yAL (fun e=>his e.symm),yAL (fun e=>hip e.symm),hget v p (fun e=>hip e.symm),hget v s (fun e=>his e.symm)]
          by_cases h1:L s=true
          . rw [if_pos h1] at hJ |-;exact hJ
          . rw [if_neg h1] at hJ |-
            by_cases h2:L p=true
            . rw [if_pos h2] at hJ |-;exact hJ
            . rw [if_neg h2] at hJ |-
              refine ⟨hJ.1,fun j hj hL=>?_⟩;by_cases hji:j=i
              . subst hji;rw [hgets];exact hI
              . rw [yAL hji] at hL
                rw [hget v j hji];exact hJ.2 j hj hL
       | false =>
        rw [if_neg (by rw [hpi];decide)] at hst1;have hr:=k7 i hil hip his hpi;have hp0:L p ≠ true:=fun h=>by rw [reach_of hcl _ p i h hr] at hLi;cases hLi
        have hs0:L s ≠ true:=fun h=>hp0 (hsp h);rw [if_neg hs0,if_neg hp0] at hJ;refine relAt_mono (hst1 w (hx (by cases h9:L s with | false=>rfl | true=>exact absurd h9 hs0)) hJ.1 (depInv_of _ (fun e hee hb=>hJ.2 e.on (by have h9:=ordOk_at l 0 i o (by simpa using ho) hio;have:=h9.2 e (by simpa using hee) hb;omega) (hdep e (by simpa using hee) hb)))) fun v w' hI=>⟨fun h=>by rw [hget v s (fun e=>his e.symm)];exact hx (by rw [yAL (fun e=>his e.symm)] at h;exact h),hcl',fun j hj hL hp=>?_,?_⟩
        . have hji:j ≠ i:=fun e=>by rw [e,hpi] at hp;cases hp
          rw [yAL hji] at hL;rw [hget v j hji];exact hpu j _ w w' hp (hJp j hj hL hp)
        . rw [yAL (fun e=>his e.symm),yAL (fun e=>hip e.symm),if_neg hs0,if_neg hp0]
          refine ⟨hJ.1.trans (hI.1.mono hJ.1.size),fun j hj hL=>?_⟩;by_cases hji:j=i
          . subst hji;rw [hgets];exact hI.2
          . rw [yAL hji] at hL
            rw [hget v j hji];exact hst j _ w w' (hJ.2 j hj hL) hI.1
 . intro L vs w hvl hall ⟨_,_,hJp,hJ⟩
   simp only [List.toList_toArray] at hvl hall |-;rw [if_pos (hall s k2)] at hJ;exact he vs w hvl hJ (fun i hi hp=>hJp i hi (hall i hi) hp)
 . have hf:∀ j,(Array.replicate l.toArray.size false).getD j false=false:=by
    intro j;by_cases hj:j<l.length <;> simp [hj]
   refine And.intro (fun _=>hx0) (And.intro (fun j o _ h=>absurd ((hf j).symm.trans h) (by decide)) (And.intro (fun j _ h=>absurd ((hf j).symm.trans h) (by decide)) ?_));rw [if_neg (fun h=>absurd ((hf s).symm.trans h) (by decide)),if_neg (fun h=>absurd ((hf p).symm.trans h) (by decide))];exact ⟨⟨rfl,rfl,rfl,zA _,fun _ _=>rfl⟩,fun j _ h=>absurd ((hf j).symm.trans h) (by decide)⟩
theorem relAt_appS {α:Type} {E:Elt α} {o:Oper} {a:Act} {w:World} {K:Value->World->Prop} (s x:Operand) (t:TypeId)
 (ho:o.op=.call { callee:=.builtin .append,args:=#[s,x],argTypes:=#[t,t] })
 {base:Nat} {e:TypeId} {i:TypeInfo} {z:Value} {bytes B:Nat} (ht:P.underlying t=some (.slice e)) (hi:P.info? e=some i) (hz:i.zero=some z)
 (hsize:i.size=E.sz) (hby:i.bytes=bytes) (hzs:z.cells.size=E.sz) (hsz:0<E.sz) {v u:Value} {xs ys:List α} (hs:a.eval s=v) (hx:a.eval x=u) (hown:Own E e base w v xs) (hu:Rds E B w u ys)
 (h63:xs.length+ys.length<=maxLen) (hbytes:(xs.length+ys.length) * bytes<=140737488355328) (hbase:base<=w.heap.size)
 (h:∀ v' w',Own E e base w' v' (xs++ys)->Grew w w' v v'->K v' w'):relAt P o a w K:=by
 obtain ⟨v',w',hr,h2,h3⟩:=run_appS (P:=P) (ty:=o.type) ht hi hz hsize hby hzs hsz hown hu h63 hbytes hbase;unfold relAt execOp;simp only [ho,resolve,invoke,builtin,Sem.run_bind,Sem.run_pure,Result.andThen_ok,List.map_toArray,List.map_cons,List.map_nil,hs,hx,hr];simp only [relUpon];exact h v' w' h2 h3
end
section
variable {P:Program}
def relAtG (P:Program) (ops:Array Oper) (o:Oper) (a:Act) (w:World) (K:Value->World->Prop):Prop:=if Region.wanted o (yielded ops a.tmps)=true then relAt P o a w K else K undef w
theorem relAtG_yes {ops:Array Oper} {o:Oper} {a:Act} {w:World} {K:Value->World->Prop} (h:Region.wanted o (yielded ops a.tmps)=true) (k:relAt P o a w K):relAtG P ops o a w K:=by unfold relAtG;rw [if_pos h];exact k
theorem relAtG_mono {ops:Array Oper} {o:Oper} {a:Act} {w:World} {K K':Value->World->Prop} (h:relAtG P ops o a w K) (hk:∀ v w',K v w'->K' v w'):relAtG P ops o a w K':=by
 unfold relAtG at h |-;by_cases hw:Region.wanted o (yielded ops a.tmps)=true
 . rw [if_pos hw] at h |-;exact relAt_mono h hk
 . rw [if_neg hw] at h |-;exact hk _ _ h
theorem wanted_none {o:Oper} {y:Nat->Option Bool} (h:o.guard=none):Region.wanted o y=true:=by unfold Region.wanted;rw [h]
def ordOkG (md:Region.Mode):Nat->List Oper->Bool
 | _,[]=>true
 | k,o :: os=>(o.after.toList.all fun e=>!Region.binds md e || decide (e.on<k)) && ordOkG md (k+1) os
theorem ordOkG_at {md:Region.Mode}:∀ (os:List Oper) (k i:Nat) (o:Oper),ordOkG md k os=true->os[i]?=some o->∀ e∈o.after,Region.binds md e=true->e.on<k+i
 | [],_,_,_,_,h=>by simp at h
 | o :: os,k,0,o',hh,h=>by
  obtain rfl:o=o':=by simpa using h
  unfold ordOkG at hh;rw [Bool.and_eq_true] at hh;intro e he hb;have h1:=List.all_eq_true.1 hh.1 e (by simpa using he);rw [hb] at h1;simpa using h1
 | o :: os,k,i+1,o',hh,h=>by
  unfold ordOkG at hh;rw [Bool.and_eq_true] at hh;intro e he hb;have:=ordOkG_at os (k+1) i o' hh.2 (by simpa using h) e he hb;omega
theorem wpAny_invG {ops:Array Oper} {md:Region.Mode} {Q:Exit->Act->World->Prop} {J:(Nat->Bool)->List Value->World->Prop} {a0:Act}
 (hd:dstsOk ops.toList=true) (ho:ordOkG md 0 ops.toList=true)
 (hs:∀ (i:Nat) (o:Oper) (L:Nat->Bool) (vs:List Value) (w:World),ops.toList[i]?=some o->vs.length=ops.toList.length->L i=false->(∀ e∈o.after,Region.binds md e=true->L e.on=true)->J L vs w ->
  relAtG P ops o (putAll ops.toList vs a0) w fun v w'=>J (upd L i) (vs.set i v) w')
 (he:∀ (L:Nat->Bool) (vs:List Value) w,vs.length=ops.toList.length->(∀ i,i<ops.toList.length->L i=true)->J L vs w->Q .normal (putAll ops.toList vs a0) w) :
 ∀ (fuel:Nat) (listed:Array Bool) (vs:List Value) (w:World),vs.length=ops.toList.length->listed.size=ops.size->listed.toList.count false<=fuel ->
  J (fun j=>listed.getD j false) vs w->wpAny P md ops Q fuel listed (putAll ops.toList vs a0) w:=by
 have hdone:∀ (listed:Array Bool),listed.size=ops.size->Region.ready md ops listed=[]->∀ i,i<ops.toList.length->listed.getD i false=true:=by
  intro listed hls hr i;induction i using Nat.strongRecOn with
  | _ i ih =>
   intro hi;cases hq:listed.getD i false with
   | true=>rfl
   | false =>
    exfalso;have hil:i<ops.size:=by simpa using hi
    have h0:ops[i]?=some ops[i]:=Array.getElem?_eq_getElem hil;have hor:=ordOkG_at ops.toList 0 i ops[i] ho (by rw [Array.getElem?_toList];exact h0);have hm:i∈Region.ready md ops listed:=by
     refine mem_ready.2 ⟨?_,ops[i],h0,fun e hee hb=>?_⟩
     . have hil2:i<listed.size:=by omega
       simp [hil2] at hq |-;exact hq
     . have:=hor e hee hb
       exact ih e.on (by omega) (by omega)
    rw [hr] at hm;cases hm
 intro fuel;induction fuel with
 | zero =>
  intro listed vs w hvl hls hc hI;have hall:∀ i,i<listed.size->listed.getD i false=true:=by
   intro i hi;cases hq:listed.getD i false with
   | true=>rfl
   | false =>
    exfalso;have hm:false∈listed.toList:=by
     have h2:listed[i]=false:=by simpa [hi] using hq
     rw [<- h2];simp
    have:=List.count_pos_iff.2 hm;omega
  have hr:Region.ready md ops listed=[]:=by
   cases hr:Region.ready md ops listed with
   | nil=>rfl
   | cons x xs =>
    exfalso;have hm:x∈Region.ready md ops listed:=by rw [hr];exact List.mem_cons_self ..
    obtain ⟨h1,o,h2,_⟩:=mem_ready.1 hm;have hx:x<listed.size:=by rw [hls];exact (Array.getElem?_eq_some_iff.1 h2).1
    have h3:=hall x hx;simp [hx] at h1 h3;rw [h3] at h1;cases h1
  exact ⟨hr,he _ vs w hvl (fun i hi=>hall i (by rw [hls];simpa using hi)) hI⟩
 | succ fuel ih =>
  intro listed vs w hvl hls hc hI;refine ⟨fun hr=>he _ vs w hvl (fun i hi=>hdone listed hls hr i hi) hI,fun i hi=>?_⟩;obtain ⟨h1,o,h2,h3⟩:=mem_ready.1 hi;have hio:i<ops.size:=(Array.getElem?_eq_some_iff.1 h2).1;have hil:i<listed.size:=by omega
  have h2l:ops.toList[i]?=some o:=by rw [Array.getElem?_toList];exact h2
  have hor:=ordOkG_at ops.toList 0 i o ho h2l;have hf:listed.toList[i]'(by simpa using hil)=false:=by simpa [hil] using h1
  have hrel:=hs i o (fun j=>listed.getD j false) vs w h2l hvl (by simpa [hil] using h1) (fun e hee hb=>h3 e (by simpa using hee) hb) hI;unfold wpOp;simp only [h2];have hkey:∀ (v:Value) (w':World),J (upd (fun j=>listed.getD j false) i) (vs.set i v) w'->wpAny P md ops Q fuel (listed.setIfInBounds i true) ((putAll ops.toList vs a0).put o.dst v) w':=by
   intro v w' hJ;rw [putAll_set ops.toList vs a0 i o hd hvl h2l];refine ih _ (vs.set i v) w' (by simpa using hvl) (by simpa using hls) ?_ ?_
   . have hm:false∈listed.toList:=by rw [<- hf];exact List.getElem_mem _
     have:=List.count_pos_iff.2 hm;have h9:=List.count_set (a:=true) (b:=false) (l:=listed.toList) (i:=i) (by simpa using hil);rw [hf] at h9;rw [Array.toList_setIfInBounds,h9];have e1:(if (false == false)=true then 1 else 0)=1:=rfl;have e2:(if (true == false)=true then 1 else 0)=0:=rfl;rw [e1,e2];omega
   . have e:(fun j=>(listed.setIfInBounds i true).getD j false)=upd (fun j=>listed.getD j false) i:=by
      funext j;unfold upd;by_cases hj:j=i
      . subst hj
        rw [if_pos rfl];simp [hil]
      . rw [if_neg hj,getD_set_ne false (fun h=>hj h.symm)]
     rw [e];exact hJ
  unfold relAtG at hrel;by_cases hw:Region.wanted o (yielded ops (putAll ops.toList vs a0).tmps)=true
  . rw [if_pos hw] at hrel |-
    refine .inl (Oper.wp_mono ?_ (wp_of_rel hrel));rintro a' w' ⟨v,rfl,hJ⟩;exact hkey v w' hJ
  . rw [if_neg hw] at hrel |-
    exact hkey undef w hrel
def oneDep (Inv:Nat->Value->World->Prop) (Vp:Nat->Value->Value->Prop) (kd:Nat->Nat) (p:Nat) (x:Value) (b:Bool) (j:Nat) (v:Value) (w:World):Prop :=
 j ≠ p->(b=true->kd j=0->Inv j v w)/\Vp j x v
def oneStep (P:Program) (ops:Array Oper) (W:World) (Inv:Nat->Value->World->Prop) (Vp:Nat->Value->Value->Prop) (kd:Nat->Nat) (A:Value->World->Prop) (p:Nat) (a:Act) (vs:List Value) (i:Nat) (o:Oper):Prop :=
 if i=p then ∀ w,Below W.heap.size W w->depInv .any (oneDep Inv Vp kd p (vs.getD p undef) true) vs w o.after.toList->relAtG P ops o a w fun v w'=>A v w'
 else if kd i=0 then ∀ w,Below W.heap.size W w->depInv .any (oneDep Inv Vp kd p (vs.getD p undef) true) vs w o.after.toList->relAtG P ops o a w fun v w'=>Below w.heap.size w w'/\Inv i v w'/\Vp i (vs.getD p undef) v
 else if kd i=1 then ∀ w,A (vs.getD p undef) w->depInv .any (oneDep Inv Vp kd p (vs.getD p undef) false) vs w o.after.toList->relAtG P ops o a w fun v w'=>w'=w/\Vp i (vs.getD p undef) v
 else ∀ w,depInv .any (oneDep Inv Vp kd p (vs.getD p undef) false) vs w o.after.toList->relAtG P ops o a w fun v w'=>w'=w/\Vp i (vs.getD p undef) v
section
variable {ops:Array Oper} {W:World} {Inv:Nat->Value->World->Prop} {Vp:Nat->Value->Value->Prop} {kd:Nat->Nat} {A:Value->World->Prop} {p:Nat} {a:Act} {vs:List Value} {i:Nat} {o:Oper}
theorem oneStep_p (h:i=p) (k:∀ w,Below W.heap.size W w->depInv .any (oneDep Inv Vp kd p (vs.getD p undef) true) vs w o.after.toList->relAtG P ops o a w fun v w'=>A v w'):oneStep P ops W Inv Vp kd A p a vs i o:=by unfold oneStep;rw [if_pos h];exact k
theorem oneStep_b (h1:i ≠ p) (h:kd i=0) (k:∀ w,Below W.heap.size W w->depInv .any (oneDep Inv Vp kd p (vs.getD p undef) true) vs w o.after.toList->relAtG P ops o a w fun v w'=>Below w.heap.size w w'/\Inv i v w'/\Vp i (vs.getD p undef) v):oneStep P ops W Inv Vp kd A p a vs i o:=by
 unfold oneStep;rw [if_neg h1,if_pos h];exact k
theorem oneStep_u (h1:i ≠ p) (h:kd i=2) (k:∀ w,depInv .any (oneDep Inv Vp kd p (vs.getD p undef) false) vs w o.after.toList->relAtG P ops o a w fun v w'=>w'=w/\Vp i (vs.getD p undef) v):oneStep P ops W Inv Vp kd A p a vs i o:=by
 unfold oneStep;rw [if_neg h1,if_neg (by rw [h];decide),if_neg (by rw [h];decide)];exact k
end
def oneSteps (P:Program) (ops:Array Oper) (W:World) (Inv:Nat->Value->World->Prop) (Vp:Nat->Value->Value->Prop) (kd:Nat->Nat) (A:Value->World->Prop) (p:Nat) (a:Act) (vs:List Value):Nat->List Oper->Prop
 | _,[]=>True
 | i,o :: os=>oneStep P ops W Inv Vp kd A p a vs i o/\oneSteps P ops W Inv Vp kd A p a vs (i+1) os
theorem oneSteps_at {ops:Array Oper} {W:World} {Inv:Nat->Value->World->Prop} {Vp:Nat->Value->Value->Prop} {kd:Nat->Nat} {A:Value->World->Prop} {p:Nat} {a:Act} {vs:List Value} :
 ∀ (os:List Oper) (k i:Nat) (o:Oper),oneSteps P ops W Inv Vp kd A p a vs k os->os[i]?=some o->oneStep P ops W Inv Vp kd A p a vs (k+i) o
 | [],_,_,_,_,h=>by simp at h
 | o :: os,k,0,o',hh,h=>by
  obtain rfl:o=o':=by simpa using h
  exact hh.1
 | o :: os,k,i+1,o',hh,h=>by
  have:=oneSteps_at os (k+1) i o' hh.2 (by simpa using h);rwa [show k+1+i=k+(i+1) by omega] at this
def oneOk (l:List Oper) (kd:Nat->Nat) (p:Nat):Bool :=
 decide (p<l.length) && ((List.range l.length).all fun i=>i == p || (if kd i=0 then reachB l (l.length+1) p i else if kd i=1 then reachB l (l.length+1) i p else true))
theorem wp_region_one {id:Nat} {Q:Exit->Act->World->Prop} {a:Act} {W:World} {l:List Oper} (p:Nat) (kd:Nat->Nat) (Inv:Nat->Value->World->Prop) (Vp:Nat->Value->Value->Prop) (A:Value->World->Prop)
 (hm:P.follows .mixedOrders=true) (hd:dstsOk l=true) (ho:ordOkG .any 0 l=true) (hk:oneOk l kd p=true)
 (hst:∀ i v w w',Inv i v w->Below w.heap.size w w'->Inv i v w')
 (hin:∀ i x y v,kd i ≠ 1->Vp i x v->Vp i y v)
 (hs:∀ vs:List Value,vs.length=l.length->oneSteps P l.toArray W Inv Vp kd A p (putAll l vs a) vs 0 l)
 (he:∀ (vs:List Value) w,vs.length=l.length->A (vs.getD p undef) w->(∀ i,i<l.length->i ≠ p->Vp i (vs.getD p undef) (vs.getD i undef))->Q .normal (putAll l vs a) w):(Code.region id l.toArray true).wp P Q a W:=by
 unfold oneOk at hk;simp only [Bool.and_eq_true,decide_eq_true_iff] at hk;obtain ⟨k1,k6⟩:=hk;have k7:∀ i,i<l.length->i ≠ p->(kd i=0->reachB l (l.length+1) p i=true)/\(kd i=1->reachB l (l.length+1) i p=true):=by
  intro i hi h1;have h:=List.all_eq_true.1 k6 i (List.mem_range.2 hi);rw [Bool.or_eq_true] at h;rcases h with h | h
  . exact absurd (by simpa using h) h1
  . refine ⟨fun hm=>?_,fun ha=>?_⟩
    . rw [if_pos hm] at h;exact h
    . rw [if_neg (by rw [ha];decide),if_pos ha] at h;exact h
 refine wp_region_any hm ?_;have h:=wpAny_invG (P:=P) (ops:=l.toArray) (md:=.any) (Q:=Q) (a0:=a)
  (J:=fun L vs w=>(∀ (j:Nat) (o:Oper),l[j]?=some o->L j=true->∀ e∈o.after,Region.binds .any e=true->L e.on=true)/\(∀ j,j<l.length->L j=true->j ≠ p->Vp j (vs.getD p undef) (vs.getD j undef)) /\
   (if L p=true then A (vs.getD p undef) w else Below W.heap.size W w/\∀ j,j<l.length->L j=true->j ≠ p->kd j=0->Inv j (vs.getD j undef) w))
  (by simpa using hd) (by simpa using ho) ?_ ?_
  l.toArray.size (Array.replicate l.toArray.size false) (ownVals l a) { W with drawn:=W.drawn+1 } (by simp [ownVals]) (by simp) (by simp) ?_
 . have e:putAll l.toArray.toList (ownVals l a) a=a:=by rw [List.toList_toArray];exact putAll_own l a
   rw [e] at h;exact h
 . intro i o L vs w hio hvl hLi hdep ⟨hcl,hJp,hJ⟩
   simp only [List.toList_toArray] at hio hvl |-;have hil:i<l.length:=(zS.1 hio).1;have hst1:=oneSteps_at l 0 i o (hs vs hvl) hio;rw [Nat.zero_add] at hst1;have hcl':∀ (j:Nat) (o':Oper),l[j]?=some o'->upd L i j=true->∀ e∈o'.after,Region.binds .any e=true->upd L i e.on=true:=by
    intro j o' hj hu e hee hb;have h9:L e.on=true:=by
     by_cases hji:j=i
     . subst hji
       rw [hio] at hj;obtain rfl:o=o':=zD hj;exact hdep e hee hb
     . rw [yAL hji] at hu
       exact hcl j o' hj hu e hee hb
    by_cases hq:e.on=i
    . rw [hq];exact upd_self L i
    . rw [yAL hq];exact h9
   have hget:∀ (v:Value) (j:Nat),j ≠ i->(vs.set i v).getD j undef=vs.getD j undef:=fun v j hj=>by rw [List.getD_eq_getElem?_getD,List.getD_eq_getElem?_getD,List.getElem?_set_ne (fun e=>hj e.symm)]
   have hgets:∀ (v:Value),(vs.set i v).getD i undef=v:=fun v=>by rw [List.getD_eq_getElem?_getD,List.getElem?_set_self (by omega)];rfl
   have hon:∀ e∈o.after.toList,Region.binds .any e=true->e.on<l.length/\L e.on=true:=fun e hee hb=>⟨by have h9:=ordOkG_at l 0 i o (by simpa using ho) hio;have:=h9 e (by simpa using hee) hb;omega,hdep e (by simpa using hee) hb⟩;have hdv:depInv .any (oneDep Inv Vp kd p (vs.getD p undef) false) vs w o.after.toList:=depInv_of _ (fun e hee hb hp=>⟨fun h=>(by cases h),hJp e.on (hon e hee hb).1 (hon e hee hb).2 hp⟩);have hdb:(∀ j,j<l.length->L j=true->j ≠ p->kd j=0->Inv j (vs.getD j undef) w)->depInv .any (oneDep Inv Vp kd p (vs.getD p undef) true) vs w o.after.toList:=fun hI=>depInv_of _ (fun e hee hb hp=>⟨fun _ hk0=>hI e.on (hon e hee hb).1 (hon e hee hb).2 hp hk0,hJp e.on (hon e hee hb).1 (hon e hee hb).2 hp⟩);unfold oneStep at hst1;by_cases hip:i=p
   . rw [if_pos hip] at hst1
     subst hip;rw [if_neg (by rw [hLi];decide)] at hJ;refine relAtG_mono (hst1 w hJ.1 (hdb hJ.2)) fun v w' hA=>⟨hcl',fun j hj hL hp=>?_,?_⟩
     . rw [yAL hp] at hL
       rw [hget v j hp,hgets];have haf:kd j ≠ 1:=fun hq=>absurd (reach_of hcl _ j i hL ((k7 j hj hp).2 hq)) (by rw [hLi];decide);exact hin j _ _ _ haf (hJp j hj hL hp)
     . rw [upd_self,if_pos rfl,hgets]
       exact hA
   . rw [if_neg hip] at hst1
     have hpi:p ≠ i:=fun e=>hip e.symm;have keep:∀ (v:Value),Vp i (vs.getD p undef) v->∀ j,j<l.length->upd L i j=true->j ≠ p->Vp j ((vs.set i v).getD p undef) ((vs.set i v).getD j undef):=fun v hI j hj hL hp=>by
      rw [hget v p hpi];by_cases hji:j=i
      . subst hji;rw [hgets];exact hI
      . rw [yAL hji] at hL
        rw [hget v j hji];exact hJp j hj hL hp
     by_cases hk0:kd i=0
     . rw [if_pos hk0] at hst1
       have hp0:L p ≠ true:=fun h=>by rw [reach_of hcl _ p i h ((k7 i hil hip).1 hk0)] at hLi;cases hLi
       rw [if_neg hp0] at hJ;refine relAtG_mono (hst1 w hJ.1 (hdb hJ.2)) fun v w' hI=>⟨hcl',keep v hI.2.2,?_⟩;rw [yAL hpi,if_neg hp0];refine ⟨hJ.1.trans (hI.1.mono hJ.1.size),fun j hj hL hp hkj=>?_⟩;by_cases hji:j=i
       . subst hji;rw [hgets];exact hI.2.1
       . rw [yAL hji] at hL
         rw [hget v j hji];exact hst j _ w w' (hJ.2 j hj hL hp hkj) hI.1
     . rw [if_neg hk0] at hst1
       have hfin:∀ v w',w'=w/\Vp i (vs.getD p undef) v->(∀ (j:Nat) (o:Oper),l[j]?=some o->upd L i j=true->∀ e∈o.after,Region.binds .any e=true->upd L i e.on=true)/\(∀ j,j<l.length->upd L i j=true->j ≠ p->Vp j ((vs.set i v).getD p undef) ((vs.set i v).getD j undef))/\(if upd L i p=true then A ((vs.set i v).getD p undef) w' else Below W.heap.size W w'/\∀ j,j<l.length->upd L i j=true->j ≠ p->kd j=0->Inv j ((vs.set i v).getD j undef) w'):=by
        rintro v w' ⟨rfl,hI⟩;refine ⟨hcl',keep v hI,?_⟩;rw [yAL hpi,hget v p hpi];by_cases hp1:L p=true
        . rw [if_pos hp1] at hJ |-;exact hJ
        . rw [if_neg hp1] at hJ |-
          refine ⟨hJ.1,fun j hj hL hp hkj=>?_⟩;have hji:j ≠ i:=fun e=>hk0 (by rw [<- e];exact hkj);rw [yAL hji] at hL;rw [hget v j hji];exact hJ.2 j hj hL hp hkj
       by_cases hk1:kd i=1
       . rw [if_pos hk1] at hst1
         have hp1:L p=true:=reach_dep hcl hio hdep hip ((k7 i hil hip).2 hk1);exact relAtG_mono (hst1 w (by rw [if_pos hp1] at hJ;exact hJ) hdv) hfin
       . rw [if_neg hk1] at hst1
         exact relAtG_mono (hst1 w hdv) hfin
 . intro L vs w hvl hall ⟨_,hJp,hJ⟩
   simp only [List.toList_toArray] at hvl hall |-;rw [if_pos (hall p k1)] at hJ;exact he vs w hvl hJ (fun i hi hp=>hJp i hi (hall i hi) hp)
 . have hf:∀ j,(Array.replicate l.toArray.size false).getD j false=false:=by
    intro j;by_cases hj:j<l.length <;> simp [hj]
   refine And.intro (fun j o _ h=>absurd ((hf j).symm.trans h) (by decide)) (And.intro (fun j _ h=>absurd ((hf j).symm.trans h) (by decide)) ?_);rw [if_neg (fun h=>absurd ((hf p).symm.trans h) (by decide))];exact ⟨⟨rfl,rfl,rfl,zA _,fun _ _=>rfl⟩,fun j _ h=>absurd ((hf j).symm.trans h) (by decide)⟩
end
end Go.Proofs.YtmindpfmgnnieaaGreatDoor
