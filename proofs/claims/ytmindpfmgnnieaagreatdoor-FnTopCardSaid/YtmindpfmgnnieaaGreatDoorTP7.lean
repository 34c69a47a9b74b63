/- Lemmas on the way to the law FnTop. No condition. -/
import Derived.Test.YtmindpfmgnnieaaGreatDoorTP2
import Derived.Deep.Quiet
import Derived.Below
namespace Go.Proofs.YtmindpfmgnnieaaGreatDoor
set_option linter.unusedSimpArgs false
open Go.ChangeShapes Go.WideShapes Go.ChangeAt Go.RowKit
set_option linter.unusedVariables false
set_option maxRecDepth 100000
section
variable {P:Program}
def relUpon (P:Program) (K:Value->World->Prop):Result Next->Prop
 | .ok (.value u) w'=>K u w'
 | .ok .skip w'=>K undef w'
 | .ok (.enter f args) w'=>Calls P f args w' fun e w''=>∃ v,e=.returned v/\K v w''
 | _=>False
def relAt (P:Program) (o:Oper) (a:Act) (w:World) (K:Value->World->Prop):Prop:=relUpon P K ((execOp a.eval o).run P w)
theorem wp_of_rel {o:Oper} {a:Act} {w:World} {K:Value->World->Prop} {Q':Exit->Act->World->Prop} (h:relAt P o a w K):o.wp P a w (fun a' w'=>∃ v,a'=a.put o.dst v/\K v w') Q':=by
 unfold relAt at h;unfold Oper.wp;generalize (execOp a.eval o).run P w=r at *
 cases r with
 | ok n w' =>
  cases n <;> simp only [relUpon] at h <;> simp only [Oper.upon]
  case value u=>exact ⟨_,rfl,h⟩
  case skip=>exact ⟨_,rfl,h⟩
  case enter f args=>exact h.mono fun e w'' ⟨v,he,hk⟩=>by subst he;exact ⟨_,rfl,hk⟩
 | halt x w'=>simp only [relUpon] at h
def putAll:List Oper->List Value->Act->Act
 | o :: os,v :: vs,a=>putAll os vs (a.put o.dst v)
 | _,_,a=>a
theorem put_put (a:Act) (x:Option Tmp) (v u:Value):(a.put x v).put x u=a.put x u:=by
 cases x with
 | none=>rfl
 | some d=>simp [Act.put]
theorem putAll_comm {x:Option Tmp} {u:Value}:∀ (os:List Oper) (vs:List Value) (a:Act),(∀ o∈os,∀ d,o.dst=some d->x ≠ some d)->(putAll os vs a).put x u=putAll os vs (a.put x u)
 | [],_,_,_=>by simp [putAll]
 | o :: os,[],_,_=>by simp [putAll]
 | o :: os,v :: vs,a,h=>by
  simp only [putAll];rw [putAll_comm os vs _ fun o' ho=>h o' (List.mem_cons_of_mem _ ho),Act.put_comm a v u fun d hd=>h o (List.mem_cons_self ..) d hd]
def dstsOk:List Oper->Bool
 | []=>true
 | o :: os=>(os.all fun p=>p.dst.isNone || o.dst != p.dst) && dstsOk os
theorem dstsOk_cons {o:Oper} {os:List Oper} (h:dstsOk (o :: os)=true):(∀ p∈os,∀ d,p.dst=some d->o.dst ≠ some d)/\dstsOk os=true:=by
 simp only [dstsOk,Bool.and_eq_true,List.all_eq_true] at h;refine ⟨fun p hp d hd=>?_,h.2⟩;have h1:=h.1 p hp;rw [hd] at h1;simpa using h1
theorem putAll_set {u:Value}:∀ (os:List Oper) (vs:List Value) (a:Act) (i:Nat) (o:Oper),dstsOk os=true->vs.length=os.length->os[i]?=some o->(putAll os vs a).put o.dst u=putAll os (vs.set i u) a
 | [],_,_,_,_,_,_,h=>by simp at h
 | o :: os,[],_,_,_,_,hl,_=>by simp at hl
 | o :: os,v :: vs,a,0,o',hd,hl,h=>by
  obtain rfl:o=o':=by simpa using h
  simp only [putAll,List.set_cons_zero];rw [putAll_comm os vs _ (dstsOk_cons hd).1,put_put]
 | o :: os,v :: vs,a,i+1,o',hd,hl,h=>by
  simp only [putAll,List.set_cons_succ];exact putAll_set os vs _ i o' (dstsOk_cons hd).2 (by simpa using hl) (by simpa using h)
def ownVals (os:List Oper) (a:Act):List Value:=os.map fun o=>match o.dst with | some d=>a.tmps.getD d undef | none=>undef
theorem put_own (a:Act) (d:Tmp):a.put (some d) (a.tmps.getD d undef)=a:=by
 have h:a.tmps.setIfInBounds d (a.tmps.getD d undef)=a.tmps:=by
  apply Array.ext_getElem?;intro k;by_cases hk:d=k
  . subst hk
    rcases Nat.lt_or_ge d a.tmps.size with h' | h'
    . simp [h']
    . simp [h']
  . rw [Array.getElem?_setIfInBounds_ne hk]
 show { a with tmps:=a.tmps.setIfInBounds d (a.tmps.getD d undef) }=a
 rw [h]
theorem putAll_own:∀ (os:List Oper) (a:Act),putAll os (ownVals os a) a=a
 | [],_=>rfl
 | o :: os,a=>by
  show putAll os (ownVals os a) (a.put o.dst _)=a
  have h:a.put o.dst (match o.dst with | some d=>a.tmps.getD d undef | none=>undef)=a:=by
   cases hd:o.dst with
   | none=>rfl
   | some d=>exact put_own a d
  rw [h];exact putAll_own os a
def ordOk (md:Region.Mode):Nat->List Oper->Bool
 | _,[]=>true
 | k,o :: os=>o.guard.isNone && (o.after.toList.all fun e=>!Region.binds md e || decide (e.on<k)) && ordOk md (k+1) os
theorem ordOk_at {md:Region.Mode}:∀ (os:List Oper) (k i:Nat) (o:Oper),ordOk md k os=true->os[i]?=some o->o.guard=none/\∀ e∈o.after,Region.binds md e=true->e.on<k+i
 | [],_,_,_,_,h=>by simp at h
 | o :: os,k,0,o',hh,h=>by
  obtain rfl:o=o':=by simpa using h
  simp only [ordOk,Bool.and_eq_true,List.all_eq_true,Bool.or_eq_true,decide_eq_true_eq,Bool.not_eq_true'] at hh;refine ⟨by simpa using hh.1.1,fun e he hb=>?_⟩;rcases hh.1.2 e (by simpa using he) with h1 | h1
  . rw [hb] at h1;cases h1
  . omega
 | o :: os,k,i+1,o',hh,h=>by
  simp only [ordOk,Bool.and_eq_true] at hh;have:=ordOk_at os (k+1) i o' hh.2 (by simpa using h);refine ⟨this.1,fun e he hb=>?_⟩;have:=this.2 e he hb;omega
def depInv (md:Region.Mode) (Inv:Nat->Value->World->Prop) (vs:List Value) (w:World):List Edge->Prop
 | []=>True
 | e :: es=>(Region.binds md e=true->Inv e.on (vs.getD e.on undef) w)/\depInv md Inv vs w es
theorem depInv_of {md:Region.Mode} {Inv:Nat->Value->World->Prop} {vs:List Value} {w:World}:∀ (es:List Edge),(∀ e∈es,Region.binds md e=true->Inv e.on (vs.getD e.on undef) w)->depInv md Inv vs w es
 | [],_=>trivial
 | e :: es,h=>⟨h e (List.mem_cons_self ..),depInv_of es fun x hx=>h x (List.mem_cons_of_mem _ hx)⟩
def relSteps (P:Program) (md:Region.Mode) (C:World->Prop) (R:World->World->Prop) (Inv:Nat->Value->World->Prop) (a:Act) (vs:List Value):Nat->List Oper->Prop
 | _,[]=>True
 | i,o :: os=>(∀ w,C w->depInv md Inv vs w o.after.toList->relAt P o a w fun v w'=>R w w'/\Inv i v w')/\relSteps P md C R Inv a vs (i+1) os
theorem relSteps_at {md:Region.Mode} {C:World->Prop} {R:World->World->Prop} {Inv:Nat->Value->World->Prop} {a:Act} {vs:List Value}:∀ (os:List Oper) (k i:Nat) (o:Oper),relSteps P md C R Inv a vs k os->os[i]?=some o ->
 ∀ w,C w->depInv md Inv vs w o.after.toList->relAt P o a w fun v w'=>R w w'/\Inv (k+i) v w'
 | [],_,_,_,_,h=>by simp at h
 | o :: os,k,0,o',hh,h=>by
  obtain rfl:o=o':=by simpa using h
  exact hh.1
 | o :: os,k,i+1,o',hh,h=>by
  have:=relSteps_at os (k+1) i o' hh.2 (by simpa using h);rwa [show k+1+i=k+(i+1) by omega] at this
theorem wpAny_rely {ops:Array Oper} {md:Region.Mode} {Q:Exit->Act->World->Prop} {C:World->Prop} {R:World->World->Prop} {Inv:Nat->Value->World->Prop} {a0:Act}
 (hC:∀ w w',C w->R w w'->C w') (hst:∀ i v w w',Inv i v w->R w w'->Inv i v w') (hd:dstsOk ops.toList=true) (ho:ordOk md 0 ops.toList=true)
 (hs:∀ vs:List Value,vs.length=ops.toList.length->relSteps P md C R Inv (putAll ops.toList vs a0) vs 0 ops.toList)
 (he:∀ (vs:List Value) w,vs.length=ops.toList.length->C w->(∀ i,i<ops.toList.length->Inv i (vs.getD i undef) w)->Q .normal (putAll ops.toList vs a0) w) :
 ∀ (fuel:Nat) (listed:Array Bool) (vs:List Value) (w:World),vs.length=ops.toList.length->listed.size=ops.size->listed.toList.count false<=fuel->C w ->
  (∀ i,i<ops.toList.length->listed.getD i false=true->Inv i (vs.getD i undef) w)->wpAny P md ops Q fuel listed (putAll ops.toList vs a0) w:=by
 have hdone:∀ (listed:Array Bool),listed.size=ops.size->Region.ready md ops listed=[]->∀ i,i<ops.toList.length->listed.getD i false=true:=by
  intro listed hls hr i;induction i using Nat.strongRecOn with
  | _ i ih =>
   intro hi;cases hq:listed.getD i false with
   | true=>rfl
   | false =>
    exfalso;have hil:i<ops.size:=by simpa using hi
    have h0:ops[i]?=some ops[i]:=Array.getElem?_eq_getElem hil;have hor:=ordOk_at ops.toList 0 i ops[i] ho (by rw [Array.getElem?_toList];exact h0);have hm:i∈Region.ready md ops listed:=by
     refine mem_ready.2 ⟨?_,ops[i],h0,fun e hee hb=>?_⟩
     . have hil2:i<listed.size:=by omega
       simp [hil2] at hq |-;exact hq
     . have:=hor.2 e hee hb
       exact ih e.on (by omega) (by omega)
    rw [hr] at hm;cases hm
 intro fuel;induction fuel with
 | zero =>
  intro listed vs w hvl hls hc hCw hI;have hall:∀ i,i<listed.size->listed.getD i false=true:=by
   intro i hi;cases hq:listed.getD i false with
   | true=>rfl
   | false =>
    exfalso;have hm:false∈listed.toList:=by
     have h2:listed[i]=false:=by simpa [hi] using hq
     rw [<- h2];simp
    have:=List.count_pos_iff.2 hm;omega
  have hr:Region.ready md ops listed=[]:=by
   cases hr:Region.ready md ops listed with
   | nil=>rfl
   | cons x xs =>
    exfalso;have hm:x∈Region.ready md ops listed:=by rw [hr];exact List.mem_cons_self ..
    obtain ⟨h1,o,h2,_⟩:=mem_ready.1 hm;have hx:x<listed.size:=by rw [hls];exact (Array.getElem?_eq_some_iff.1 h2).1
    have h3:=hall x hx;simp [hx] at h1 h3;rw [h3] at h1;cases h1
  exact ⟨hr,he vs w hvl hCw fun i hi=>hI i hi (hall i (by rw [hls];simpa using hi))⟩
 | succ fuel ih =>
  intro listed vs w hvl hls hc hCw hI;refine ⟨fun hr=>he vs w hvl hCw fun i hi=>hI i hi (hdone listed hls hr i hi),fun i hi=>?_⟩;obtain ⟨h1,o,h2,h3⟩:=mem_ready.1 hi;have hio:i<ops.size:=(Array.getElem?_eq_some_iff.1 h2).1;have hil:i<listed.size:=by omega
  have h2l:ops.toList[i]?=some o:=by rw [Array.getElem?_toList];exact h2
  have hor:=ordOk_at ops.toList 0 i o ho h2l;have hdep:depInv md Inv vs w o.after.toList:=depInv_of _ fun e hee hb=>by
   have hlt:=hor.2 e (by simpa using hee) hb;refine hI e.on (by simp;omega) (h3 e (by simpa using hee) hb)
  have hrel:=relSteps_at ops.toList 0 i o (hs vs hvl) h2l w hCw hdep;rw [Nat.zero_add] at hrel;unfold wpOp;simp only [h2];have hw:Region.wanted o (yielded ops (putAll ops.toList vs a0).tmps)=true:=by simp [Region.wanted,hor.1]
  rw [if_pos hw];refine .inl (Oper.wp_mono ?_ (wp_of_rel hrel));rintro a' w' ⟨v,rfl,hR,hIv⟩;rw [putAll_set ops.toList vs a0 i o hd hvl h2l];refine ih _ (vs.set i v) w' (by simpa using hvl) (by simpa using hls) ?_ (hC w w' hCw hR) ?_
  . have hf:listed.toList[i]'(by simpa using hil)=false:=by simpa [hil] using h1
    have hm:false∈listed.toList:=by rw [<- hf];exact List.getElem_mem _
    have:=List.count_pos_iff.2 hm;have h9:=List.count_set (a:=true) (b:=false) (l:=listed.toList) (i:=i) (by simpa using hil);rw [hf] at h9;rw [Array.toList_setIfInBounds,h9];have e1:(if (false == false)=true then 1 else 0)=1:=rfl;have e2:(if (true == false)=true then 1 else 0)=0:=rfl;rw [e1,e2];omega
  . intro j hj hl
    by_cases hij:i=j
    . subst hij
      have:(vs.set i v).getD i undef=v:=by rw [List.getD_eq_getElem?_getD,List.getElem?_set_self (by omega)];rfl
      rw [this];exact hIv
    . have:(vs.set i v).getD j undef=vs.getD j undef:=by rw [List.getD_eq_getElem?_getD,List.getD_eq_getElem?_getD,List.getElem?_set_ne hij]
      rw [this];refine hst j _ w w' (hI j hj ?_) hR;rw [getD_set_ne false hij] at hl;exact hl
theorem yAZ {id:Nat} {Q:Exit->Act->World->Prop} {a:Act} {W:World} {l:List Oper} (Inv:Nat->Value->World->Prop) (hm:P.follows .mixedOrders=true) (hd:dstsOk l=true) (ho:ordOk .any 0 l=true)
 (hst:∀ i v w w',Inv i v w->Below w.heap.size w w'->Inv i v w')
 (hs:∀ vs:List Value,vs.length=l.length->relSteps P .any (fun w=>Below W.heap.size W w) (fun w w'=>Below w.heap.size w w') Inv (putAll l vs a) vs 0 l)
 (he:∀ (vs:List Value) w,vs.length=l.length->Below W.heap.size W w->(∀ i,i<l.length->Inv i (vs.getD i undef) w)->Q .normal (putAll l vs a) w):(Code.region id l.toArray true).wp P Q a W:=by
 refine wp_region_any hm ?_;have hC0:Below W.heap.size W { W with drawn:=W.drawn+1 }:=⟨rfl,rfl,rfl,zA _,fun _ _=>rfl⟩;have h:=wpAny_rely (P:=P) (ops:=l.toArray) (md:=.any) (Q:=Q) (C:=fun w=>Below W.heap.size W w) (R:=fun w w'=>Below w.heap.size w w') (Inv:=Inv) (a0:=a)
  (fun w w' h1 h2=>h1.trans (h2.mono h1.size)) hst (by simpa using hd) (by simpa using ho) (by simpa using hs) (by simpa using he)
  l.toArray.size (Array.replicate l.toArray.size false) (ownVals l a) { W with drawn:=W.drawn+1 } (by simp [ownVals]) (by simp) (by simp) hC0 (fun i hi hl=>by have hi2:i<l.length:=(by simpa using hi);simp [hi2] at hl)
 have e:putAll l.toArray.toList (ownVals l a) a=a:=by rw [List.toList_toArray];exact putAll_own l a
 rw [e] at h;exact h
end
theorem yAF {md:Region.Mode} {Inv:Nat->Value->World->Prop} {vs:List Value} {w:World} (j:Nat):∀ {es:List Edge},(es.any fun e=>Region.binds md e && e.on == j)=true->depInv md Inv vs w es->Inv j (vs.getD j undef) w
 | [],h,_=>by cases h
 | e :: es,h,hd=>by
  rw [List.any_cons,Bool.or_eq_true,Bool.and_eq_true] at h;rcases h with ⟨h1,h2⟩ | h
  . have:e.on=j:=by simpa using h2
    subst this;exact hd.1 h1
  . exact yAF j h hd.2
end Go.Proofs.YtmindpfmgnnieaaGreatDoor
