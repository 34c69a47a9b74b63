/- Lemmas on the way to the law FnTop. No condition. -/
import Derived.Test.YtmindpfmgnnieaaGreatDoorTP39
import Derived.Test.YtmindpfmgnnieaaGreatDoorTP2
import Derived.Test.YtmindpfmgnnieaaGreatDoorTP34
import Derived.Test.YtmindpfmgnnieaaGreatDoorTP18
import Derived.ArgAppend
import Derived.Test.YtmindpfmgnnieaaGreatDoorTP16
import Derived.Test.YtmindpfmgnnieaaGreatDoorTP7
import Derived.Test.YtmindpfmgnnieaaGreatDoorTP40
import Derived.Test.YtmindpfmgnnieaaGreatDoorTP31
import Derived.Test.YtmindpfmgnnieaaGreatDoorTP23
namespace Go.Proofs.YtmindpfmgnnieaaGreatDoor
set_option maxHeartbeats 4000000
set_option linter.unusedSimpArgs false
open Lib (hid)
open Go.ChangeShapes Go.WideShapes Go.ChangeAt Go.RowKit Go.Sort
set_option linter.unusedVariables false
set_option maxRecDepth 100000
def RdTz (w:World) (v:Value) (x:List TotalT):Prop:=RdTs w.heap.size w v x
section
variable {base:Nat} {X X':Nat->Prop} {w w' w1:World} {u v u' v':Value} {o:OffT}
end
theorem run_copyS {α:Type} {E:Elt α} {P:Program} {w:World} {base g:Nat} {t ty e:TypeId} {i:TypeInfo} {z:Value} {bytes B:Nat} (ht:P.underlying t=some (.slice e)) (hi:P.info? e=some i) (hz:i.zero=some z)
 (hsize:i.size=E.sz) (hby:i.bytes=bytes) (hzs:z.cells.size=E.sz) (hsz:0<E.sz) {u:Value} {ys:List α} (hown:Own E e base w (.slice (some ⟨g,0,none⟩) 0 0) []) (hu:Rds E B w u ys)
 (h63:ys.length<=maxLen) (hbytes:ys.length * bytes<=140737488355328) (hbase:base<=w.heap.size) :
 ∃ v' w',(Builtin.append_ #[t,t] ty #[.slice (some ⟨g,0,none⟩) 0 0,u]).run P w=.ok v' w'/\Own E e base w' v' ys/\Below w.heap.size w w':=by
 have hok:∀ x∈ys,E.ok x:=hu.2;by_cases h0:ys.length=0
 . obtain rfl:ys=[]:=List.eq_nil_of_length_eq_zero h0
   rcases hu.1.2.2 with ⟨-,ao,cap,rfl,hcap⟩ | ⟨b,off,cap,rfl,hcp,hlt,hlt',hc⟩
   . cases ao with
     | none =>
      obtain rfl:=hcap rfl;exact ⟨_,w,run_append_owned_none (P:=P) w base t ty e i E.sz ht hi _ 0 (E.all []) hown.1,hown,zB _ _⟩
     | some a =>
      have h:=run_append_room_cells (P:=P) (w:=w) t ty e i ht hi g 0 0 0 a 0 cap [] (by simp) (by simp) (by simp) (by omega) (by simp) (by simp);exact ⟨_,w,h,hown,zB _ _⟩
   . have h:=run_append_room_cells (P:=P) (w:=w) t ty e i ht hi g 0 0 0 ⟨b,off,none⟩ 0 cap [] (by simp) (by simp) (by simp) (by omega) (by simp) (by simp)
     exact ⟨_,w,h,hown,zB _ _⟩
 . rcases hu.1.2.2 with ⟨h1,-⟩ | ⟨b,off,cap,rfl,hcp,hlt,hlt',hc⟩
   . exact absurd h1 h0
   . obtain ⟨v',w',h1,h2,h3⟩:=run_append_arg_grows (P:=P) (w:=w) t ty e i z E.sz bytes ht hi hz hsize hby hzs hsz ⟨g,0,none⟩ 0 0 [] (by simp) (by simp) ⟨b,off,none⟩ ys.length cap (E.all ys) (E.all_length _)
      (fun j x hx=>by
       have hj:j<ys.length * E.sz:=by have:=(zS.1 hx).1;rwa [E.all_length] at this
       rw [Addr.add_lit,hc j hj];exact hx) (by omega) (by omega) (by rw [Nat.zero_add];exact hbytes)
     rw [Nat.zero_add,List.nil_append] at h2;have hO:Own E e w.heap.size w' v' ys:=⟨h2,hok⟩;exact ⟨v',w',h1,hO.mono hbase,(zB _ _).grown h3 (zA _) (fun k hk=>by cases hk)⟩
theorem boxAgr {S:Nat->Prop} {w w':World} {g:Nat} {cs:List Value} (h:Box w g cs) (hA:Agr S w w') (hS:¬ S g):Box w' g cs :=
 ⟨zM h.lt hA.size,fun j v hj=>hA.cell (h.cell j v hj) hS,fun j=>by
  have h1:=h.free j;unfold World.frozen? at h1 |-;rw [hA.block g h.lt hS];exact h1⟩
theorem relAt_copyS {P:Program} {α:Type} {E:Elt α} {o:Oper} {a:Act} {w:World} {K:Value->World->Prop} (s x:Operand) (t:TypeId)
 (ho:o.op=.call { callee:=.builtin .append,args:=#[s,x],argTypes:=#[t,t] })
 {base g:Nat} {e:TypeId} {i:TypeInfo} {z:Value} {bytes B:Nat} (ht:P.underlying t=some (.slice e)) (hi:P.info? e=some i) (hz:i.zero=some z)
 (hsize:i.size=E.sz) (hby:i.bytes=bytes) (hzs:z.cells.size=E.sz) (hsz:0<E.sz) {u:Value} {ys:List α} (hs:a.eval s=.slice (some ⟨g,0,none⟩) 0 0) (hx:a.eval x=u) (hown:Own E e base w (.slice (some ⟨g,0,none⟩) 0 0) []) (hu:Rds E B w u ys)
 (h63:ys.length<=maxLen) (hbytes:ys.length * bytes<=140737488355328) (hbase:base<=w.heap.size)
 (h:∀ v' w',Own E e base w' v' ys->Below w.heap.size w w'->K v' w'):relAt P o a w K:=by
 obtain ⟨v',w',hr,h2,h3⟩:=run_copyS (P:=P) (ty:=o.type) ht hi hz hsize hby hzs hsz hown hu h63 hbytes hbase;unfold relAt execOp;simp only [ho,resolve,invoke,builtin,Sem.run_bind,Sem.run_pure,Result.andThen_ok,List.map_toArray,List.map_cons,List.map_nil,hs,hx,hr];simp only [relUpon];exact h v' w' h2 h3
section
variable {w0 w w1 w':World} {X0:Nat} {po:List Value} {cu cv u v u' v':Value} {o:OffT}
end
theorem Own.rebase {α:Type} {E:Elt α} {e:TypeId} {base base':Nat} {w:World} {v:Value} {xs:List α} (h:Own E e base w v xs) (hb:∀ q,v.ownBlock=some q->base'<=q):Own E e base' w v xs:=by
 refine ⟨⟨h.1.1,?_⟩,h.2⟩;rcases h.1.2 with h0 | ⟨g,cap,cur,rfl,-,rest⟩
 . exact .inl h0
 . exact .inr ⟨g,cap,cur,rfl,hb g rfl,rest⟩
section
variable {β:Type} {Q:(Nat->Prop)->World->Value->List β->Prop} {e:TypeId} {S:Nat->Prop} {w w':World} {u v:Value} {xs:List (List β)}
theorem OwnL.empty {base:Nat} (h:Own eS e base w v []) (hS:∀ q,v.ownBlock=some q->S q):OwnL Q e S w v [] :=
 ⟨[],fun _ _=>False,h.mono (zK _),hS,rfl,fun i h x e1=>(by simp at e1),fun i hi=>(by simp at hi),fun i j hi=>(by simp at hi)⟩
theorem OwnL.own (h:OwnL Q e S w v xs):∀ q,v.ownBlock=some q->S q/\q<w.heap.size:=by
 obtain ⟨hs,T,h1,h2,h3,h4,h5,h6⟩:=h;exact fun q hq=>⟨h2 q hq,(h1.lt q hq).2⟩
theorem OwnL.app (K:RowO Q) (h:OwnL Q e S w u xs) (hlt:∀ k,S k->k<w.heap.size):∃ hs,Own eS e 0 w u hs/\hs.length=xs.length /\
 ∀ (w1:World) (hx:SlV) (x:List β),Below w.heap.size w w1->Q (fun k=>w.heap.size<=k/\k<w1.heap.size) w1 hx.val x->∀ (w':World) (u':Value),Own eS e 0 w' u' (hs++[hx])->Grew w1 w' u u' ->
  OwnL Q e (fun k=>S k\/(w.heap.size<=k/\k<w'.heap.size)) w' u' (xs++[x])/\Agr (fun k=>u.ownBlock=some k) w w':=by
 obtain ⟨hs,T,h1,h2,h3,h4,h5,h6⟩:=h;refine ⟨hs,h1,h3,fun w1 hx x hb hq w' u' ho hg=>?_⟩;have hA1:Agr (fun _=>False) w w1:=Agr.on hb;have hA2:Agr (fun k=>u.ownBlock=some k) w1 w':=Agr.of_grown hg.1 (fun k hk _=>hk);have hA:Agr (fun k=>u.ownBlock=some k) w w':=⟨hA2.os.trans hA1.os,hA2.tape.trans hA1.tape,hA2.output.trans hA1.output,zO hA1.size hA2.size,fun k hk hn=>(hA2.block k (zM hk hA1.size) hn).trans (hA1.block k hk (fun e=>e))⟩;have hu:∀ k,u.ownBlock=some k->k<w.heap.size:=fun k hk=>(h1.lt k hk).2;have hown:∀ k,u'.ownBlock=some k->u.ownBlock=some k\/w1.heap.size<=k:=fun k hk=>by
  rcases hg.2 with e | ⟨q,e,hq⟩
  . exact .inl (by rw [<- e];exact hk)
  . rw [e] at hk;cases hk;exact .inr hq
 have hs1:=hb.size;have hs2:=hA2.size;refine ⟨OwnL.snoc (u:=u) (T:=T) (Tn:=fun k=>w.heap.size<=k/\k<w1.heap.size) K h3 (fun i y z e1 e2=>K.agr (h4 i y z e1 e2) hA (fun k hk he=>(h5 i (yBG e2) k hk).2 he)) (fun i hi k hk=>⟨.inl (h5 i hi k hk).1,fun he=>?_⟩) h6 ho (fun q hq=>?_) (K.agr hq hA2 (fun k hk he=>by have:=hu k he;omega)) (fun k hk=>⟨.inr ⟨hk.1,by omega⟩,fun he=>?_⟩) (fun i hi k hk hn=>?_),hA⟩
 . rcases hown k he with h | h
   . exact (h5 i hi k hk).2 h
   . have:=hlt k (h5 i hi k hk).1;omega
 . rcases hown q hq with h | h
   . exact .inl (h2 q h)
   . exact .inr ⟨by omega,(ho.lt q hq).2⟩
 . rcases hown k he with h | h
   . have:=hu k h;omega
   . omega
 . have:=hlt k (h5 i hi k hk).1;omega
end
theorem OwnO.sub {S S':Nat->Prop} {w:World} {u v:Value} {o:OffT} (h:OwnO S w u v o) (hs:∀ k,S k->S' k):OwnO S' w u v o:=by
 obtain ⟨Su,Sv,h1,h2,h3,h4,h5⟩:=h;exact ⟨Su,Sv,h1,h2,fun k hk=>hs k (h3 k hk),fun k hk=>hs k (h4 k hk),h5⟩
theorem OwnO.own {S:Nat->Prop} {w:World} {u v:Value} {o:OffT} (h:OwnO S w u v o):∀ q,u.ownBlock=some q\/v.ownBlock=some q->S q/\q<w.heap.size:=by
 obtain ⟨Su,Sv,h1,h2,h3,h4,h5⟩:=h;intro q hq;rcases hq with e | e
 . have:=OwnL.own h1 q e;exact ⟨h3 q this.1,this.2⟩
 . have:=OwnL.own h2 q e;exact ⟨h4 q this.1,this.2⟩
theorem OwnO.shape {S:Nat->Prop} {w:World} {u v:Value} {o:OffT} (h:OwnO S w u v o):(∃ a c,u=.slice a o.trays.length c)/\∃ a c,v=.slice a o.totals.length c:=by
 obtain ⟨Su,Sv,h1,h2,-⟩:=h;exact ⟨OwnL.shape h1,OwnL.shape h2⟩
theorem QD.of {n:Nat} {w:World} {v:Value} {x:List (List Int)} (h:OwD n w v x):QD (fun k=>n<=k/\k<w.heap.size) w v x:=⟨n,w.heap.size,h,zA _,fun k a b=>⟨a,b⟩⟩
theorem QT.of {n:Nat} {w:World} {v:Value} {x:List TotalT} (h:Own eTotal 153 n w v x):QT (fun k=>n<=k/\k<w.heap.size) w v x:=⟨n,w.heap.size,Own.top h,zA _,fun k a b=>⟨a,b⟩⟩
def NewF (w0:World) (X0:Nat) (po:List Value) (w:World) (cu cv u v:Value) (o:OffT):Prop :=
 OwnO (fun q=>w0.heap.size+2<=q/\q ≠ X0/\q<w.heap.size) w u v o/\Box w X0 [cu,cv]/\Box w w0.heap.size po/\Box w (w0.heap.size+1) [.slice none 0 0,.slice none 0 0]/\Below w0.heap.size w0 w /\
  (∀ q,u.ownBlock=some q\/v.ownBlock=some q->q ≠ X0/\w0.heap.size+2<=q)/\w0.heap.size+2<=X0
section
variable {w0 w w1 w':World} {X0:Nat} {po:List Value} {cu cv u v u' v':Value} {o:OffT}
theorem NewF.appT (h:NewF w0 X0 po w cu cv u v o):∃ hs,Own eS 24 w0.heap.size w u hs/\hs.length=o.trays.length /\
 ∀ (w1:World) (hx:SlV) (x:List (List Int)),Below w.heap.size w w1->OwD w.heap.size w1 hx.val x->∀ w' u',Own eS 24 w0.heap.size w' u' (hs++[hx])->Grew w1 w' u u'->NewF w0 X0 po w' cu cv u' v ⟨o.trays++[x],o.totals⟩:=by
 obtain ⟨⟨Su,Sv,p1,p2,p3,p4,p5⟩,q1,q2,q3,q4,q5,q6⟩:=h;obtain ⟨hs,a1,a2,a3⟩:=OwnL.app rowO_D p1 (fun k hk=>(p3 k hk).2.2);refine ⟨hs,a1.rebase (fun q hq=>by have:=q5 q (.inl hq);omega),a2,fun w1 hx x hb hfr w' u' ho hg=>?_⟩;obtain ⟨b1,b2⟩:=a3 w1 hx x hb (QD.of hfr) w' u' (ho.mono (zK _)) hg;have hX:=q1.lt;have hs9:=b2.size;have hin:∀ k,(Su k\/w.heap.size<=k/\k<w'.heap.size)->w0.heap.size+2<=k/\k ≠ X0/\k<w'.heap.size:=fun k hk=>by
  rcases hk with e | e
  . have:=p3 k e;omega
  . omega
 have hne:∀ k,u.ownBlock=some k->k ≠ X0/\w0.heap.size+2<=k:=fun k hk=>q5 k (.inl hk);refine ⟨⟨_,Sv,b1,OwnL.agr rowO_T p2 b2 (fun k hk he=>p5 k (OwnL.own p1 k he).1 hk),hin,fun k hk=>by have:=p4 k hk;omega,fun k hk hk2=>?_⟩,boxAgr q1 b2 (fun e=>(hne _ e).1 rfl),boxAgr q2 b2 (fun e=>by have:=(hne _ e).2;omega),boxAgr q3 b2 (fun e=>by have:=(hne _ e).2;omega),
  q4.trans (b2.below (fun k hk=>by have:=(hne k hk).2;omega) q4.size),fun q hq=>?_,q6⟩
 . rcases hk with e | e
   . exact p5 k e hk2
   . have:=p4 k hk2;omega
 . rcases hq with e | e
   . have:=hin q ((OwnL.own b1 q e).1);exact ⟨this.2.1,this.1⟩
   . exact q5 q (.inr e)
theorem NewF.appL (h:NewF w0 X0 po w cu cv u v o):∃ ks,Own eS 43 w0.heap.size w v ks/\ks.length=o.totals.length /\
 ∀ (w1:World) (hx:SlV) (x:List TotalT),Below w.heap.size w w1->Own eTotal 153 w.heap.size w1 hx.val x->∀ w' v',Own eS 43 w0.heap.size w' v' (ks++[hx])->Grew w1 w' v v'->NewF w0 X0 po w' cu cv u v' ⟨o.trays,o.totals++[x]⟩:=by
 obtain ⟨⟨Su,Sv,p1,p2,p3,p4,p5⟩,q1,q2,q3,q4,q5,q6⟩:=h;obtain ⟨ks,a1,a2,a3⟩:=OwnL.app rowO_T p2 (fun k hk=>(p4 k hk).2.2);refine ⟨ks,a1.rebase (fun q hq=>by have:=q5 q (.inr hq);omega),a2,fun w1 hx x hb hfr w' v' ho hg=>?_⟩;obtain ⟨b1,b2⟩:=a3 w1 hx x hb (QT.of hfr) w' v' (ho.mono (zK _)) hg;have hX:=q1.lt;have hs9:=b2.size;have hin:∀ k,(Sv k\/w.heap.size<=k/\k<w'.heap.size)->w0.heap.size+2<=k/\k ≠ X0/\k<w'.heap.size:=fun k hk=>by
  rcases hk with e | e
  . have:=p4 k e;omega
  . omega
 have hne:∀ k,v.ownBlock=some k->k ≠ X0/\w0.heap.size+2<=k:=fun k hk=>q5 k (.inr hk);refine ⟨⟨Su,_,OwnL.agr rowO_D p1 b2 (fun k hk he=>p5 k hk (OwnL.own p2 k he).1),b1,fun k hk=>by have:=p3 k hk;omega,hin,fun k hk hk2=>?_⟩,boxAgr q1 b2 (fun e=>(hne _ e).1 rfl),boxAgr q2 b2 (fun e=>by have:=(hne _ e).2;omega),boxAgr q3 b2 (fun e=>by have:=(hne _ e).2;omega),
  q4.trans (b2.below (fun k hk=>by have:=(hne k hk).2;omega) q4.size),fun q hq=>?_,q6⟩
 . rcases hk2 with e | e
   . exact p5 k hk e
   . have:=p3 k hk;omega
 . rcases hq with e | e
   . exact q5 q (.inl e)
   . have:=hin q ((OwnL.own b1 q e).1);exact ⟨this.2.1,this.1⟩
theorem NewF.put (h:NewF w0 X0 po w cu cv u v o) (j:Nat) (y:Value) {cu' cv':Value} (hj:j<2) (hc:[cu,cv].set j y=[cu',cv']):NewF w0 X0 po (w.setCell ⟨X0,j,none⟩ y) cu' cv' u v o:=by
 have hx0:=h.2.2.2.2.2.2;have hA:Agr (fun k=>k=X0) w (w.setCell ⟨X0,j,none⟩ y):=Agr.set w _ _ rfl;have hb:=h.2.1.set1 (j:=j) (by simpa using hj) y;rw [hc] at hb;exact ⟨(h.1.agr hA (fun k hk he=>hk.2.1 he)).sub (fun q hq=>by simpa using hq),hb,h.2.2.1.other (by show X0 ≠ w0.heap.size;omega) _,h.2.2.2.1.other (by show X0 ≠ w0.heap.size+1;omega) _,h.2.2.2.2.1.setCell (by show w0.heap.size<=X0;omega) _,h.2.2.2.2.2.1,hx0⟩
theorem NewF.shT {n:Nat} (h:NewF w0 X0 po w cu cv u v o) (hn:o.trays.length=n):∃ a c,u=.slice a n c/\NewF w0 X0 po w cu cv (.slice a n c) v o:=by
 obtain ⟨⟨a,c,e⟩,-⟩:=h.1.shape;rw [hn] at e;exact ⟨a,c,e,by rw [<- e];exact h⟩
theorem NewF.shL {n:Nat} (h:NewF w0 X0 po w cu cv u v o) (hn:o.totals.length=n):∃ a c,v=.slice a n c/\NewF w0 X0 po w cu cv u (.slice a n c) o:=by
 obtain ⟨-,a,c,e⟩:=h.1.shape;rw [hn] at e;exact ⟨a,c,e,by rw [<- e];exact h⟩
end
def SpsF (w0:World) (po:List Value) (w:World) (u:Value) (xss:List (List (List Int))):Prop :=
 OwnDs (fun q=>w0.heap.size+1<=q/\q<w.heap.size) w u xss/\Box w w0.heap.size po/\Below w0.heap.size w0 w
section
variable {w0 w w1 w':World} {po:List Value} {u:Value} {xss:List (List (List Int))}
theorem SpsF.on (h:SpsF w0 po w u xss) (hb:Below w.heap.size w w'):SpsF w0 po w' u xss :=
 ⟨(OwnL.agr rowO_D h.1 (Agr.on (S:=fun _=>False) hb) (fun _ _ h=>h)).sub (fun q hq=>⟨hq.1,zM hq.2 hb.size⟩),h.2.1.on hb,h.2.2.trans (hb.mono h.2.2.size)⟩
theorem SpsF.app (h:SpsF w0 po w u xss):∃ hs,Own eS 24 (w0.heap.size+1) w u hs/\hs.length=xss.length /\
 ∀ (w1:World) (hx:SlV) (x:List (List Int)),Below w.heap.size w w1->OwD w.heap.size w1 hx.val x->∀ w' u',Own eS 24 (w0.heap.size+1) w' u' (hs++[hx])->Grew w1 w' u u'->SpsF w0 po w' u' (xss++[x]):=by
 obtain ⟨p1,q1,q2⟩:=h;obtain ⟨hs,a1,a2,a3⟩:=OwnL.app rowO_D p1 (fun k hk=>hk.2);have hX:=q1.lt;refine ⟨hs,a1.rebase (fun q hq=>(OwnL.own p1 q hq).1.1),a2,fun w1 hx x hb hfr w' u' ho hg=>?_⟩;obtain ⟨b1,b2⟩:=a3 w1 hx x hb (QD.of hfr) w' u' (ho.mono (zK _)) hg;have hs9:=b2.size;have hne:∀ k,u.ownBlock=some k->w0.heap.size+1<=k:=fun k hk=>(OwnL.own p1 k hk).1.1;refine ⟨b1.sub (fun k hk=>?_),boxAgr q1 b2 (fun e=>by have:=hne _ e;omega),q2.trans (b2.below (fun k hk=>by have:=hne k hk;omega) q2.size)⟩;rcases hk with e | e
 . omega
 . omega
theorem SpsF.rd (h:SpsF w0 po w u xss):RdDs w.heap.size w u xss:=OwnDs.rds h.1
theorem SpsF.nil (h:Own eS 24 (w0.heap.size+1) w u []) (hb:Box w w0.heap.size po) (hB:Below w0.heap.size w0 w):SpsF w0 po w u [] :=
 ⟨OwnL.empty h (fun q hq=>h.lt q hq),hb,hB⟩
end
theorem Tryz.infoDeck:(Tryz.prog.info? 24).map (fun i=>(i.zero,i.size,i.bytes))=some (some (.slice none 0 0),1,24):=by kernel_rfl
def pksN (d:List (List Int)) (c:Nat) (m:Int) (k:Nat):List (List (List Int)):=(List.range k).map fun (p:Nat)=>d.filter fun x=>pkt m (colI x c) == (p:Int)
theorem pksN_len (d:List (List Int)) (c:Nat) (m:Int) (k:Nat):(pksN d c m k).length=k:=by unfold pksN;simp
theorem pksN_succ (d:List (List Int)) (c:Nat) (m:Int) (k:Nat):pksN d c m (k+1)=pksN d c m k++[d.filter fun x=>pkt m (colI x c) == (k:Int)]:=by
 unfold pksN;rw [List.range_succ,List.map_append];rfl
theorem flt_snoc {α:Type} (P:α->Bool) (l:List α) (x:α):(l++[x]).filter P=if P x then l.filter P++[x] else l.filter P:=by
 rw [List.filter_append];cases h:P x with
 | true=>rw [List.filter_cons_of_pos h];rfl
 | false=>rw [List.filter_cons_of_neg (by simp [h])];simp
def PassOk (d:List (List Int)) (c:Nat):Prop:=∀ x∈d,c<x.length/\0<=colI x c/\colI x c<=4095
theorem sortPass_c {d:List (List Int)} {v:Value} {w:World} {A c:Nat} {m:Int} (hd:RdInt64SS A w v d) (hr:RowsOk d) (hp:PassOk d c) (hm:m=1\/m=2) :
 Calls Tryz.prog 77 #[v,.agg #[.int .i64 c,.int .i64 m]] w fun e w'=>(∃ u,e=.returned u/\SpsF w [.int .i64 c,.int .i64 m] w' u (pksN d c m 13))/\Below w.heap.size w w':=by
 obtain ⟨i0,hi,hz0,hz1,hz2c⟩:=info_parts Tryz.infoCard;obtain ⟨i1,hi1,hy0,hy1,hy2⟩:=info_parts Tryz.infoDeck;obtain ⟨W,hW⟩:∃ W,W=(w.alloc (.cells #[.int .i64 c,.int .i64 m] 80)).alloc (.cells #[] 24):=⟨_,rfl⟩;have z1:(w.alloc (.cells #[.int .i64 c,.int .i64 m] 80)).heap.size=w.heap.size+1:=by simp
 have hb0:Below w.heap.size w W:=by rw [hW];exact ((zB _ _).alloc (zA _) _).alloc (by simp) _
 have hS0:SpsF w [.int .i64 c,.int .i64 m] W (.slice (some ⟨w.heap.size+1,0,none⟩) 0 0) []:=by
  refine SpsF.nil ?_ (by rw [hW];exact (Box.new w [.int .i64 c,.int .i64 m] _).alloc _) hb0;have h:=Own.lit (E:=eS) (e:=24) (base:=w.heap.size+1) (w:=w.alloc (.cells #[.int .i64 c,.int .i64 m] 80)) (xs:=[]) (cs:=#[]) (n:=0) (by rw [z1];omega) rfl rfl (by decide) (fun x hx=>by cases hx);rw [z1,<- hW] at h;exact h
 have Hd:=hid hd.tight;obtain ⟨vo,vc,rfl,ho⟩:=hd.tight.open;have Ho:=hid ho;have HS0:=hid hS0;have HRw:=hid hr.2;have Hp:=hid hp;have HW:=hid hW;have hl:=hr.1;obtain ⟨n,hn⟩:∃ n,n=d.length:=⟨_,rfl⟩;rw [<- hn] at hl |-;have Hn:=hid hn;clear hd ho hS0 hr hp hn hW z1 hb0;go_enter Tryz.func77,Tryz.ntmps77;go_upto_region 2 with fail;rw [<- HW.out];clear HW;go_wp2;go_loopw [5,11] (fun ov pv wo=>∃ (p:Nat) (ao:Option Addr) (oc:Nat),p<=13/\pv=.int .i64 p/\ov=.slice ao p oc/\Hid (SpsF w [.int .i64 c,.int .i64 m] wo (.slice ao p oc) (pksN d c m p))) (fun _ i _=>13 - (intOf i).toNat)
 case atStart=>exact ⟨0,_,_,zK _,by first | rfl | go_num,rfl,hid HS0.out⟩
 case round =>
  rename World=>wo
  obtain ⟨p,ao,oc,hp13,rfl,rfl,HS⟩:=hrel;clear HS0;by_cases hpl:p<13
  . obtain ⟨P,hP⟩:∃ P:List Int->Bool,P=fun x=>pkt m (colI x c) == (p:Int):=⟨_,rfl⟩
    obtain ⟨Wi,hWi⟩:∃ Wi,Wi=wo.alloc (.cells #[] 69):=⟨_,rfl⟩;have hbi:Below wo.heap.size wo Wi:=by rw [hWi];exact (zB _ _).alloc (zA _) _
    have hB0:BldG eI 2 69 wo.heap.size wo.heap.size Wi.heap.size Wi (.slice (some ⟨wo.heap.size,0,none⟩) 0 0) ((d.take 0).filter P):=by
     rw [hWi];exact BldG.empty (B:=wo.heap.size) rfl (Own.lit (E:=eS) (xs:=[]) (cs:=#[]) (zA _) rfl rfl (by decide) (fun x hx=>by cases hx)) (by simp)
    have HB0:=hid hB0;have Hbi:=hid hbi;have HWi:=hid hWi;have HP:=hid hP;have hpi:(p:Int)<13:=by omega
    clear hB0 hbi hWi hP;go_upto_region 6 with fail;rw [<- HWi.out];clear HWi;go_wp2;go_loopw [7,17] (fun ov iv wr=>∃ k:Nat,k<=n/\iv=.int .i64 k/\Hid (BldG eI 2 69 wo.heap.size wo.heap.size wr.heap.size wr ov ((d.take k).filter P))/\Hid (Below wo.heap.size wo wr)) (fun _ i _=>n - (intOf i).toNat)
    case atStart=>exact ⟨0,zK _,rfl,HB0,Hbi⟩
    case round =>
     obtain ⟨k,hk,rfl,HB,Hb⟩:=hrel;clear HB0 Hbi;by_cases hkn:k<n
     . obtain ⟨b,off,rfl,hlt,hc⟩:=Ho.out (by have:=Hn.out;omega)
       obtain ⟨x,ro,rc,hx,hcell,hrd⟩:=hc k (by have:=Hn.out;omega);have hxm:=zC hx;have hxl:=HRw.out x hxm;have hpx:=Hp.out x hxm;have hS:=HS.out.on Hb.out;have hbw:Below w.heap.size w wr:=hS.2.2;have d1:=(hbw.cell (p:=⟨b,off+k,none⟩) hlt.2).trans hcell;obtain ⟨W,hW⟩:∃ W,W=wr.alloc (.cells #[.slice ro x.length rc] 69):=⟨_,rfl⟩;have hbW:Below wr.heap.size wr W:=by rw [hW];exact (zB _ _).alloc (zA _) _
       have hX:Box W wr.heap.size [.slice ro x.length rc]:=by rw [hW];exact Box.new wr [.slice ro x.length rc] _
       have hrW:=Rds.onn (hrd.below hbw (zA _)) hbW;obtain ⟨ro',rc',hsh,hin⟩:=RdI.open hrW;obtain ⟨bb,oo,hro,hlt2,hcc⟩:=hin (by omega);injection hsh with h1 h2 h3;subst h1;subst h3;subst hro;obtain ⟨y,hy,hcol,-,-⟩:=hcc c hpx.1;have hcy:colI x c=y:=by unfold colI;rw [zR,List.getD_eq_getElem?_getD,hy];rfl
       have hpk:=fun w=>pocketOf_c m y hm (by rw [<- hcy];exact hpx.2) w;obtain ⟨q,hq⟩:∃ q,q=pkt m y:=⟨_,rfl⟩;have HPx:Hid (P x=(q == (p:Int))):=hid (by rw [HP.out,hq,<- hcy]);rw [<- hq] at hpk;have Hpk:=hid hpk;have hPb:=hS.2.1.on hbW;have f0:=cell_regrown (hX.cell 0 _ rfl);have f1:=cell_regrown (hPb.cell 0 _ rfl);have f2:=cell_regrown (hPb.cell 1 _ rfl);have f3:=cell_regrown hcol;have hcl:c<x.length:=hpx.1;have hci:(c:Int)<(x.length:Int):=by omega
       have Htk:Hid (d.take (k+1)=d.take k++[x]):=hid (yAD hx);have HS2:=hid (hS.on hbW);have HX:=hid hX;have HbW:=hid hbW;have HrW:=hid hrW;have HW:=hid hW;clear hc hcell hrd hx hW hbW hX hrW hin hcc hcol hy hcy hpk hq hPb hpx hS hbw hxm;go_upto_region 9 with fail;rw [<- HW.out];clear d1 HW;have hkk:(k:Int)<(n:Int):=by omega
       by_cases hqp:q=(p:Int)
       . subst hqp
         refine wp_region_quiet_below (by kernel_rfl) (by kernel_rfl) ?_;repeat ((with_reducible refine wpQuiet_step (fun K hK=>?_));go_simp;first | ((with_reducible refine hK _ ?_);clear hK K) | (apply Exists.intro;refine ⟨fun _=>?_,hK _ ?_⟩;((first | (go_at_call 121;exact qb_same (Hpk.out _))));clear hK K))
         refine wpQuiet_nil ?_;intro _ hw';obtain ⟨⟨dq,osq⟩,hw''⟩:=hw';subst hw'';have hbq:=below_regrown W dq osq;generalize grow (redrawn W dq) osq=wq at hbq |-;have hbW2:Below wr.heap.size wr wq:=HbW.out.trans (hbq.mono HbW.out.size);have c0:=(HX.out.on hbq).cell 0 _ rfl;have HrQ:=hid (Rds.onn HrW.out hbq);have HSq:=hid (HS2.out.on hbq);have HBq:=hid ((HB.out.below hbW2 (zA _)).mono hbW2.size);have Hbw:=hid (Hb.out.trans (hbW2.mono Hb.out.size));obtain ⟨T,hT⟩:∃ T,T=(d.take k).filter P:=⟨_,rfl⟩;have Htk2:Hid ((d.take (k+1)).filter P=T++[x]):=hid (by rw [Htk.out,flt_snoc,HPx.out,if_pos (by simp),hT]);have Hxl:Hid (T.length<=100):=hid (by rw [hT];have h1:=List.length_filter_le P (d.take k);rw [zI] at h1;omega);rw [<- hT] at HBq;obtain ⟨oo',oc',hov⟩:=HBq.out.shape;subst hov;clear hbq hT hbW2 f0 f1 f2 f3 HB HX HbW HrW HS2;go_wp2_with fail;with_reducible refine (newCard_c HrQ.out (by omega)).mono ?_
         rintro e w2 ⟨⟨u,rfl,hu⟩,hb2⟩;have htb:wo.heap.size<=wq.heap.size:=Hbw.out.size;have hz2:wq.heap.size<=w2.heap.size:=hb2.size;have hB2:=HBq.out.below hb2 (zA _);have hb2':=Hbw.out.trans (hb2.mono htb);obtain ⟨hs',xh,hval,hokx,hlen,hO,hfn⟩:=hB2.app hu htb hz2;obtain ⟨rao,rcap,hsh⟩:=hu.shape;subst hsh;have hcells:(#[.slice rao x.length rcap]:Array Value)=(eS.cells xh).toArray:=by rw [show eS.cells xh=[xh.val] from rfl,hval]
         have HO:=hid hO;have Hfn:=hid hfn;have Hlen:=hid hlen;have Hcells:=hid hcells;have Hl0:=hid hO.lt;have Hb2:=hid hb2';have hszr:wo.heap.size<=w2.heap.size:=hb2'.size;clear hu hB2 hval hlen hO hfn hcells hb2' hb2 htb hz2 c0 HrQ HSq HBq Hbw;go_wp2_with (first | (at_builtin;refine yAB (E:=eS) rfl _ _ 24 rfl Tryz.underlying24 hi hz0 hz1 hz2c rfl (by decide) rfl rfl (HO.out.alloc _) (yAH (E:=eS) (x:=xh) hokx Hcells.out) ?b1 ?b2 ?b3 ?_))
         case b1=>rw [Hlen.out];have:=Hxl.out;unfold maxLen;simp;omega
         case b2=>rw [Hlen.out];have:=Hxl.out;simp;omega
         case b3=>simp;omega
         intro v' w6 hO6 hg6;have hg6':=hg6.alloc;have HB6:=hid (Hfn.out w6 v' hO6 hg6');have Hb6:=hid (Hb2.out.grown hg6'.1 hszr (fun q hq=>(Hl0.out q hq).1));clear hO6 hg6 hg6';go_wp2;go_roundw
         case rel=>exact ⟨k+1,by omega,by go_num,by rw [Htk2.out];exact HB6,Hb6⟩
         case measure=>simp [intOf];omega
       . skip
         refine wp_region_quiet_below (by kernel_rfl) (by kernel_rfl) ?_;repeat ((with_reducible refine wpQuiet_step (fun K hK=>?_));go_simp;first | ((with_reducible refine hK _ ?_);clear hK K) | (apply Exists.intro;refine ⟨fun _=>?_,hK _ ?_⟩;((first | (go_at_call 121;exact qb_same (Hpk.out _))));clear hK K))
         refine wpQuiet_nil ?_;intro _ hw';obtain ⟨⟨dq,osq⟩,hw''⟩:=hw';subst hw'';have hbq:=below_regrown W dq osq;generalize grow (redrawn W dq) osq=wq at hbq |-;have hbW2:Below wr.heap.size wr wq:=HbW.out.trans (hbq.mono HbW.out.size);have HBq:=hid ((HB.out.below hbW2 (zA _)).mono hbW2.size);have Hbw:=hid (Hb.out.trans (hbW2.mono Hb.out.size));have Htk2:Hid ((d.take (k+1)).filter P=(d.take k).filter P):=hid (by rw [Htk.out,flt_snoc,HPx.out,if_neg (by simp [hqp])]);clear hbq hbW2 f0 f1 f2 f3 HB HX HbW HrW HS2;go_wp2;go_roundw
         case rel=>exact ⟨k+1,by omega,by go_num,by rw [Htk2.out];exact HBq,Hbw⟩
         case measure=>simp [intOf];omega
     . obtain rfl:k=n:=by omega
       have hM:=HB.out.toM (zA _);rw [zH (by have:=Hn.out;omega)] at hM;obtain ⟨go,gc,hov⟩:=HB.out.shape;rw [zH (by have:=Hn.out;omega)] at hov;subst hov;obtain ⟨hs,hO,hl,hfin⟩:=HS.out.app;rw [pksN_len] at hl;have HO:=hid (hO.below Hb.out (zA _));have Hl:=hid hl;have hfin2:=fun w' u' ho hg=>hfin wr ⟨go,(d.filter P).length,gc⟩ (d.filter P) Hb.out hM w' u' ho hg;have Hfin:=hid hfin2;have Hpk:Hid (pksN d c m p++[d.filter P]=pksN d c m (p+1)):=hid (by rw [pksN_succ,HP.out]);have hszr:w.heap.size<=wr.heap.size:=zO HS.out.2.2.size Hb.out.size;generalize (d.filter P).length=L at Hfin |-;clear hM hO hl hfin hfin2 HB;go_wp2_with (first | (at_builtin;refine yAB (E:=eS) rfl _ _ 131 rfl Tryz.underlying131 hi1 hy0 hy1 hy2 rfl (by decide) rfl rfl (HO.out.alloc _) (yAH (E:=eS) (x:=⟨go,L,gc⟩) trivial rfl) ?b1 ?b2 ?b3 ?_))
       case b1=>rw [Hl.out];unfold maxLen;(try simp) <;> omega
       case b2=>rw [Hl.out];(try simp) <;> omega
       case b3=>(try simp) <;> omega
       intro v6 w6 hO6 hg6;have h6:=Hfin.out w6 v6 hO6 hg6.alloc;rw [Hpk.out] at h6;obtain ⟨ao6,c6,hv6⟩:=hO6.shape;rw [zE,Hl.out] at hv6;subst hv6;have H6:=hid h6;clear h6 hO6 hg6;go_wp2;go_roundw
       case rel=>exact ⟨p+1,ao6,c6,by omega,by go_num,rfl,H6⟩
       case measure=>simp [intOf];omega
  . obtain rfl:p=13:=by omega
    have HF:=hid HS.out.2.2;go_wp2;go_ret;exact ⟨⟨_,rfl,HS.out⟩,HF.out⟩
def gatL (xss:List (List (List Int))) (ps:List Int):List (List Int):=ps.flatMap fun p=>xss.getD p.toNat []
theorem gatL_snoc (xss:List (List (List Int))) (ps:List Int) (p:Int):gatL xss (ps++[p])=gatL xss ps++xss.getD p.toNat []:=by
 unfold gatL;simp
theorem gatL_len {xss:List (List (List Int))} (h:∀ x∈xss,RowsOk x):∀ ps:List Int,(gatL xss ps).length<=100 * ps.length
 | []=>by simp [gatL]
 | p :: ps=>by
  have h1:=gatL_len h ps;have h2:(xss.getD p.toNat []).length<=100:=by
   rw [List.getD_eq_getElem?_getD];cases hx:xss[p.toNat]? with
   | none=>simp
   | some x=>exact (h x (zC hx)).1
  have h3:gatL xss (p :: ps)=xss.getD p.toNat []++gatL xss ps:=by unfold gatL;rw [List.flatMap_cons]
  rw [h3,zE,List.length_cons];omega
theorem ordM_in (m:Int):∀ p∈ordM m,0<=p/\p<13:=by
 by_cases h:m=2
 . rw [h];decide
 . have e:ordM m=ordM 1:=by unfold ordM;rw [if_neg h,if_neg (by decide)]
   rw [e];decide
theorem ordM_len (m:Int):(ordM m).length<=11:=by
 by_cases h:m=2
 . rw [h];decide
 . have e:ordM m=ordM 1:=by unfold ordM;rw [if_neg h,if_neg (by decide)]
   rw [e];decide
theorem gathered_c {xss:List (List (List Int))} {v:Value} {w:World} {A:Nat} {m:Int} (hd:RdDs A w v xss) (h13:xss.length=13) (hr:∀ x∈xss,RowsOk x) :
 Calls Tryz.prog 76 #[v,.int .i64 m] w fun e w'=>(∃ r,e=.returned r/\OwnCardS w.heap.size w' r (gatL xss (ordM m)))/\Below w.heap.size w w':=by
 obtain ⟨i0,hi,hz0,hz1,hz2c⟩:=info_parts Tryz.infoCard;obtain ⟨W,hW⟩:∃ W,W=w.alloc (.cells #[] 69):=⟨_,rfl⟩;have hb0:Below w.heap.size w W:=by rw [hW];exact (zB _ _).alloc (zA _) _
 have hB0:BldG eI 2 69 w.heap.size w.heap.size W.heap.size W (.slice (some ⟨w.heap.size,0,none⟩) 0 0) (gatL xss ((ordM m).take 0)):=by
  rw [hW];exact BldG.empty (B:=w.heap.size) rfl (Own.lit (E:=eS) (xs:=[]) (cs:=#[]) (zA _) rfl rfl (by decide) (fun x hx=>by cases hx)) (by simp)
 obtain ⟨vo,vc,rfl,ho⟩:=RdL.open rowK_D (RdL.tight rowK_D hd);have hgo:=fun w=>gatherOrder_c m w;obtain ⟨L,hL⟩:∃ L,L=ordM m:=⟨_,rfl⟩;have hLin:=ordM_in m;have hLl:=ordM_len m;rw [<- hL] at hgo hB0 hLin hLl |-;have Hgo:=hid hgo;have Ho:=hid ho;have HB0:=hid hB0;have HRw:=hid hr;have Hb0:=hid hb0;have hWz:w.heap.size<W.heap.size:=by rw [hW];simp
 have HW:=hid hW;have H13:=hid h13;rw [h13];clear hd ho hB0 hr hb0 hW h13 hL hgo;go_enter Tryz.func76,Tryz.ntmps76;go_upto_region 2 with fail;rw [<- HW.out];clear HW;go_wp2_with fail;with_reducible refine (Hgo.out W).mono ?_
 rintro e w1 ⟨⟨u,rfl,hu⟩,hb1⟩;have HB1:=hid ((HB0.out.below hb1 (zA _)).mono hb1.size);have Hb1:=hid (Hb0.out.trans (hb1.mono Hb0.out.size));obtain ⟨Ws,hWs⟩:∃ Ws,Ws=W.heap.size:=⟨_,rfl⟩;have hN0:Hid (∀ q,(Value.slice (some ⟨w.heap.size,0,none⟩) 0 0).ownBlock=some q->¬ (Ws<=q/\q<w1.heap.size)):=hid (fun q hq=>by have h9:w.heap.size=q:=zD hq;omega);have hT0:=Own.top hu;rw [<- hWs] at hT0;have HT0:=hid hT0;have HLin:=hid hLin;obtain ⟨uo,uc,hsu⟩:=hu.shape;subst hsu;clear hu hb1 HB0 Hb0 hLin hT0 hWs hWz;go_wp2;go_loopw [5,12] (fun ov iv wr=>∃ k:Nat,k<=L.length/\iv=.int .i64 k/\Hid (BldG eI 2 69 w.heap.size w.heap.size wr.heap.size wr ov (gatL xss (L.take k)))/\Hid (Below w.heap.size w wr)/\Hid (OwnT eI 2 Ws w1.heap.size wr (.slice uo L.length uc) L)/\Hid (∀ q,ov.ownBlock=some q->¬ (Ws<=q/\q<w1.heap.size))/\w1.heap.size<=wr.heap.size) (fun _ i _=>L.length - (intOf i).toNat)
 case atStart=>exact ⟨0,zK _,rfl,HB1,Hb1,HT0,hN0,zA _⟩
 case round =>
  obtain ⟨k,hk,rfl,HB,Hb,HU,HN,hsw⟩:=hrel;by_cases hkl:k<L.length
  . obtain ⟨uo',uc',hsu,hin⟩:=RdI.open HU.out.1.rds
    injection hsu with h1 h2 h3;subst h1;subst h3;obtain ⟨b1,off1,rfl,hlt1,hc1⟩:=hin (by omega);obtain ⟨p,hp,hpc,-,-⟩:=hc1 k hkl;have hpb:=HLin.out p (zC hp);obtain ⟨pn,rfl⟩:=zG hpb.1;obtain ⟨b,off,rfl,hlt,hc⟩:=Ho.out (by rw [H13.out];omega);obtain ⟨x,ro,rc,hx,hcell,hrd⟩:=hc pn (by rw [H13.out];omega);have hbw:=Hb.out;have d1:=hpc;have d2:=(hbw.cell (p:=⟨b,off+pn,none⟩) hlt.2).trans hcell;have HrX:=hid (RdInt64SS.below hrd hbw (zA _));have Hrow:=hid (HRw.out x (zC hx));have Htk:Hid (gatL xss (L.take (k+1))=gatL xss (L.take k)++x):=hid (by rw [yAD hp,gatL_snoc,List.getD_eq_getElem?_getD,zR,hx];rfl);have HTl:Hid ((gatL xss (L.take k)).length<=1100):=hid (by have h1:=gatL_len HRw.out (L.take k);rw [zI] at h1;omega);obtain ⟨T,hT⟩:∃ T,T=gatL xss (L.take k):=⟨_,rfl⟩;rw [<- hT] at HB Htk HTl;obtain ⟨oo,oc,hov⟩:=HB.out.shape;subst hov;have Hbw:=hid hbw;have hp13:(pn:Int)<13:=hpb.2;have hkk:(k:Int)<(L.length:Int):=by omega
    clear hT hbw hpb hp hx hcell hrd hc hpc hc1 hin HB1 HT0 hN0;go_wp2_with fail;with_reducible refine (newDeck_c HrX.out Hrow.out).mono ?_
    rintro e w2 ⟨⟨r,rfl,hr⟩,hb2⟩;have hB2:=HB.out.below hb2 (zA _);obtain ⟨hs',ks,hlen,hO,hkl2,hK,hfn⟩:=hB2.apps hr Hbw.out.size (zA _) hb2.size;obtain ⟨rao,rcap,hsh⟩:=hK.shape;subst hsh;have HO:=hid hO;have HK:=hid hK.rds;have Hfn:=hid hfn;have Hlen:=hid hlen;have Hkl:Hid (ks.length<=100):=hid (by rw [hkl2];exact Hrow.out.1);have Hl0:=hid hO.lt;have HU2:=hid (OwnT.below HU.out hb2 hsw);have hs2:w1.heap.size<=w2.heap.size:=zO hsw hb2.size;have Hb2w:=hid (Hbw.out.trans (hb2.mono Hbw.out.size));clear hr hB2 hlen hO hkl2 hK hfn hb2 d1 d2 HB;go_wp2_with (first | (at_builtin;refine yAB (E:=eS) rfl _ _ 24 rfl Tryz.underlying24 hi hz0 hz1 hz2c rfl (by decide) rfl rfl HO.out HK.out ?b1 ?b2 ?b3 ?_))
    case b1=>rw [Hlen.out];have:=HTl.out;have:=Hkl.out;unfold maxLen;(try simp) <;> omega
    case b2=>rw [Hlen.out];have:=HTl.out;have:=Hkl.out;(try simp) <;> omega
    case b3=>exact Hb2w.out.size
    intro v' w6 hO6 hg6;have HB6:=hid (Hfn.out w6 v' hO6 hg6);have Hb6:=hid (Hb2w.out.grown hg6.1 Hb2w.out.size (fun q hq=>(Hl0.out q hq).1));have hA:=Agr.of_grown (S:=fun k=>(Value.slice oo T.length oc).ownBlock=some k) hg6.1 (fun k hk _=>hk);have HU6:=hid (OwnT.agr (HU2.out) hA (fun k hk he=>HN.out k he ⟨(HU2.out.1.lt k hk).1,HU2.out.2 k hk⟩));have HN6:Hid (∀ q,v'.ownBlock=some q->¬ (Ws<=q/\q<w1.heap.size)):=hid (fun q hq=>by
     rcases hg6.2 with e | ⟨q2,e,h9⟩
     . exact HN.out q (by rw [<- e];exact hq)
     . rw [e] at hq;cases hq;omega)
    have hs6:w1.heap.size<=w6.heap.size:=zO hs2 hg6.1.size;clear hO6 hg6 hA;go_wp2;go_roundw
    case rel=>exact ⟨k+1,by omega,by go_num,by rw [Htk.out];exact HB6,Hb6,HU6,HN6,hs6⟩
    case measure=>simp [intOf];omega
  . obtain rfl:k=L.length:=by omega
    have hM:=HB.out.toM (zA _);rw [zH (zA _)] at hM;have HM:=hid hM;have Hbf:=Hb;clear hM;go_wp2;go_ret;exact ⟨⟨_,rfl,HM.out⟩,Hbf.out⟩
theorem pksN_get (d:List (List Int)) (c:Nat) (m:Int) {k p:Nat} (h:p<k):(pksN d c m k).getD p []=d.filter fun x=>pkt m (colI x c) == (p:Int):=by
 unfold pksN;rw [List.getD_eq_getElem?_getD,List.getElem?_map,List.getElem?_range h];rfl
theorem gat_pass (d:List (List Int)) (c:Nat) (m:Int):gatL (pksN d c m 13) (ordM m)=passD d ⟨c,m⟩:=by
 have h:∀ ps:List Int,(∀ p∈ps,0<=p/\p<13)->gatL (pksN d c m 13) ps=gat ps (fun x=>pkt m (colI x c)) d:=by
  intro ps hps;induction ps with
  | nil=>rfl
  | cons p ps ih =>
   obtain ⟨q,rfl⟩:=zG (hps p (by simp)).1;have h1:=(hps q (by simp)).2;have h2:gatL (pksN d c m 13) ((q:Int) :: ps)=(pksN d c m 13).getD (q:Int).toNat []++gatL (pksN d c m 13) ps:=by unfold gatL;rw [List.flatMap_cons]
   rw [h2,gat_cons,ih (fun p hp=>hps p (List.mem_cons_of_mem _ hp)),zR,pksN_get d c m (by omega)]
 exact h _ (ordM_in m)
theorem pass_mem {d:List (List Int)} {p:PsT} {x:List Int} (h:x∈passD d p):x∈d:=(gat_mem h).1
def PsOk (d:List (List Int)) (ps:List PsT):Prop:=∀ p∈ps,∃ c:Nat,p.pc=(c:Int)/\PassOk d c/\(p.pm=1\/p.pm=2)
theorem run_snoc (d:List (List Int)) (ps:List PsT) (p:PsT):runPD d (ps++[p])=passD (runPD d ps) p:=by
 unfold runPD;rw [List.foldl_append];rfl
theorem run_mem {d:List (List Int)} {x:List Int}:∀ {ps:List PsT},x∈runPD d ps->x∈d:=by
 intro ps;induction ps generalizing d with
 | nil=>exact fun h=>h
 | cons p ps ih=>exact fun h=>pass_mem (ih (d:=passD d p) h)
theorem filter_len_le {α:Type} (P:α->Bool) (l:List α):(l.filter P).length<=l.length:=List.length_filter_le P l
theorem gat_len_le {α:Type} (g:α->Int):∀ (ps:List Int) (l:List α),ps.Nodup->(gat ps g l).length<=l.length
 | [],l,_=>zK _
 | p :: ps,l,hn=>by
  have hn2:=List.nodup_cons.1 hn;rw [gat_cons,gat_skip hn2.1,zE];have h1:=gat_len_le g ps (l.filter fun a=>!(g a == p)) hn2.2;have h2:=(split_perm (fun a=>g a == p) l).length_eq;rw [zE] at h2;omega
theorem pass_len (d:List (List Int)) {p:PsT} (hm:p.pm=1\/p.pm=2):(passD d p).length<=d.length:=by
 unfold passD;refine gat_len_le _ _ _ ?_;rcases hm with e | e
 . rw [e];exact ordM_nd.1
 . rw [e];exact ordM_nd.2
theorem run_len {d:List (List Int)}:∀ {ps:List PsT},(∀ p∈ps,p.pm=1\/p.pm=2)->(runPD d ps).length<=d.length:=by
 intro ps;induction ps generalizing d with
 | nil=>exact fun _=>zA _
 | cons p ps ih=>exact fun h=>zO (ih (d:=passD d p) (fun q hq=>h q (List.mem_cons_of_mem _ hq))) (pass_len d (h p (by simp)))
theorem PsOk.take {d:List (List Int)} {ps:List PsT} (h:PsOk d ps) (k:Nat):PsOk d (ps.take k):=fun p hp=>h p (List.mem_of_mem_take hp)
theorem PsOk.md {d:List (List Int)} {ps:List PsT} (h:PsOk d ps):∀ p∈ps,p.pm=1\/p.pm=2:=fun p hp=>by obtain ⟨c,-,-,h3⟩:=h p hp;exact h3
theorem RowsOk.run {d:List (List Int)} {ps:List PsT} (h:RowsOk d) (hp:PsOk d ps):RowsOk (runPD d ps):=⟨zO (run_len hp.md) h.1,fun x hx=>h.2 x (run_mem hx)⟩
theorem PassOk.run {d:List (List Int)} {c:Nat} {ps:List PsT} (h:PassOk d c):PassOk (runPD d ps) c:=fun x hx=>h x (run_mem hx)
theorem pks_rows {d:List (List Int)} (h:RowsOk d) (c:Nat) (m:Int) (k:Nat):∀ x∈pksN d c m k,RowsOk x:=fun x hx=>by
 unfold pksN at hx;obtain ⟨p,-,rfl⟩:=List.mem_map.1 hx;exact ⟨zO (filter_len_le _ _) h.1,fun y hy=>h.2 y (List.mem_filter.1 hy).1⟩
theorem pass_gat (d:List (List Int)) (c:Nat) {m p:Int} (hp:p=(c:Int)):gatL (pksN d c m 13) (ordM m)=passD d ⟨p,m⟩:=by rw [hp];exact gat_pass d c m
theorem runPasses_c {d:List (List Int)} {ps:List PsT} {v u:Value} {w:World} {A B:Nat} (hd:RdInt64SS A w v d) (hr:RowsOk d) (hp:PsOk d ps) (hu:RdPsS B w u ps) :
 Calls Tryz.prog 36 #[v,u] w fun e w'=>(∃ r,e=.returned r/\OwnCardS w.heap.size w' r (runPD d ps))/\Below w.heap.size w w':=by
 have Hnew:=hid (newDeck_c hd hr);have hn9:=hu.le;obtain ⟨uo,uc,rfl,ho⟩:=ePs_open hu.tight;have Ho:=hid ho;have Hr:=hid hr;have Hp:=hid hp;obtain ⟨n,hn⟩:∃ n,n=ps.length:=⟨_,rfl⟩;rw [<- hn] at hn9 |-;have Hn:=hid hn;obtain ⟨vo,vc,rfl⟩:=hd.shape;clear hd hr hp hu ho hn;generalize d.length=dl at *
 go_enter Tryz.func36,Tryz.ntmps36;go_wp2_with fail;with_reducible refine Hnew.out.mono ?_
 rintro e w1 ⟨⟨r1,rfl,hr1⟩,hb1⟩;have HR1:=hid hr1;have HB1:=hid hb1;clear hr1 hb1;go_wp2;go_loopw [5,12] (fun ov iv wr=>∃ k:Nat,k<=n/\iv=.int .i64 k/\Hid (OwnCardS w.heap.size wr ov (runPD d (ps.take k)))/\Hid (Below w.heap.size w wr)) (fun _ i _=>n - (intOf i).toNat)
 case atStart=>exact ⟨0,zK _,rfl,HR1,HB1⟩
 case round =>
  obtain ⟨k,hk,rfl,HR,HB⟩:=hrel;clear HR1 HB1;by_cases hkn:k<n
  . obtain ⟨b,off,rfl,hlt,hc⟩:=Ho.out (by have:=Hn.out;omega)
    obtain ⟨p,hpx,⟨hc0,hc1⟩,-⟩:=hc k (by have:=Hn.out;omega);have hbw:=HB.out;have d0:=(hbw.cell (p:=⟨b,off+k * 2,none⟩) hlt.2).trans hc0;have d1:=(hbw.cell (p:=⟨b,off+k * 2+1,none⟩) hlt.2).trans hc1;obtain ⟨c,hcc,hpo,hpm⟩:=Hp.out p (zC hpx);obtain ⟨D,hD⟩:∃ D,D=runPD d (ps.take k):=⟨_,rfl⟩;have Htk:Hid (runPD d (ps.take (k+1))=passD D p):=hid (by rw [yAD hpx,run_snoc,hD]);have HrD:Hid (RowsOk D):=hid (by rw [hD];exact Hr.out.run (Hp.out.take k));have HpD:Hid (PassOk D c):=hid (by rw [hD];exact hpo.run);rw [<- hD] at HR;obtain ⟨pc,pm⟩:=p;simp only at hcc hpm d0 d1;subst hcc;obtain ⟨ao,ac,hov⟩:=(OwnCardS.rds HR.out).shape;subst hov;obtain ⟨W,hW⟩:∃ W,W=wr.alloc (.cells #[.int .i64 c,.int .i64 pm] 80):=⟨_,rfl⟩;have hbW:Below wr.heap.size wr W:=by rw [hW];exact (zB _ _).alloc (zA _) _
    have hX:Box W wr.heap.size [.int .i64 c,.int .i64 pm]:=by rw [hW];exact Box.new wr [.int .i64 c,.int .i64 pm] _
    have hRW:=RdInt64SS.onn (OwnCardS.rds HR.out) hbW;have HX:=hid hX.drew1;have HBW:=hid (hbw.trans (hbW.mono hbw.size));have HW:=hid hW;have x1:=hX.cell 1 _ rfl;have hRD:RdInt64SS W.drew.heap.size W.drew (.slice ao D.length ac) D:=RdInt64SS.onn hRW (Below.drew1 (zB _ _));have HRD:=hid hRD;have Hpm:=hid hpm;have Hd0:=hid d0;clear hD hpx hc hc0 hc1 hpo hbw hbW hX hRW hRD hW hpm;go_upto_region 5 with fail;rw [<- HW.out];clear HW d0 d1;have hTd:Below W.heap.size W W.drew:=(zB _ _).drew1;have HTd:=hid hTd;have x0:=HX.out.cell 0 _ rfl;have x1':=HX.out.cell 1 _ rfl;clear hTd;go_region_law (first
     | (go_simp;go_at_call 77;(with_reducible refine (sortPass_c HRD.out HrD.out HpD.out Hpm.out).mono ?_);rintro e w8 ⟨⟨u8,rfl,hu8⟩,hb8⟩;have x8:=(HX.out.on hb8).cell 1 _ rfl;have Hu8:=hid hu8.rd;have Hb8:=hid (HBW.out.trans ((HTd.out.trans hb8).mono HBW.out.size));clear hu8 hb8)
     | (go_simp;go_at_call 76;(with_reducible refine (gathered_c Hu8.out (pksN_len _ _ _ _) (pks_rows HrD.out c pm 13)).mono ?_);rintro e w9 ⟨⟨r9,rfl,hr9⟩,hb9⟩;have Hr9:=hid (OwD.mono hr9 Hb8.out.size);have Hb9:=hid (Hb8.out.trans (hb9.mono Hb8.out.size));clear hr9 hb9))
    all_goals
     rw [pass_gat D c rfl,<- Htk.out] at Hr9;clear x0 x1 x1' x8 HB HRD HX;go_wp2;go_roundw
     case rel=>exact ⟨k+1,by omega,by go_num,Hr9,Hb9⟩
     case measure=>simp [intOf];omega
  . obtain rfl:k=n:=by omega
    have hF:=HR.out;rw [zH (by have:=Hn.out;omega)] at hF;have HF:=hid hF;clear hF;go_wp2;go_ret;exact ⟨⟨_,rfl,HF.out⟩,HB.out⟩
theorem RunPasses_c {d:List (List Int)} {ps:List PsT} {v u:Value} {w:World} {A B:Nat} (hd:RdInt64SS A w v d) (hr:RowsOk d) (hD:deckB d=true) (hp:PsOk d ps) (hu:RdPsS B w u ps) (h40:ps.length<=40) (hc:∀ p∈ps,badP (colsD d) p=false) (hC:C9p (colsD d)) :
 Calls Tryz.prog 10 #[v,u] w fun e w'=>(∃ r,e=.returned (.tuple #[r,.int .i64 0])/\OwnCardS w.heap.size w' r (runPD d ps))/\Below w.heap.size w w':=by
 have hv:=ValidDeck_c hd;rw [hD] at hv;have Hv:=hid hv;have Hd:=hid hd;have Hu:=hid hu;have Hr:=hid hr;have HD:=hid hD;have Hp:=hid hp;have Hc:=hid hc;have HC:=hid hC;obtain ⟨uo,uc,rfl⟩:=hu.shape;obtain ⟨vo,vc,rfl⟩:=hd.shape;clear hv hd hu hr hD hp hc hC;obtain ⟨dl,hdl⟩:∃ dl,dl=d.length:=⟨_,rfl⟩;obtain ⟨pl,hpl⟩:∃ pl,pl=ps.length:=⟨_,rfl⟩;rw [<- hdl] at Hv Hd |-;rw [<- hpl] at Hu |-;have H40:Hid (ps.length<=40):=hid h40;clear h40 hdl hpl;go_enter Tryz.func10,Tryz.ntmps10;go_wp2_with fail;with_reducible refine Hv.out.mono ?_
 rintro e w1 ⟨rfl,hb1⟩;have Hd1:=hid (RdInt64SS.onn Hd.out hb1);have Hu1:=hid (Rds.onn Hu.out hb1);have Hb1:=hid hb1;clear hb1;go_wp2_with fail;with_reducible refine (yBE Hd1.out HD.out).mono ?_
 rintro e w2 ⟨rfl,hb2⟩;have Hu2:=hid (Rds.onn Hu1.out hb2);have Hd2:=hid (RdInt64SS.onn Hd1.out hb2);have Hb2:=hid (Hb1.out.trans (hb2.mono Hb1.out.size));clear hb2;go_wp2_with fail;with_reducible refine (arePasses_c _ HC.out Hu2.out H40.out Hc.out).mono ?_
 rintro e w3 ⟨rfl,hb3⟩;have Hu3:=hid (Rds.onn Hu2.out hb3);have Hd3:=hid (RdInt64SS.onn Hd2.out hb3);have Hb3:=hid (Hb2.out.trans (hb3.mono Hb2.out.size));clear hb3;go_wp2_with fail;with_reducible refine (runPasses_c Hd3.out Hr.out Hp.out Hu3.out).mono ?_
 rintro e w4 ⟨⟨r,rfl,hr4⟩,hb4⟩;have HR:=hid (OwD.mono hr4 Hb3.out.size);have Hb4:=hid (Hb3.out.trans (hb4.mono Hb3.out.size));obtain ⟨ro,rc,hsr⟩:=(OwnCardS.rds hr4).shape;subst hsr;clear hr4 hb4;go_wp2;go_ret2;exact ⟨⟨_,rfl,HR.out⟩,Hb4.out⟩
theorem Apart.symm {v v':Value} (h:Apart v v'):Apart v' v:=fun g h1 h2=>h g h2 h1
theorem Apart.grew {w w':World} {v v' u:Value} (h:Apart v u) (hg:Grew w w' v v') (hu:∀ k,u.ownBlock=some k->k<w.heap.size):Apart v' u:=by
 intro g h1 h2;rcases hg.2 with h3 | ⟨k,h3,h4⟩
 . exact h g (by rw [<- h3];exact h1) h2
 . have:=hu g h2
   rw [h1] at h3;injection h3 with h3;omega
def tstS (s:Int) (i:Nat):Bool:=bits BinOp.and IntKind.i64 (s / 2 ^ i) 1 == 1
def selS (s:Int) (k:Nat):List Nat:=(List.range k).filter (tstS s)
def idxS (l:List Nat):List Int:=l.map fun (i:Nat)=>(i:Int)
def pasS (ps:List PsT) (l:List Nat):List PsT:=l.map fun i=>ps.getD i ⟨0,1⟩
theorem selS_yes {s:Int} {k:Nat} (h:tstS s k=true):selS s (k+1)=selS s k++[k]:=by
 unfold selS;rw [List.range_succ,List.filter_append,List.filter_cons_of_pos (by simpa using h)];rfl
theorem selS_no {s:Int} {k:Nat} (h:tstS s k=false):selS s (k+1)=selS s k:=by
 unfold selS;rw [List.range_succ,List.filter_append,List.filter_cons_of_neg (by simp [h])];simp
theorem selS_len (s:Int) (k:Nat):(selS s k).length<=k:=by
 unfold selS;have:=List.length_filter_le (tstS s) (List.range k);rw [List.length_range] at this;exact this
theorem selS_lt {s:Int} {k i:Nat} (h:i∈selS s k):i<k:=by
 unfold selS at h;exact List.mem_range.1 (List.mem_filter.1 h).1
theorem tst_full:∀ n:Fin 5,∀ i:Fin 8,i.val<2 * n.val->tstS (2 ^ (2 * n.val) - 1) i.val=true:=by decide +kernel
theorem selS_full {n:Nat} (hn:n<=4):selS (2 ^ (2 * n) - 1) (2 * n)=List.range (2 * n):=by
 unfold selS;refine List.filter_eq_self.2 fun i hi=>?_;have h:=List.mem_range.1 hi;exact tst_full ⟨n,by omega⟩ ⟨i,by omega⟩ h
theorem pasS_all (ps:List PsT):pasS ps (List.range ps.length)=ps:=by
 unfold pasS;refine List.ext_getElem? fun i=>?_;rw [List.getElem?_map];by_cases h:i<ps.length
 . rw [List.getElem?_range h]
   simp [zF h,List.getD_eq_getElem?_getD]
 . rw [List.getElem?_eq_none (by simpa using h),List.getElem?_eq_none (by omega)];rfl
theorem idxS_len (l:List Nat):(idxS l).length=l.length:=by unfold idxS;simp
theorem pasS_len (ps:List PsT) (l:List Nat):(pasS ps l).length=l.length:=by unfold pasS;simp
theorem pasS_mem {ps:List PsT} {l:List Nat} (h:∀ i∈l,i<ps.length):∀ p∈pasS ps l,p∈ps:=fun p hp=>by
 unfold pasS at hp;obtain ⟨i,hi,rfl⟩:=List.mem_map.1 hp;rw [List.getD_eq_getElem?_getD,zF (h i hi)];exact List.getElem_mem _
theorem pasS_snoc {ps:List PsT} {l:List Nat} {i:Nat} {p:PsT} (h:ps[i]?=some p):pasS ps (l++[i])=pasS ps l++[p]:=by
 unfold pasS;rw [List.map_append];simp [List.getD_eq_getElem?_getD,h]
theorem idxS_snoc (l:List Nat) (i:Nat):idxS (l++[i])=idxS l++[(i:Int)]:=by unfold idxS;rw [List.map_append];rfl
theorem two_pow_le {n:Nat} (hn:n<=4):(2:Int) ^ (2 * n)<=256/\1<=(2:Int) ^ (2 * n):=by
 obtain rfl | rfl | rfl | rfl | rfl:n=0\/n=1\/n=2\/n=3\/n=4:=by omega
 all_goals decide
def BstP (d:List (List Int)) (ps:List PsT) (Z:List (List Int)) (fd:Bool) (bs:List Nat):Prop :=
 fd=true->(∀ i∈bs,i<ps.length)/\bs.length<=ps.length/\runPD d (pasS ps bs)=Z
theorem chD_of {d:List (List Int)} {f t:Int} (h:sortC d f t=0):ChD d f t:=by
 obtain ⟨h1,h2,h3⟩:=yBI h;refine fun c hc=>⟨(yAR h1 h2).2 c hc,?_⟩;unfold hasD at h3;have h4:d.any (notF f t)=false:=by simpa using h3
 have h5:=List.any_eq_false.1 h4 c hc;unfold notF at h5;simpa using h5
theorem card_col {c:List Int} (h:cardB c=true):∀ x∈c,0<=x/\x<=4095:=fun x hx=>by
 unfold cardB at h;rw [Bool.and_eq_true] at h;have h1:c.any badHole=false:=by simpa using h.2
 have h2:=List.any_eq_false.1 h1 x hx;unfold badHole at h2;simpa using h2
theorem passOk_of {d:List (List Int)} {f t:Int} (h:deckB d=true) (hf:fieldP f t (colsD d)) {c:Nat} (hc:(c:Int)<t):PassOk d c:=fun x hx=>by
 have h1:=(yAR h hf).2 x hx;have h2:c<x.length:=by omega
 refine ⟨h2,?_⟩;unfold colI;rw [zR,List.getD_eq_getElem?_getD,zF h2];exact card_col ((yAE h).2 x hx).1 _ (List.getElem_mem _)
theorem fullQ_mem {f:Int}:∀ {n:Nat} {p:PsT},p∈fullQ f n->∃ k:Nat,k<n/\p.pc=f+k/\(p.pm=1\/p.pm=2)
 | 0,p,h=>by cases h
 | n+1,p,h=>by
  have h1:p∈(⟨f+n,1⟩ :: ⟨f+n,2⟩ :: fullQ f n:List PsT):=h;simp only [List.mem_cons] at h1;rcases h1 with rfl | rfl | h1
  . exact ⟨n,by omega,rfl,.inl rfl⟩
  . exact ⟨n,by omega,rfl,.inr rfl⟩
  . obtain ⟨k,h2,h3⟩:=fullQ_mem h1
    exact ⟨k,by omega,h3⟩
theorem psOk_full {d:List (List Int)} {f:Int} {n:Nat} (h:sortC d f (f+n)=0):PsOk d (fullQ f n):=fun p hp=>by
 obtain ⟨h1,h2,h3⟩:=yBI h;obtain ⟨k,h4,h5,h6⟩:=fullQ_mem hp;have h7:=h2.1;refine ⟨(f+k).toNat,by omega,passOk_of h1 h2 (by omega),h6⟩
theorem PsOk.sub {d:List (List Int)} {ps qs:List PsT} (h:PsOk d ps) (hq:∀ p∈qs,p∈ps):PsOk d qs:=fun p hp=>h p (hq p hp)
theorem full_bad {d:List (List Int)} {f:Int} {n:Nat} (h:sortC d f (f+n)=0):∀ p∈fullQ f n,badP (colsD d) p=false:=fun p hp=>by
 obtain ⟨h1,h2,h3⟩:=yBI h;obtain ⟨k,h4,h5,h6⟩:=fullQ_mem hp;have h7:=h2.1;have h8:=h2.2.2;unfold badP;rw [decide_eq_true (show 0<=p.pc/\p.pc<=colsD d - 1 by omega),decide_eq_true h6];rfl
theorem full_okPs {f:Int} {n:Nat} (hf:0<=f/\f+n<=20):∀ p∈fullQ f n,okPs p:=fun p hp=>by
 obtain ⟨k,h4,h5,h6⟩:=fullQ_mem hp;unfold okPs I64;omega
theorem onesCount_any (x:Int) (hx:0<=x/\x<=100000) (w:World):Calls Tryz.prog 33 #[.int .u64 x] w fun e w'=>(∃ r:Int,e=.returned (.int .i64 r))/\w'=w:=by
 have h64:∀ (x:Int) (w:World),0<=x/\x<=100000->Calls Tryz.prog 71 #[.int .u64 x] w fun e w'=>(∃ r:Int,e=.returned (.int .i64 r))/\w'=w:=by
  intro x w hx;go_enter Tryz.func71,Tryz.ntmps71;go_wp2;go_ret;exact ⟨⟨_,rfl⟩,rfl⟩
 have H64:=hid h64;have Hx:=hid hx;clear h64;go_enter Tryz.func33,Tryz.ntmps33;go_wp2_with fail;with_reducible refine (H64.out _ _ Hx.out).mono ?_
 rintro e w1 ⟨⟨r,rfl⟩,rfl⟩;go_wp2;go_ret;exact ⟨⟨_,rfl⟩,rfl⟩
theorem compare_any {xs ys:List Int} {u v:Value} {w:World} {A B:Nat} (ha:RdI A w u xs) (hb:RdI B w v ys) :
 Calls Tryz.prog 34 #[u,v] w fun e w'=>(∃ r:Int,e=.returned (.int .i64 r))/\w'=w:=by
 have hle:=ha.le;have hlb:=hb.le;obtain ⟨ao,ac,rfl,ho⟩:=ha.open;obtain ⟨bo,bc,rfl,hob⟩:=hb.open;obtain ⟨n,hn⟩:∃ n,n=xs.length:=⟨_,rfl⟩;obtain ⟨m,hm⟩:∃ m,m=ys.length:=⟨_,rfl⟩;rw [<- hn,<- hm];have Hn:=hid hn;have Hm:=hid hm;have Ho:=hid ho;have Hob:=hid hob;have hle':n<=9223372036854775807:=by omega
 have hlb':m<=9223372036854775807:=by omega
 have hc:=fun (x y:Int) (w:World)=>Tryz.cmp_Compare_int x y w;have Hc:=hid hc;clear ho hob hn hm ha hb hle hlb hc;go_enter Tryz.func34,Tryz.ntmps34;go_wp2;go_loopw [11] (fun i wr=>∃ k:Nat,k<=n/\i=.int .i64 k/\wr=w) (fun i _=>n - (intOf i).toNat)
 case atStart=>exact ⟨0,zK _,rfl,rfl⟩
 case round =>
  obtain ⟨k,hk,rfl,rfl⟩:=hrel;by_cases hkn:k<n
  . obtain ⟨b,off,rfl,hlt,hc⟩:=Ho.out (by have:=Hn.out;omega)
    obtain ⟨x,hx,hcx,bx⟩:=hc k (by have:=Hn.out;omega);clear hc hx;by_cases hkm:m<=k
    . have hm2:(m:Int)<=(k:Int):=by omega
      go_wp2;go_ret;exact ⟨⟨_,rfl⟩,rfl⟩
    . obtain ⟨b2,off2,rfl,hlt2,hc2⟩:=Hob.out (by have:=Hm.out;omega)
      obtain ⟨y,hy,hcy,by2⟩:=hc2 k (by have:=Hm.out;omega);clear hc2 hy;have hm2:(k:Int)<(m:Int):=by omega
      go_wp2_with fail;with_reducible refine (Hc.out x y _).mono ?_
      rintro e w1 ⟨rfl,rfl⟩;generalize Lib.compareInt x y=q;by_cases hq:q=0
      . subst hq
        go_wp2;go_roundw
        case rel=>exact ⟨k+1,by omega,by go_num,by trivial⟩
        case measure=>simp [intOf];omega
      . go_wp2
        go_ret;exact ⟨⟨_,rfl⟩,rfl⟩
  . by_cases hnm:n<m
    . have h9:(n:Int)<(m:Int):=by omega
      go_wp2;go_ret;exact ⟨⟨_,rfl⟩,rfl⟩
    . have h9:¬ (n:Int)<(m:Int):=by omega
      go_wp2;go_ret;exact ⟨⟨_,rfl⟩,rfl⟩
theorem equalCards_c {xs ys:List (List Int)} {u v:Value} {w:World} {A B:Nat} (ha:RdInt64SS A w u xs) (hb:RdInt64SS B w v ys) :
 Calls Tryz.prog 73 #[u,v,.func (.func 74) #[] #[]] w fun e w'=>e=.returned (.bool (decide (xs=ys)))/\Below w.heap.size w w':=by
 have hle:=ha.le;have hlb:=hb.le;obtain ⟨ao,ac,rfl,ho⟩:=ha.open;obtain ⟨bo,bc,rfl,hob⟩:=hb.open;obtain ⟨R,hR⟩:∃ R,R=decide (xs=ys):=⟨_,rfl⟩;rw [<- hR];have HR:=hid hR;obtain ⟨n,hn⟩:∃ n,n=xs.length:=⟨_,rfl⟩;obtain ⟨m,hm⟩:∃ m,m=ys.length:=⟨_,rfl⟩;rw [<- hn] at ho hle |-;rw [<- hm] at hob hlb |-;have Ho:=hid ho;have Hob:=hid hob;have Hn:=hid hn;have Hm:=hid hm;clear ho hob ha hb hn hm hR;by_cases hnm:n=m
 case neg =>
  have HF:Hid (R=false):=hid (by rw [HR.out];exact decide_eq_false fun e=>hnm (by rw [Hn.out,Hm.out,e]));have h9:¬ (n:Int)=(m:Int):=by omega
  go_enter Tryz.func73,Tryz.ntmps73;go_wp2;go_ret;exact ⟨yAC HF.out.symm,zB _ _⟩
 subst hnm;go_enter Tryz.func73,Tryz.ntmps73;go_wp2;go_loopw [17] (fun i wr=>∃ k:Nat,k<=n/\i=.int .i64 k/\Hid (xs.take k=ys.take k)/\Below w.heap.size w wr) (fun i _=>n - (intOf i).toNat)
 case atStart=>exact ⟨0,zK _,rfl,hid rfl,zB _ _⟩
 case round =>
  obtain ⟨k,hk,rfl,Hk,hb⟩:=hrel;by_cases hkn:k<n
  . obtain ⟨b,off,rfl,hlt,hc⟩:=Ho.out (by omega)
    obtain ⟨x,ro,rc,hx,c0,hrd⟩:=hc k hkn;obtain ⟨b2,off2,rfl,hlt2,hc2⟩:=Hob.out (by omega);obtain ⟨y,qo,qc,hy,c1,hrd2⟩:=hc2 k hkn;have d0:=(hb.cell (p:=⟨b,off+k,none⟩) hlt.2).trans c0;have d1:=(hb.cell (p:=⟨b2,off2+k,none⟩) hlt2.2).trans c1;have hl1:b<wr.heap.size:=zM hlt.2 hb.size;have hl2:b2<wr.heap.size:=zM hlt2.2 hb.size;obtain ⟨W,hW⟩:∃ W,W=(wr.alloc (.cells #[.slice ro x.length rc] 69)).alloc (.cells #[.slice qo y.length qc] 69):=⟨_,rfl⟩;have hbW:Below w.heap.size w W:=by rw [hW];exact (hb.alloc hb.size _).alloc (by have:=hb.size;simp;omega) _
    have hcon:=SameCard_c (w:=W) (Rds.onn hrd hbW) (Rds.onn hrd2 hbW);obtain ⟨Q,hQ⟩:∃ Q,Q=decide (x=y):=⟨_,rfl⟩;rw [<- hQ] at hcon;have HQ:=hid hQ;have Hcon:=hid hcon;have z1:(wr.alloc (.cells #[.slice ro x.length rc] 69)).heap.size=wr.heap.size+1:=by simp
    have hX:Box W wr.heap.size [.slice ro x.length rc]:=by rw [hW];exact (Box.new wr [.slice ro x.length rc] _).alloc _
    have hY:Box W (wr.heap.size+1) [.slice qo y.length qc]:=by rw [hW,<- z1];exact Box.new _ [.slice qo y.length qc] _
    have f0:=hX.cell 0 _ rfl;have f1:=hY.cell 0 _ rfl;have HbW:=hid hbW;have HW:=hid hW;have Hx:=hid hx;have Hy:=hid hy;have hkni:(k:Int)<(n:Int):=by omega
    clear hc hc2 hx hy hrd hrd2 hcon c0 c1 hb hbW hW hQ hlt hlt2 hX hY z1;go_upto_region 7 with fail;rw [<- HW.out];clear HW d0 d1;go_wp2_with fail;with_reducible refine Hcon.out.mono ?_
    rintro e w2 ⟨rfl,hb2⟩;have Hb2:=hid (HbW.out.trans (hb2.mono HbW.out.size));clear hb2 f0 f1;cases Q with
    | true =>
     have Hk2:Hid (xs.take (k+1)=ys.take (k+1)):=hid (by
      have e9:x=y:=of_decide_eq_true HQ.out.symm;rw [yAD Hx.out,yAD Hy.out,Hk.out,e9])
     go_wp2;go_roundw
     case rel=>exact ⟨k+1,by omega,by go_num,Hk2,Hb2.out⟩
     case measure=>simp [intOf];omega
    | false =>
     have HF:Hid (R=false):=hid (by
      rw [HR.out];refine decide_eq_false fun e=>?_;have h1:=Hx.out;rw [e,Hy.out] at h1;exact of_decide_eq_false HQ.out.symm (zD h1).symm)
     go_wp2;go_ret;exact ⟨yAC HF.out.symm,Hb2.out⟩
  . obtain rfl:k=n:=by omega
    have HT:Hid (R=true):=hid (by
     rw [HR.out];have h1:=Hk.out;rw [zH (by have:=Hn.out;omega),zH (by have:=Hm.out;omega)] at h1;exact decide_eq_true h1)
    go_wp2;go_ret;exact ⟨yAC HT.out.symm,hb⟩
theorem SameDeck_c {xs ys:List (List Int)} {u v:Value} {w:World} {A B:Nat} (ha:RdInt64SS A w u xs) (hb:RdInt64SS B w v ys) :
 Calls Tryz.prog 35 #[u,v] w fun e w'=>e=.returned (.bool (decide (xs=ys)))/\Below w.heap.size w w':=by
 have Hcon:=hid (equalCards_c ha hb);obtain ⟨ao,ac,rfl,-⟩:=ha.open;obtain ⟨bo,bc,rfl,-⟩:=hb.open;generalize xs.length=n at *
 generalize ys.length=m at *
 clear ha hb;go_enter Tryz.func35,Tryz.ntmps35;go_wp2_with fail;with_reducible refine Hcon.out.mono ?_
 rintro e w1 ⟨rfl,hb1⟩;go_wp2;go_ret;exact ⟨rfl,hb1⟩
theorem Tryz.infoInt:(Tryz.prog.info? 3).map (fun i=>(i.zero,i.size,i.bytes))=some (some (.int .i64 0),1,8):=by kernel_rfl
abbrev OwnI0 (base:Nat) (w:World) (v:Value) (x:List Int):Prop:=Own eI 3 base w v x
theorem FewestPasses_c {d:List (List Int)} {v:Value} {w:World} {A n:Nat} {f:Int} (hd:RdInt64SS A w v d) (hs:sortC d f (f+n)=0) (hn:1<=n/\n<=4) :
 Calls Tryz.prog 9 #[v,.agg #[.int .i64 f,.int .i64 (f+n)]] w fun e w'=>(∃ u ps,e=.returned (.tuple #[u,.int .i64 0])/\OwnPsS w.heap.size w' u ps/\ps.length<=2 * n/\(∀ p∈ps,p∈fullQ f n)/\runPD d ps=pickD d (ordD d f (f+n)))/\Below w.heap.size w w':=by
 obtain ⟨i0,hi,hz0,hz1,hz2⟩:=info_parts Tryz.infoPs;obtain ⟨i1,hi1,hy0,hy1,hy2⟩:=info_parts Tryz.infoInt;obtain ⟨hD,hF,hH⟩:=yBI hs;have hcb:=colsD_bd hD;have hf1:0<=f/\f+n<=20:=⟨hF.1,by have:=hF.2.2;omega⟩;obtain ⟨Q,hQ⟩:∃ Q,Q=fullQ f n:=⟨_,rfl⟩;obtain ⟨Z,hZ⟩:∃ Z,Z=pickD d (ordD d f (f+n)):=⟨_,rfl⟩;have hQl:Q.length=2 * n:=by rw [hQ,fullQ_len]
 have HQZ:Hid (runPD d Q=Z):=hid (by rw [hQ,hZ];exact full_plan (chD_of hs) hf1.1);have HQo:Hid (∀ p∈Q,okPs p):=hid (by rw [hQ];exact full_okPs hf1);have HPk:Hid (PsOk d Q):=hid (by rw [hQ];exact psOk_full hs);have hfp:=fun w=>fullPlan_c (f:=f) (N:=n) w hf1;rw [<- hQ] at hfp |-;rw [<- hZ];obtain ⟨t,ht⟩:∃ t,t=f+(n:Int):=⟨_,rfl⟩;rw [<- ht] at hs hF hH hfp |-;rw [<- ht] at hZ;have ht4:t - f<=4:=by omega
 have ht5:f<t/\t<=20/\0<=f:=by omega
 obtain ⟨T,hT⟩:∃ T,T=w.alloc (.cells #[.int .i64 f,.int .i64 t] 27):=⟨_,rfl⟩;have hbT:Below w.heap.size w T:=by rw [hT];exact (zB _ _).alloc (zA _) _
 obtain ⟨X,hX⟩:∃ X,X=w.heap.size:=⟨_,rfl⟩;have hBT:Box T X [.int .i64 f,.int .i64 t]:=by rw [hT,hX];exact Box.new w [.int .i64 f,.int .i64 t] _
 have hdT:=RdInt64SS.onn hd hbT;have hsc:=sortCode_c (f:=f) (t:=t) hdT;rw [hs] at hsc;have Hsc:=hid hsc;have hsb:∀ w',Below T.heap.size T w'->Calls Tryz.prog 32 #[v,.agg #[.int .i64 f,.int .i64 t]] w' fun e w''=>(∃ r,e=.returned r/\RdInt64SS w''.heap.size w'' r Z)/\Below w'.heap.size w' w'':=fun w' hw'=>by
  refine (sortedBy_c (RdInt64SS.onn hdT hw') (yAR hD hF) (yAE hD).1 (yAV hD)).mono ?_;rintro e w9 ⟨⟨r,Z9,rfl,hp,hw,hO⟩,hb9⟩;refine ⟨⟨r,rfl,?_⟩,hb9⟩;rw [hZ,<- IsOrd.eq (d:=d) (f:=f) (t:=t) ⟨hp,hw⟩];exact OwnCardS.rds hO
 have HR:Hid (RowsOk d):=hid (yAV hD);have Hfp:=hid hfp;have HT:=hid hT;have HbT:=hid hbT;have HBT:=hid hBT;have HdT:=hid hdT;have HQl:=hid hQl;have hQb:Q.length<=8:=by omega
 obtain ⟨M,hM⟩:∃ M:Int,M=2 ^ Q.length:=⟨_,rfl⟩;have hM1:1<=M/\M<=256:=by rw [hM,hQl];have:=two_pow_le hn.2;omega
 have HMf:Hid (selS (M - 1) Q.length=List.range Q.length):=hid (by rw [hM,hQl];exact selS_full hn.2);have HM:=hid hM;have hQ0:1<=Q.length:=by omega
 have Hsz:Hid (X=w.heap.size):=hid hX;obtain ⟨vo,vc,rfl⟩:=hd.shape;obtain ⟨dl,hdl⟩:∃ dl,dl=d.length:=⟨_,rfl⟩;rw [<- hdl] at HdT Hsc hsb |-;have hXT:=hBT.lt;have f0:=hBT.cell 0 _ rfl;have f1:=hBT.cell 1 _ rfl;clear hd hs hn hD hF hH hcb hf1 hQ hZ hQl hfp ht hT hbT hBT hdT hsc hM hdl hX;go_enter Tryz.func9,Tryz.ntmps9;go_upto_region 1 with fail;rw [<- Hsz.out,<- HT.out];go_wp2_with fail;with_reducible refine Hsc.out.mono ?_
 rintro e w1 ⟨rfl,hb1⟩;have hQ1:=HBT.out.on hb1;have g0:=hQ1.cell 0 _ rfl;have g1:=hQ1.cell 1 _ rfl;have Hb1:=hid hb1;clear hb1 hQ1 f0 f1;go_upto_region 6 with fail;have hsb1:∀ w',Below w1.heap.size w1 w'->Calls Tryz.prog 32 #[.slice vo dl vc,.agg #[.int .i64 f,.int .i64 t]] w' fun e w''=>(∃ r,e=.returned r/\RdInt64SS w''.heap.size w'' r Z)/\Below w'.heap.size w' w'':=fun w' hw'=>hsb w' (Hb1.out.trans (hw'.mono Hb1.out.size));have Hsb:=hid hsb1;have x0:=g0;have x1:=g1;clear hsb hsb1 g0 g1;refine yAZ (fun i v w=>match i with | 0=>v=.agg #[.int .i64 f,.int .i64 t] | 1=>RdPsS w.heap.size w v Q | 2=>v=.slice vo dl vc | 3=>v=.agg #[.int .i64 f,.int .i64 t] | 4=>RdInt64SS w.heap.size w v Z | 5=>RdPsS w.heap.size w v Q | 6=>RdInt64SS w.heap.size w v Z | _=>True) (by kernel_rfl) (by kernel_rfl) (by kernel_rfl) ?_ ?_ ?_
 . intro i v w w' h hb
   iterate 7 (obtain _ | i:=i;· first | exact h | exact Rds.onn h hb | exact RdInt64SS.onn h hb)
   exact h
 . intro vs hvs
   match vs,hvs with
   | [v0,v1,v2,v3,v4,v5,v6],_ =>
    refine ⟨?_,?_,?_,?_,?_,?_,?_,trivial⟩
    . intro wr hC hd
      clear hd;have e0:=(hC.cell (p:=⟨X,0,none⟩) (World.block_lt_of_cell? _ _ x0)).trans x0;have e1:=(hC.cell (p:=⟨X,1,none⟩) (World.block_lt_of_cell? _ _ x1)).trans x1;unfold relAt;simp only [putAll];go_simp;simp only [relUpon];exact ⟨zB _ _,by first | rfl | trivial⟩
    . intro wr hC hd
      have d0:v0=.agg #[.int .i64 f,.int .i64 t]:=by first | exact hd.1 rfl | exact hd.2.1 rfl | exact hd.2.2.1 rfl | exact hd.2.2.2.1 rfl | exact hd.2.2.2.2.1 rfl | exact hd.2.2.2.2.2.1 rfl | exact hd.2.2.2.2.2.2.1 rfl | exact hd.2.2.2.2.2.2.2.1 rfl | exact hd.2.2.2.2.2.2.2.2.1 rfl | exact hd.2.2.2.2.2.2.2.2.2.1 rfl
      subst d0;clear hd;unfold relAt;simp only [putAll];go_simp;simp only [relUpon];with_reducible refine (Hfp.out wr).mono ?_
      rintro e w9 ⟨⟨u9,rfl,hu⟩,hb9⟩;exact ⟨_,rfl,hb9,Own.rds hu⟩
    . intro wr hC hd
      clear hd;unfold relAt;simp only [putAll];go_simp;simp only [relUpon];exact ⟨zB _ _,by first | rfl | trivial⟩
    . intro wr hC hd
      clear hd;have e0:=(hC.cell (p:=⟨X,0,none⟩) (World.block_lt_of_cell? _ _ x0)).trans x0;have e1:=(hC.cell (p:=⟨X,1,none⟩) (World.block_lt_of_cell? _ _ x1)).trans x1;unfold relAt;simp only [putAll];go_simp;simp only [relUpon];exact ⟨zB _ _,by first | rfl | trivial⟩
    . intro wr hC hd
      have d2:v2=.slice vo dl vc:=by first | exact hd.1 rfl | exact hd.2.1 rfl | exact hd.2.2.1 rfl | exact hd.2.2.2.1 rfl | exact hd.2.2.2.2.1 rfl | exact hd.2.2.2.2.2.1 rfl | exact hd.2.2.2.2.2.2.1 rfl | exact hd.2.2.2.2.2.2.2.1 rfl | exact hd.2.2.2.2.2.2.2.2.1 rfl | exact hd.2.2.2.2.2.2.2.2.2.1 rfl
      subst d2;have d3:v3=.agg #[.int .i64 f,.int .i64 t]:=by first | exact hd.1 rfl | exact hd.2.1 rfl | exact hd.2.2.1 rfl | exact hd.2.2.2.1 rfl | exact hd.2.2.2.2.1 rfl | exact hd.2.2.2.2.2.1 rfl | exact hd.2.2.2.2.2.2.1 rfl | exact hd.2.2.2.2.2.2.2.1 rfl | exact hd.2.2.2.2.2.2.2.2.1 rfl | exact hd.2.2.2.2.2.2.2.2.2.1 rfl
      subst d3;clear hd;unfold relAt;simp only [putAll];go_simp;simp only [relUpon];with_reducible refine (Hsb.out wr hC).mono ?_
      rintro e w9 ⟨⟨u9,rfl,hu⟩,hb9⟩;exact ⟨_,rfl,hb9,hu⟩
    . intro wr hC hd
      have d1:RdPsS wr.heap.size wr v1 Q:=by first | exact hd.1 rfl | exact hd.2.1 rfl | exact hd.2.2.1 rfl | exact hd.2.2.2.1 rfl | exact hd.2.2.2.2.1 rfl | exact hd.2.2.2.2.2.1 rfl | exact hd.2.2.2.2.2.2.1 rfl | exact hd.2.2.2.2.2.2.2.1 rfl | exact hd.2.2.2.2.2.2.2.2.1 rfl | exact hd.2.2.2.2.2.2.2.2.2.1 rfl
      clear hd;unfold relAt;simp only [putAll];go_simp;simp only [relUpon];exact ⟨zB _ _,d1⟩
    . intro wr hC hd
      have d4:RdInt64SS wr.heap.size wr v4 Z:=by first | exact hd.1 rfl | exact hd.2.1 rfl | exact hd.2.2.1 rfl | exact hd.2.2.2.1 rfl | exact hd.2.2.2.2.1 rfl | exact hd.2.2.2.2.2.1 rfl | exact hd.2.2.2.2.2.2.1 rfl | exact hd.2.2.2.2.2.2.2.1 rfl | exact hd.2.2.2.2.2.2.2.2.1 rfl | exact hd.2.2.2.2.2.2.2.2.2.1 rfl
      clear hd;unfold relAt;simp only [putAll];go_simp;simp only [relUpon];exact ⟨zB _ _,d4⟩
 . intro vs wq hvs hC hI
   match vs,hvs,hI with
   | [v0,v1,v2,v3,v4,v5,v6],_,hI =>
    have d0:v0=.agg #[.int .i64 f,.int .i64 t]:=hI 0 (by decide);subst d0;have d1:RdPsS wq.heap.size wq v1 Q:=hI 1 (by decide);have d2:v2=.slice vo dl vc:=hI 2 (by decide);subst d2;have d3:v3=.agg #[.int .i64 f,.int .i64 t]:=hI 3 (by decide);subst d3;have d4:RdInt64SS wq.heap.size wq v4 Z:=hI 4 (by decide);have d5:RdPsS wq.heap.size wq v5 Q:=hI 5 (by decide);have d6:RdInt64SS wq.heap.size wq v6 Z:=hI 6 (by decide);clear hI;simp only [putAll];go_simp;obtain ⟨qo,qc,hv5,hq5⟩:=ePs_open d5;subst hv5;obtain ⟨qb,qf,rfl,hqlt0,hqc0⟩:=hq5 (by omega);obtain ⟨zo,zc,hv6⟩:=d6.shape;subst hv6;have hbq:Below w.heap.size w wq:=HbT.out.trans ((Hb1.out.trans (hC.mono Hb1.out.size)).mono HbT.out.size);obtain ⟨W,hW⟩:∃ W,W=wq.alloc (.cells #[] 3):=⟨_,rfl⟩;have hbW:Below wq.heap.size wq W:=by rw [hW];exact (zB _ _).alloc (zA _) _
    have hO:OwnI0 wq.heap.size W (.slice (some ⟨wq.heap.size,0,none⟩) 0 0) (idxS []):=by rw [hW];exact Own.lit (E:=eI) (xs:=[]) (cs:=#[]) (zA _) rfl rfl (by decide) (fun x hx=>by cases hx)
    have hdq:=RdInt64SS.onn HdT.out (Hb1.out.trans (hC.mono Hb1.out.size));have hqlt:qb<W.heap.size:=zM hqlt0.2 hbW.size;have HQc:Hid (∀ k,k<Q.length->∃ x,Q[k]?=some x/\(W.cell? ⟨qb,qf+k * 2,none⟩=some (.int .i64 x.pc)/\W.cell? ⟨qb,qf+k * 2+1,none⟩=some (.int .i64 x.pm))/\okPs x):=hid (fun k hk=>by
     obtain ⟨x,h1,⟨h2,h3⟩,h4⟩:=hqc0 k hk;exact ⟨x,h1,⟨(hbW.cell (p:=⟨qb,qf+k * 2,none⟩) hqlt0.2).trans h2,(hbW.cell (p:=⟨qb,qf+k * 2+1,none⟩) hqlt0.2).trans h3⟩,h4⟩)
    have HZr:=hid (RdInt64SS.onn d6 hbW);have Hdr:=hid (RdInt64SS.onn hdq hbW);have HbW:=hid (hbq.trans (hbW.mono hbq.size));have HO:=hid (Own.rds hO);have HW:=hid hW;generalize Z.length=zl at *
    rename_i hlen9;clear hlen9;clear d1 d4 d5 d6 hC hvs hqlt0 hqc0 hbq hW hbW hO hdq Hsb Hfp HdT HBT HT HbT Hb1 Hsc x0 x1;go_upto_region 8 with fail;rw [<- HW.out];clear HW;generalize wq.heap.size=Xq at *
    go_cut [41,42] (fun a b wx=>a=.int .i64 M/\b=.int .i64 0/\wx=W)
    case first =>
     go_wp2;go_meet;exact ⟨by rw [<- HM.out,IntWalk.wrap64_in _ (by omega)],rfl,rfl⟩
    case rest =>
     obtain ⟨rfl,rfl,rfl⟩:=hcut;go_wp2;go_loopw [9,10,42] (fun bv fv sv wr=>∃ (s:Nat) (fd:Bool) (bs:List Nat) (bo:Option Addr) (bl bc:Nat),(s:Int)<=M/\sv=.int .i64 s/\fv=.bool fd/\bv=.slice bo bl bc/\Hid (bl=bs.length)/\Hid (RdI wr.heap.size wr (.slice bo bl bc) (idxS bs))/\Hid (BstP d Q Z fd bs)/\Hid ((s:Int)=M->fd=true)/\Hid (Below wc.heap.size wc wr)) (fun _ _ s _=>(M - intOf s).toNat)
     case atStart=>exact ⟨0,false,[],_,_,_,by omega,rfl,rfl,rfl,hid rfl,HO,hid (fun h=>by cases h),hid (fun h=>by omega),hid (zB _ _)⟩
     case round =>
      obtain ⟨s,fd,bs,bo,bl,bc,hsM,rfl,rfl,rfl,hbl,HBs,HBp,HMe,Hb⟩:=hrel;clear HO;by_cases hsl:(s:Int)<M
      . go_upto_region 11 with fail
        go_cut [42,53] from 42 to 100 (fun sv c wx=>sv=.int .i64 s/\∃ b:Bool,c=.bool b/\(b=true->fd=true)/\Below wr.heap.size wr wx)
        case first =>
         cases fd with
         | false =>
          go_wp2;go_meet;exact ⟨rfl,_,rfl,fun h=>h,zB _ _⟩
         | true =>
          have Hoc:=hid (fun w=>onesCount_any (s:Int) (by omega) w);go_wp2_with fail;with_reducible refine (Hoc.out _).mono ?_
          rintro e w3 ⟨⟨r,rfl⟩,rfl⟩;go_wp2;go_meet;exact ⟨rfl,_,rfl,by first | (exact fun _=>rfl) | (exact fun _=>trivial),zB _ _⟩
        case rest =>
         obtain ⟨rfl,b,rfl,hbf,hbx⟩:=hcut;generalize wc=wx at hbx |-;have Hbx:=hid (Hb.out.trans (hbx.mono Hb.out.size));have HBx:=hid (Rds.onn HBs.out hbx);have Hbf:=hid hbf;clear hbx Hb HBs hbf;cases b with
         | true =>
          have Hm2:Hid (((s+1:Nat):Int)=M->fd=true):=hid (fun _=>Hbf.out rfl);go_wp2;go_roundw
          case rel=>exact ⟨s+1,fd,bs,bo,bl,bc,by omega,by go_num,rfl,rfl,hbl,HBx,HBp,Hm2,Hbx⟩
          case measure=>simp [intOf];omega
         | false =>
          obtain ⟨Y,hY⟩:∃ Y,Y=(wx.alloc (.cells #[] 3)).alloc (.cells #[] 80):=⟨_,rfl⟩;have z1:(wx.alloc (.cells #[] 3)).heap.size=wx.heap.size+1:=by simp
          have hbY:Below wx.heap.size wx Y:=by rw [hY];exact ((zB _ _).alloc (zA _) _).alloc (by simp) _
          have hO1:OwnI0 wx.heap.size Y (.slice (some ⟨wx.heap.size,0,none⟩) 0 0) (idxS []):=by
           rw [hY];exact (Own.lit (E:=eI) (xs:=[]) (cs:=#[]) (zA _) rfl rfl (by decide) (fun x hx=>by cases hx)).alloc _
          have hO2:OwnPsS wx.heap.size Y (.slice (some ⟨wx.heap.size+1,0,none⟩) 0 0) (pasS Q []):=by
           have h:=Own.lit (E:=ePs) (e:=80) (base:=wx.heap.size) (w:=wx.alloc (.cells #[] 3)) (xs:=[]) (cs:=#[]) (n:=0) (by rw [z1];omega) rfl rfl (by decide) (fun x hx=>by cases hx);rw [z1,<- hY] at h;exact h
          have hap:Apart (.slice (some ⟨wx.heap.size,0,none⟩) 0 0) (.slice (some ⟨wx.heap.size+1,0,none⟩) 0 0):=by intro g h1 h2;simp [Value.ownBlock] at h1 h2;omega
          have HO1:=hid hO1;have HO2:=hid hO2;have Hap:=hid hap;have HY:=hid hY;have HbY:=hid hbY;clear hY z1 hbY hO1 hO2 hap;go_upto_region 13 with fail;rw [<- HY.out];clear HY;go_wp2;go_loopw [12,13,58] (fun ov lv iv wi=>∃ (i:Nat),i<=Q.length/\iv=.int .i64 i/\Hid (OwnI0 wx.heap.size wi ov (idxS (selS s i)))/\Hid (OwnPsS wx.heap.size wi lv (pasS Q (selS s i)))/\Hid (Apart ov lv)/\Hid (Below wx.heap.size wx wi)) (fun _ _ i _=>Q.length - (intOf i).toNat)
          case atStart=>exact ⟨0,zK _,rfl,HO1,HO2,Hap,HbY⟩
          case round =>
           rename World=>wi
           obtain ⟨i,hiQ,rfl,HI,HP,Hap,Hbi⟩:=hrel;clear HO1 HO2 HbY;by_cases hil:i<Q.length
           . obtain ⟨p,hp,⟨hc0,hc1⟩,hokp⟩:=HQc.out i hil
             have hbi:=Hbx.out.trans (Hbi.out.mono Hbx.out.size);have d0:=(hbi.cell (p:=⟨qb,qf+i * 2,none⟩) hqlt).trans hc0;have d1:=(hbi.cell (p:=⟨qb,qf+i * 2+1,none⟩) hqlt).trans hc1;obtain ⟨pc,pm⟩:=p;simp only at d0 d1;obtain ⟨U,hU⟩:∃ U,U=wi.alloc (.cells #[.int .i64 pc,.int .i64 pm] 80):=⟨_,rfl⟩;have hX:Box U wi.heap.size [.int .i64 pc,.int .i64 pm]:=by rw [hU];exact Box.new wi [.int .i64 pc,.int .i64 pm] _
             have HIU:=hid (HI.out.alloc (.cells #[.int .i64 pc,.int .i64 pm] 80));have HPU:=hid (HP.out.alloc (.cells #[.int .i64 pc,.int .i64 pm] 80));rw [<- hU] at HIU HPU;have HbU:Hid (Below wx.heap.size wx U):=hid (by rw [hU];exact Hbi.out.alloc Hbi.out.size _);have HIl:=hid HI.out.lt;have HPl:=hid HP.out.lt;have x0:=cell_regrown (hX.cell 0 _ rfl);have x1:=cell_regrown (hX.cell 1 _ rfl);have hUs:wi.heap.size<U.heap.size:=hX.lt;have hl1:(idxS (selS s i)).length<=8:=by rw [idxS_len];have:=selS_len s i;omega
             have hl2:(pasS Q (selS s i)).length<=8:=by rw [pasS_len];have:=selS_len s i;omega
             have HX:=hid hX;have HU:=hid hU;have Hp:=hid hp;have Hokp:=hid hokp;have hiq:(i:Int)<(Q.length:Int):=by omega
             clear hp hc0 hc1 hokp hbi hU hX HI HP;go_upto_region 16 with fail;rw [<- HU.out];clear HU d0 d1;cases ht:tstS s i with
             | true =>
              have htt:(bits BinOp.and IntKind.i64 ((s:Int) / 2 ^ i) 1 == 1)=true:=ht;have Hs1:Hid (selS s (i+1)=selS s i++[i]):=hid (selS_yes ht);clear ht;obtain ⟨xs,hxs⟩:∃ xs,xs=idxS (selS s i):=⟨_,rfl⟩;obtain ⟨ys,hys⟩:∃ ys,ys=pasS Q (selS s i):=⟨_,rfl⟩;have Hxs:Hid (idxS (selS s (i+1))=xs++[(i:Int)]):=hid (by rw [Hs1.out,idxS_snoc,hxs]);have Hys:Hid (pasS Q (selS s (i+1))=ys++[(⟨pc,pm⟩:PsT)]):=hid (by rw [Hs1.out,pasS_snoc Hp.out,hys]);rw [<- hxs] at HIU hl1;rw [<- hys] at HPU hl2;clear hxs hys;go_wp2_with (first | (at_builtin;refine yAB (E:=eI) rfl _ _ 76 rfl Tryz.underlying76 hi1 hy0 hy1 hy2 rfl (by decide) rfl rfl (HIU.out.alloc _) (yAH (E:=eI) (x:=(i:Int)) (by show -9223372036854775808<=_/\_<=9223372036854775807;omega) rfl) ?b1 ?b2 ?b3 ?_))
              case b1=>unfold maxLen;simp;omega
              case b2=>simp;omega
              case b3=>have:=HbU.out.size;simp;omega
              intro v6 w6 hI6 hg6;have hg6':=hg6.alloc;have hX6:=HX.out.keptB hg6'.1 (fun e=>by have:=(HIl.out _ e).2;omega);have HP6:=hid (HPU.out.kept hg6'.1 Hap.out.kept);have Hap6:=hid ((Hap.out.grew hg6' (fun q hq=>by have:=(HPl.out q hq).2;omega)).symm);have Hb6:=hid (hg6'.below HbU.out HbU.out.size (fun q hq=>(HIl.out q hq).1));have HI6:=hid hI6;have y0:=hX6.cell 0 _ rfl;have y1:=hX6.cell 1 _ rfl;have HPl6:=hid HP6.out.lt;have HIl6:=hid hI6.lt;have hs6:=hX6.lt;clear hg6 hg6' hX6 x0 x1 hI6 HPU HIU HX Hap HbU HIl HPl;go_wp2_with (first | (at_builtin;refine yAB (E:=ePs) rfl _ _ 31 rfl Tryz.underlying31 hi hz0 hz1 hz2 rfl (by decide) rfl rfl (HP6.out.alloc _) (yAH (E:=ePs) (x:=⟨pc,pm⟩) Hokp.out rfl) ?b1 ?b2 ?b3 ?_))
              case b1=>unfold maxLen;simp;omega
              case b2=>simp;omega
              case b3=>have:=Hb6.out.size;simp;omega
              intro v7 w7 hP7 hg7;have hg7':=hg7.alloc;have HI7:=hid (HI6.out.kept hg7'.1 Hap6.out.kept);have Hap7:=hid ((Hap6.out.grew hg7' (fun q hq=>(HIl6.out q hq).2)).symm);have Hb7:=hid (hg7'.below Hb6.out Hb6.out.size (fun q hq=>(HPl6.out q hq).1));have HP7:=hid hP7;clear hg7 hg7' hP7 HI6 HP6 y0 y1 Hap6 Hb6;go_wp2;go_roundw
              case rel=>exact ⟨i+1,by omega,by go_num,by rw [Hxs.out];exact HI7,by rw [Hys.out];exact HP7,Hap7,Hb7⟩
              case measure=>simp [intOf];omega
             | false =>
              have htt:(bits BinOp.and IntKind.i64 ((s:Int) / 2 ^ i) 1 == 1)=false:=ht;have Hs1:Hid (selS s (i+1)=selS s i):=hid (selS_no ht);clear ht x0 x1;go_wp2;go_roundw
              case rel=>exact ⟨i+1,by omega,by go_num,by rw [Hs1.out];exact HIU,by rw [Hs1.out];exact HPU,Hap,HbU⟩
              case measure=>simp [intOf];omega
           . obtain rfl:i=Q.length:=by omega
             obtain ⟨S,hS⟩:∃ S,S=selS s Q.length:=⟨_,rfl⟩;have hSl:=selS_len s Q.length;have hSi:∀ k∈S,k<Q.length:=fun k hk=>selS_lt (by rw [<- hS];exact hk);rw [<- hS] at HI HP hSl;obtain ⟨io,ic,hov⟩:=HI.out.shape;obtain ⟨lo,lc,hlv⟩:=HP.out.shape;rw [idxS_len] at hov;rw [pasS_len] at hlv;subst hov;subst hlv;have Hbw:=hid (Hbx.out.trans (Hbi.out.mono Hbx.out.size));have HZi:=hid (RdInt64SS.onn HZr.out Hbw.out);have HRun:=hid (runPasses_c (RdInt64SS.onn Hdr.out Hbw.out) HR.out (HPk.out.sub (pasS_mem hSi)) (Own.rds HP.out));have HIr:=hid (Own.rds HI.out);have HBi:=hid (Rds.onn HBx.out Hbi.out);have HS:=hid hS;have HSi:=hid hSi;have HSn:Hid (S.length<=Q.length):=hid hSl;obtain ⟨sl,hsl9⟩:∃ sl,sl=S.length:=⟨_,rfl⟩;rw [<- hsl9] at HRun HIr hSl |-;have Hsl:=hid hsl9;clear hS hSi hsl9 HI HP;go_upto_region 20 with fail;go_cut [42,98] from 42 to 100 (fun sv c wy=>sv=.int .i64 s/\∃ b:Bool,c=.bool b/\(b=true->fd=true\/runPD d (pasS Q S) ≠ Z)/\(b=false->runPD d (pasS Q S)=Z)/\Below wi.heap.size wi wy)
             case first =>
              cases fd with
              | false =>
               go_wp2_with fail;with_reducible refine HRun.out.mono ?_
               rintro e w7 ⟨⟨r7,rfl,hr7⟩,hb7⟩;have HZ7:=hid (RdInt64SS.onn HZi.out hb7);have HR7:=hid (OwnCardS.rds hr7);have Hb7:=hid hb7;obtain ⟨ro7,rc7,hsr7⟩:=(OwnCardS.rds hr7).shape;subst hsr7;clear hr7 hb7;go_wp2_with fail;with_reducible refine (SameDeck_c HR7.out HZ7.out).mono ?_
               rintro e w8 ⟨rfl,hb8⟩;have Hb8:=hid (Hb7.out.trans (hb8.mono Hb7.out.size));clear hb8;go_wp2;go_meet;exact ⟨rfl,_,rfl,(by first | exact fun h=>.inr (of_decide_eq_false (by simpa using h)) | exact fun _=>.inl trivial | exact fun _=>.inl rfl),(fun h=>by simp at h;first | exact h | exact h.2),Hb8.out⟩
              | true =>
               by_cases hle:sl=bl
               . subst hle
                 go_wp2_with fail;with_reducible refine (compare_any HIr.out HBi.out).mono ?_
                 rintro e w5 ⟨⟨r,rfl⟩,rfl⟩;by_cases hr0:0<r
                 . go_wp2
                   go_meet;exact ⟨rfl,_,rfl,(by first | exact fun _=>.inl trivial | exact fun _=>.inl rfl),(fun h=>by first | (exfalso;revert h;simp <;> omega) | (simp at h)),zB _ _⟩
                 . go_wp2_with fail
                   with_reducible refine HRun.out.mono ?_
                   rintro e w7 ⟨⟨r7,rfl,hr7⟩,hb7⟩;have HZ7:=hid (RdInt64SS.onn HZi.out hb7);have HR7:=hid (OwnCardS.rds hr7);have Hb7:=hid hb7;obtain ⟨ro7,rc7,hsr7⟩:=(OwnCardS.rds hr7).shape;subst hsr7;clear hr7 hb7;go_wp2_with fail;with_reducible refine (SameDeck_c HR7.out HZ7.out).mono ?_
                   rintro e w8 ⟨rfl,hb8⟩;have Hb8:=hid (Hb7.out.trans (hb8.mono Hb7.out.size));clear hb8;go_wp2;go_meet;exact ⟨rfl,_,rfl,(by first | exact fun h=>.inr (of_decide_eq_false (by simpa using h)) | exact fun _=>.inl trivial | exact fun _=>.inl rfl),(fun h=>by simp at h;first | exact h | exact h.2),Hb8.out⟩
               . have hle2:¬ (sl:Int)=(bl:Int):=by omega
                 go_wp2_with fail;with_reducible refine HRun.out.mono ?_
                 rintro e w7 ⟨⟨r7,rfl,hr7⟩,hb7⟩;have HZ7:=hid (RdInt64SS.onn HZi.out hb7);have HR7:=hid (OwnCardS.rds hr7);have Hb7:=hid hb7;obtain ⟨ro7,rc7,hsr7⟩:=(OwnCardS.rds hr7).shape;subst hsr7;clear hr7 hb7;go_wp2_with fail;with_reducible refine (SameDeck_c HR7.out HZ7.out).mono ?_
                 rintro e w8 ⟨rfl,hb8⟩;have Hb8:=hid (Hb7.out.trans (hb8.mono Hb7.out.size));clear hb8;go_wp2;go_meet;exact ⟨rfl,_,rfl,(by first | exact fun h=>.inr (of_decide_eq_false (by simpa using h)) | exact fun _=>.inl trivial | exact fun _=>.inl rfl),(fun h=>by simp at h;first | exact h | exact h.2),Hb8.out⟩
             case rest =>
              obtain ⟨rfl,b,rfl,hbt,hbf,hby⟩:=hcut;generalize wc=wy at hby |-;have Hby:=hid (Hbw.out.trans (hby.mono Hbw.out.size));cases b with
              | true =>
               have HBy:=hid (Rds.onn HBi.out hby);have Hm3:Hid (((s+1:Nat):Int)=M->fd=true):=hid (fun hm=>by
                rcases hbt rfl with h | h
                . exact h
                . refine absurd ?_ h
                  have e1:S=List.range Q.length:=by rw [HS.out,show (s:Int)=M - 1 by omega,HMf.out]
                  rw [e1,pasS_all,HQZ.out])
               clear hby hbt hbf;go_wp2;go_roundw
               case rel=>exact ⟨s+1,fd,bs,bo,bl,bc,by omega,by go_num,rfl,rfl,hbl,HBy,HBp,Hm3,Hby⟩
               case measure=>simp [intOf];omega
              | false =>
               have HBy:=hid (Rds.onn HIr.out hby);have HBq:Hid (BstP d Q Z true S):=hid (fun _=>⟨HSi.out,HSn.out,hbf rfl⟩);clear hby hbt hbf;go_wp2;go_roundw
               case rel=>exact ⟨s+1,true,S,io,sl,ic,by omega,by go_num,rfl,rfl,Hsl,HBy,HBq,hid (fun _=>rfl),Hby⟩
               case measure=>simp [intOf];omega
      . have hsM2:(s:Int)=M:=by omega
        have HF:Hid ((∀ i∈bs,i<Q.length)/\bs.length<=Q.length/\runPD d (pasS Q bs)=Z):=hid (HBp.out (HMe.out hsM2));obtain ⟨Y,hY⟩:∃ Y,Y=wr.alloc (.cells #[] 80):=⟨_,rfl⟩;have hbY:Below wr.heap.size wr Y:=by rw [hY];exact (zB _ _).alloc (zA _) _
        have hO1:OwnPsS wr.heap.size Y (.slice (some ⟨wr.heap.size,0,none⟩) 0 0) (pasS Q (bs.take 0)):=by
         rw [hY];exact Own.lit (E:=ePs) (xs:=[]) (cs:=#[]) (zA _) rfl rfl (by decide) (fun x hx=>by cases hx)
        have HO1:=hid hO1;have HY:=hid hY;have HbY:=hid hbY;have hbi2:bl<=8:=by have:=HF.out.2.1;have:=hbl.out;omega
        obtain ⟨bo',bc',hsh,hin⟩:=RdI.open HBs.out;injection hsh with h1 h2 h3;subst h1;subst h3;have hbl2:bl=(idxS bs).length:=h2;have Hin:=hid hin;have Hbl2:=hid hbl2;clear hY hbY hO1 hin h2 hbl2 HBp HMe HBs;go_upto_region 24 with fail;rw [<- HY.out];clear HY;go_wp2;go_loopw [16,104] (fun ov iv wi=>∃ k:Nat,k<=bl/\iv=.int .i64 k/\Hid (OwnPsS wr.heap.size wi ov (pasS Q (bs.take k)))/\Hid (Below wr.heap.size wr wi)) (fun _ i _=>bl - (intOf i).toNat)
        case atStart=>exact ⟨0,zK _,rfl,HO1,HbY⟩
        case round =>
         rename World=>wi
         obtain ⟨k,hk,rfl,HP,Hbi⟩:=hrel;clear HO1 HbY;by_cases hkl:k<bl
         . obtain ⟨bb,bf,rfl,hlt,hc⟩:=Hin.out (by rw [<- Hbl2.out];omega)
           obtain ⟨x,hx,hcx,bx⟩:=hc k (by rw [<- Hbl2.out];exact hkl);have hkb:k<bs.length:=by have:=hbl.out;omega
           have hxe:x=((bs[k]:Nat):Int):=by
            unfold idxS at hx;rw [List.getElem?_map,zF hkb] at hx;exact (zD hx).symm
           obtain ⟨j,hj⟩:∃ j,j=bs[k]:=⟨_,rfl⟩;rw [<- hj] at hxe;subst hxe;have hjQ:j<Q.length:=by rw [hj];exact HF.out.1 _ (List.getElem_mem _)
           have hbj:bs[k]?=some j:=by rw [zF hkb,hj]
           obtain ⟨p,hp,⟨hc0,hc1⟩,hokp⟩:=HQc.out j hjQ;have hbi:=Hb.out.trans (Hbi.out.mono Hb.out.size);have d0:=(hbi.cell (p:=⟨qb,qf+j * 2,none⟩) hqlt).trans hc0;have d1:=(hbi.cell (p:=⟨qb,qf+j * 2+1,none⟩) hqlt).trans hc1;have d2:=(Hbi.out.cell (p:=⟨bb,bf+k,none⟩) hlt.2).trans hcx;obtain ⟨pc,pm⟩:=p;simp only at d0 d1;obtain ⟨ys,hys⟩:∃ ys,ys=pasS Q (bs.take k):=⟨_,rfl⟩;have Hys:Hid (pasS Q (bs.take (k+1))=ys++[(⟨pc,pm⟩:PsT)]):=hid (by rw [yAD hbj,pasS_snoc hp,hys]);have hl2:ys.length<=8:=by rw [hys,pasS_len,zI];omega
           have HPU:=hid (HP.out);rw [<- hys] at HPU;have HPl:=hid HP.out.lt;have Hokp:=hid hokp;have hjq:(j:Int)<(Q.length:Int):=by omega
           have hkq:(k:Int)<(bl:Int):=by omega
           clear hc hx hcx hj hbj hp hc0 hc1 hokp hbi hys hkb HP bx;go_wp2_with (first | (at_builtin;refine yAB (E:=ePs) rfl _ _ 31 rfl Tryz.underlying31 hi hz0 hz1 hz2 rfl (by decide) rfl rfl (HPU.out.alloc _) (yAH (E:=ePs) (x:=⟨pc,pm⟩) Hokp.out rfl) ?b1 ?b2 ?b3 ?_))
           case b1=>unfold maxLen;simp;omega
           case b2=>simp;omega
           case b3=>have:=Hbi.out.size;simp;omega
           intro v7 w7 hP7 hg7;have hg7':=hg7.alloc;have Hb7:=hid (hg7'.below Hbi.out Hbi.out.size (fun q hq=>(HPl.out q hq).1));have HP7:=hid hP7;clear hg7 hg7' hP7 d0 d1 d2 HPU;go_wp2;go_roundw
           case rel=>exact ⟨k+1,by omega,by go_num,by rw [Hys.out];exact HP7,Hb7⟩
           case measure=>simp [intOf];omega
         . obtain rfl:k=bl:=by omega
           have hP:=HP.out;rw [zH (by have:=hbl.out;omega)] at hP;have HP9:Hid (OwnPsS w.heap.size _ _ (pasS Q bs)):=hid (hP.mono (zO HbW.out.size Hb.out.size));have HB9:=hid (HbW.out.trans ((Hb.out.trans (Hbi.out.mono Hb.out.size)).mono HbW.out.size));obtain ⟨go,gc,hgs⟩:=hP.shape;subst hgs;have HL:Hid ((pasS Q bs).length<=2 * n):=hid (by rw [pasS_len,<- HQl.out];exact HF.out.2.1);clear hP;go_wp2;go_ret2;exact ⟨⟨_,_,rfl,HP9.out,HL.out,pasS_mem HF.out.1,HF.out.2.2⟩,HB9.out⟩
theorem numOk_of {d:List (List Int)} {x y:Int} (hD:deckB d=true) (h:fieldP x y (colsD d)) (h12:y - x<=12):NumOk d x y :=
 ⟨yAR hD h,h12,fun c hc m hm=>card_masks ((yAE hD).2 c hc).1 m hm⟩
theorem strD_mem {d:List (List Int)} {G:List Int} {i:Nat} {c:List Int} (h:c∈strD d G i):c∈d:=by
 unfold strD at h;exact List.mem_of_mem_take (List.mem_of_mem_drop h)
theorem strD_num {d:List (List Int)} {G:List Int} {i:Nat} {x y:Int} (h:NumOk d x y):NumOk (strD d G i) x y:=by
 unfold strD;exact (h.take _).drop _
theorem strD_len (d:List (List Int)) (G:List Int) (i:Nat):(strD d G i).length<=d.length:=by
 unfold strD;rw [zQ,zI];omega
theorem strD_any {d:List (List Int)} {G:List Int} {i:Nat} {p:List Int->Bool} (h:d.any p=false):(strD d G i).any p=false:=by
 rw [List.any_eq_false];exact fun c hc=>List.any_eq_false.1 h c (strD_mem hc)
def TotA (v:Value) (w w0 w5:World) (b0:Nat) (L:List TotalT):Prop :=
 Own eTotal 153 w0.heap.size w v L/\Below w0.heap.size w0 w/\Agr (fun k=>k=b0) w5 w/\∀ q,v.ownBlock=some q->q=b0\/w5.heap.size<=q
theorem totD_len (d:List (List Int)) (f t sf st:Int):(totD d f t sf st).length=(selI (grpP d f t) d.length).length:=by unfold totD;simp
theorem totD_at {d:List (List Int)} {f t sf st:Int} {G:List Int} (hG:G=selI (grpP d f t) d.length) {i:Nat} (hi:i<G.length):(totD d f t sf st)[i]?=some (totOf d G f t sf st i):=by
 unfold totD;rw [<- hG,List.getElem?_map,List.getElem?_range hi];rfl
theorem totalsOf_o {d:List (List Int)} {v:Value} {w0:World} {A:Nat} {f t sf st:Int} (hd:RdInt64SS A w0 v d) (hD:deckB d=true) (hf:fieldP f t (colsD d)) (hs:fieldP sf st (colsD d)) (h12:st - sf<=12) :
 Calls Tryz.prog 163 #[v,.agg #[.int .i64 f,.int .i64 t],.agg #[.int .i64 sf,.int .i64 st]] w0 fun e w'=>(∃ r,e=.returned (.tuple #[r,.int .i64 (totC d f t sf st)])/\(totC d f t sf st=0->Own eTotal 153 w0.heap.size w' r (totD d f t sf st)))/\Below w0.heap.size w0 w':=by
 obtain ⟨i0,hi,hz0,hz1,hz2⟩:=info_parts Tryz.infoTotal;obtain ⟨vo,vc,rfl⟩:=hd.shape;obtain ⟨T,hT⟩:∃ T,T=(w0.alloc (.cells #[.int .i64 f,.int .i64 t] 27)).alloc (.cells #[.int .i64 sf,.int .i64 st] 27):=⟨_,rfl⟩;have z1:(w0.alloc (.cells #[.int .i64 f,.int .i64 t] 27)).heap.size=w0.heap.size+1:=by simp
 have hP:Box T w0.heap.size [.int .i64 f,.int .i64 t]:=by rw [hT];exact (Box.new w0 [.int .i64 f,.int .i64 t] _).alloc _
 have hQ:Box T (w0.heap.size+1) [.int .i64 sf,.int .i64 st]:=by
  have h:=Box.new (w0.alloc (.cells #[.int .i64 f,.int .i64 t] 27)) [.int .i64 sf,.int .i64 st] 27;rw [z1,<- hT] at h;exact h
 have hbT:Below w0.heap.size w0 T:=by rw [hT];exact ((zB _ _).alloc (zA _) _).alloc (by rw [z1];omega) _
 obtain ⟨T2,hT2⟩:∃ T2,T2=T.alloc (.cells #[.int .i64 sf,.int .i64 st] 27):=⟨_,rfl⟩;have hb2:Below T.heap.size T T2:=by rw [hT2];exact (zB _ _).alloc (zA _) _
 have hG2:Box T2 T.heap.size [.int .i64 sf,.int .i64 st]:=by rw [hT2];exact Box.new T [.int .i64 sf,.int .i64 st] _
 have hbA:=hbT.trans (hb2.mono hbT.size);have hN:=numOk_of hD hs h12;have hl:=(yAE hD).1;have hso:=sumsOf_c hG2 (RdInt64SS.onn hd hbA) hN (by omega);have c0:=hQ.cell 0 _ rfl;have c1:=hQ.cell 1 _ rfl;have HP2:=hid (hP.on hb2);have HQ2:=hid (hQ.on hb2);have HT:=hid hT;have HT2:=hid hT2;have HbA:=hid hbA;have HN:=hid hN;have HC:=hid (yAR hD hf);have Hd0:=hid hd.tight;have HD:=hid hD;obtain ⟨p,hp⟩:∃ p,p=d.any (noNum sf st):=⟨_,rfl⟩;rw [<- hp] at hso;have Hp:=hid hp;have Hso:=hid hso;obtain ⟨R,hR⟩:∃ R,R=totC d f t sf st:=⟨_,rfl⟩;rw [<- hR];have HR:=hid hR;obtain ⟨TL,hTL0⟩:∃ TL,TL=totD d f t sf st:=⟨_,rfl⟩;rw [<- hTL0];have HTL0:=hid hTL0;clear hTL0;obtain ⟨n,hn⟩:∃ n,n=d.length:=⟨_,rfl⟩;rw [<- hn] at hl Hso Hd0 |-;have Hn:=hid hn;clear hd hD hf hs hT z1 hP hQ hbT hT2 hb2 hG2 hbA hN hso hp hR hn;go_enter Tryz.func163,Tryz.ntmps163;go_upto_region 1 with fail;rw [<- HT.out];go_wp2_with fail;rw [<- HT2.out];with_reducible refine Hso.out.mono ?_
 rintro e w1 ⟨⟨r1,rfl,-⟩,hb1⟩;have hP1:=HP2.out.on hb1;have HP1:=hid hP1;have HQ1:=hid (HQ2.out.on hb1);have Hb1:=hid (HbA.out.trans (hb1.mono HbA.out.size));have g0:=hP1.cell 0 _ rfl;have g1:=hP1.cell 1 _ rfl;clear hb1 hP1 c0 c1;cases p with
 | true =>
  have HE:Hid (R=8):=hid (by rw [HR.out];unfold totC;rw [if_pos (.inl Hp.out.symm)]);go_wp2;go_ret2;exact ⟨⟨.slice none 0 0,by rw [HE.out];rfl,fun h=>by rw [HE.out] at h;exact absurd h (by decide)⟩,Hb1.out⟩
 | false =>
  have hch:=haveField_c (RdInt64SS.onn Hd0.out Hb1.out) HC.out;obtain ⟨q,hq⟩:∃ q,q=hasD d f t:=⟨_,rfl⟩;rw [<- hq] at hch;have Hq:=hid hq;have Hch:=hid hch;clear hq hch;go_wp2_with fail;with_reducible refine Hch.out.mono ?_
  rintro e w2 ⟨rfl,hb2⟩;have hP2:=HP1.out.on hb2;have HP2:=hid hP2;have HQ2:=hid (HQ1.out.on hb2);have Hb2:=hid (Hb1.out.trans (hb2.mono Hb1.out.size));clear hb2 g0 g1;cases q with
  | false =>
   have HE:Hid (R=8):=hid (by rw [HR.out];unfold totC;rw [if_pos (.inr Hq.out.symm)]);clear hP2;go_wp2;go_ret2;exact ⟨⟨.slice none 0 0,by rw [HE.out];rfl,fun h=>by rw [HE.out] at h;exact absurd h (by decide)⟩,Hb2.out⟩
  | true =>
   have HE:Hid (R=0):=hid (by rw [HR.out];unfold totC;rw [if_neg (fun h=>h.elim (fun h=>by rw [<- Hp.out] at h;cases h) (fun h=>by rw [<- Hq.out] at h;cases h))]);obtain ⟨b0,hb0⟩:∃ b,b=w2.heap.size:=⟨_,rfl⟩;obtain ⟨W,hW⟩:∃ W,W=w2.alloc (.cells #[] 153):=⟨_,rfl⟩;have hbW:Below w2.heap.size w2 W:=by rw [hW];exact (zB _ _).alloc (zA _) _
   have hWz:W.heap.size=b0+1:=by rw [hW,hb0];simp
   have hO0:Own eTotal 153 w0.heap.size W (.slice (some ⟨b0,0,none⟩) 0 0) ((totD d f t sf st).take 0):=by
    rw [hW,hb0];exact Own.lit (E:=eTotal) (xs:=[]) (cs:=#[]) Hb2.out.size rfl rfl (by decide) (fun x hx=>by cases hx)
   have hdW:FrS RdD (fun k=>k=b0) W (.slice vo n vc) d:=by
    have h0:FrS RdD (fun k=>w0.heap.size<=k) w0 (.slice vo n vc) d:=fun w' hA=>(RdInt64SS.below Hd0.out (hA.below (fun k h=>h) (zA _)) (zA _)).mono hA.size;exact h0.step (Agr.on (S:=fun k=>w0.heap.size<=k) (Hb2.out.trans (hbW.mono Hb2.out.size))) (fun k h _=>h) (fun k h _=>by have h9:k=b0:=h;have:=Hb2.out.size;show w0.heap.size<=k;omega)
   have hgr:=groups_c hdW (fun k h=>by have h9:k=b0:=h;omega) HC.out (by have:=Hn.out;omega);have k0:=(hP2.alloc (.cells #[] 153)).cell 0 _ rfl;have k1:=(hP2.alloc (.cells #[] 153)).cell 1 _ rfl;have HPW:=hid (hP2.on hbW);have HQW:=hid (HQ2.out.on hbW);have Hgr:=hid hgr;have HO0:=hid hO0;have HW:=hid hW;have HWz:=hid hWz;have HbW:=hid (Hb2.out.trans (hbW.mono Hb2.out.size));clear hbW hWz hO0 hdW hgr hP2 hW;go_wp2_with fail;rw [<- HW.out];with_reducible refine Hgr.out.mono ?_
   rintro e w5 ⟨⟨r,rfl,hG⟩,hb5⟩;rw [<- hb0];obtain ⟨G,hGe⟩:∃ G,G=selI (grpP d f t) d.length:=⟨_,rfl⟩;obtain ⟨m,hm⟩:∃ m,m=G.length:=⟨_,rfl⟩;have hTL:=HTL0.out;rw [<- hTL] at HO0;obtain ⟨zo,zc,hzo⟩:=RdL.shape (show RdL (fun B w v (x:List (List Int))=>RdInt64SS B w v x) w5.heap.size w5 r (grsD d f t) from hG.now);have hgl:(grsD d f t).length=m:=by rw [grsD_len,<- hGe];exact hm.symm
   rw [hgl] at hzo;subst hzo;have hmn:m<=n:=by rw [hm,hGe,Hn.out];exact yBM _ _
   have HA0:Hid (TotA (.slice (some ⟨b0,0,none⟩) 0 0) w5 w0 w5 b0 (TL.take 0)):=hid ⟨HO0.out.below hb5 (zA _),HbW.out.trans (hb5.mono HbW.out.size),Agr.refl _ _,fun q hq=>.inl (zD hq).symm⟩;have HP5:=hid (HPW.out.on hb5);have HQ5:=hid (HQW.out.on hb5);have HG:=hid hG;have Hm:=hid hm;have HGe:=hid hGe;have HTL:=hid hTL;have hbb:w0.heap.size+2<=b0:=by have h1:=HQ1.out.lt;have h2:=HQ2.out.lt;omega
   have hbz:b0<w5.heap.size:=by have h1:=hb5.size;have h2:=HWz.out;omega
   have Hgl:=hid hgl;clear hG hb5 HO0 k0 k1 hm hGe hTL hb0 hgl;go_wp2;go_loopw [10,35] (fun ov iv wr=>∃ (k:Nat) (oo:Option Addr) (oc:Nat),k<=m/\iv=.int .i64 k/\ov=.slice oo k oc/\Hid (TotA (.slice oo k oc) wr w0 w5 b0 (TL.take k))) (fun _ i _=>m - (intOf i).toNat)
   case atStart=>exact ⟨0,_,_,zK _,rfl,rfl,HA0⟩
   case round =>
    obtain ⟨k,oo,oc,hk,rfl,rfl,HA⟩:=hrel;clear HA0;by_cases hkm:k<m
    . obtain ⟨lo,hi2,q1,q2,q3,q4,q5,-,-⟩:=grp_places (i:=k) HGe.out (by have:=Hm.out;omega)
      have hse:=strD_eq (d:=d) q2 q3;obtain ⟨ho,hbl,hag,hown⟩:=HA.out;have hgw:RdGs wr (.slice zo m zc) (grsD d f t):=HG.out wr hag;obtain ⟨zo',zc',hzs,hzop⟩:=RdL.open rowK_D hgw;rw [Hgl.out] at hzs hzop;injection hzs with u1 u2 u3;subst u1;subst u3;clear u2;obtain ⟨zb,zoff,rfl,zlt,zcc⟩:=hzop (by omega);obtain ⟨x,ro,rc,hx,hcell,hrd⟩:=zcc k hkm;rw [grsD_at HGe.out (by have:=Hm.out;omega)] at hx;obtain rfl:=zD hx;have hxl:(strD d G k).length=hi2 - lo:=by rw [hse,zQ,zI];omega
      obtain ⟨ro',rc',hvs,hin⟩:=RdInt64SS.open hrd;injection hvs with u1 u2 u3;subst u1;subst u3;clear u2;obtain ⟨gb,go,rfl,glt,gcc⟩:=hin (by omega);obtain ⟨c,cao,ccap,hcx,hccell,hcrd⟩:=gcc 0 (by omega);rw [Nat.add_zero] at hccell;have hcd:d[lo]?=some c:=by rw [hse,List.getElem?_drop,Nat.add_zero,List.getElem?_take,if_pos q4] at hcx;exact hcx
      have hcm:=zC hcd;have hcols:=HC.out.2 c hcm;have hc01:=HC.out.1;obtain ⟨cao',ccap',hcs,hcin⟩:=RdI.open hcrd;injection hcs with u1 u2 u3;subst u1;subst u3;clear u2;obtain ⟨cb,co,rfl,_⟩:=hcin (by omega);have hcl:=card_len ((yAE HD.out).2 c hcm).1;have hok:okTx (partC c f t)=true:=hasD_at Hq.out.symm hcm
      -- the sums of the group
      obtain ⟨V,hV⟩:∃ V,V=wr.alloc (.cells #[.int .i64 sf,.int .i64 st] 27):=⟨_,rfl⟩;have hbV:Below wr.heap.size wr V:=by rw [hV];exact (zB _ _).alloc (zA _) _
      have hX:Box V wr.heap.size [.int .i64 sf,.int .i64 st]:=by rw [hV];exact Box.new wr [.int .i64 sf,.int .i64 st] _
      have hso:=sumsOf_c hX (RdInt64SS.onn hrd hbV) (strD_num HN.out) (by have:=strD_len d G k;have:=Hn.out;omega);rw [strD_any Hp.out.symm] at hso;have hPr:=HP5.out;have hag':=hag;have hpp:∀ {g:Nat} {cs:List Value},Box w5 g cs->g<b0->Box wr g cs:=fun {g cs} hb hlt=>boxAgr hb hag' (fun e=>by omega);have hPw:=hpp HP5.out (by omega);have hQw:=hpp HQ5.out (by omega);have j0:=hQw.cell 0 _ rfl;have j1:=hQw.cell 1 _ rfl;have hnext:TL.take (k+1)=TL.take k++[⟨toB (txI (partC c f t)),sumC sf st (strD d G k)⟩]:=by
       have e:TL[k]?=some ⟨toB (txI (partC c f t)),sumC sf st (strD d G k)⟩:=by
        rw [HTL.out,totD_at HGe.out (by have:=Hm.out;omega)];unfold totOf;rw [q3,zR,List.getD_eq_getElem?_getD,hcd];rfl
       exact yAD e
      obtain ⟨nm,hnm⟩:∃ nm,nm=toB (txI (partC c f t)):=⟨_,rfl⟩;obtain ⟨sm,hsm⟩:∃ sm,sm=sumC sf st (strD d G k):=⟨_,rfl⟩;rw [<- hsm] at hso hnext;rw [<- hnm] at hnext;have hsmb:=sumC_bd (strD_num (G:=G) (i:=k) HN.out).part;rw [<- hsm] at hsmb;have hnms:nm.size<=1000:=by rw [hnm,toB_size];unfold txI;rw [List.length_map,yAN hc01.1 hc01.2 hcols];omega
      have hsl:=strD_len d G k;have Hok:Hid (okTotal ⟨nm,sm⟩):=hid ⟨by show nm.size<=_;omega,by have:=Hn.out;show -9223372036854775808<=sm/\sm<=9223372036854775807;omega⟩;have hft:=fun (w:World) (hw:Below wr.heap.size wr w)=>fieldText_c (w:=w) f t hc01.1 hc01.2 hcols (by omega) (Rds.onn hcrd hw) hok;rw [<- hnm] at hft;have Hft:=hid hft;have Hso:=hid hso;have HV:=hid hV;have HbV:=hid hbV;have HPw:=hid hPw;have Hnext:=hid hnext;have hg0:=hccell;have Hgc:=hid hg0;have hgl2:0<hi2 - lo:=by omega
      have hlk:(TL.take k).length=k:=by
       have e:TL.length=m:=by rw [HTL.out,totD_len,<- HGe.out];exact Hm.out.symm
       rw [zI,e];omega
      have Hlk:=hid hlk;rw [hxl] at Hso hcell;clear q1 q2 q3 hse ho hbl hag hown hgw hzop zcc hrd hx hxl hin gcc hcrd hcx hccell hcd hcm hcin hV hbV hX hso hPr hag' hpp hPw hQw hnext hnm hsm hsmb hft hg0 hok hlk hsl zlt glt hcols hc01 hcl;obtain ⟨gl,hgl⟩:∃ gl,gl=hi2 - lo:=⟨_,rfl⟩;rw [<- hgl] at Hso hcell hgl2;clear hgl;obtain ⟨cl,hcl⟩:∃ cl,cl=c.length:=⟨_,rfl⟩;rw [<- hcl] at Hft Hgc;clear hcl;go_wp2_with fail;rw [<- HV.out];with_reducible refine Hso.out.mono ?_
      rintro e W9 ⟨⟨rs,rfl,hrs⟩,hb9⟩;replace hrs:=hrs (by first | trivial | rfl);obtain ⟨sb,sc,hrsv,-,-⟩:=Own.addr hrs (by simp);have hrsv:rs=.slice (some ⟨sb,0,none⟩) 1 sc:=hrsv;subst hrsv;have hbW9:Below wr.heap.size wr W9:=HbV.out.trans (hb9.mono HbV.out.size);have s0:W9.cell? ⟨sb,0,none⟩=some (.int .i64 sm):=by
       have h:=(RdI.open hrs.rds);obtain ⟨a1,a2,a3,a4⟩:=h;injection a3 with a5 a6 a7;obtain ⟨b1,b2,b3,b4,b5⟩:=a4 (by simp);rw [b3] at a5;injection a5 with a5;injection a5 with a8 a9;obtain ⟨y,y1,y2,-⟩:=b5 0 (by simp);cases y1;rw [<- a8,<- a9] at y2;simpa using y2
      have hPW9:=HPw.out.on hbW9;have p0:=hPW9.cell 0 _ rfl;have p1:=hPW9.cell 1 _ rfl;have g0:=(hbW9.cell (p:=⟨gb,go,none⟩) (World.block_lt_of_cell? _ _ Hgc.out)).trans Hgc.out;obtain ⟨ho,hbl,hag,hown⟩:=HA.out;have HO:=hid (ho.below hbW9 (zA _));have Hl:Hid ((TL.take k).length<=100):=hid (by rw [Hlk.out];omega);have Hsz:Hid (w0.heap.size<=W9.heap.size):=hid (zO hbl.size hbW9.size);have Hft9:Hid (∀ (w:World),Below W9.heap.size W9 w->Calls Tryz.prog 177 #[.agg #[.slice (some ⟨cb,co,none⟩) cl ccap],.agg #[.int .i64 f,.int .i64 t]] w fun e' w'=>e'=.returned (.string nm)/\Below w.heap.size w w'):=hid (fun w hw=>Hft.out w (hbW9.trans (hw.mono hbW9.size)));have Hfin:Hid (∀ (wx:World) (v9:Value) (w9:World),Below W9.heap.size W9 wx->Own eTotal 153 w0.heap.size w9 v9 (TL.take k++[⟨nm,sm⟩])->Grew wx w9 (.slice oo k oc) v9->TotA v9 w9 w0 w5 b0 (TL.take (k+1))):=hid (fun wx v9 w9 hwx h1 h2=>by
       have hwr:=hbW9.trans (hwx.mono hbW9.size);have ho2:=ho.below hwr (zA _);have hb2:=hbl.trans (hwr.mono hbl.size);have ha2:=hag.trans (Agr.on (S:=fun k=>k=b0) hwr) (fun k h _=>h);rw [Hnext.out];refine ⟨h1,hb2.grown h2.1 hb2.size (fun q hq=>(ho.lt q hq).1),ha2.trans (Agr.of_grown h2.1 (S:=fun k=>k=b0\/w5.heap.size<=k) (fun q hq _=>hown q hq)) (fun q hq hlt=>hq.elim id (fun h=>by omega)),?_⟩;intro q hq;rcases h2.2 with h6 | ⟨q2,h6,h7⟩
       . exact hown q (by rw [<- h6];exact hq)
       . rw [h6] at hq;cases hq
         have:=ha2.size;exact .inr (by omega))
      clear hrs hb9 hbW9 hPW9 ho hbl hag hown Hft j0 j1;have Hft:=Hft9;clear Hft9;go_upto_region 9 with fail;refine wp_region_app (W:=W9) (.slice oo k oc) 11 12 (fun i=>match i with | 0=>true | 1=>true | 2=>true | 6=>true | 7=>true | _=>false) (fun i v w=>match i with | 0=>v=.slice oo k oc | 1=>v=.slice (some ⟨gb,go,none⟩) gl rc | 2=>v=.pointer (some ⟨gb,go,none⟩) | 3=>v=.agg #[.slice (some ⟨cb,co,none⟩) cl ccap] | 4=>v=.agg #[.int .i64 f,.int .i64 t] | 5=>v=.string nm | 6=>v=.slice (some ⟨sb,0,none⟩) 1 sc | 7=>v=.pointer (some ⟨sb,0,none⟩) | 8=>v=.int .i64 sm | 9=>v=.agg #[.string nm,.int .i64 sm] | 10=>Rds eTotal w.heap.size w v [⟨nm,sm⟩] | _=>True) (fun v w=>TotA v w w0 w5 b0 (TL.take (k+1))) (fun x v w=>v=x/\TotA x w w0 w5 b0 (TL.take (k+1))) (by kernel_rfl) (by kernel_rfl) (by kernel_rfl) (by kernel_rfl) (by kernel_rfl) ?_ ?_ ?_ ?_
      . intro i v w w' h hb
        iterate 13 (obtain _ | i:=i;· first | exact h | exact Rds.onn h hb)
        exact h
      . intro i v w w' hp h
        iterate 13 (obtain _ | i:=i;· first | exact h | exact absurd hp (by decide))
        exact h
      . intro vs hvs
        match vs,hvs with
        | [v0,v1,v2,v3,v4,v5,v6,v7,v8,v9,v10,v11,v12],_ =>
         refine ⟨?_,?_,?_,?_,?_,?_,?_,?_,?_,?_,?_,?_,?_,trivial⟩
         . refine yAK ?_ ?_ ?_ ?_;exact (by decide);exact (by decide);kernel_rfl
           intro wr h0 hd;replace h0:v12=.slice oo k oc:=h0 (by kernel_rfl);subst h0;clear hd;unfold relAt;simp only [putAll];go_simp;simp only [relUpon];trivial
         . refine yAK ?_ ?_ ?_ ?_;exact (by decide);exact (by decide);kernel_rfl
           intro wr h0 hd;clear h0;clear hd;unfold relAt;simp only [putAll];go_simp;simp only [relUpon];trivial
         . refine yAK ?_ ?_ ?_ ?_;exact (by decide);exact (by decide);kernel_rfl
           intro wr h0 hd;clear h0;have d1:v1=.slice (some ⟨gb,go,none⟩) gl rc:=yAF 1 (by kernel_rfl) hd rfl;subst d1;clear hd;unfold relAt;simp only [putAll];go_simp;simp only [relUpon];trivial
         . refine yAI ?_ ?_ ?_ ?_;exact (by decide);exact (by decide);kernel_rfl
           intro wr h0 hC hd;clear h0;have d2:v2=.pointer (some ⟨gb,go,none⟩):=yAF 2 (by kernel_rfl) hd;subst d2;clear hd;have e:=(hC.cell (p:=⟨gb,go,none⟩) (World.block_lt_of_cell? _ _ g0)).trans g0;unfold relAt;simp only [putAll];go_simp;simp only [relUpon];exact ⟨zB _ _,by first | rfl | trivial⟩
         . refine yAI ?_ ?_ ?_ ?_;exact (by decide);exact (by decide);kernel_rfl
           intro wr h0 hC hd;clear h0;clear hd;have e0:=(hC.cell (p:=⟨w0.heap.size,0,none⟩) (World.block_lt_of_cell? _ _ p0)).trans p0;have e1:=(hC.cell (p:=⟨w0.heap.size,1,none⟩) (World.block_lt_of_cell? _ _ p1)).trans p1;unfold relAt;simp only [putAll];go_simp;simp only [relUpon];exact ⟨zB _ _,by first | rfl | trivial⟩
         . refine yAI ?_ ?_ ?_ ?_;exact (by decide);exact (by decide);kernel_rfl
           intro wr h0 hC hd;clear h0;have d3:v3=.agg #[.slice (some ⟨cb,co,none⟩) cl ccap]:=yAF 3 (by kernel_rfl) hd;subst d3;have d4:v4=.agg #[.int .i64 f,.int .i64 t]:=yAF 4 (by kernel_rfl) hd;subst d4;clear hd;unfold relAt;simp only [putAll];go_simp;simp only [relUpon];with_reducible refine (Hft.out wr hC).mono ?_
           rintro e w9 ⟨rfl,hb9⟩;exact ⟨_,rfl,hb9,rfl⟩
         . refine yAK ?_ ?_ ?_ ?_;exact (by decide);exact (by decide);kernel_rfl
           intro wr h0 hd;clear h0;clear hd;unfold relAt;simp only [putAll];go_simp;simp only [relUpon];trivial
         . refine yAK ?_ ?_ ?_ ?_;exact (by decide);exact (by decide);kernel_rfl
           intro wr h0 hd;clear h0;have d6:v6=.slice (some ⟨sb,0,none⟩) 1 sc:=yAF 6 (by kernel_rfl) hd rfl;subst d6;clear hd;unfold relAt;simp only [putAll];go_simp;simp only [relUpon];trivial
         . refine yAI ?_ ?_ ?_ ?_;exact (by decide);exact (by decide);kernel_rfl
           intro wr h0 hC hd;clear h0;have d7:v7=.pointer (some ⟨sb,0,none⟩):=yAF 7 (by kernel_rfl) hd;subst d7;clear hd;have e:=(hC.cell (p:=⟨sb,0,none⟩) (World.block_lt_of_cell? _ _ s0)).trans s0;unfold relAt;simp only [putAll];go_simp;simp only [relUpon];exact ⟨zB _ _,by first | rfl | trivial⟩
         . refine yAI ?_ ?_ ?_ ?_;exact (by decide);exact (by decide);kernel_rfl
           intro wr h0 hC hd;clear h0;have d5:v5=.string nm:=yAF 5 (by kernel_rfl) hd;subst d5;have d8:v8=.int .i64 sm:=yAF 8 (by kernel_rfl) hd;subst d8;clear hd;unfold relAt;simp only [putAll];go_simp;simp only [relUpon];exact ⟨zB _ _,by first | rfl | trivial⟩
         . refine yAI ?_ ?_ ?_ ?_;exact (by decide);exact (by decide);kernel_rfl
           intro wr h0 hC hd;clear h0;have d9:v9=.agg #[.string nm,.int .i64 sm]:=yAF 9 (by kernel_rfl) hd;subst d9;clear hd;unfold relAt;simp only [putAll];go_simp;simp only [relUpon];exact ⟨(zB _ _).alloc (zA _) _,(yAH (E:=eTotal) (x:=⟨nm,sm⟩) Hok.out rfl).mono (by simp)⟩
         . refine appStep_p ?_ ?_;kernel_rfl
           intro wr h0 hC hd;clear h0;have d0:v0=.slice oo k oc:=yAF 0 (by kernel_rfl) hd;subst d0;have d10:Rds eTotal wr.heap.size wr v10 [⟨nm,sm⟩]:=yAF 10 (by kernel_rfl) hd;clear hd;simp only [putAll];refine relAt_appS (E:=eTotal) _ _ 43 rfl Tryz.underlying43 hi hz0 hz1 hz2 rfl (by decide) (by kernel_rfl) (by kernel_rfl) (HO.out.below hC (zA _)) d10 ?b1 ?b2 ?b3 ?b4
           case b1=>have:=Hl.out;unfold maxLen;simp;omega
           case b2=>have:=Hl.out;simp;omega
           case b3=>have:=hC.size;have:=Hsz.out;omega
           case b4=>exact fun v9 w9 ho9 hg9=>Hfin.out wr v9 w9 hC ho9 hg9
         . refine appStep_s ?_ ?_ ?_;exact (by decide);kernel_rfl
           intro wr h0 hA hd;replace hA:TotA v11 wr w0 w5 b0 (TL.take (k+1)):=hA;clear h0;clear hd;simp only [putAll] at hA |-;unfold relAt;go_simp;simp only [relUpon];first | exact ⟨rfl,hA⟩ | exact ⟨trivial,hA⟩ | exact hA
      . intro vs wq hvs hZ hI
        match vs,hvs,hZ,hI with
        | [v0,v1,v2,v3,v4,v5,v6,v7,v8,v9,v10,v11,v12],_,hZ,hI =>
         replace hZ:v12=v11/\TotA v11 wq w0 w5 b0 (TL.take (k+1)):=hZ;have d0:v0=.slice oo k oc:=hI 0 (by decide) rfl;subst d0;have d1:v1=.slice (some ⟨gb,go,none⟩) gl rc:=hI 1 (by decide) rfl;subst d1;have d2:v2=.pointer (some ⟨gb,go,none⟩):=hI 2 (by decide) rfl;subst d2;have d6:v6=.slice (some ⟨sb,0,none⟩) 1 sc:=hI 6 (by decide) rfl;subst d6;have d7:v7=.pointer (some ⟨sb,0,none⟩):=hI 7 (by decide) rfl;subst d7;clear hI;simp only [putAll];go_simp;obtain ⟨hzv,hZ⟩:=hZ;subst hzv;obtain ⟨ao9,c9,hv9⟩:=hZ.1.shape;rw [show (TL.take (k+1)).length=k+1 from by rw [Hnext.out,zE,Hlk.out];rfl] at hv9;subst hv9;have HZ:=hid hZ;clear hZ;go_wp2;go_roundw
         case rel=>exact ⟨k+1,_,_,by omega,by go_num,rfl,HZ⟩
         case measure=>simp [intOf];omega
    . obtain rfl:k=m:=by omega
      obtain ⟨ho,hbl,hag,hown⟩:=HA.out;have hTlen:TL.length=k:=by rw [HTL.out,totD_len,<- HGe.out];exact Hm.out.symm
      rw [zH (by omega)] at ho;have hF:Own eTotal 153 w0.heap.size wr (.slice oo k oc) TL:=ho;have HF:=hid hF;have HB:=hid hbl;clear hF hbl hag hown ho hTlen;go_wp2;go_ret2;exact ⟨⟨_,by rw [HE.out];rfl,fun _=>HF.out⟩,HB.out⟩
theorem deck_of {d d':List (List Int)} (h:∀ c∈d',c∈d) (hl:d'.length<=40) (hd:deckB d=true):deckB d'=true/\(d'=[]\/(d ≠ []/\colsD d'=colsD d)):=by
 have hp:=(yAE hd).2;cases d' with
 | nil=>exact ⟨rfl,.inl rfl⟩
 | cons c r =>
  have h1:=hp c (h c (List.mem_cons_self ..));refine ⟨?_,.inr ⟨fun e=>?_,?_⟩⟩
  . unfold deckB
    rw [Bool.and_eq_true,decide_eq_true_eq,List.all_eq_true];refine ⟨fun y hy=>?_,hl⟩;have h2:=hp y (h y hy);unfold okAt;rw [Bool.and_eq_true,decide_eq_true_eq];exact ⟨h2.1,by show y.length=c.length;rw [h2.2,h1.2]⟩
  . have:=h c (List.mem_cons_self ..)
    rw [e] at this;cases this
  . have h0:d ≠ []:=fun e=>by have:=h c (List.mem_cons_self ..);rw [e] at this;cases this
    unfold colsD;rw [if_neg (by simp),if_neg h0];show ((c.length:Nat):Int)=_
    rw [h1.2]
theorem ordD_rng (d:List (List Int)) (f t:Int):(∀ z∈ordD d f t,∃ k:Nat,k<d.length/\z=(k:Int))/\(ordD d f t).length<=d.length:=by
 unfold ordD;split
 . rename_i h
   have h1:=h.choose_spec.1;refine ⟨fun z hz=>yBJ d.length z (h1.mem_iff.1 hz),?_⟩;rw [h1.length_eq,yBK];exact zA _
 . exact ⟨fun z hz=>absurd hz (by simp),zK _⟩
theorem pickD_mem {d:List (List Int)} {Z:List Int} (h:∀ z∈Z,∃ k:Nat,k<d.length/\z=(k:Int)):∀ c∈pickD d Z,c∈d:=by
 intro c hc;unfold pickD at hc;obtain ⟨z,hz,rfl⟩:=List.mem_map.1 hc;obtain ⟨k,hk,rfl⟩:=h z hz;rw [zR,List.getD_eq_getElem?_getD,zF hk];exact List.getElem_mem hk
theorem pickD_len (d:List (List Int)) (Z:List Int):(pickD d Z).length=Z.length:=by unfold pickD;simp
theorem firD_mem {d:List (List Int)} {f t:Int}:(∀ c∈firD d f t,c∈d)/\(firD d f t).length<=d.length:=by
 unfold firD;refine ⟨pickD_mem (fun z hz=>?_),by rw [pickD_len];exact yBM _ _⟩;obtain ⟨k,h1,h2,-⟩:=selI_rng _ _ z hz;exact ⟨k,h1,h2⟩
theorem colO_of {C:Int}:∀ {ts:List (List (List Int))},(∀ d∈ts,d=[]\/colsD d=C)->(∀ d∈ts,d=[])\/colO ts=C
 | [],_=>.inl (fun d hd=>by cases hd)
 | [] :: ts,h=>by
  rcases colO_of (fun d hd=>h d (List.mem_cons_of_mem _ hd)) with e | e
  . exact .inl (fun d hd=>by rcases List.mem_cons.1 hd with rfl | hd;exact rfl;exact e d hd)
  . exact .inr e
 | (c :: r) :: ts,h=>by
  rcases h (c :: r) (List.mem_cons_self ..) with e | e
  . cases e
  . exact .inr (by rw [<- e];rfl)
theorem offB_mk {o:OffT} {C:Int} (h6:o.trays.length=6) (h20:o.totals.length<=20) (h:∀ d∈o.trays,deckB d=true/\(d=[]\/colsD d=C)):offB o=true:=by
 unfold offB;rw [decide_eq_true h6,decide_eq_true h20,Bool.true_and,Bool.true_and,List.all_eq_true];intro d hd;have h1:=h d hd;rw [Bool.and_eq_true];refine ⟨h1.1,?_⟩;rw [Bool.or_eq_true,decide_eq_true_iff,decide_eq_true_iff];rcases colO_of (fun d hd=>(h d hd).2) with e | e
 . exact .inl (e d hd)
 . rcases h1.2 with e2 | e2
   . exact .inl e2
   . exact .inr (by rw [e2,e])
theorem merge_ok {a b:List (List Int)} {f t:Int} (h:merC a b f t=0):TwoOk a b f t/\a.length+b.length<=40/\(a ≠ []->b ≠ []->colsD a=colsD b):=by
 unfold merC at h;by_cases h1:twoC a b f t ≠ 0
 . rw [if_pos h1] at h;exact absurd h h1
 . rw [if_neg h1] at h
   by_cases h2:(0<a.length/\0<b.length)/\colsD a ≠ colsD b
   . rw [if_pos h2] at h;cases h
   . rw [if_neg h2] at h
     by_cases h3:¬ (ascB a f t=true/\ascB b f t=true)
     . rw [if_pos h3] at h;cases h
     . rw [if_neg h3] at h
       by_cases h4:40<a.length+b.length
       . rw [if_pos h4] at h;cases h
       . refine ⟨twoC_zero (by simpa using h1),by omega,fun ha hb=>Classical.byContradiction fun hc=>h2 ⟨⟨List.length_pos_iff.2 ha,List.length_pos_iff.2 hb⟩,hc⟩⟩
theorem deck_app {a b:List (List Int)} (ha:deckB a=true) (hb:deckB b=true) (hl:a.length+b.length<=40) (hc:a ≠ []->b ≠ []->colsD a=colsD b):deckB (a++b)=true/\(a++b=[]\/(a ≠ []/\colsD (a++b)=colsD a)\/(b ≠ []/\colsD (a++b)=colsD b)):=by
 cases a with
 | nil =>
  refine ⟨hb,?_⟩;by_cases h0:b=[]
  . exact .inl (by rw [h0];rfl)
  . exact .inr (.inr ⟨h0,rfl⟩)
 | cons c r =>
  refine ⟨?_,.inr (.inl ⟨by simp,rfl⟩)⟩;unfold deckB;rw [Bool.and_eq_true,decide_eq_true_eq,List.all_eq_true];refine ⟨fun y hy=>?_,by rw [zE];exact hl⟩;unfold okAt;rw [Bool.and_eq_true,decide_eq_true_eq];show cardB y=true/\y.length=c.length
  rcases List.mem_append.1 hy with h | h
  . exact (yAE ha).2 y h
  . have h1:=(yAE hb).2 y h
    have h0:b ≠ []:=fun e=>by rw [e] at h;cases h
    have h2:=hc (by simp) h0;unfold colsD at h2;rw [if_neg (by simp),if_neg h0] at h2;exact ⟨h1.1,by rw [h1.2];show _=c.length;have h3:((c.length:Nat):Int)=(b.headD []).length:=h2;omega⟩
theorem dk_ok {o:OffT} {x:StepT} {C:Int} (h6:o.trays.length=6) (h:∀ d∈o.trays,deckB d=true/\(d=[]\/colsD d=C)) (hA:trayP x.ta) (hB:trayP x.tb) (hc:dkC o x=0):deckB (dkD o x)=true/\(dkD o x=[]\/colsD (dkD o x)=C):=by
 have ha:=h _ (zC (trD_at h6 hA));have hb:=h _ (zC (trD_at h6 hB));have hal:=(yAE ha.1).1;have sub:∀ d',(∀ c∈d',c∈trD o x.ta)->d'.length<=(trD o x.ta).length->deckB d'=true/\(d'=[]\/colsD d'=C):=by
  intro d' h1 h2;have h3:=deck_of h1 (by omega) ha.1;refine ⟨h3.1,?_⟩;rcases h3.2 with e | ⟨e1,e2⟩
  . exact .inl e
  . rcases ha.2 with e3 | e3
    . exact absurd e3 e1
    . exact .inr (by rw [e2,e3])
 unfold dkC at hc;unfold dkD;by_cases k1:x.kd=1
 . rw [if_pos k1]
   exact sub _ (pickD_mem (ordD_rng _ _ _).1) (by rw [pickD_len];exact (ordD_rng _ _ _).2)
 . rw [if_neg k1] at hc |-
   by_cases k2:x.kd=2
   . rw [if_pos k2] at hc |-
     obtain ⟨m1,m2,m3⟩:=merge_ok hc;have h3:=deck_app ha.1 hb.1 m2 m3;have h4:=deck_of (d':=pickD (trD o x.ta++trD o x.tb) (ordD (trD o x.ta++trD o x.tb) x.ff x.ft)) (pickD_mem (ordD_rng _ _ _).1) (by rw [pickD_len];have:=(ordD_rng (trD o x.ta++trD o x.tb) x.ff x.ft).2;rw [zE] at this;omega) h3.1;refine ⟨h4.1,?_⟩;rcases h4.2 with e | ⟨e1,e2⟩
     . exact .inl e
     . rcases h3.2 with e3 | ⟨e3,e4⟩ | ⟨e3,e4⟩
       . exact absurd e3 e1
       . rcases ha.2 with e5 | e5
         . exact absurd e5 e3
         . exact .inr (by rw [e2,e4,e5])
       . rcases hb.2 with e5 | e5
         . exact absurd e5 e3
         . exact .inr (by rw [e2,e4,e5])
   . rw [if_neg k2] at hc |-
     by_cases k5:x.kd=5
     . rw [if_pos k5]
       exact sub _ (fun c hc=>(List.mem_filter.1 hc).1) (List.length_filter_le _ _)
     . rw [if_neg k5] at hc |-
       by_cases k6:x.kd=6
       . rw [if_pos k6]
         exact sub _ firD_mem.1 firD_mem.2
       . rw [if_neg k6] at hc |-
         by_cases k3:x.kd=3
         . rw [if_pos k3]
           exact sub _ (fun c hc=>(List.mem_filter.1 hc).1) (List.length_filter_le _ _)
         . rw [if_neg k3]
           exact sub _ (fun c hc=>(List.mem_filter.1 hc).1) (List.length_filter_le _ _)
theorem stp_st {o:OffT} {x:StepT} (hc:stpC o x=0):StOk x (colO o.trays):=by
 unfold stpC at hc;cases hs:stB x (colO o.trays) with
 | false=>rw [if_pos hs] at hc;cases hc
 | true=>exact of_decide_eq_true hs
theorem stp_ok {o:OffT} {x:StepT} (hv:offB o=true) (hc:stpC o x=0):offB (stpD o x)=true:=by
 have hp:=offB_parts hv;have hs:=stp_st hc;unfold stpC at hc;rw [if_neg (by rw [show stB x (colO o.trays)=true from decide_eq_true hs];decide)] at hc;unfold stpD;by_cases h7:x.kd=7
 . rw [if_pos h7] at hc |-
   by_cases h20:o.totals.length=20
   . rw [if_pos h20] at hc;cases hc
   . exact offB_mk (C:=colO o.trays) hp.1 (by show (o.totals++[_]).length<=20;rw [zE];simp;omega) hp.2.2
 . rw [if_neg h7] at hc |-
   have hd:=dk_ok hp.1 hp.2.2 hs.ta hs.tb hc;refine offB_mk (C:=colO o.trays) (by show (o.trays.set _ _).length=6;rw [List.length_set];exact hp.1) hp.2.1 (fun d hdm=>?_);rcases List.mem_or_eq_of_mem_set hdm with h | h
   . exact hp.2.2 d h
   . rw [h];exact hd
def LensOk (o:OffT):Prop:=∀ l∈o.totals,l.length<=2097152
theorem stp_lens {o:OffT} {x:StepT} (hv:offB o=true) (hl:LensOk o) (hc:stpC o x=0):LensOk (stpD o x):=by
 have hp:=offB_parts hv;have hs:=stp_st hc;unfold stpD;by_cases h7:x.kd=7
 . rw [if_pos h7]
   intro l hm;rcases List.mem_append.1 hm with h | h
   . exact hl l h
   . have e:l=totD (trD o x.ta) x.ff x.ft x.sf x.st:=by simpa using h
     have h1:=yBM (grpP (trD o x.ta) x.ff x.ft) (trD o x.ta).length;have h2:=(yAE (hp.2.2 _ (zC (trD_at hp.1 hs.ta))).1).1;rw [e,totD_len];omega
 . rw [if_neg h7];exact hl
theorem copy_of {o:OffT} (hv:offB o=true) (hl:LensOk o):o.trays.length<=1000/\(∀ d∈o.trays,RowsOk d)/\o.totals.length<=1000:=by
 have hp:=offB_parts hv;exact ⟨by rw [hp.1];omega,fun d hd=>yAV (hp.2.2 d hd).1,by omega⟩
noncomputable def runP:OffT->List StepT->OffT × Nat
 | o,[]=>(o,0)
 | o,x :: xs=>if stpC o x=0 then ((runP (stpD o x) xs).1,(runP (stpD o x) xs).2+1) else (o,0)
theorem runP_le:∀ (o:OffT) (xs:List StepT),(runP o xs).2<=xs.length
 | o,[]=>zA _
 | o,x :: xs=>by
  unfold runP;split
  . have:=runP_le (stpD o x) xs
    simp only [List.length_cons];omega
  . exact zK _
theorem runP_cons (o:OffT) (x:StepT) (xs:List StepT):runP o (x :: xs)=if stpC o x=0 then ((runP (stpD o x) xs).1,(runP (stpD o x) xs).2+1) else (o,0):=rfl
theorem runP_at {o:OffT} {xs:List StepT} {k:Nat} {x:StepT} (h:xs[k]?=some x):runP o (xs.drop k)=if stpC o x=0 then ((runP (stpD o x) (xs.drop (k+1))).1,(runP (stpD o x) (xs.drop (k+1))).2+1) else (o,0):=by
 obtain ⟨h1,e⟩:=zS.1 h;rw [List.drop_eq_getElem_cons h1,e];rfl
theorem runP_end {o:OffT} {xs:List StepT} {k:Nat} (h:xs.length<=k):runP o (xs.drop k)=(o,0):=by rw [List.drop_eq_nil_of_le h];rfl
structure SpecT where
 wf:Int
 wt:Int
 tx:ByteArray
 gf:Int
 gt:Int
 sf:Int
 st:Int
def Spec13 (x:SpecT):Prop:=(x.gf=0/\x.gt=1/\x.sf=1/\x.st=3\/x.gf=1/\x.gt=2/\x.sf=3/\x.st=5) /\
 (x.tx.size=0/\x.wf=0/\x.wt=0\/x.tx.size=1/\chS x.tx=true/\(x.wf=0/\x.wt=1\/x.wf=2/\x.wt=3))
def selX (x:SpecT) (d:List (List Int)):List (List Int):=if x.tx.size=0 then d else d.filter (fun y=>!outB x.wf x.wt x.tx x.tx y)
noncomputable def srtX (x:SpecT) (d:List (List Int)):List (List Int):=pickD (selX x d) (ordD (selX x d) x.gf x.gt)
noncomputable def totX (x:SpecT) (d:List (List Int)):List TotalT:=totD (srtX x d) x.gf x.gt x.sf x.st
def stSel (x:SpecT):StepT:=⟨5,0,0,1,x.wf,x.wt,0,0,x.tx⟩
def stSrt (x:SpecT) (k:Int):StepT:=⟨1,k,0,2,x.gf,x.gt,0,0,⟨#[]⟩⟩
def stTot (x:SpecT):StepT:=⟨7,2,0,0,x.gf,x.gt,x.sf,x.st,⟨#[]⟩⟩
def flowX (x:SpecT):List StepT:=if x.tx.size=0 then [stSrt x 0,stTot x] else [stSel x,stSrt x 1,stTot x]
def offD (d:List (List Int)):OffT:=⟨[d,[],[],[],[],[]],[]⟩
theorem Deck13.sub {d e:List (List Int)} (h:Deck13 d) (hl:e.length<=d.length) (hm:∀ c∈e,c∈d):Deck13 e:=⟨zO hl h.1,fun c hc=>h.2 c (hm c hc)⟩
theorem Deck13.sel {d:List (List Int)} (h:Deck13 d) (x:SpecT):Deck13 (selX x d):=by
 unfold selX;split
 . exact h
 . exact h.sub (List.length_filter_le _ _) (fun c hc=>(List.mem_filter.1 hc).1)
theorem Deck13.srt {d:List (List Int)} (h:Deck13 d) (x:SpecT):Deck13 (srtX x d) :=
 (h.sel x).sub (by unfold srtX;rw [pickD_len];exact (ordD_rng _ _ _).2) (pickD_mem (ordD_rng _ _ _).1)
theorem Deck13.cols {d:List (List Int)} (h:Deck13 d):d=[]\/colsD d=5:=by
 cases d with
 | nil=>exact .inl rfl
 | cons c r =>
  refine .inr ?_;unfold colsD;rw [if_neg (by simp)];show ((c.length:Nat):Int)=5
  rw [(h.2 c (by simp)).holes.1];rfl
theorem Deck13.cols5 {d:List (List Int)} (h:Deck13 d):5<=colsD d:=by
 rcases h.cols with rfl | e
 . decide
 . omega
theorem Deck13.field {d:List (List Int)} (h:Deck13 d) {f t:Int} (hf:0<=f/\f<t/\t<=5):fieldP f t (colsD d):=⟨hf.1,hf.2.1,by have:=h.cols5;omega⟩
theorem Deck13.has {d:List (List Int)} (h:Deck13 d) {f t:Int} (hf:f=0/\t=1\/f=1/\t=2\/f=2/\t=3):hasD d f t=true:=by
 unfold hasD;have e:d.any (notF f t)=false:=List.any_eq_false.2 fun c hc=>by
  have hch:=(h.2 c hc).chars;unfold notF;rcases hf with ⟨rfl,rfl⟩ | ⟨rfl,rfl⟩ | ⟨rfl,rfl⟩
  . rw [hch.1];decide
  . rw [hch.2.1];decide
  . rw [hch.2.2];decide
 rw [e];rfl
theorem Deck13.sortC {d:List (List Int)} (h:Deck13 d) {f t:Int} (hf:f=0/\t=1\/f=1/\t=2\/f=2/\t=3):sortC d f t=0:=by
 unfold Go.Proofs.YtmindpfmgnnieaaGreatDoor.sortC;rw [if_neg (by rw [h.ok];decide),if_neg (fun e=>e (h.field (by omega))),if_neg (by rw [h.has hf];decide)]
theorem Deck13.totC {d:List (List Int)} (h:Deck13 d) {f t sf st:Int} (hf:f=0/\t=1\/f=1/\t=2\/f=2/\t=3) (hs:sf=1/\st=3\/sf=3/\st=5):totC d f t sf st=0:=by
 unfold Go.Proofs.YtmindpfmgnnieaaGreatDoor.totC;have e:d.any (noNum sf st)=false:=List.any_eq_false.2 fun c hc=>by
  have hn:=(h.2 c hc).nums;rcases hs with ⟨rfl,rfl⟩ | ⟨rfl,rfl⟩
  . rw [hn.1];decide
  . rw [hn.2];decide
 rw [if_neg];rw [e,h.has hf];simp
theorem Deck13.selC {d:List (List Int)} (h:Deck13 d) {f t:Int} {s:ByteArray} (hf:f=0/\t=1\/f=1/\t=2\/f=2/\t=3) (hs:s.size=1) (hc:chS s=true):selC d f t s s=0:=by
 unfold Go.Proofs.YtmindpfmgnnieaaGreatDoor.selC colC;have e1:([d]:List (List (List Int))).any badD=false:=by simp [badD,h.ok]
 have e2:([d]:List (List (List Int))).any (badW f t)=false:=by
  have:=h.field (f:=f) (t:=t) (by omega);simp only [List.any_cons,List.any_nil,Bool.or_false];unfold badW;rw [decide_eq_true this];rfl
 have e3:[s,s].any (badL f t)=false:=by
  have:(s.size:Int)=t - f:=by omega
  simp [badL,this]
 have e4:[s,s].any badC=false:=by simp [badC,hc]
 have e5:([d]:List (List (List Int))).any (badH f t)=false:=by simp [badH,h.has hf]
 rw [if_neg (by rw [e1];decide),if_neg (by rw [e2];decide),if_neg (by rw [e3];decide),if_neg (by rw [e4];decide),if_neg (by rw [e5];decide)]
theorem Spec13.grp {x:SpecT} (h:Spec13 x):(x.gf=0/\x.gt=1\/x.gf=1/\x.gt=2\/x.gf=2/\x.gt=3)/\(x.sf=1/\x.st=3\/x.sf=3/\x.st=5):=by
 rcases h.1 with ⟨a,b,c,d⟩ | ⟨a,b,c,d⟩
 . exact ⟨.inl ⟨a,b⟩,.inl ⟨c,d⟩⟩
 . exact ⟨.inr (.inl ⟨a,b⟩),.inr ⟨c,d⟩⟩
theorem Spec13.whr {x:SpecT} (h:Spec13 x) (h0:¬ x.tx.size=0):x.tx.size=1/\chS x.tx=true/\(x.wf=0/\x.wt=1\/x.wf=1/\x.wt=2\/x.wf=2/\x.wt=3):=by
 rcases h.2 with ⟨a,-⟩ | ⟨a,b,c⟩
 . exact absurd a h0
 . exact ⟨a,b,c.elim .inl (fun e=>.inr (.inr e))⟩
theorem Spec13.sel_ok {x:SpecT} (h:Spec13 x) (h0:¬ x.tx.size=0) {w:Int} (hw:5<=w):stB (stSel x) w=true:=by
 obtain ⟨h1,h2,h3⟩:=h.whr h0;refine stB_yes ⟨⟨by simp [stSel,stSrt,stTot],by simp [stSel,stSrt,stTot]⟩,⟨by simp [stSel,stSrt,stTot],by simp [stSel,stSrt,stTot]⟩,⟨by simp [stSel,stSrt,stTot],by simp [stSel,stSrt,stTot]⟩,⟨by simp [stSel,stSrt,stTot],by simp [stSel,stSrt,stTot]⟩,.inl rfl,.inr (by simp [stSel,stSrt,stTot]),?_,fun e=>absurd e (by simp [stSel,stSrt,stTot]),fun _=>⟨rfl,rfl⟩,fun _=>⟨h2,?_⟩,fun e=>absurd rfl e⟩
 . show fieldP x.wf x.wt w
   unfold fieldP;omega
 . show (x.tx.size:Int)=x.wt - x.wf
   omega
theorem Spec13.srt_ok {x:SpecT} (h:Spec13 x) {k:Int} (hk:k=0\/k=1) {w:Int} (hw:5<=w):stB (stSrt x k) w=true:=by
 have h1:=h.grp.1;refine stB_yes ⟨⟨by simp [stSel,stSrt,stTot],by simp [stSel,stSrt,stTot]⟩,?_,⟨by simp [stSel,stSrt,stTot],by simp [stSel,stSrt,stTot]⟩,⟨by simp [stSel,stSrt,stTot],by simp [stSel,stSrt,stTot]⟩,.inl rfl,.inr (by simp [stSel,stSrt,stTot]),?_,fun e=>absurd e (by simp [stSel,stSrt,stTot]),fun _=>⟨rfl,rfl⟩,fun e=>absurd e (by simp [stSel,stSrt,stTot]),fun _=>rfl⟩
 . show trayP k
   unfold trayP;omega
 . show fieldP x.gf x.gt w
   unfold fieldP;omega
theorem Spec13.tot_ok {x:SpecT} (h:Spec13 x) {w:Int} (hw:5<=w):stB (stTot x) w=true:=by
 have h1:=h.grp;refine stB_yes ⟨⟨by simp [stSel,stSrt,stTot],by simp [stSel,stSrt,stTot]⟩,⟨by simp [stSel,stSrt,stTot],by simp [stSel,stSrt,stTot]⟩,⟨by simp [stSel,stSrt,stTot],by simp [stSel,stSrt,stTot]⟩,⟨by simp [stSel,stSrt,stTot],by simp [stSel,stSrt,stTot]⟩,.inl rfl,.inl rfl,?_,fun _=>⟨?_,?_⟩,fun e=>absurd rfl e,fun e=>absurd e (by simp [stSel,stSrt,stTot]),fun _=>rfl⟩
 . show fieldP x.gf x.gt w
   unfold fieldP;omega
 . show fieldP x.sf x.st w
   unfold fieldP;omega
 . show x.st - x.sf<=12
   omega
theorem flowX_ok {x:SpecT} (h:Spec13 x) {w:Int} (hw:5<=w):flB (flowX x) w=true/\(flowX x).length<=3:=by
 unfold flowX;by_cases h0:x.tx.size=0
 . rw [if_pos h0]
   refine ⟨?_,by simp⟩;unfold flB;simp [badS,h.srt_ok (.inl rfl) hw,h.tot_ok hw]
 . rw [if_neg h0]
   refine ⟨?_,by simp⟩;unfold flB;simp [badS,h.sel_ok h0 hw,h.srt_ok (.inr rfl) hw,h.tot_ok hw]
theorem colO_13:∀ {ts:List (List (List Int))},(∀ d∈ts,Deck13 d)->5<=colO ts
 | [],_=>by unfold colO;omega
 | [] :: ts,h=>by unfold colO;exact colO_13 (fun d hd=>h d (List.mem_cons_of_mem _ hd))
 | (c :: r) :: ts,h=>by
  unfold colO;have h1:=((h (c :: r) (List.mem_cons_self ..)).2 c (List.mem_cons_self ..)).holes.1;omega
theorem nil13:Deck13 []:=⟨by simp,fun c hc=>by cases hc⟩
theorem six13 {a b c:List (List Int)} (ha:Deck13 a) (hb:Deck13 b) (hc:Deck13 c):∀ d∈([a,b,c,[],[],[]]:List (List (List Int))),Deck13 d:=fun d hd=>by
 simp only [List.mem_cons,List.not_mem_nil,or_false] at hd;rcases hd with rfl | rfl | rfl | rfl | rfl | rfl
 . exact ha
 . exact hb
 . exact hc
 . exact nil13
 . exact nil13
 . exact nil13
theorem run_tail {x:SpecT} {d a b:List (List Int)} {k:Int} (h:Spec13 x) (hd:Deck13 d) (ha:Deck13 a) (hb:Deck13 b) (hk:k=0\/k=1) (ht:([a,b,[],[],[],[]]:List (List (List Int))).getD k.toNat []=selX x d) :
 runP ⟨[a,b,[],[],[],[]],[]⟩ [stSrt x k,stTot x]=(⟨[a,b,srtX x d,[],[],[]],[totX x d]⟩,2):=by
 have hg:=h.grp;have hS:=hd.sel x;have e1:stpC ⟨[a,b,[],[],[],[]],[]⟩ (stSrt x k)=0:=by
  unfold stpC;rw [if_neg (by rw [h.srt_ok hk (colO_13 (six13 ha hb nil13))];decide),if_neg (by simp [stSrt])];show (if (1:Int)=1 then Go.Proofs.YtmindpfmgnnieaaGreatDoor.sortC (([a,b,[],[],[],[]]:List (List (List Int))).getD k.toNat []) x.gf x.gt else _)=0
  rw [if_pos rfl,ht];exact hS.sortC hg.1
 have e2:stpD ⟨[a,b,[],[],[],[]],[]⟩ (stSrt x k)=⟨[a,b,srtX x d,[],[],[]],[]⟩:=by
  unfold stpD;rw [if_neg (by simp [stSrt])];have e3:dkD ⟨[a,b,[],[],[],[]],[]⟩ (stSrt x k)=srtX x d:=by
   unfold dkD;rw [if_pos (show (stSrt x k).kd=1 from rfl)];show pickD (([a,b,[],[],[],[]]:List (List (List Int))).getD k.toNat []) (ordD (([a,b,[],[],[],[]]:List (List (List Int))).getD k.toNat []) x.gf x.gt)=_
   rw [ht];rfl
  rw [e3];rfl
 have e4:stpC ⟨[a,b,srtX x d,[],[],[]],[]⟩ (stTot x)=0:=by
  unfold stpC;rw [if_neg (by rw [h.tot_ok (colO_13 (six13 ha hb (hd.srt x)))];decide),if_pos (show (stTot x).kd=7 from rfl),if_neg (by simp)];exact (hd.srt x).totC hg.1 hg.2
 rw [runP_cons,if_pos e1,e2,runP_cons,if_pos e4];rfl
theorem run_flow {x:SpecT} {d:List (List Int)} (h:Spec13 x) (hd:Deck13 d):(runP (offD d) (flowX x)).2=(flowX x).length/\(runP (offD d) (flowX x)).1.totals=[totX x d]:=by
 unfold flowX offD;by_cases h0:x.tx.size=0
 . rw [if_pos h0,run_tail h hd hd nil13 (.inl rfl) (by unfold selX;rw [if_pos h0];rfl)]
   exact ⟨rfl,rfl⟩
 . rw [if_neg h0]
   obtain ⟨h1,h2,h3⟩:=h.whr h0;have es:selX x d=d.filter (fun y=>!outB x.wf x.wt x.tx x.tx y):=by unfold selX;rw [if_neg h0]
   have e1:stpC ⟨[d,[],[],[],[],[]],[]⟩ (stSel x)=0:=by
    unfold stpC;rw [if_neg (by rw [h.sel_ok h0 (colO_13 (six13 hd nil13 nil13))];decide),if_neg (by simp [stSel])];exact hd.selC h3 h1 h2
   have e2:stpD ⟨[d,[],[],[],[],[]],[]⟩ (stSel x)=⟨[d,selX x d,[],[],[],[]],[]⟩:=by
    unfold stpD;rw [if_neg (by simp [stSel]),es];rfl
   rw [runP_cons,if_pos e1,e2,run_tail h hd hd (hd.sel x) (.inr rfl) rfl];exact ⟨rfl,rfl⟩
theorem offD_ok {d:List (List Int)} (h:Deck13 d):offB (offD d)=true/\LensOk (offD d):=by
 have h6:=six13 h nil13 nil13;refine ⟨offB_mk (C:=5) rfl (by simp [offD]) (fun e he=>⟨(h6 e he).ok,(h6 e he).cols⟩),fun l hl=>by cases hl⟩
end Go.Proofs.YtmindpfmgnnieaaGreatDoor
