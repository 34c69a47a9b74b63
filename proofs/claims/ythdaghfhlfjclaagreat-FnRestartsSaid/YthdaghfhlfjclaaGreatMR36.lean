/- Lemmas on the way to the law FnRestarts. No condition. -/
import Derived.Test.YthdaghfhlfjclaaGreatMR34
import Derived.Test.YthdaghfhlfjclaaGreatMR29
import Derived.Test.YthdaghfhlfjclaaGreatMR35
import Derived.Test.YthdaghfhlfjclaaGreatMR32
import Derived.Test.YthdaghfhlfjclaaGreatMR22
namespace Go.Proofs.YthdaghfhlfjclaaGreat
set_option maxHeartbeats 8000000
set_option linter.unusedSimpArgs false
open Lib (hid)
open Go.ChangeShapes Go.WideShapes Go.ChangeAt Go.RowKit Go.Sort
set_option linter.unusedVariables false
set_option maxRecDepth 100000
theorem Own.rebase {α:Type} {E:Elt α} {e:TypeId} {base base':Nat} {w:World} {v:Value} {xs:List α} (h:Own E e base w v xs) (hb:∀ q,v.ownBlock=some q->base'<=q):Own E e base' w v xs:=by
 refine ⟨⟨h.1.1,?_⟩,h.2⟩;rcases h.1.2 with h0 | ⟨g,cap,cur,rfl,-,rest⟩
 . exact .inl h0
 . exact .inr ⟨g,cap,cur,rfl,hb g rfl,rest⟩
section
variable {β:Type} {Q:(Nat->Prop)->World->Value->List β->Prop} {e:TypeId} {S:Nat->Prop} {w w':World} {u v:Value} {xs:List (List β)}
theorem OwnL.empty {base:Nat} (h:Own eS e base w v []) (hS:∀ q,v.ownBlock=some q->S q):OwnL Q e S w v [] :=
 ⟨[],fun _ _=>False,h.mono (zK _),hS,rfl,fun i h x e1=>(by simp at e1),fun i hi=>(by simp at hi),fun i j hi=>(by simp at hi)⟩
theorem OwnL.own (h:OwnL Q e S w v xs):∀ q,v.ownBlock=some q->S q/\q<w.heap.size:=by
 obtain ⟨hs,T,h1,h2,h3,h4,h5,h6⟩:=h;exact fun q hq=>⟨h2 q hq,(h1.lt q hq).2⟩
theorem OwnL.app (K:RowO Q) (h:OwnL Q e S w u xs) (hlt:∀ k,S k->k<w.heap.size):∃ hs,Own eS e 0 w u hs/\hs.length=xs.length /\
 ∀ (w1:World) (hx:SlV) (x:List β),Below w.heap.size w w1->Q (fun k=>w.heap.size<=k/\k<w1.heap.size) w1 hx.val x->∀ (w':World) (u':Value),Own eS e 0 w' u' (hs++[hx])->Grew w1 w' u u' ->
  OwnL Q e (fun k=>S k\/(w.heap.size<=k/\k<w'.heap.size)) w' u' (xs++[x])/\Agr (fun k=>u.ownBlock=some k) w w':=by
 obtain ⟨hs,T,h1,h2,h3,h4,h5,h6⟩:=h;refine ⟨hs,h1,h3,fun w1 hx x hb hq w' u' ho hg=>?_⟩;have hA1:Agr (fun _=>False) w w1:=Agr.on hb;have hA2:Agr (fun k=>u.ownBlock=some k) w1 w':=Agr.of_grown hg.1 (fun k hk _=>hk);have hA:Agr (fun k=>u.ownBlock=some k) w w':=⟨hA2.os.trans hA1.os,hA2.tape.trans hA1.tape,hA2.output.trans hA1.output,zO hA1.size hA2.size,fun k hk hn=>(hA2.block k (zM hk hA1.size) hn).trans (hA1.block k hk (fun e=>e))⟩;have hu:∀ k,u.ownBlock=some k->k<w.heap.size:=fun k hk=>(h1.lt k hk).2;have hown:∀ k,u'.ownBlock=some k->u.ownBlock=some k\/w1.heap.size<=k:=fun k hk=>by
  rcases hg.2 with e | ⟨q,e,hq⟩
  . exact .inl (by rw [<- e];exact hk)
  . rw [e] at hk;cases hk;exact .inr hq
 have hs1:=hb.size;have hs2:=hA2.size;refine ⟨OwnL.snoc (u:=u) (T:=T) (Tn:=fun k=>w.heap.size<=k/\k<w1.heap.size) K h3 (fun i y z e1 e2=>K.agr (h4 i y z e1 e2) hA (fun k hk he=>(h5 i (yBK e2) k hk).2 he)) (fun i hi k hk=>⟨.inl (h5 i hi k hk).1,fun he=>?_⟩) h6 ho (fun q hq=>?_) (K.agr hq hA2 (fun k hk he=>by have:=hu k he;omega)) (fun k hk=>⟨.inr ⟨hk.1,by omega⟩,fun he=>?_⟩) (fun i hi k hk hn=>?_),hA⟩
 . rcases hown k he with h | h
   . exact (h5 i hi k hk).2 h
   . have:=hlt k (h5 i hi k hk).1;omega
 . rcases hown q hq with h | h
   . exact .inl (h2 q h)
   . exact .inr ⟨by omega,(ho.lt q hq).2⟩
 . rcases hown k he with h | h
   . have:=hu k h;omega
   . omega
 . have:=hlt k (h5 i hi k hk).1;omega
end
theorem OwnO.sub {S S':Nat->Prop} {w:World} {u v:Value} {o:OffT} (h:OwnO S w u v o) (hs:∀ k,S k->S' k):OwnO S' w u v o:=by
 obtain ⟨Su,Sv,h1,h2,h3,h4,h5⟩:=h;exact ⟨Su,Sv,h1,h2,fun k hk=>hs k (h3 k hk),fun k hk=>hs k (h4 k hk),h5⟩
theorem OwnO.own {S:Nat->Prop} {w:World} {u v:Value} {o:OffT} (h:OwnO S w u v o):∀ q,u.ownBlock=some q\/v.ownBlock=some q->S q/\q<w.heap.size:=by
 obtain ⟨Su,Sv,h1,h2,h3,h4,h5⟩:=h;intro q hq;rcases hq with e | e
 . have:=OwnL.own h1 q e;exact ⟨h3 q this.1,this.2⟩
 . have:=OwnL.own h2 q e;exact ⟨h4 q this.1,this.2⟩
theorem OwnO.shape {S:Nat->Prop} {w:World} {u v:Value} {o:OffT} (h:OwnO S w u v o):(∃ a c,u=.slice a o.trays.length c)/\∃ a c,v=.slice a o.totals.length c:=by
 obtain ⟨Su,Sv,h1,h2,-⟩:=h;exact ⟨OwnL.shape h1,OwnL.shape h2⟩
theorem OwnO.offN {S:Nat->Prop} {base:Nat} {w:World} {u v:Value} {o:OffT} (h:OwnO S w u v o) (hS:∀ k,S k->base<=k):OffN base (fun k=>k<base) w u v o:=by
 obtain ⟨Su,Sv,⟨hs,T,a1,a2,a3,a4,a5,a6⟩,⟨ks,U,b1,b2,b3,b4,b5,b6⟩,h3,h4,h5⟩:=h;refine ⟨hs,ks,a1.rebase (fun q hq=>hS q (h3 q (a2 q hq))),b1.rebase (fun q hq=>hS q (h4 q (b2 q hq))),⟨a3,fun i y x e1 e2 w' hA=>?_⟩,⟨b3,fun i y x e1 e2 w' hA=>?_⟩,fun q hq hq2=>h5 q (a2 q hq) (b2 q hq2)⟩
 . refine QD.rd (rowO_D.agr (a4 i y x e1 e2) hA (fun k hk he=>?_))
   have h9:=a5 i (yBK e2) k hk;rcases he with e | e | e
   . have:=hS k (h3 k h9.1);omega
   . exact h9.2 e
   . exact h5 k h9.1 (b2 k e)
 . refine QT.rd (rowO_T.agr (b4 i y x e1 e2) hA (fun k hk he=>?_))
   have h9:=b5 i (yBK e2) k hk;rcases he with e | e | e
   . have:=hS k (h4 k h9.1);omega
   . exact h5 k (a2 k e) h9.1
   . exact h9.2 e
theorem QD.of {n:Nat} {w:World} {v:Value} {x:List (List Int)} (h:OwD n w v x):QD (fun k=>n<=k/\k<w.heap.size) w v x:=⟨n,w.heap.size,h,zA _,fun k a b=>⟨a,b⟩⟩
theorem QT.of {n:Nat} {w:World} {v:Value} {x:List TotalT} (h:Own eTotal 150 n w v x):QT (fun k=>n<=k/\k<w.heap.size) w v x:=⟨n,w.heap.size,Own.top h,zA _,fun k a b=>⟨a,b⟩⟩
def NewF (w0:World) (X0:Nat) (po:List Value) (w:World) (cu cv u v:Value) (o:OffT):Prop :=
 OwnO (fun q=>w0.heap.size+2<=q/\q ≠ X0/\q<w.heap.size) w u v o/\Box w X0 [cu,cv]/\Box w w0.heap.size po/\Box w (w0.heap.size+1) [.slice none 0 0,.slice none 0 0]/\Below w0.heap.size w0 w /\
  (∀ q,u.ownBlock=some q\/v.ownBlock=some q->q ≠ X0/\w0.heap.size+2<=q)/\w0.heap.size+2<=X0
section
variable {w0 w w1 w':World} {X0:Nat} {po:List Value} {cu cv u v u' v':Value} {o:OffT}
theorem NewF.appT (h:NewF w0 X0 po w cu cv u v o):∃ hs,Own eS 78 w0.heap.size w u hs/\hs.length=o.trays.length /\
 ∀ (w1:World) (hx:SlV) (x:List (List Int)),Below w.heap.size w w1->OwD w.heap.size w1 hx.val x->∀ w' u',Own eS 78 w0.heap.size w' u' (hs++[hx])->Grew w1 w' u u'->NewF w0 X0 po w' cu cv u' v ⟨o.trays++[x],o.totals⟩:=by
 obtain ⟨⟨Su,Sv,p1,p2,p3,p4,p5⟩,q1,q2,q3,q4,q5,q6⟩:=h;obtain ⟨hs,a1,a2,a3⟩:=OwnL.app rowO_D p1 (fun k hk=>(p3 k hk).2.2);refine ⟨hs,a1.rebase (fun q hq=>by have:=q5 q (.inl hq);omega),a2,fun w1 hx x hb hfr w' u' ho hg=>?_⟩;obtain ⟨b1,b2⟩:=a3 w1 hx x hb (QD.of hfr) w' u' (ho.mono (zK _)) hg;have hX:=q1.lt;have hs9:=b2.size;have hin:∀ k,(Su k\/w.heap.size<=k/\k<w'.heap.size)->w0.heap.size+2<=k/\k ≠ X0/\k<w'.heap.size:=fun k hk=>by
  rcases hk with e | e
  . have:=p3 k e;omega
  . omega
 have hne:∀ k,u.ownBlock=some k->k ≠ X0/\w0.heap.size+2<=k:=fun k hk=>q5 k (.inl hk);refine ⟨⟨_,Sv,b1,OwnL.agr rowO_T p2 b2 (fun k hk he=>p5 k (OwnL.own p1 k he).1 hk),hin,fun k hk=>by have:=p4 k hk;omega,fun k hk hk2=>?_⟩,yBJ q1 b2 (fun e=>(hne _ e).1 rfl),yBJ q2 b2 (fun e=>by have:=(hne _ e).2;omega),yBJ q3 b2 (fun e=>by have:=(hne _ e).2;omega),
  q4.trans (b2.below (fun k hk=>by have:=(hne k hk).2;omega) q4.size),fun q hq=>?_,q6⟩
 . rcases hk with e | e
   . exact p5 k e hk2
   . have:=p4 k hk2;omega
 . rcases hq with e | e
   . have:=hin q ((OwnL.own b1 q e).1);exact ⟨this.2.1,this.1⟩
   . exact q5 q (.inr e)
theorem NewF.appL (h:NewF w0 X0 po w cu cv u v o):∃ ks,Own eS 110 w0.heap.size w v ks/\ks.length=o.totals.length /\
 ∀ (w1:World) (hx:SlV) (x:List TotalT),Below w.heap.size w w1->Own eTotal 150 w.heap.size w1 hx.val x->∀ w' v',Own eS 110 w0.heap.size w' v' (ks++[hx])->Grew w1 w' v v'->NewF w0 X0 po w' cu cv u v' ⟨o.trays,o.totals++[x]⟩:=by
 obtain ⟨⟨Su,Sv,p1,p2,p3,p4,p5⟩,q1,q2,q3,q4,q5,q6⟩:=h;obtain ⟨ks,a1,a2,a3⟩:=OwnL.app rowO_T p2 (fun k hk=>(p4 k hk).2.2);refine ⟨ks,a1.rebase (fun q hq=>by have:=q5 q (.inr hq);omega),a2,fun w1 hx x hb hfr w' v' ho hg=>?_⟩;obtain ⟨b1,b2⟩:=a3 w1 hx x hb (QT.of hfr) w' v' (ho.mono (zK _)) hg;have hX:=q1.lt;have hs9:=b2.size;have hin:∀ k,(Sv k\/w.heap.size<=k/\k<w'.heap.size)->w0.heap.size+2<=k/\k ≠ X0/\k<w'.heap.size:=fun k hk=>by
  rcases hk with e | e
  . have:=p4 k e;omega
  . omega
 have hne:∀ k,v.ownBlock=some k->k ≠ X0/\w0.heap.size+2<=k:=fun k hk=>q5 k (.inr hk);refine ⟨⟨Su,_,OwnL.agr rowO_D p1 b2 (fun k hk he=>p5 k hk (OwnL.own p2 k he).1),b1,fun k hk=>by have:=p3 k hk;omega,hin,fun k hk hk2=>?_⟩,yBJ q1 b2 (fun e=>(hne _ e).1 rfl),yBJ q2 b2 (fun e=>by have:=(hne _ e).2;omega),yBJ q3 b2 (fun e=>by have:=(hne _ e).2;omega),
  q4.trans (b2.below (fun k hk=>by have:=(hne k hk).2;omega) q4.size),fun q hq=>?_,q6⟩
 . rcases hk2 with e | e
   . exact p5 k hk e
   . have:=p3 k hk;omega
 . rcases hq with e | e
   . exact q5 q (.inl e)
   . have:=hin q ((OwnL.own b1 q e).1);exact ⟨this.2.1,this.1⟩
theorem NewF.put (h:NewF w0 X0 po w cu cv u v o) (j:Nat) (y:Value) {cu' cv':Value} (hj:j<2) (hc:[cu,cv].set j y=[cu',cv']):NewF w0 X0 po (w.setCell ⟨X0,j,none⟩ y) cu' cv' u v o:=by
 have hx0:=h.2.2.2.2.2.2;have hA:Agr (fun k=>k=X0) w (w.setCell ⟨X0,j,none⟩ y):=Agr.set w _ _ rfl;have hb:=h.2.1.set1 (j:=j) (by simpa using hj) y;rw [hc] at hb;exact ⟨(h.1.agr hA (fun k hk he=>hk.2.1 he)).sub (fun q hq=>by simpa using hq),hb,h.2.2.1.other (by show X0 ≠ w0.heap.size;omega) _,h.2.2.2.1.other (by show X0 ≠ w0.heap.size+1;omega) _,h.2.2.2.2.1.setCell (by show w0.heap.size<=X0;omega) _,h.2.2.2.2.2.1,hx0⟩
theorem NewF.shT {n:Nat} (h:NewF w0 X0 po w cu cv u v o) (hn:o.trays.length=n):∃ a c,u=.slice a n c/\NewF w0 X0 po w cu cv (.slice a n c) v o:=by
 obtain ⟨⟨a,c,e⟩,-⟩:=h.1.shape;rw [hn] at e;exact ⟨a,c,e,by rw [<- e];exact h⟩
theorem NewF.shL {n:Nat} (h:NewF w0 X0 po w cu cv u v o) (hn:o.totals.length=n):∃ a c,v=.slice a n c/\NewF w0 X0 po w cu cv u (.slice a n c) o:=by
 obtain ⟨-,a,c,e⟩:=h.1.shape;rw [hn] at e;exact ⟨a,c,e,by rw [<- e];exact h⟩
end
theorem Tryz.infoTl:(Tryz.prog.info? 110).map (fun i=>(i.zero,i.size,i.bytes))=some (some (.slice none 0 0),1,24):=by kernel_rfl
structure CopyOk (o:OffT):Prop where
 nt:o.trays.length<=1000
 rows:∀ d∈o.trays,RowsOk d
 nl:o.totals.length<=1000
 lens:∀ l∈o.totals,l.length<=2097152
theorem OwnShape {base:Nat} {w:World} {v:Value} {l:List TotalT} {n:Nat} (h:Own eTotal 150 base w v l) (hn:l.length=n):∃ a c,v=.slice a n c/\Own eTotal 150 base w (.slice a n c) l:=by
 obtain ⟨a,c,e⟩:=h.shape;rw [hn] at e;exact ⟨a,c,e,by rw [<- e];exact h⟩
theorem OwnFrT {n:Nat} {w:World} {v:Value} {l:List TotalT} (h:Own eTotal 150 n w v l):FrS RdTz (fun k=>k<n) w v l:=fun w' hA =>
 (OwnT.agr (Own.top h) hA (fun q hq (hS:q<n)=>by have:=(h.lt q hq).1;omega)).1.rds
theorem agr2 (w:World) (g:Nat) (x y:Value):Agr (fun q=>q=g) w ((w.setCell ⟨g,0,none⟩ x).setCell ⟨g,1,none⟩ y):=(Agr.set (S:=fun q=>q=g) w ⟨g,0,none⟩ x rfl).trans (Agr.set (S:=fun q=>q=g) _ ⟨g,1,none⟩ y rfl) (fun k h _=>h)
theorem newOffice_o {o:OffT} {u v:Value} {w0:World} {B:Nat} (ho:RdOff B w0 u v o) (hk:CopyOk o) :
 Calls Tryz.prog 93 #[.agg #[u,v]] w0 fun e w'=>(∃ u' v',e=.returned (.agg #[u',v'])/\OwnO (fun q=>w0.heap.size<=q/\q<w'.heap.size) w' u' v' o)/\Below w0.heap.size w0 w':=by
 obtain ⟨i0,hi,hz0,hz1,hz2⟩:=info_parts Tryz.infoDk;obtain ⟨i1,ti,tz0,tz1,tz2⟩:=info_parts Tryz.infoTotal;obtain ⟨i2,si,sz0,sz1,sz2⟩:=info_parts Tryz.infoTl;have hot:=ho.tight;obtain ⟨uo0,uc0,rfl,hop⟩:=RdL.open yBH hot.1;obtain ⟨vo0,vc0,rfl,hop2⟩:=RdL.open rowK_T hot.2;obtain ⟨ts,ls⟩:=o;obtain ⟨po,hpo⟩:∃ po,po=[Value.slice uo0 ts.length uc0,Value.slice vo0 ls.length vc0]:=⟨_,rfl⟩;obtain ⟨T,hT⟩:∃ T,T=(w0.alloc (.cells #[.slice uo0 ts.length uc0,.slice vo0 ls.length vc0] 35)).alloc (.cells #[.slice none 0 0,.slice none 0 0] 35):=⟨_,rfl⟩;have z1:(w0.alloc (.cells #[.slice uo0 ts.length uc0,.slice vo0 ls.length vc0] 35)).heap.size=w0.heap.size+1:=by simp
 have hTz:T.heap.size=w0.heap.size+2:=by rw [hT];simp
 have hP:Box T w0.heap.size po:=by rw [hT,hpo];exact (Box.new w0 [Value.slice uo0 ts.length uc0,Value.slice vo0 ls.length vc0] _).alloc _
 have hR:Box T (w0.heap.size+1) [.slice none 0 0,.slice none 0 0]:=by
  have h:=Box.new (w0.alloc (.cells #[.slice uo0 ts.length uc0,.slice vo0 ls.length vc0] 35)) [.slice none 0 0,.slice none 0 0] 35;rw [z1,<- hT] at h;exact h
 have hbT:Below w0.heap.size w0 T:=by rw [hT];exact ((zB _ _).alloc (zA _) _).alloc (by rw [z1];omega) _
 obtain ⟨X0,hX0⟩:∃ X0,X0=T.heap.size+1+1:=⟨_,rfl⟩;obtain ⟨W,hW⟩:∃ W,W=((T.alloc (.cells #[] 78)).alloc (.cells #[] 110)).alloc (.cells #[.slice (some ⟨T.heap.size,0,none⟩) 0 0,.slice (some ⟨T.heap.size+1,0,none⟩) 0 0] 35):=⟨_,rfl⟩;have hS0:NewF w0 X0 po W (.slice (some ⟨T.heap.size,0,none⟩) 0 0) (.slice (some ⟨T.heap.size+1,0,none⟩) 0 0) (.slice (some ⟨T.heap.size,0,none⟩) 0 0) (.slice (some ⟨T.heap.size+1,0,none⟩) 0 0) ⟨[],[]⟩:=by
  have y1:(T.alloc (.cells #[] 78)).heap.size=T.heap.size+1:=by simp
  have y2:((T.alloc (.cells #[] 78)).alloc (.cells #[] 110)).heap.size=T.heap.size+1+1:=by simp
  have b1:Below T.heap.size T (T.alloc (.cells #[] 78)):=(zB _ _).alloc (zA _) _;have b2:Below (T.heap.size+1) (T.alloc (.cells #[] 78)) W:=by rw [hW,<- y1];exact ((zB _ _).alloc (zA _) _).alloc (by rw [y2,y1];omega) _
  have b3:Below (T.heap.size+1+1) ((T.alloc (.cells #[] 78)).alloc (.cells #[] 110)) W:=by rw [hW,<- y2];exact (zB _ _).alloc (zA _) _
  have o1:Own eS 78 w0.heap.size (T.alloc (.cells #[] 78)) (.slice (some ⟨T.heap.size,0,none⟩) 0 0) []:=Own.lit (E:=eS) (xs:=[]) (cs:=#[]) hbT.size rfl rfl (by decide) (fun x hx=>by cases hx);have o2:Own eS 110 w0.heap.size ((T.alloc (.cells #[] 78)).alloc (.cells #[] 110)) (.slice (some ⟨T.heap.size+1,0,none⟩) 0 0) []:=by
   have h:=Own.lit (E:=eS) (e:=110) (base:=w0.heap.size) (w:=T.alloc (.cells #[] 78)) (xs:=[]) (cs:=#[]) (n:=0) (by rw [y1];omega) rfl rfl (by decide) (fun x hx=>by cases hx);rw [y1] at h;exact h
  have hbx:Box W X0 [.slice (some ⟨T.heap.size,0,none⟩) 0 0,.slice (some ⟨T.heap.size+1,0,none⟩) 0 0]:=by
   have h:=Box.new ((T.alloc (.cells #[] 78)).alloc (.cells #[] 110)) [.slice (some ⟨T.heap.size,0,none⟩) 0 0,.slice (some ⟨T.heap.size+1,0,none⟩) 0 0] 35;rw [y2,<- hW,<- hX0] at h;exact h
  have hbW:Below T.heap.size T W:=b1.trans (b2.mono (by omega));have hWz:W.heap.size=T.heap.size+3:=by rw [hW];simp
  refine ⟨⟨fun k=>k=T.heap.size,fun k=>k=T.heap.size+1,OwnL.empty (o1.below b2 (by rw [y1];omega)) (fun q hq=>(zD hq).symm),OwnL.empty (o2.below b3 (by rw [y2];omega)) (fun q hq=>(zD hq).symm),fun k hk=>?_,fun k hk=>?_,fun k hk hk2=>?_⟩,hbx,hP.on hbW,hR.on hbW,hbT.trans (hbW.mono hbT.size),fun q hq=>?_,by omega⟩
  . have:k=T.heap.size:=hk
    omega
  . have:k=T.heap.size+1:=hk
    omega
  . have e1:k=T.heap.size:=hk
    have e2:k=T.heap.size+1:=hk2;omega
  . rcases hq with hq | hq
    . have e1:T.heap.size=q:=zD hq
      omega
    . have e1:T.heap.size+1=q:=zD hq
      omega
 have c0:=hS0.2.2.1.cell 0 _ (by rw [hpo];rfl);have HS0:=hid hS0;have HT:=hid hT;have HW:=hid hW;have HX0:=hid hX0;have Hpo:=hid hpo;have Hop:=hid hop;have Hop2:=hid hop2;have Hk:=hid hk;obtain ⟨vT,hv0⟩:∃ vT,vT=Value.slice (some ⟨T.heap.size+1,0,none⟩) 0 0:=⟨_,rfl⟩;rw [<- hv0] at HS0;have Hv0:=hid hv0;have hn1:=hk.nt;have hn2:=hk.nl;obtain ⟨n,hn⟩:∃ n,n=ts.length:=⟨_,rfl⟩;obtain ⟨m,hm⟩:∃ m,m=ls.length:=⟨_,rfl⟩;simp only [<- hn,<- hm] at Hop Hop2 HT Hpo c0 hn1 hn2 |-;have Hn:=hid hn;have Hm:=hid hm;clear ho hot hop hop2 hT z1 hTz hP hR hbT hW hS0 hk hpo hX0 hv0 hn hm;go_enter Tryz.func93,Tryz.ntmps93;go_upto_region 1 with fail;rw [<- HT.out];go_upto_region 2 with fail;rw [<- HW.out,<- HX0.out];go_wp2;go_loopw [14] (fun iv wr=>∃ (k:Nat) (uo:Option Addr) (uc:Nat),k<=n/\iv=.int .i64 k/\Hid (NewF w0 X0 po wr (.slice uo k uc) vT (.slice uo k uc) vT ⟨ts.take k,[]⟩)) (fun i _=>n - (intOf i).toNat)
 case atStart=>exact ⟨0,_,_,zK _,rfl,HS0⟩
 case round =>
  obtain ⟨k,uo,uc,hk,rfl,HS⟩:=hrel;clear HS0 c0;by_cases hkn:k<n
  . obtain ⟨b,off,rfl,hlt,hc⟩:=Hop.out (by omega)
    obtain ⟨d,ro,rc,hd,hcell,hrd⟩:=hc k hkn;have hs:=HS.out;have hbl:=hs.2.2.2.2.1;have d1:=(hbl.cell (p:=⟨b,off+k,none⟩) hlt.2).trans hcell;have hrw:=RdInt64SS.onn hrd hbl;have hro:=Hk.out.rows d (zC hd);have hnd:=fun (w:World) (hw:Below wr.heap.size wr w)=>newDeck_c (w:=w) (RdInt64SS.onn hrw hw) hro;obtain ⟨dl,hdl⟩:∃ dl,dl=d.length:=⟨_,rfl⟩;obtain ⟨W9,hW9⟩:∃ W9,W9=wr:=⟨_,rfl⟩;subst hW9;have Hnd:Hid (∀ (w:World),Below W9.heap.size W9 w->Calls Tryz.prog 137 #[.slice ro dl rc] w fun e w'=>(∃ a c,e=.returned (.slice a dl c)/\OwD W9.heap.size w' (.slice a dl c) d)/\Below w.heap.size w w'):=hid (fun w hw=>by
     have h:=hnd w hw;rw [<- hdl] at h;refine h.mono (fun e w' h=>⟨?_,h.2⟩);obtain ⟨r,he,hO⟩:=h.1;have hf:=(OwD.own hO).mono hw.size;obtain ⟨a,c,hs9⟩:=hf.shape;rw [<- hdl] at hs9;subst hs9;exact ⟨a,c,he,hf⟩)
    obtain ⟨hs1,hO,hhl,hfin⟩:=hs.appT;have hlk:(ts.take k).length=k:=by rw [zI];have:=Hn.out;omega
    have HO:=hid hO;have Hl:Hid (hs1.length<=1000):=hid (by rw [hhl];simp only [];rw [hlk];omega);have Hsz:Hid (w0.heap.size<=W9.heap.size):=hid hbl.size;have Hfin:=hid hfin;have Htl:Hid ((OffT.mk (ts.take k++[d]) []).trays.length=k+1):=hid (by show (ts.take k++[d]).length=k+1;rw [zE,hlk];rfl);have Htk:=hid (show ts.take (k+1)=ts.take k++[d] from yAE hd);have x0:=hs.2.1.cell 0 _ rfl;have x1:=hs.2.1.free 0;rw [<- hdl] at d1;clear hc hcell hrd hrw hro hnd hs hbl hO hhl hfin hlk hd hdl;go_upto_region 5 with fail;refine yBL (W:=W9) (undef) 5 7 (fun i=>match i with | 0=>true | 2=>true | 6=>true | _=>false) (fun i v w=>match i with | 0=>v=.pointer (some ⟨X0,0,none⟩) | 1=>v=.slice uo k uc | 2=>v=.slice ro dl rc | 3=>∃ a c,v=.slice a dl c/\OwD W9.heap.size w (.slice a dl c) d | 4=>∃ y:SlV,Rds eS w.heap.size w v [y]/\OwD W9.heap.size w y.val d | 6=>v=.pointer (some ⟨X0,0,none⟩) | _=>True) (fun v w=>∃ a c,v=.slice a (k+1) c/\NewF w0 X0 po w (.slice uo k uc) vT (.slice a (k+1) c) vT ⟨ts.take k++[d],[]⟩) (fun x v w=>∃ a c,NewF w0 X0 po w (.slice a (k+1) c) vT (.slice a (k+1) c) vT ⟨ts.take k++[d],[]⟩) (by kernel_rfl) (by kernel_rfl) (by kernel_rfl) (by kernel_rfl) (by kernel_rfl) ?_ ?_ ?_ ?_
    . intro i v w w' h hb
      iterate 8 (obtain _ | i:=i;· first | exact h | (obtain ⟨a,c,h1,h2⟩:=h;exact ⟨a,c,h1,OwD.onB h2 hb⟩) | (obtain ⟨y,h1,h2⟩:=h;exact ⟨y,Rds.onn h1 hb,OwD.onB h2 hb⟩))
      exact h
    . intro i v w w' hp h
      iterate 8 (obtain _ | i:=i;· first | exact h | exact absurd hp (by decide))
      exact h
    . intro vs hvs
      match vs,hvs with
      | [v0,v1,v2,v3,v4,v5,v6,v7],_ =>
       refine ⟨?_,?_,?_,?_,?_,?_,?_,?_,trivial⟩
       . refine yAM ?_ ?_ ?_ ?_;exact (by decide);exact (by decide);kernel_rfl
         intro wr h0 hd;clear h0;clear hd;unfold relAt;simp only [putAll];go_simp;simp only [relUpon];trivial
       . refine yAL ?_ ?_ ?_ ?_;exact (by decide);exact (by decide);kernel_rfl
         intro wr h0 hC hd;clear h0;have d0:v0=.pointer (some ⟨X0,0,none⟩):=yAC 0 (by kernel_rfl) hd;subst d0;clear hd;have e:=(hC.cell (p:=⟨X0,0,none⟩) (World.block_lt_of_cell? _ _ x0)).trans x0;unfold relAt;simp only [putAll];go_simp;simp only [relUpon];exact ⟨zB _ _,by first | rfl | trivial⟩
       . refine yAM ?_ ?_ ?_ ?_;exact (by decide);exact (by decide);kernel_rfl
         intro wr h0 hd;clear h0;clear hd;unfold relAt;simp only [putAll];go_simp;simp only [relUpon];trivial
       . refine yAL ?_ ?_ ?_ ?_;exact (by decide);exact (by decide);kernel_rfl
         intro wr h0 hC hd;clear h0;have d2:v2=.slice ro dl rc:=yAC 2 (by kernel_rfl) hd;subst d2;clear hd;unfold relAt;simp only [putAll];go_simp;simp only [relUpon];with_reducible refine (Hnd.out wr hC).mono ?_
         rintro e w9 ⟨⟨a,c,rfl,hf9⟩,hb9⟩;exact ⟨_,rfl,hb9,a,c,rfl,hf9⟩
       . refine yAL ?_ ?_ ?_ ?_;exact (by decide);exact (by decide);kernel_rfl
         intro wr h0 hC hd;clear h0;have d3:∃ a c,v3=.slice a dl c/\OwD W9.heap.size wr (.slice a dl c) d:=yAC 3 (by kernel_rfl) hd;clear hd;have q1:=d3.choose_spec;generalize d3.choose=a9 at q1;clear d3;have q2:=q1.choose_spec;generalize q1.choose=c9 at q2;clear q1;have h8:=q2.1;have h9:=q2.2;clear q2;subst h8;unfold relAt;simp only [putAll];go_simp;simp only [relUpon];exact ⟨(zB _ _).alloc (zA _) _,⟨a9,dl,c9⟩,(yAJ (E:=eS) (x:=⟨a9,dl,c9⟩) trivial rfl).mono (by simp),OwD.onB h9 ((zB _ _).alloc (zA _) _)⟩
       . refine appStep_p ?_ ?_;kernel_rfl
         intro wr h0 hC hd;clear h0;have d1:v1=.slice uo k uc:=yAC 1 (by kernel_rfl) hd;subst d1;have d4:∃ y:SlV,Rds eS wr.heap.size wr v4 [y]/\OwD W9.heap.size wr y.val d:=yAC 4 (by kernel_rfl) hd;clear hd;have q1:=d4.choose_spec;generalize d4.choose=y9 at q1;clear d4;simp only [putAll];refine relAt_appS (E:=eS) _ _ 32 rfl Tryz.underlying32 hi hz0 hz1 hz2 rfl (by decide) (by kernel_rfl) (by kernel_rfl) (HO.out.below hC (zA _)) q1.1 ?b1 ?b2 ?b3 ?b4
         case b1=>have:=Hl.out;unfold maxLen;simp;omega
         case b2=>have:=Hl.out;simp;omega
         case b3=>have:=hC.size;have:=Hsz.out;omega
         case b4=>exact fun v9 w9 ho9 hg9=>(Hfin.out wr y9 d hC q1.2 w9 v9 ho9 hg9).shT Htl.out
       . refine yAM ?_ ?_ ?_ ?_;exact (by decide);exact (by decide);kernel_rfl
         intro wr h0 hd;clear h0;clear hd;unfold relAt;simp only [putAll];go_simp;simp only [relUpon];trivial
       . refine appStep_s ?_ ?_ ?_;exact (by decide);kernel_rfl
         intro wr h0 hA hd;replace hA:∃ a c,v5=.slice a (k+1) c/\NewF w0 X0 po wr (.slice uo k uc) vT (.slice a (k+1) c) vT ⟨ts.take k++[d],[]⟩:=hA;clear h0;have d6:v6=.pointer (some ⟨X0,0,none⟩):=yAC 6 (by kernel_rfl) hd rfl;subst d6;clear hd;have q1:=hA.choose_spec;generalize hA.choose=a9 at q1;clear hA;have q2:=q1.choose_spec;generalize q1.choose=c9 at q2;clear q1;have h8:=q2.1;have h9:=q2.2;clear q2;subst h8;have f0:=h9.2.1.cell 0 _ rfl;have f1:=h9.2.1.free 0;have hfin:=h9.put 0 (.slice a9 (k+1) c9) (by omega) rfl;have Hfn:=hid hfin;clear hfin h9;unfold relAt;simp only [putAll];go_simp;simp only [relUpon];exact ⟨_,_,Hfn.out⟩
    . intro vs wq hvs hZ hI
      match vs,hvs,hZ,hI with
      | [v0,v1,v2,v3,v4,v5,v6,v7],_,hZ,hI =>
       replace hZ:∃ a c,NewF w0 X0 po wq (.slice a (k+1) c) vT (.slice a (k+1) c) vT ⟨ts.take k++[d],[]⟩:=hZ;have d0:v0=.pointer (some ⟨X0,0,none⟩):=hI 0 (by decide) rfl;subst d0;have d2:v2=.slice ro dl rc:=hI 2 (by decide) rfl;subst d2;have d6:v6=.pointer (some ⟨X0,0,none⟩):=hI 6 (by decide) rfl;subst d6;clear hI;simp only [putAll];go_simp;clear x0 x1 d1;obtain ⟨ua,uca,hZ⟩:=hZ;have Hs9:=hid hZ;clear hZ;go_wp2;go_roundw
       case rel=>exact ⟨k+1,_,_,by omega,by go_num,by rw [Htk.out];exact Hs9⟩
       case measure=>simp [intOf];omega
  . obtain rfl:k=n:=by omega
    obtain ⟨uF,huF⟩:∃ uF,uF=Value.slice uo k uc:=⟨_,rfl⟩;have HuF:=hid huF;have hs:=HS.out;rw [<- huF,zH (by have:=Hn.out;omega)] at hs;have q0:=hs.2.2.1.cell 1 _ (by rw [Hpo.out];rfl);have Hs0:Hid (NewF w0 X0 po wr uF vT uF vT ⟨ts,ls.take 0⟩):=hid hs;obtain ⟨vo2,vc2,hv2⟩:∃ a c,vT=.slice a 0 c:=⟨_,_,Hv0.out⟩;clear hs huF HS;subst hv2;go_wp2;go_loopw [29] (fun iv wr=>∃ (k:Nat) (lo2:Option Addr) (lc2:Nat),k<=m/\iv=.int .i64 k/\Hid (NewF w0 X0 po wr uF (.slice lo2 k lc2) uF (.slice lo2 k lc2) ⟨ts,ls.take k⟩)) (fun i _=>m - (intOf i).toNat)
    case atStart=>exact ⟨0,_,_,zK _,rfl,Hs0⟩
    case round =>
     obtain ⟨k,lo2,lc2,hk,rfl,HS⟩:=hrel;clear Hs0 q0;by_cases hkm:k<m
     . obtain ⟨b,off,rfl,hlt,hc⟩:=Hop2.out (by omega)
       obtain ⟨l,ro,rc,hl,hcell,hrd⟩:=hc k hkm;have hs:=HS.out;have hbl:=hs.2.2.2.2.1;have d1:=(hbl.cell (p:=⟨b,off+k,none⟩) hlt.2).trans hcell;have hrw:Rds eTotal wr.heap.size wr _ l:=Rds.onn hrd hbl;have hll:=Hk.out.lens l (zC hl);obtain ⟨ll,hlle⟩:∃ ll,ll=l.length:=⟨_,rfl⟩;obtain ⟨W9,hW9⟩:∃ W9,W9=wr:=⟨_,rfl⟩;subst hW9;rw [<- hlle] at hrw d1;have Hrd:=hid hrw;have Hll:=hid hll;have Hll2:=hid hlle.symm;obtain ⟨ks1,hO,hhl,hfin⟩:=hs.appL;have hlk:(ls.take k).length=k:=by rw [zI];have:=Hm.out;omega
       have HO:=hid hO;have Hl:Hid (ks1.length<=1000):=hid (by rw [hhl];simp only [];rw [hlk];omega);have Hsz:Hid (w0.heap.size<=W9.heap.size):=hid hbl.size;have Hfin:=hid hfin;have Htl:Hid ((OffT.mk ts (ls.take k++[l])).totals.length=k+1):=hid (by show (ls.take k++[l]).length=k+1;rw [zE,hlk];rfl);have Htk:=hid (show ls.take (k+1)=ls.take k++[l] from yAE hl);have x0:=hs.2.1.cell 0 _ rfl;have x1:=hs.2.1.cell 1 _ rfl;clear hc hcell hrd hrw hll hs hbl hO hhl hfin hlk hl hlle;go_upto_region 10 with fail;refine yBL (W:=W9) (undef) 6 8 (fun i=>match i with | 0=>true | 3=>true | 7=>true | _=>false) (fun i v w=>match i with | 0=>v=.pointer (some ⟨X0,1,none⟩) | 1=>v=.slice lo2 k lc2 | 2=>∃ e0,v=.slice (some ⟨e0,0,none⟩) 0 0/\Own eTotal 150 W9.heap.size w (.slice (some ⟨e0,0,none⟩) 0 0) [] | 3=>v=.slice ro ll rc | 4=>∃ a c,v=.slice a ll c/\Own eTotal 150 W9.heap.size w (.slice a ll c) l | 5=>∃ y:SlV,Rds eS w.heap.size w v [y]/\Own eTotal 150 W9.heap.size w y.val l | 7=>v=.pointer (some ⟨X0,1,none⟩) | _=>True) (fun v w=>∃ a c,v=.slice a (k+1) c/\NewF w0 X0 po w uF (.slice lo2 k lc2) uF (.slice a (k+1) c) ⟨ts,ls.take k++[l]⟩) (fun x v w=>∃ a c,NewF w0 X0 po w uF (.slice a (k+1) c) uF (.slice a (k+1) c) ⟨ts,ls.take k++[l]⟩) (by kernel_rfl) (by kernel_rfl) (by kernel_rfl) (by kernel_rfl) (by kernel_rfl) ?_ ?_ ?_ ?_
       . intro i v w w' h hb
         iterate 9 (obtain _ | i:=i;· first | exact h | (obtain ⟨e0,h1,h2⟩:=h;exact ⟨e0,h1,h2.below hb (zA _)⟩) | (obtain ⟨a,c,h1,h2⟩:=h;exact ⟨a,c,h1,h2.below hb (zA _)⟩) | (obtain ⟨y,h1,h2⟩:=h;exact ⟨y,Rds.onn h1 hb,h2.below hb (zA _)⟩))
         exact h
       . intro i v w w' hp h
         iterate 9 (obtain _ | i:=i;· first | exact h | exact absurd hp (by decide))
         exact h
       . intro vs hvs
         match vs,hvs with
         | [v0,v1,v2,v3,v4,v5,v6,v7,v8],_ =>
          refine ⟨?_,?_,?_,?_,?_,?_,?_,?_,?_,trivial⟩
          . refine yAM ?_ ?_ ?_ ?_;exact (by decide);exact (by decide);kernel_rfl
            intro wr h0 hd;clear h0;clear hd;unfold relAt;simp only [putAll];go_simp;simp only [relUpon];trivial
          . refine yAL ?_ ?_ ?_ ?_;exact (by decide);exact (by decide);kernel_rfl
            intro wr h0 hC hd;clear h0;have d0:v0=.pointer (some ⟨X0,1,none⟩):=yAC 0 (by kernel_rfl) hd;subst d0;clear hd;have e:=(hC.cell (p:=⟨X0,1,none⟩) (World.block_lt_of_cell? _ _ x1)).trans x1;unfold relAt;simp only [putAll];go_simp;simp only [relUpon];exact ⟨zB _ _,by first | rfl | trivial⟩
          . refine yAL ?_ ?_ ?_ ?_;exact (by decide);exact (by decide);kernel_rfl
            intro wr h0 hC hd;clear h0;clear hd;unfold relAt;simp only [putAll];go_simp;simp only [relUpon];exact ⟨(zB _ _).alloc (zA _) _,_,rfl,Own.lit (E:=eTotal) (xs:=[]) (cs:=#[]) hC.size rfl rfl (by decide) (fun x hx=>by cases hx)⟩
          . refine yAM ?_ ?_ ?_ ?_;exact (by decide);exact (by decide);kernel_rfl
            intro wr h0 hd;clear h0;clear hd;unfold relAt;simp only [putAll];go_simp;simp only [relUpon];trivial
          . refine yAL ?_ ?_ ?_ ?_;exact (by decide);exact (by decide);kernel_rfl
            intro wr h0 hC hd;clear h0;have d2:∃ e0,v2=.slice (some ⟨e0,0,none⟩) 0 0/\Own eTotal 150 W9.heap.size wr (.slice (some ⟨e0,0,none⟩) 0 0) []:=yAC 2 (by kernel_rfl) hd;have d3:v3=.slice ro ll rc:=yAC 3 (by kernel_rfl) hd;subst d3;clear hd;have h8:=d2.choose_spec.1;have h9:=d2.choose_spec.2;generalize d2.choose=e0 at h8 h9;clear d2;subst h8;simp only [putAll];refine relAt_copyS (E:=eTotal) (ys:=l) _ _ 110 rfl Tryz.underlying110 ti tz0 tz1 tz2 rfl (by decide) (by kernel_rfl) (by kernel_rfl) h9 (Rds.onn Hrd.out hC) ?b1 ?b2 ?b3 ?b4
            case b1=>have:=Hll.out;unfold maxLen;omega
            case b2=>have:=Hll.out;omega
            case b3=>exact hC.size
            case b4=>exact fun v9 w9 ho9 hb9=>⟨hb9,OwnShape ho9 Hll2.out⟩
          . refine yAL ?_ ?_ ?_ ?_;exact (by decide);exact (by decide);kernel_rfl
            intro wr h0 hC hd;clear h0;have d4:∃ a c,v4=.slice a ll c/\Own eTotal 150 W9.heap.size wr (.slice a ll c) l:=yAC 4 (by kernel_rfl) hd;clear hd;have q1:=d4.choose_spec;generalize d4.choose=a9 at q1;clear d4;have q2:=q1.choose_spec;generalize q1.choose=c9 at q2;clear q1;have h8:=q2.1;have h9:=q2.2;clear q2;subst h8;unfold relAt;simp only [putAll];go_simp;simp only [relUpon];exact ⟨(zB _ _).alloc (zA _) _,⟨a9,ll,c9⟩,(yAJ (E:=eS) (x:=⟨a9,ll,c9⟩) trivial rfl).mono (by simp),h9.below ((zB _ _).alloc (zA _) _) (zA _)⟩
          . refine appStep_p ?_ ?_;kernel_rfl
            intro wr h0 hC hd;clear h0;have d1:v1=.slice lo2 k lc2:=yAC 1 (by kernel_rfl) hd;subst d1;have d5:∃ y:SlV,Rds eS wr.heap.size wr v5 [y]/\Own eTotal 150 W9.heap.size wr y.val l:=yAC 5 (by kernel_rfl) hd;clear hd;have q1:=d5.choose_spec;generalize d5.choose=y9 at q1;clear d5;simp only [putAll];refine relAt_appS (E:=eS) _ _ 33 rfl Tryz.underlying33 si sz0 sz1 sz2 rfl (by decide) (by kernel_rfl) (by kernel_rfl) (HO.out.below hC (zA _)) q1.1 ?b1 ?b2 ?b3 ?b4
            case b1=>have:=Hl.out;unfold maxLen;simp;omega
            case b2=>have:=Hl.out;simp;omega
            case b3=>have:=hC.size;have:=Hsz.out;omega
            case b4=>exact fun v9 w9 ho9 hg9=>(Hfin.out wr y9 l hC (q1.2) w9 v9 ho9 hg9).shL Htl.out
          . refine yAM ?_ ?_ ?_ ?_;exact (by decide);exact (by decide);kernel_rfl
            intro wr h0 hd;clear h0;clear hd;unfold relAt;simp only [putAll];go_simp;simp only [relUpon];trivial
          . refine appStep_s ?_ ?_ ?_;exact (by decide);kernel_rfl
            intro wr h0 hA hd;replace hA:∃ a c,v6=.slice a (k+1) c/\NewF w0 X0 po wr uF (.slice lo2 k lc2) uF (.slice a (k+1) c) ⟨ts,ls.take k++[l]⟩:=hA;clear h0;have d7:v7=.pointer (some ⟨X0,1,none⟩):=yAC 7 (by kernel_rfl) hd rfl;subst d7;clear hd;have q1:=hA.choose_spec;generalize hA.choose=a9 at q1;clear hA;have q2:=q1.choose_spec;generalize q1.choose=c9 at q2;clear q1;have h8:=q2.1;have h9:=q2.2;clear q2;subst h8;have f0:=h9.2.1.cell 1 _ rfl;have f1:=h9.2.1.free 1;have hfin:=h9.put 1 (.slice a9 (k+1) c9) (by omega) rfl;have Hfn:=hid hfin;clear hfin h9;unfold relAt;simp only [putAll];go_simp;simp only [relUpon];exact ⟨_,_,Hfn.out⟩
       . intro vs wq hvs hZ hI
         match vs,hvs,hZ,hI with
         | [v0,v1,v2,v3,v4,v5,v6,v7,v8],_,hZ,hI =>
          replace hZ:∃ a c,NewF w0 X0 po wq uF (.slice a (k+1) c) uF (.slice a (k+1) c) ⟨ts,ls.take k++[l]⟩:=hZ;have d0:v0=.pointer (some ⟨X0,1,none⟩):=hI 0 (by decide) rfl;subst d0;have d3:v3=.slice ro ll rc:=hI 3 (by decide) rfl;subst d3;have d7:v7=.pointer (some ⟨X0,1,none⟩):=hI 7 (by decide) rfl;subst d7;clear hI;simp only [putAll];go_simp;clear x0 x1 d1;obtain ⟨ua,uca,hZ⟩:=hZ;have Hs9:=hid hZ;clear hZ;go_wp2;go_roundw
          case rel=>exact ⟨k+1,_,_,by omega,by go_num,by rw [Htk.out];exact Hs9⟩
          case measure=>simp [intOf];omega
     . obtain rfl:k=m:=by omega
       have hs:=HS.out;rw [zH (by have:=Hm.out;omega)] at hs;have x0:=hs.2.1.cell 0 _ rfl;have x1:=hs.2.1.cell 1 _ rfl;have r0:=hs.2.2.2.1.cell 0 _ rfl;have r1:=hs.2.2.2.1.cell 1 _ rfl;have rf0:=hs.2.2.2.1.free 0;have rf1:=hs.2.2.2.1.free 1;have hq:=hs.2.2.2.2.2.1;obtain ⟨vF,hvF⟩:∃ vF,vF=Value.slice lo2 k lc2:=⟨_,rfl⟩;rw [<- hvF] at hs x1 hq;have HvF:=hid hvF;have HFin:∀ (wz:World),Agr (fun q=>q=w0.heap.size+1) wr wz->(OwnO (fun q=>w0.heap.size<=q/\q<wz.heap.size) wz uF vF ⟨ts,ls⟩/\Below w0.heap.size w0 wz):=fun wz hA =>
        ⟨(hs.1.agr hA (fun q hq2 (he:q=w0.heap.size+1)=>by have:=hq2.1;omega)).sub (fun q hq2=>⟨by have:=hq2.1;omega,zM hq2.2.2 hA.size⟩),hs.2.2.2.2.1.trans (hA.below (fun q hq=>by omega) hs.2.2.2.2.1.size)⟩
       have HFin:=hid HFin;clear hs hq hvF HS;obtain ⟨a1,n1,c1,h1⟩:∃ a n c,uF=Value.slice a n c:=⟨_,_,_,HuF.out⟩;obtain ⟨a2,n2,c2,h2⟩:∃ a n c,vF=Value.slice a n c:=⟨_,_,_,HvF.out⟩;clear HuF HvF;subst h1;subst h2;go_wp2;exact bodyPost_ret (v:=.agg #[.slice a1 n1 c1,.slice a2 n2 c2]) (by simp [results,Tryz.results93,go_sem,r0,r1]) rfl ⟨⟨_,_,rfl,(HFin.out _ (agr2 wr (w0.heap.size+1) _ _)).1⟩,(HFin.out _ (agr2 wr (w0.heap.size+1) _ _)).2⟩
def NewR (w0:World) (w:World) (cu cv u v:Value) (o:OffT):Prop :=
 OffN w0.heap.size (fun k=>k<w0.heap.size+2) w u v o/\Box w (w0.heap.size+1) [cu,cv]/\Box w w0.heap.size [.slice none 0 0,.slice none 0 0]/\Below w0.heap.size w0 w/\∀ q,u.ownBlock=some q\/v.ownBlock=some q->w0.heap.size+2<=q
section
variable {w0 w w1 w':World} {cu cv u v u' v':Value} {o:OffT}
theorem NewR.hX (h:NewR w0 w cu cv u v o):∀ k,k<w0.heap.size+2->k<w.heap.size:=fun k hk=>by
 have h1:=h.2.1.lt;omega
theorem NewR.step (h:NewR w0 w cu cv u v o) (hb:Below w.heap.size w w1) {S:Nat->Prop} (hA:Agr S w1 w') (hS:∀ k,S k->w0.heap.size+2<=k):Box w' (w0.heap.size+1) [cu,cv]/\Box w' w0.heap.size [.slice none 0 0,.slice none 0 0]/\Below w0.heap.size w0 w' :=
 ⟨yBJ (h.2.1.on hb) hA (fun e=>by have:=hS _ e;omega),yBJ (h.2.2.1.on hb) hA (fun e=>by have:=hS _ e;omega),
  (h.2.2.2.1.trans (hb.mono h.2.2.2.1.size)).trans (hA.below (fun k hk=>by have:=hS k hk;omega) (zO h.2.2.2.1.size hb.size))⟩
theorem NewR.appT (h:NewR w0 w cu cv u v o):∃ hs,Own eS 78 w0.heap.size w u hs/\hs.length=o.trays.length /\
 ∀ (w1:World) (hx:SlV) (x:List (List Int)),Below w.heap.size w w1->FrS RdD (fun k=>k<w.heap.size) w1 hx.val x->∀ w' u',Own eS 78 w0.heap.size w' u' (hs++[hx])->Grew w1 w' u u'->NewR w0 w' cu cv u' v ⟨o.trays++[x],o.totals⟩:=by
 obtain ⟨hs,a1,a2,a3⟩:=h.1.appT h.hX;refine ⟨hs,a1,a2,fun w1 hx x hb hfr w' u' ho hg=>?_⟩;have hA:Agr (fun k=>u.ownBlock=some k) w1 w':=Agr.of_grown hg.1 (fun k hk _=>hk);have hq:=h.2.2.2.2;have hst:=h.step hb hA (fun k hk=>hq k (.inl hk));refine ⟨a3 w1 hx x hb hfr w' u' ho hg,hst.1,hst.2.1,hst.2.2,fun q hq2=>?_⟩;have hX1:=h.2.1.lt;have hb1:=hb.size;rcases hq2 with e | e
 . rcases hg.2 with e2 | ⟨k,e2,e3⟩
   . exact hq q (.inl (by rw [<- e2];exact e))
   . rw [e2] at e;cases e;omega
 . exact hq q (.inr e)
theorem NewR.appL (h:NewR w0 w cu cv u v o):∃ ks,Own eS 110 w0.heap.size w v ks/\ks.length=o.totals.length /\
 ∀ (w1:World) (hx:SlV) (x:List TotalT),Below w.heap.size w w1->FrS RdTz (fun k=>k<w.heap.size) w1 hx.val x->∀ w' v',Own eS 110 w0.heap.size w' v' (ks++[hx])->Grew w1 w' v v'->NewR w0 w' cu cv u v' ⟨o.trays,o.totals++[x]⟩:=by
 obtain ⟨ks,a1,a2,a3⟩:=h.1.appL h.hX;refine ⟨ks,a1,a2,fun w1 hx x hb hfr w' v' ho hg=>?_⟩;have hA:Agr (fun k=>v.ownBlock=some k) w1 w':=Agr.of_grown hg.1 (fun k hk _=>hk);have hq:=h.2.2.2.2;have hst:=h.step hb hA (fun k hk=>hq k (.inr hk));refine ⟨a3 w1 hx x hb hfr w' v' ho hg,hst.1,hst.2.1,hst.2.2,fun q hq2=>?_⟩;have hX1:=h.2.1.lt;have hb1:=hb.size;rcases hq2 with e | e
 . exact hq q (.inl e)
 . rcases hg.2 with e2 | ⟨k,e2,e3⟩
   . exact hq q (.inr (by rw [<- e2];exact e))
   . rw [e2] at e;cases e;omega
theorem NewR.put (h:NewR w0 w cu cv u v o) (j:Nat) (y:Value) {cu' cv':Value} (hj:j<2) (hc:[cu,cv].set j y=[cu',cv']):NewR w0 (w.setCell ⟨w0.heap.size+1,j,none⟩ y) cu' cv' u v o:=by
 have hq:=h.2.2.2.2;have hA:Agr (fun k=>k=w0.heap.size+1) w (w.setCell ⟨w0.heap.size+1,j,none⟩ y):=Agr.set w _ _ rfl;have hb:=h.2.1.set1 (j:=j) (by simpa using hj) y;rw [hc] at hb;exact ⟨h.1.agr hA (fun k hk _=>⟨by omega,fun e=>by have:=hq k (.inl e);omega,fun e=>by have:=hq k (.inr e);omega⟩) (fun k h _=>h),hb,h.2.2.1.other (by show w0.heap.size+1 ≠ w0.heap.size;omega) _,h.2.2.2.1.setCell (by show w0.heap.size<=w0.heap.size+1;omega) _,hq⟩
theorem NewR.shT {n:Nat} (h:NewR w0 w cu cv u v o) (hn:o.trays.length=n):∃ a c,u=.slice a n c/\NewR w0 w cu cv (.slice a n c) v o:=by
 obtain ⟨⟨a,c,e⟩,-⟩:=h.1.shape;rw [hn] at e;exact ⟨a,c,e,by rw [<- e];exact h⟩
theorem NewR.shL {n:Nat} (h:NewR w0 w cu cv u v o) (hn:o.totals.length=n):∃ a c,v=.slice a n c/\NewR w0 w cu cv u (.slice a n c) o:=by
 obtain ⟨-,a,c,e⟩:=h.1.shape;rw [hn] at e;exact ⟨a,c,e,by rw [<- e];exact h⟩
end
theorem l15Own_c {o:OffT} {u v:Value} {w0:World} {B P:Nat} (ho:RdOff B w0 u v o) (hbp:Box w0 P [u,v]) (hk:CopyOk o) :
 Calls Tryz.prog 40 #[.pointer (some ⟨P,0,none⟩)] w0 fun e w'=>(∃ u' v',e=.returned (.agg #[u',v'])/\(∃ a c,u'=.slice a o.trays.length c)/\(∃ a c,v'=.slice a o.totals.length c)/\OffN w0.heap.size (fun k=>k<w0.heap.size) w' u' v' o)/\Below w0.heap.size w0 w':=by
 obtain ⟨i0,hi,hz0,hz1,hz2⟩:=info_parts Tryz.infoDk;obtain ⟨i1,ti,tz0,tz1,tz2⟩:=info_parts Tryz.infoTotal;obtain ⟨i2,si,sz0,sz1,sz2⟩:=info_parts Tryz.infoTl;have hot:=ho.tight;obtain ⟨uo0,uc0,rfl,hop⟩:=RdL.open yBH hot.1;obtain ⟨vo0,vc0,rfl,hop2⟩:=RdL.open rowK_T hot.2;obtain ⟨ts,ls⟩:=o;have hPl:=hbp.lt;have a1:(w0.alloc (.cells #[.slice none 0 0,.slice none 0 0] 35)).heap.size=w0.heap.size+1:=by simp
 obtain ⟨T,hT⟩:∃ T,T=(w0.alloc (.cells #[.slice none 0 0,.slice none 0 0] 35)).alloc (.cells #[.slice none 0 0,.slice none 0 0] 35):=⟨_,rfl⟩;have hR:Box T w0.heap.size [.slice none 0 0,.slice none 0 0]:=by rw [hT];exact (Box.new w0 [.slice none 0 0,.slice none 0 0] _).alloc _
 have hXb:Box T (w0.heap.size+1) [.slice none 0 0,.slice none 0 0]:=by
  have h:=Box.new (w0.alloc (.cells #[.slice none 0 0,.slice none 0 0] 35)) [.slice none 0 0,.slice none 0 0] 35;rw [a1,<- hT] at h;exact h
 have hbT:Below w0.heap.size w0 T:=by rw [hT];exact ((zB _ _).alloc (zA _) _).alloc (by rw [a1];omega) _
 have hS0:NewR w0 T (.slice none 0 0) (.slice none 0 0) (.slice none 0 0) (.slice none 0 0) ⟨[],[]⟩ :=
  ⟨⟨[],[],Own.nil _ _ _ _,Own.nil _ _ _ _,RwsG.nil _ _ _,RwsG.nil _ _ _,fun q hq=>by cases hq⟩,hXb,hR,hbT,fun q hq=>by rcases hq with hq | hq <;> cases hq⟩
 have HS0:=hid hS0;have HT:=hid hT;have hbp0:=hbp.on hbT;have z0:=hbp0.cell 0 _ rfl;have HP:=hid hbp;have Hop:=hid hop;have Hop2:=hid hop2;have Hk:=hid hk;have hn1:=hk.nt;have hn2:=hk.nl;obtain ⟨n,hn⟩:∃ n,n=ts.length:=⟨_,rfl⟩;obtain ⟨m,hm⟩:∃ m,m=ls.length:=⟨_,rfl⟩;simp only [<- hn,<- hm] at Hop Hop2 HP z0 hn1 hn2 |-;have Hn:=hid hn;have Hm:=hid hm;clear ho hot hop hop2 hT a1 hR hXb hbT hS0 hk hn hm hbp hbp0;obtain ⟨vT,hv0⟩:∃ vT,vT=Value.slice none 0 0:=⟨_,rfl⟩;have Hv0:=hid hv0;go_enter Tryz.func40,Tryz.ntmps40;go_upto_region 2 with fail;rw [<- HT.out];go_wp2;go_loopw [4] (fun iv wr=>∃ (k:Nat) (uo:Option Addr) (uc:Nat),k<=n/\iv=.int .i64 k/\Hid (NewR w0 wr (.slice uo k uc) (.slice none 0 0) (.slice uo k uc) (.slice none 0 0) ⟨ts.take k,[]⟩)) (fun i _=>n - (intOf i).toNat)
 case atStart=>exact ⟨0,_,_,zK _,rfl,HS0⟩
 case round =>
  obtain ⟨k,uo,uc,hk,rfl,HS⟩:=hrel;rw [<- hv0] at HS;clear HS0 z0;obtain ⟨W9,hW9⟩:∃ W9,W9=wr:=⟨_,rfl⟩;subst hW9;have hbl0:=HS.out.2.2.2.1;have z0:=(HP.out.below hbl0 hPl).cell 0 _ rfl;by_cases hkn:k<n
  . obtain ⟨b,off,rfl,hlt,hc⟩:=Hop.out (by omega)
    obtain ⟨d,ro,rc,hd,hcell,hrd⟩:=hc k hkn;have hs:=HS.out;have hbl:=hs.2.2.2.1;have d1:=(hbl.cell (p:=⟨b,off+k,none⟩) hlt.2).trans hcell;have hrw:=RdInt64SS.onn hrd hbl;have hro:=Hk.out.rows d (zC hd);have hnd:=fun (w:World) (hw:Below W9.heap.size W9 w)=>l02Copy_c (w:=w) (RdInt64SS.onn hrw hw) hro;obtain ⟨dl,hdl⟩:∃ dl,dl=d.length:=⟨_,rfl⟩;have Hnd:Hid (∀ (w:World),Below W9.heap.size W9 w->Calls Tryz.prog 80 #[.slice ro dl rc] w fun e w'=>(∃ a c,e=.returned (.slice a dl c)/\FrD W9.heap.size w' (.slice a dl c) d)/\Below w.heap.size w w'):=hid (fun w hw=>by
     have h:=hnd w hw;rw [<- hdl] at h;refine h.mono (fun e w' h=>⟨?_,h.2⟩);obtain ⟨r,he,hO⟩:=h.1;have hf:=(FrD.own hO).mono hw.size;obtain ⟨a,c,hs9⟩:=hf.shape;rw [<- hdl] at hs9;subst hs9;exact ⟨a,c,he,hf⟩)
    obtain ⟨hs1,hO,hhl,hfin⟩:=hs.appT;have hlk:(ts.take k).length=k:=by rw [zI];have:=Hn.out;omega
    have HO:=hid hO;have Hl:Hid (hs1.length<=1000):=hid (by rw [hhl];simp only [];rw [hlk];omega);have Hsz:Hid (w0.heap.size<=W9.heap.size):=hid hbl.size;have Hfin:=hid hfin;have Htl:Hid ((OffT.mk (ts.take k++[d]) []).trays.length=k+1):=hid (by show (ts.take k++[d]).length=k+1;rw [zE,hlk];rfl);have Htk:=hid (show ts.take (k+1)=ts.take k++[d] from yAE hd);have x0:=hs.2.1.cell 0 _ rfl;have x1:=hs.2.1.free 0;have hkI:(k:Int)<(n:Int):=by omega
    have Hvt:=hid hv0;rw [<- hdl] at d1;clear hc hcell hrd hrw hro hnd hs hbl hbl0 hO hhl hfin hlk hd hdl hv0;go_upto_region 5 with fail;refine yBL (W:=W9) (undef) 11 13 (fun i=>match i with | 0=>true | 2=>true | 3=>true | 4=>true | 6=>true | 12=>true | _=>false) (fun i v w=>match i with | 0=>v=.pointer (some ⟨w0.heap.size+1,0,none⟩) | 1=>v=.slice uo k uc | 2=>v=.pointer (some ⟨P,0,none⟩) | 3=>v=.pointer (some ⟨P,0,none⟩) | 4=>v=.pointer (some ⟨P,0,none⟩) | 5=>v=.slice (some ⟨b,off,none⟩) n uc0 | 6=>v=.int .i64 k | 7=>v=.pointer (some ⟨b,off+k,none⟩) | 8=>v=.slice ro dl rc | 9=>∃ a c,v=.slice a dl c/\FrD W9.heap.size w (.slice a dl c) d | 10=>∃ y:SlV,Rds eS w.heap.size w v [y]/\FrD W9.heap.size w y.val d | 12=>v=.pointer (some ⟨w0.heap.size+1,0,none⟩) | _=>True) (fun v w=>∃ a c,v=.slice a (k+1) c/\NewR w0 w (.slice uo k uc) vT (.slice a (k+1) c) vT ⟨ts.take k++[d],[]⟩) (fun x v w=>∃ a c,NewR w0 w (.slice a (k+1) c) vT (.slice a (k+1) c) vT ⟨ts.take k++[d],[]⟩) (by kernel_rfl) (by kernel_rfl) (by kernel_rfl) (by kernel_rfl) (by kernel_rfl) ?_ ?_ ?_ ?_
    . intro i v w w' h hb
      iterate 14 (obtain _ | i:=i;· first | exact h | (obtain ⟨a,c,h1,h2⟩:=h;exact ⟨a,c,h1,FrD.onB h2 hb⟩) | (obtain ⟨y,h1,h2⟩:=h;exact ⟨y,Rds.onn h1 hb,FrD.onB h2 hb⟩))
      exact h
    . intro i v w w' hp h
      iterate 14 (obtain _ | i:=i;· first | exact h | exact absurd hp (by decide))
      exact h
    . intro vs hvs
      match vs,hvs with
      | [v0,v1,v2,v3,v4,v5,v6,v7,v8,v9,v10,v11,v12,v13],_ =>
       refine ⟨?_,?_,?_,?_,?_,?_,?_,?_,?_,?_,?_,?_,?_,?_,trivial⟩
       . refine yAM ?_ ?_ ?_ ?_;exact (by decide);exact (by decide);kernel_rfl
         intro wr h0 hd;clear h0;clear hd;unfold relAt;simp only [putAll];go_simp;simp only [relUpon];trivial
       . refine yAL ?_ ?_ ?_ ?_;exact (by decide);exact (by decide);kernel_rfl
         intro wr h0 hC hd;clear h0;have d0:v0=.pointer (some ⟨w0.heap.size+1,0,none⟩):=yAC 0 (by kernel_rfl) hd;subst d0;clear hd;have e:=(hC.cell (p:=⟨w0.heap.size+1,0,none⟩) (World.block_lt_of_cell? _ _ x0)).trans x0;unfold relAt;simp only [putAll];go_simp;simp only [relUpon];exact ⟨zB _ _,by first | rfl | trivial⟩
       . refine yAM ?_ ?_ ?_ ?_;exact (by decide);exact (by decide);kernel_rfl
         intro wr h0 hd;clear h0;clear hd;unfold relAt;simp only [putAll];go_simp;simp only [relUpon];trivial
       . refine yAM ?_ ?_ ?_ ?_;exact (by decide);exact (by decide);kernel_rfl
         intro wr h0 hd;clear h0;have d2:v2=.pointer (some ⟨P,0,none⟩):=yAC 2 (by kernel_rfl) hd rfl;subst d2;clear hd;unfold relAt;simp only [putAll];go_simp;simp only [relUpon];trivial
       . refine yAM ?_ ?_ ?_ ?_;exact (by decide);exact (by decide);kernel_rfl
         intro wr h0 hd;clear h0;have d3:v3=.pointer (some ⟨P,0,none⟩):=yAC 3 (by kernel_rfl) hd rfl;subst d3;clear hd;unfold relAt;simp only [putAll];go_simp;simp only [relUpon];trivial
       . refine yAL ?_ ?_ ?_ ?_;exact (by decide);exact (by decide);kernel_rfl
         intro wr h0 hC hd;clear h0;have d4:v4=.pointer (some ⟨P,0,none⟩):=yAC 4 (by kernel_rfl) hd;subst d4;clear hd;have e:=(hC.cell (p:=⟨P,0,none⟩) (World.block_lt_of_cell? _ _ z0)).trans z0;unfold relAt;simp only [putAll];go_simp;simp only [relUpon];exact ⟨zB _ _,by first | rfl | trivial⟩
       . refine yAM ?_ ?_ ?_ ?_;exact (by decide);exact (by decide);kernel_rfl
         intro wr h0 hd;clear h0;clear hd;unfold relAt;simp only [putAll];go_simp;simp only [relUpon];trivial
       . refine yAL ?_ ?_ ?_ ?_;exact (by decide);exact (by decide);kernel_rfl
         intro wr h0 hC hd;clear h0;have d5:v5=.slice (some ⟨b,off,none⟩) n uc0:=yAC 5 (by kernel_rfl) hd;subst d5;have d6:v6=.int .i64 k:=yAC 6 (by kernel_rfl) hd;subst d6;clear hd;unfold relAt;simp only [putAll];go_simp;simp only [relUpon];exact ⟨zB _ _,by first | rfl | trivial⟩
       . refine yAL ?_ ?_ ?_ ?_;exact (by decide);exact (by decide);kernel_rfl
         intro wr h0 hC hd;clear h0;have d7:v7=.pointer (some ⟨b,off+k,none⟩):=yAC 7 (by kernel_rfl) hd;subst d7;clear hd;have e:=(hC.cell (p:=⟨b,off+k,none⟩) (World.block_lt_of_cell? _ _ d1)).trans d1;unfold relAt;simp only [putAll];go_simp;simp only [relUpon];exact ⟨zB _ _,by first | rfl | trivial⟩
       . refine yAL ?_ ?_ ?_ ?_;exact (by decide);exact (by decide);kernel_rfl
         intro wr h0 hC hd;clear h0;have d8:v8=.slice ro dl rc:=yAC 8 (by kernel_rfl) hd;subst d8;clear hd;unfold relAt;simp only [putAll];go_simp;simp only [relUpon];with_reducible refine (Hnd.out wr hC).mono ?_
         rintro e w9 ⟨⟨a,c,rfl,hf9⟩,hb9⟩;exact ⟨_,rfl,hb9,a,c,rfl,hf9⟩
       . refine yAL ?_ ?_ ?_ ?_;exact (by decide);exact (by decide);kernel_rfl
         intro wr h0 hC hd;clear h0;have d9:∃ a c,v9=.slice a dl c/\FrD W9.heap.size wr (.slice a dl c) d:=yAC 9 (by kernel_rfl) hd;clear hd;have q1:=d9.choose_spec;generalize d9.choose=a9 at q1;clear d9;have q2:=q1.choose_spec;generalize q1.choose=c9 at q2;clear q1;have h8:=q2.1;have h9:=q2.2;clear q2;subst h8;unfold relAt;simp only [putAll];go_simp;simp only [relUpon];exact ⟨(zB _ _).alloc (zA _) _,⟨a9,dl,c9⟩,(yAJ (E:=eS) (x:=⟨a9,dl,c9⟩) trivial rfl).mono (by simp),FrD.onB h9 ((zB _ _).alloc (zA _) _)⟩
       . refine appStep_p ?_ ?_;kernel_rfl
         intro wr h0 hC hd;clear h0;have d1:v1=.slice uo k uc:=yAC 1 (by kernel_rfl) hd;subst d1;have d10:∃ y:SlV,Rds eS wr.heap.size wr v10 [y]/\FrD W9.heap.size wr y.val d:=yAC 10 (by kernel_rfl) hd;clear hd;have q1:=d10.choose_spec;generalize d10.choose=y9 at q1;clear d10;simp only [putAll];refine relAt_appS (E:=eS) _ _ 32 rfl Tryz.underlying32 hi hz0 hz1 hz2 rfl (by decide) (by kernel_rfl) (by kernel_rfl) (HO.out.below hC (zA _)) q1.1 ?b1 ?b2 ?b3 ?b4
         case b1=>have:=Hl.out;unfold maxLen;simp;omega
         case b2=>have:=Hl.out;simp;omega
         case b3=>have:=hC.size;have:=Hsz.out;omega
         case b4=>exact fun v9 w9 ho9 hg9=>(Hfin.out wr y9 d hC q1.2 w9 v9 ho9 hg9).shT Htl.out
       . refine yAM ?_ ?_ ?_ ?_;exact (by decide);exact (by decide);kernel_rfl
         intro wr h0 hd;clear h0;clear hd;unfold relAt;simp only [putAll];go_simp;simp only [relUpon];trivial
       . refine appStep_s ?_ ?_ ?_;exact (by decide);kernel_rfl
         intro wr h0 hA hd;replace hA:∃ a c,v11=.slice a (k+1) c/\NewR w0 wr (.slice uo k uc) vT (.slice a (k+1) c) vT ⟨ts.take k++[d],[]⟩:=hA;clear h0;have d12:v12=.pointer (some ⟨w0.heap.size+1,0,none⟩):=yAC 12 (by kernel_rfl) hd rfl;subst d12;clear hd;have q1:=hA.choose_spec;generalize hA.choose=a9 at q1;clear hA;have q2:=q1.choose_spec;generalize q1.choose=c9 at q2;clear q1;have h8:=q2.1;have h9:=q2.2;clear q2;subst h8;have f0:=h9.2.1.cell 0 _ rfl;have f1:=h9.2.1.free 0;have hfin:=h9.put 0 (.slice a9 (k+1) c9) (by omega) rfl;have Hfn:=hid hfin;clear hfin h9;unfold relAt;simp only [putAll];go_simp;simp only [relUpon];exact ⟨_,_,Hfn.out⟩
    . intro vs wq hvs hZ hI
      match vs,hvs,hZ,hI with
      | [v0,v1,v2,v3,v4,v5,v6,v7,v8,v9,v10,v11,v12,v13],_,hZ,hI =>
       replace hZ:∃ a c,NewR w0 wq (.slice a (k+1) c) vT (.slice a (k+1) c) vT ⟨ts.take k++[d],[]⟩:=hZ;have d0:v0=.pointer (some ⟨w0.heap.size+1,0,none⟩):=hI 0 (by decide) rfl;subst d0;have d2:v2=.pointer (some ⟨P,0,none⟩):=hI 2 (by decide) rfl;subst d2;have d3:v3=.pointer (some ⟨P,0,none⟩):=hI 3 (by decide) rfl;subst d3;have d4:v4=.pointer (some ⟨P,0,none⟩):=hI 4 (by decide) rfl;subst d4;have d6:v6=.int .i64 k:=hI 6 (by decide) rfl;subst d6;have d12:v12=.pointer (some ⟨w0.heap.size+1,0,none⟩):=hI 12 (by decide) rfl;subst d12;clear hI;simp only [putAll];go_simp;clear x0 x1 d1 z0;obtain ⟨ua,uca,hZ⟩:=hZ;rw [Hvt.out] at hZ;have Hs9:=hid hZ;clear hZ;go_wp2;go_roundw
       case rel=>exact ⟨k+1,_,_,by omega,by go_num,by rw [Htk.out];exact Hs9⟩
       case measure=>simp [intOf];omega
  . obtain rfl:k=n:=by omega
    obtain ⟨uF,huF⟩:∃ uF,uF=Value.slice uo k uc:=⟨_,rfl⟩;have HuF:=hid huF;have hs:=HS.out;rw [<- huF,zH (by have:=Hn.out;omega)] at hs;have z1:=(HP.out.below hbl0 hPl).cell 1 _ rfl;rw [hv0] at hs;have Hs0:Hid (NewR w0 W9 uF (.slice none 0 0) uF (.slice none 0 0) ⟨ts,ls.take 0⟩):=hid hs;clear hs huF HS hv0 hbl0;go_wp2;go_loopw [5] (fun iv wr=>∃ (k:Nat) (lo2:Option Addr) (lc2:Nat),k<=m/\iv=.int .i64 k/\Hid (NewR w0 wr uF (.slice lo2 k lc2) uF (.slice lo2 k lc2) ⟨ts,ls.take k⟩)) (fun i _=>m - (intOf i).toNat)
    case atStart=>exact ⟨0,_,_,zK _,rfl,Hs0⟩
    case round =>
     obtain ⟨k,lo2,lc2,hk,rfl,HS⟩:=hrel;clear Hs0 z1 z0;obtain ⟨W9,hW9⟩:∃ W9,W9=wr:=⟨_,rfl⟩;subst hW9;have hbl0:=HS.out.2.2.2.1;have z1:=(HP.out.below hbl0 hPl).cell 1 _ rfl;by_cases hkm:k<m
     . obtain ⟨b,off,rfl,hlt,hc⟩:=Hop2.out (by omega)
       obtain ⟨l,ro,rc,hl,hcell,hrd⟩:=hc k hkm;have hs:=HS.out;have hbl:=hs.2.2.2.1;have d1:=(hbl.cell (p:=⟨b,off+k,none⟩) hlt.2).trans hcell;have hrw:Rds eTotal W9.heap.size W9 _ l:=Rds.onn hrd hbl;have hll:=Hk.out.lens l (zC hl);obtain ⟨ll,hlle⟩:∃ ll,ll=l.length:=⟨_,rfl⟩;rw [<- hlle] at hrw d1;have Hrd:=hid hrw;have Hll:=hid hll;have Hll2:=hid hlle.symm;obtain ⟨ks1,hO,hhl,hfin⟩:=hs.appL;have hlk:(ls.take k).length=k:=by rw [zI];have:=Hm.out;omega
       have HO:=hid hO;have Hl:Hid (ks1.length<=1000):=hid (by rw [hhl];simp only [];rw [hlk];omega);have Hsz:Hid (w0.heap.size<=W9.heap.size):=hid hbl.size;have Hfin:=hid hfin;have Htl:Hid ((OffT.mk ts (ls.take k++[l])).totals.length=k+1):=hid (by show (ls.take k++[l]).length=k+1;rw [zE,hlk];rfl);have Htk:=hid (show ls.take (k+1)=ls.take k++[l] from yAE hl);have x0:=hs.2.1.cell 0 _ rfl;have x1:=hs.2.1.cell 1 _ rfl;have hkI:(k:Int)<(m:Int):=by omega
       clear hc hcell hrd hrw hll hs hbl hbl0 hO hhl hfin hlk hl hlle;go_upto_region 9 with fail;refine yBL (W:=W9) (undef) 12 14 (fun i=>match i with | 0=>true | 3=>true | 4=>true | 5=>true | 7=>true | 13=>true | _=>false) (fun i v w=>match i with | 0=>v=.pointer (some ⟨w0.heap.size+1,1,none⟩) | 1=>v=.slice lo2 k lc2 | 2=>∃ e0,v=.slice (some ⟨e0,0,none⟩) 0 0/\Own eTotal 150 W9.heap.size w (.slice (some ⟨e0,0,none⟩) 0 0) [] | 3=>v=.pointer (some ⟨P,0,none⟩) | 4=>v=.pointer (some ⟨P,0,none⟩) | 5=>v=.pointer (some ⟨P,1,none⟩) | 6=>v=.slice (some ⟨b,off,none⟩) m vc0 | 7=>v=.int .i64 k | 8=>v=.pointer (some ⟨b,off+k,none⟩) | 9=>v=.slice ro ll rc | 10=>∃ a c,v=.slice a ll c/\Own eTotal 150 W9.heap.size w (.slice a ll c) l | 11=>∃ y:SlV,Rds eS w.heap.size w v [y]/\Own eTotal 150 W9.heap.size w y.val l | 13=>v=.pointer (some ⟨w0.heap.size+1,1,none⟩) | _=>True) (fun v w=>∃ a c,v=.slice a (k+1) c/\NewR w0 w uF (.slice lo2 k lc2) uF (.slice a (k+1) c) ⟨ts,ls.take k++[l]⟩) (fun x v w=>∃ a c,NewR w0 w uF (.slice a (k+1) c) uF (.slice a (k+1) c) ⟨ts,ls.take k++[l]⟩) (by kernel_rfl) (by kernel_rfl) (by kernel_rfl) (by kernel_rfl) (by kernel_rfl) ?_ ?_ ?_ ?_
       . intro i v w w' h hb
         iterate 15 (obtain _ | i:=i;· first | exact h | (obtain ⟨e0,h1,h2⟩:=h;exact ⟨e0,h1,h2.below hb (zA _)⟩) | (obtain ⟨a,c,h1,h2⟩:=h;exact ⟨a,c,h1,h2.below hb (zA _)⟩) | (obtain ⟨y,h1,h2⟩:=h;exact ⟨y,Rds.onn h1 hb,h2.below hb (zA _)⟩))
         exact h
       . intro i v w w' hp h
         iterate 15 (obtain _ | i:=i;· first | exact h | exact absurd hp (by decide))
         exact h
       . intro vs hvs
         match vs,hvs with
         | [v0,v1,v2,v3,v4,v5,v6,v7,v8,v9,v10,v11,v12,v13,v14],_ =>
          refine ⟨?_,?_,?_,?_,?_,?_,?_,?_,?_,?_,?_,?_,?_,?_,?_,trivial⟩
          . refine yAM ?_ ?_ ?_ ?_;exact (by decide);exact (by decide);kernel_rfl
            intro wr h0 hd;clear h0;clear hd;unfold relAt;simp only [putAll];go_simp;simp only [relUpon];trivial
          . refine yAL ?_ ?_ ?_ ?_;exact (by decide);exact (by decide);kernel_rfl
            intro wr h0 hC hd;clear h0;have d0:v0=.pointer (some ⟨w0.heap.size+1,1,none⟩):=yAC 0 (by kernel_rfl) hd;subst d0;clear hd;have e:=(hC.cell (p:=⟨w0.heap.size+1,1,none⟩) (World.block_lt_of_cell? _ _ x1)).trans x1;unfold relAt;simp only [putAll];go_simp;simp only [relUpon];exact ⟨zB _ _,by first | rfl | trivial⟩
          . refine yAL ?_ ?_ ?_ ?_;exact (by decide);exact (by decide);kernel_rfl
            intro wr h0 hC hd;clear h0;clear hd;unfold relAt;simp only [putAll];go_simp;simp only [relUpon];exact ⟨(zB _ _).alloc (zA _) _,_,rfl,Own.lit (E:=eTotal) (xs:=[]) (cs:=#[]) hC.size rfl rfl (by decide) (fun x hx=>by cases hx)⟩
          . refine yAM ?_ ?_ ?_ ?_;exact (by decide);exact (by decide);kernel_rfl
            intro wr h0 hd;clear h0;clear hd;unfold relAt;simp only [putAll];go_simp;simp only [relUpon];trivial
          . refine yAM ?_ ?_ ?_ ?_;exact (by decide);exact (by decide);kernel_rfl
            intro wr h0 hd;clear h0;have d3:v3=.pointer (some ⟨P,0,none⟩):=yAC 3 (by kernel_rfl) hd rfl;subst d3;clear hd;unfold relAt;simp only [putAll];go_simp;simp only [relUpon];trivial
          . refine yAM ?_ ?_ ?_ ?_;exact (by decide);exact (by decide);kernel_rfl
            intro wr h0 hd;clear h0;have d4:v4=.pointer (some ⟨P,0,none⟩):=yAC 4 (by kernel_rfl) hd rfl;subst d4;clear hd;unfold relAt;simp only [putAll];go_simp;simp only [relUpon];trivial
          . refine yAL ?_ ?_ ?_ ?_;exact (by decide);exact (by decide);kernel_rfl
            intro wr h0 hC hd;clear h0;have d5:v5=.pointer (some ⟨P,1,none⟩):=yAC 5 (by kernel_rfl) hd;subst d5;clear hd;have e:=(hC.cell (p:=⟨P,1,none⟩) (World.block_lt_of_cell? _ _ z1)).trans z1;unfold relAt;simp only [putAll];go_simp;simp only [relUpon];exact ⟨zB _ _,by first | rfl | trivial⟩
          . refine yAM ?_ ?_ ?_ ?_;exact (by decide);exact (by decide);kernel_rfl
            intro wr h0 hd;clear h0;clear hd;unfold relAt;simp only [putAll];go_simp;simp only [relUpon];trivial
          . refine yAL ?_ ?_ ?_ ?_;exact (by decide);exact (by decide);kernel_rfl
            intro wr h0 hC hd;clear h0;have d6:v6=.slice (some ⟨b,off,none⟩) m vc0:=yAC 6 (by kernel_rfl) hd;subst d6;have d7:v7=.int .i64 k:=yAC 7 (by kernel_rfl) hd;subst d7;clear hd;unfold relAt;simp only [putAll];go_simp;simp only [relUpon];exact ⟨zB _ _,by first | rfl | trivial⟩
          . refine yAL ?_ ?_ ?_ ?_;exact (by decide);exact (by decide);kernel_rfl
            intro wr h0 hC hd;clear h0;have d8:v8=.pointer (some ⟨b,off+k,none⟩):=yAC 8 (by kernel_rfl) hd;subst d8;clear hd;have e:=(hC.cell (p:=⟨b,off+k,none⟩) (World.block_lt_of_cell? _ _ d1)).trans d1;unfold relAt;simp only [putAll];go_simp;simp only [relUpon];exact ⟨zB _ _,by first | rfl | trivial⟩
          . refine yAL ?_ ?_ ?_ ?_;exact (by decide);exact (by decide);kernel_rfl
            intro wr h0 hC hd;clear h0;have d2:∃ e0,v2=.slice (some ⟨e0,0,none⟩) 0 0/\Own eTotal 150 W9.heap.size wr (.slice (some ⟨e0,0,none⟩) 0 0) []:=yAC 2 (by kernel_rfl) hd;have d9:v9=.slice ro ll rc:=yAC 9 (by kernel_rfl) hd;subst d9;clear hd;have h8:=d2.choose_spec.1;have h9:=d2.choose_spec.2;generalize d2.choose=e0 at h8 h9;clear d2;subst h8;simp only [putAll];refine relAt_copyS (E:=eTotal) (ys:=l) _ _ 110 rfl Tryz.underlying110 ti tz0 tz1 tz2 rfl (by decide) (by kernel_rfl) (by kernel_rfl) h9 (Rds.onn Hrd.out hC) ?b1 ?b2 ?b3 ?b4
            case b1=>have:=Hll.out;unfold maxLen;omega
            case b2=>have:=Hll.out;omega
            case b3=>exact hC.size
            case b4=>exact fun v9 w9 ho9 hb9=>⟨hb9,OwnShape ho9 Hll2.out⟩
          . refine yAL ?_ ?_ ?_ ?_;exact (by decide);exact (by decide);kernel_rfl
            intro wr h0 hC hd;clear h0;have d10:∃ a c,v10=.slice a ll c/\Own eTotal 150 W9.heap.size wr (.slice a ll c) l:=yAC 10 (by kernel_rfl) hd;clear hd;have q1:=d10.choose_spec;generalize d10.choose=a9 at q1;clear d10;have q2:=q1.choose_spec;generalize q1.choose=c9 at q2;clear q1;have h8:=q2.1;have h9:=q2.2;clear q2;subst h8;unfold relAt;simp only [putAll];go_simp;simp only [relUpon];exact ⟨(zB _ _).alloc (zA _) _,⟨a9,ll,c9⟩,(yAJ (E:=eS) (x:=⟨a9,ll,c9⟩) trivial rfl).mono (by simp),h9.below ((zB _ _).alloc (zA _) _) (zA _)⟩
          . refine appStep_p ?_ ?_;kernel_rfl
            intro wr h0 hC hd;clear h0;have d1:v1=.slice lo2 k lc2:=yAC 1 (by kernel_rfl) hd;subst d1;have d11:∃ y:SlV,Rds eS wr.heap.size wr v11 [y]/\Own eTotal 150 W9.heap.size wr y.val l:=yAC 11 (by kernel_rfl) hd;clear hd;have q1:=d11.choose_spec;generalize d11.choose=y9 at q1;clear d11;simp only [putAll];refine relAt_appS (E:=eS) _ _ 33 rfl Tryz.underlying33 si sz0 sz1 sz2 rfl (by decide) (by kernel_rfl) (by kernel_rfl) (HO.out.below hC (zA _)) q1.1 ?b1 ?b2 ?b3 ?b4
            case b1=>have:=Hl.out;unfold maxLen;simp;omega
            case b2=>have:=Hl.out;simp;omega
            case b3=>have:=hC.size;have:=Hsz.out;omega
            case b4=>exact fun v9 w9 ho9 hg9=>(Hfin.out wr y9 l hC (OwnFrT q1.2) w9 v9 ho9 hg9).shL Htl.out
          . refine yAM ?_ ?_ ?_ ?_;exact (by decide);exact (by decide);kernel_rfl
            intro wr h0 hd;clear h0;clear hd;unfold relAt;simp only [putAll];go_simp;simp only [relUpon];trivial
          . refine appStep_s ?_ ?_ ?_;exact (by decide);kernel_rfl
            intro wr h0 hA hd;replace hA:∃ a c,v12=.slice a (k+1) c/\NewR w0 wr uF (.slice lo2 k lc2) uF (.slice a (k+1) c) ⟨ts,ls.take k++[l]⟩:=hA;clear h0;have d13:v13=.pointer (some ⟨w0.heap.size+1,1,none⟩):=yAC 13 (by kernel_rfl) hd rfl;subst d13;clear hd;have q1:=hA.choose_spec;generalize hA.choose=a9 at q1;clear hA;have q2:=q1.choose_spec;generalize q1.choose=c9 at q2;clear q1;have h8:=q2.1;have h9:=q2.2;clear q2;subst h8;have f0:=h9.2.1.cell 1 _ rfl;have f1:=h9.2.1.free 1;have hfin:=h9.put 1 (.slice a9 (k+1) c9) (by omega) rfl;have Hfn:=hid hfin;clear hfin h9;unfold relAt;simp only [putAll];go_simp;simp only [relUpon];exact ⟨_,_,Hfn.out⟩
       . intro vs wq hvs hZ hI
         match vs,hvs,hZ,hI with
         | [v0,v1,v2,v3,v4,v5,v6,v7,v8,v9,v10,v11,v12,v13,v14],_,hZ,hI =>
          replace hZ:∃ a c,NewR w0 wq uF (.slice a (k+1) c) uF (.slice a (k+1) c) ⟨ts,ls.take k++[l]⟩:=hZ;have d0:v0=.pointer (some ⟨w0.heap.size+1,1,none⟩):=hI 0 (by decide) rfl;subst d0;have d3:v3=.pointer (some ⟨P,0,none⟩):=hI 3 (by decide) rfl;subst d3;have d4:v4=.pointer (some ⟨P,0,none⟩):=hI 4 (by decide) rfl;subst d4;have d5:v5=.pointer (some ⟨P,1,none⟩):=hI 5 (by decide) rfl;subst d5;have d7:v7=.int .i64 k:=hI 7 (by decide) rfl;subst d7;have d13:v13=.pointer (some ⟨w0.heap.size+1,1,none⟩):=hI 13 (by decide) rfl;subst d13;clear hI;simp only [putAll];go_simp;clear x0 x1 d1 z1;obtain ⟨ua,uca,hZ⟩:=hZ;have Hs9:=hid hZ;clear hZ;go_wp2;go_roundw
          case rel=>exact ⟨k+1,_,_,by omega,by go_num,by rw [Htk.out];exact Hs9⟩
          case measure=>simp [intOf];omega
     . obtain rfl:k=m:=by omega
       have hs:=HS.out;rw [zH (by have:=Hm.out;omega)] at hs;have x0:=hs.2.1.cell 0 _ rfl;have x1:=hs.2.1.cell 1 _ rfl;have r0:=hs.2.2.1.cell 0 _ rfl;have r1:=hs.2.2.1.cell 1 _ rfl;have rf0:=hs.2.2.1.free 0;have rf1:=hs.2.2.1.free 1;have hq:=hs.2.2.2.2;obtain ⟨vF,hvF⟩:∃ vF,vF=Value.slice lo2 k lc2:=⟨_,rfl⟩;rw [<- hvF] at hs x1 hq;have HvF:=hid hvF;have HFin:∀ (wz:World),Agr (fun q=>q=w0.heap.size) W9 wz->(OffN w0.heap.size (fun k=>k<w0.heap.size) wz uF vF ⟨ts,ls⟩/\Below w0.heap.size w0 wz):=fun wz hA =>
        ⟨hs.1.agr hA (fun q hq2 _=>⟨by omega,fun e=>by have:=hq q (.inl e);omega,fun e=>by have:=hq q (.inr e);omega⟩) (fun q h _=>by omega),hs.2.2.2.1.trans (hA.below (fun q hq=>by omega) hs.2.2.2.1.size)⟩
       have HFin:=hid HFin;clear hs hq hvF HS hbl0;have e1:=HuF.out;have e2:=HvF.out;clear HuF HvF;subst e1;subst e2;go_wp2;exact bodyPost_ret (v:=.agg #[_,_]) (by simp [results,Tryz.results40,go_sem,r0,r1]) rfl ⟨⟨_,_,rfl,⟨_,_,rfl⟩,⟨_,_,rfl⟩,(HFin.out _ (agr2 W9 w0.heap.size _ _)).1⟩,(HFin.out _ (agr2 W9 w0.heap.size _ _)).2⟩
def OwnX (n X:Nat) (w:World) (u v:Value) (o:OffT):Prop:=OwnO (fun q=>n<=q/\q ≠ X/\q<w.heap.size) w u v o
section
variable {n X base:Nat} {w w1 w':World} {u v u' v':Value} {o:OffT}
theorem OwnX.shape (h:OwnX n X w u v o):(∃ a c,u=.slice a o.trays.length c)/\∃ a c,v=.slice a o.totals.length c:=OwnO.shape h
theorem OwnO.lt {lo hi:Nat} (h:OwnO (fun q=>lo<=q/\q<hi) w u v o):(∀ q,u.ownBlock=some q->lo<=q/\q<hi)/\∀ q,v.ownBlock=some q->lo<=q/\q<hi :=
 ⟨fun q hq=>(h.own q (.inl hq)).1,fun q hq=>(h.own q (.inr hq)).1⟩
theorem OwnO.addr {S:Nat->Prop} (h:OwnO S w u v o) (h0:0<o.trays.length):∃ g c,u=.slice (some ⟨g,0,none⟩) o.trays.length c:=by
 obtain ⟨Su,Sv,h1,h2,-⟩:=h;obtain ⟨g,c,e,-⟩:=OwnL.addr h1 h0;exact ⟨g,c,e⟩
theorem OwnX.on (h:OwnX n X w u v o) (hb:Below w.heap.size w w'):OwnX n X w' u v o :=
 (OwnO.agr h (Agr.on (S:=fun _=>False) hb) (fun _ _ h=>h)).sub (fun q hq=>⟨hq.1,hq.2.1,zM hq.2.2 hb.size⟩)
theorem OwnX.appL (h:OwnX n X w u v o) (hn:n<=w.heap.size) (hX:X<w.heap.size) (hbn:base<=n):∃ ks,Own eS 110 base w v ks/\ks.length=o.totals.length /\
 ∀ (w1:World) (hx:SlV) (x:List TotalT),Below w.heap.size w w1->Own eTotal 150 w.heap.size w1 hx.val x->∀ w' v',Own eS 110 base w' v' (ks++[hx])->Grew w1 w' v v'->OwnX n X w' u v' ⟨o.trays,o.totals++[x]⟩:=by
 obtain ⟨Su,Sv,p1,p2,p3,p4,p5⟩:=h;obtain ⟨ks,a1,a2,a3⟩:=OwnL.app rowO_T p2 (fun k hk=>(p4 k hk).2.2);refine ⟨ks,a1.rebase (fun q hq=>by have:=p4 q (OwnL.own p2 q hq).1;omega),a2,fun w1 hx x hb hfr w' v' ho hg=>?_⟩;obtain ⟨b1,b2⟩:=a3 w1 hx x hb (QT.of hfr) w' v' (ho.mono (zK _)) hg;have hs9:=b2.size;refine ⟨Su,_,OwnL.agr rowO_D p1 b2 (fun k hk he=>p5 k hk (OwnL.own p2 k he).1),b1,fun k hk=>by have:=p3 k hk;omega,fun k hk=>?_,fun k hk hk2=>?_⟩
 . rcases hk with e | e
   . have:=p4 k e;omega
   . omega
 . rcases hk2 with e | e
   . exact p5 k hk e
   . have:=p3 k hk;omega
theorem OwnX.setT (h:OwnX n X w u v o) (hn:n<=w.heap.size) (hX:X<w.heap.size) {g m c i:Nat} (hu:u=.slice (some ⟨g,0,none⟩) m c) (hi:i<o.trays.length) {hx:SlV} {x:List (List Int)} (hb:Below w.heap.size w w1) (hfr:OwD w.heap.size w1 hx.val x) :
 (∃ y,w1.cell? ⟨g,i,none⟩=some y)/\w1.frozen? ⟨g,i,none⟩=false/\OwnX n X (w1.setCell ⟨g,i,none⟩ hx.val) u v ⟨o.trays.set i x,o.totals⟩:=by
 obtain ⟨Su,Sv,p1,p2,p3,p4,p5⟩:=h;subst hu;have hm:m=o.trays.length:=by obtain ⟨a,c',e⟩:=OwnL.shape p1;cases e;rfl
 have hA0:Agr (fun _=>False) w w1:=Agr.on hb;obtain ⟨e1,e2,e3,e4⟩:=OwnL.put (k:=i) rowO_D (OwnL.agr rowO_D p1 hA0 (fun _ _ h=>h)) hm (by omega) (QD.of hfr) (fun q hq hq2=>by have:=p3 q hq2;omega);have hgS:=(OwnL.own p1 g rfl).1;have hsz:=hb.size;refine ⟨e1,e2,⟨_,Sv,e3,OwnL.agr rowO_T (OwnL.agr rowO_T p2 hA0 (fun _ _ h=>h)) e4 (fun k hk (he:k=g)=>p5 g hgS (by rw [<- he];exact hk)),fun k hk=>?_,fun k hk=>by have:=p4 k hk;simp;omega,fun k hk hk2=>?_⟩⟩
 . rcases hk with e | e
   . have:=p3 k e;simp;omega
   . simp;omega
 . rcases hk with e | e
   . exact p5 k e hk2
   . have:=p4 k hk2;omega
theorem OwnX.turn (h:OwnX n X w u v o) (hA:Agr (fun k=>k=X) w w'):OwnX n X w' u v o :=
 (OwnO.agr h hA (fun k hk he=>hk.2.1 he)).sub (fun q hq=>⟨hq.1,hq.2.1,zM hq.2.2 hA.size⟩)
theorem OwnX.fin {P2 n0:Nat} {x y:Value} (h:OwnX n X w u v o) (hP:P2<n) (hn:n0<=n) :
 OwnO (fun q=>n0<=q/\q<((w.setCell ⟨P2,0,none⟩ x).setCell ⟨P2,1,none⟩ y).heap.size) ((w.setCell ⟨P2,0,none⟩ x).setCell ⟨P2,1,none⟩ y) u v o :=
 (OwnO.agr h (agr2 w P2 x y) (fun k hk he=>by have:=hk.1;omega)).sub (fun q hq=>⟨zO hn hq.1,by simpa using hq.2.2⟩)
end
theorem OffN.low {base base':Nat} {X:Nat->Prop} {w:World} {u v:Value} {o:OffT} (h:OffN base X w u v o) (hb:base'<=base):OffN base' X w u v o:=by
 obtain ⟨hs,ks,a1,a2,a3⟩:=h;exact ⟨hs,ks,a1.mono hb,a2.mono hb,a3⟩
theorem OffN.lt {base:Nat} {X:Nat->Prop} {w:World} {u v:Value} {o:OffT} (h:OffN base X w u v o):(∀ q,u.ownBlock=some q->base<=q/\q<w.heap.size)/\∀ q,v.ownBlock=some q->base<=q/\q<w.heap.size:=by
 obtain ⟨hs,ks,a1,a2,a3⟩:=h;exact ⟨fun q hq=>a1.lt q hq,fun q hq=>a2.lt q hq⟩
theorem OffN.addr {base:Nat} {X:Nat->Prop} {w:World} {u v:Value} {o:OffT} (h:OffN base X w u v o) (h0:0<o.trays.length):∃ g c,u=.slice (some ⟨g,0,none⟩) o.trays.length c:=by
 obtain ⟨hs,ks,a1,a2,a3,-⟩:=h;obtain ⟨g,c,e,-⟩:=Own.addr a1 (by rw [a3.1];exact h0);rw [a3.1] at e;exact ⟨g,c,e⟩
theorem StOk.small {x:StepT} {c:Int} (h:StOk x c) (hc:c<=20):x.tx.size<=1000:=by
 by_cases h5:x.kd=5
 . have h1:=(h.tx h5).2
   have h2:=h.ff;have:=h2.1;have:=h2.2.1;have:=h2.2.2;omega
 . rw [h.notx h5];omega
theorem fieldP_tray {o:OffT} {k f t:Int} (h:∀ d∈o.trays,deckB d=true/\(d=[]\/colsD d=colO o.trays)) (h6:o.trays.length=6) (hk:trayP k) (hc:colO o.trays<=20) (hf:fieldP f t (colO o.trays)):deckB (trD o k)=true/\fieldP f t (colsD (trD o k)):=by
 have hm:=zC (trD_at h6 hk);have h1:=h _ hm;refine ⟨h1.1,hf.1,hf.2.1,?_⟩;have h2:=hf.2.2;rcases h1.2 with e | e
 . unfold colsD;rw [if_pos e];omega
 . rw [e];exact h2
theorem belowRes {w0 w:World} (hb:Below w0.heap.size w0 w) (x y:Value):Below w0.heap.size w0 ((w.setCell ⟨w0.heap.size+1+1,0,none⟩ x).setCell ⟨w0.heap.size+1+1,1,none⟩ y):=(hb.setCell (by show w0.heap.size<=w0.heap.size+1+1;omega) _).setCell (by show w0.heap.size<=w0.heap.size+1+1;omega) _
theorem doStep_o {o:OffT} {x:StepT} {u v:Value} {w0:World} {B:Nat} (ho:RdOff B w0 u v o) (hv:offB o=true) (hk:CopyOk o) (hx:okStep x) :
 Calls Tryz.prog 50 #[.agg #[u,v],vStep x] w0 fun e w'=>(∃ u' v',e=.returned (.tuple #[.agg #[u',v'],.int .i64 (stpC o x)])/\((∃ a n c,u'=.slice a n c)/\∃ a n c,v'=.slice a n c)/\(stpC o x=0->OwnO (fun q=>w0.heap.size<=q/\q<w'.heap.size) w' u' v' (stpD o x)))/\Below w0.heap.size w0 w':=by
 obtain ⟨k0,hi,hz0,hz1,hz2⟩:=info_parts Tryz.infoTl;have hvp:=yBF hv;have hcb:=colO_bd (ts:=o.trays) (fun d hd=>(hvp.2.2 d hd).1);obtain ⟨uo,uc,rfl⟩:=RdL.shape ho.1;obtain ⟨vo,vc,rfl⟩:=RdL.shape ho.2;have h6:=hvp.1;obtain ⟨T,hT⟩:∃ T,T=((w0.alloc (.cells #[.slice uo o.trays.length uc,.slice vo o.totals.length vc] 35)).alloc (.cells #[.int .i64 x.kd,.int .i64 x.ta,.int .i64 x.tb,.int .i64 x.tc,.int .i64 x.ff,.int .i64 x.ft,.int .i64 x.sf,.int .i64 x.st,.string x.tx] 75)).alloc (.cells #[.slice none 0 0,.slice none 0 0] 35):=⟨_,rfl⟩;have h3:=box3F w0 [.slice uo o.trays.length uc,.slice vo o.totals.length vc] [.int .i64 x.kd,.int .i64 x.ta,.int .i64 x.tb,.int .i64 x.tc,.int .i64 x.ff,.int .i64 x.ft,.int .i64 x.sf,.int .i64 x.st,.string x.tx] [.slice none 0 0,.slice none 0 0] 35 75 35;rw [<- hT] at h3;obtain ⟨hP,hS,hR,hbT⟩:=h3;have hoT:=RdOff.onn ho hbT;have k0:=cell_regrown (hP.cell 0 _ rfl);have k1:=cell_regrown (hP.cell 1 _ rfl);have j0:=cell_regrown (hS.cell 0 _ rfl);have j1:=cell_regrown (hS.cell 1 _ rfl);have j2:=cell_regrown (hS.cell 2 _ rfl);have j3:=cell_regrown (hS.cell 3 _ rfl);have j4:=cell_regrown (hS.cell 4 _ rfl);have j5:=cell_regrown (hS.cell 5 _ rfl);have j6:=cell_regrown (hS.cell 6 _ rfl);have j7:=cell_regrown (hS.cell 7 _ rfl);have j8:=cell_regrown (hS.cell 8 _ rfl);have hoc:=fun y os=>officeColumns_c (w:=grow (redrawn T y) os) (RdOff.below hoT (below_regrown T y os) (zA _));obtain ⟨cc,hcc⟩:∃ c,c=colO o.trays:=⟨_,rfl⟩;rw [<- hcc] at hoc hcb;have hvs:=fun w=>ValidStep_c x cc w hx hcb;obtain ⟨sb,hsb⟩:∃ b,b=stB x cc:=⟨_,rfl⟩;rw [<- hsb] at hvs;obtain ⟨R,hRR⟩:∃ R,stpC o x=R:=⟨_,rfl⟩;rw [hRR];obtain ⟨Z,hZ⟩:∃ Z,stpD o x=Z:=⟨_,rfl⟩;rw [hZ];have HR1:Hid (R=if sb=false then 2 else if x.kd=7 then (if o.totals.length=20 then 5 else totC (trD o x.ta) x.ff x.ft x.sf x.st) else dkC o x):=hid (by rw [<- hRR,hsb,hcc];rfl);have HZ:Hid (Z=if x.kd=7 then ⟨o.trays,o.totals++[totD (trD o x.ta) x.ff x.ft x.sf x.st]⟩ else ⟨o.trays.set x.tc.toNat (dkD o x),o.totals⟩):=hid hZ.symm;have Hst:Hid (sb=true->StOk x cc):=hid (fun h=>by rw [h] at hsb;exact of_decide_eq_true hsb.symm);have Hoc:=hid hoc;have Hvs:=hid hvs;have HT:=hid hT;have HbT:=hid hbT;have HP:=hid hP;have HS:=hid hS;have HR:=hid hR;have HoT:=hid hoT;have Hk:=hid hk;have H6:=hid h6;have Hvp:=hid hvp;have Hcb:=hid hcb;have Hcc:=hid hcc;have HT':=HT.out;clear ho hv hk hx hvp hcb hT hP hS hR hbT hoT hoc hcc hvs hsb hRR hZ;rw [h6] at HT' HP HoT k0 |-;obtain ⟨m,hm⟩:∃ m,m=o.totals.length:=⟨_,rfl⟩;simp only [<- hm] at HT' HP HoT k1 HR1 Hoc |-;rw [h6] at Hoc;have Hm:=hid hm;have HTe:=hid HT';clear h6 hm HT HT';unfold vStep;go_enter Tryz.func50,Tryz.ntmps50;go_upto_region 1 with fail;rw [<- HTe.out];refine wp_region_quiet_below (by kernel_rfl) (by kernel_rfl) ?_;repeat ((with_reducible refine wpQuiet_step (fun K hK=>?_));go_simp;first | ((with_reducible refine hK _ ?_);clear hK K) | (apply Exists.intro;refine ⟨fun _=>?_,hK _ ?_⟩;((first | (go_at_call 91;with_reducible exact yAI (Hoc.out _ _)) | (go_at_call 92;unfold vStep at Hvs;with_reducible exact yAI (Hvs.out _))));clear hK K))
 refine wpQuiet_nil ?_;intro _ hw';obtain ⟨⟨dq,osq⟩,hw''⟩:=hw';subst hw'';have hbq:=below_regrown T dq osq;generalize grow (redrawn T dq) osq=wq at hbq |-;obtain ⟨wA,hwA⟩:∃ x,x=wq:=⟨_,rfl⟩;subst hwA;have HPq:=hid (HP.out.on hbq);have HSq:=hid (HS.out.on hbq);have HRq:=hid (HR.out.on hbq);have Hoq:=hid (RdOff.onn HoT.out hbq);have Hbq:=hid (HbT.out.trans (hbq.mono HbT.out.size));have c0:=HPq.out.cell 0 _ rfl;have c1:=HPq.out.cell 1 _ rfl;have d0:=HSq.out.cell 0 _ rfl;have r0:=HRq.out.cell 0 _ rfl;have r1:=HRq.out.cell 1 _ rfl;have rf0:=HRq.out.free 0;have rf1:=HRq.out.free 1;clear hbq k0 k1 j0 j1 j2 j3 j4 j5 j6 j7 j8;cases sb with
 | false =>
  have HE:Hid (R=2):=hid (by rw [HR1.out,if_pos rfl]);have HB:=hid (belowRes Hbq.out (Value.slice none 0 0) (Value.slice none 0 0));go_wp2;exact bodyPost_ret (v:=.tuple #[.agg #[.slice none 0 0,.slice none 0 0],.int .i64 2]) (by simp [results,Tryz.results50,go_sem,r0,r1]) rfl ⟨⟨_,_,by rw [HE.out],⟨⟨_,_,_,rfl⟩,_,_,_,rfl⟩,fun h=>by rw [HE.out] at h;exact absurd h (by decide)⟩,HB.out⟩
 | true =>
  have hst:=Hst.out rfl;have HR2:Hid (R=if x.kd=7 then (if m=20 then 5 else totC (trD o x.ta) x.ff x.ft x.sf x.st) else dkC o x):=hid (by rw [HR1.out,if_neg (by decide)]);have Hst2:=hid hst;by_cases hful:x.kd=7/\m=20
  . have HE:Hid (R=5):=hid (by rw [HR2.out,if_pos hful.1,if_pos hful.2])
    have HB:=hid (belowRes Hbq.out (Value.slice none 0 0) (Value.slice none 0 0));obtain ⟨h7,h20⟩:=hful;rw [h7] at d0;rw [h20] at c1;clear hst;go_wp2;exact bodyPost_ret (v:=.tuple #[.agg #[.slice none 0 0,.slice none 0 0],.int .i64 5]) (by simp [results,Tryz.results50,go_sem,r0,r1]) rfl ⟨⟨_,_,by rw [HE.out],⟨⟨_,_,_,rfl⟩,_,_,_,rfl⟩,fun h=>by rw [HE.out] at h;exact absurd h (by decide)⟩,HB.out⟩
  . have hnew:=newOffice_o Hoq.out Hk.out
    have Hnew:=hid hnew;clear hnew hst;by_cases h7:x.kd=7
    . have hm20:¬ m=20:=fun h=>hful ⟨h7,h⟩
      have HR3:Hid (R=totC (trD o x.ta) x.ff x.ft x.sf x.st):=hid (by rw [HR2.out,if_pos h7,if_neg hm20]);have HZ2:Hid (Z=⟨o.trays,o.totals++[totD (trD o x.ta) x.ff x.ft x.sf x.st]⟩):=hid (by rw [HZ.out,if_pos h7]);have hm20':((m:Int) == 20)=false:=beq_eq_false_iff_ne.2 (by omega);rw [h7] at d0;have H7:=hid h7;clear hful h7;go_wp2_with fail;with_reducible refine Hnew.out.mono ?_
      rintro e w5 ⟨⟨u5,v5,rfl,hN⟩,hb5⟩;obtain ⟨⟨g1,uc5,hu5⟩,va5,vc5,hv5⟩:(∃ g c,u5=.slice (some ⟨g,0,none⟩) 6 c)/\∃ a c,v5=.slice a m c:=by
       have e1:=hN.addr (by rw [H6.out];omega);have e2:=hN.shape.2;rw [H6.out] at e1;rw [<- Hm.out] at e2;exact ⟨e1,e2⟩
      subst hu5;subst hv5;obtain ⟨X6,hX6⟩:∃ X6,X6=w5.heap.size:=⟨_,rfl⟩;obtain ⟨W6,hW6⟩:∃ W6,W6=w5.alloc (.cells #[.slice (some ⟨g1,0,none⟩) 6 uc5,.slice va5 m vc5] 35):=⟨_,rfl⟩;have hb6:Below w5.heap.size w5 W6:=by rw [hW6];exact (zB _ _).alloc (zA _) _
      have hBX:Box W6 X6 [.slice (some ⟨g1,0,none⟩) 6 uc5,.slice va5 m vc5]:=by rw [hW6,hX6];exact Box.new w5 [.slice (some ⟨g1,0,none⟩) 6 uc5,.slice va5 m vc5] _
      have hlt5:=hN.lt;have hN6:OwnX wA.heap.size X6 W6 (.slice (some ⟨g1,0,none⟩) 6 uc5) (.slice va5 m vc5) o:=(OwnO.agr hN (Agr.on (S:=fun _=>False) hb6) (fun _ _ h=>h)).sub (fun q hq=>⟨hq.1,by have:=hq.2;omega,zM hq.2 hb6.size⟩);have hbA:Below wA.heap.size wA W6:=hb5.trans (hb6.mono hb5.size);have hg1:=hlt5.1 g1 rfl;have hXX:wA.heap.size<=W6.heap.size/\X6<W6.heap.size:=⟨hbA.size,hBX.lt⟩;have HW6:=hid hW6;have HX6:=hid hX6;have HBX:=hid hBX;have HN6:=hid hN6;have HXX:=hid hXX;have HbA:=hid hbA;have Hlt5:=hid hlt5;have Hg1:=hid hg1;have HP6:=hid (HPq.out.on hbA);have HS6:=hid (HSq.out.on hbA);have HR6:=hid (HRq.out.on hbA);have Ho6:=hid (RdOff.onn Hoq.out hbA);have Hb06:=hid (Hbq.out.trans (hbA.mono Hbq.out.size));have hRl:=HRq.out.lt;have HRl:=hid hRl;clear hN hb5 hX6 hW6 hb6 hBX hlt5 hN6 hbA hg1 hXX hRl c0 c1 d0 r0 r1 rf0 rf1;obtain ⟨p,hp⟩:=zG Hst2.out.ta.1;have hp6:p<6:=by have:=Hst2.out.ta.2;omega
      have hft:=fieldP_tray (o:=o) Hvp.out.2.2 H6.out Hst2.out.ta (by rw [<- Hcc.out];exact Hcb.out.2) (by rw [<- Hcc.out];exact Hst2.out.ff);have hfs:=fieldP_tray (o:=o) (f:=x.sf) (t:=x.st) Hvp.out.2.2 H6.out Hst2.out.ta (by rw [<- Hcc.out];exact Hcb.out.2) (by rw [<- Hcc.out];exact (Hst2.out.sum H7.out).1);have ta:=trD_at H6.out Hst2.out.ta;obtain ⟨a,ha⟩:∃ a,a=trD o x.ta:=⟨_,rfl⟩;rw [<- ha] at hft hfs ta;rw [hp,zR] at ta;obtain ⟨C,hC⟩:∃ C,C=totC a x.ff x.ft x.sf x.st:=⟨_,rfl⟩;obtain ⟨L,hL⟩:∃ L,L=totD a x.ff x.ft x.sf x.st:=⟨_,rfl⟩;have HRC:Hid (R=C):=hid (by rw [HR3.out,<- ha];exact hC.symm);have HZL:Hid (Z=⟨o.trays,o.totals++[L]⟩):=hid (by rw [HZ2.out,<- ha,<- hL]);obtain ⟨uo',uc',hs,hop⟩:=RdL.open yBH Ho6.out.1;rw [H6.out] at hs;injection hs with e1 e2 e3;subst e1;subst e3;clear e2;obtain ⟨tb0,off,rfl,hlt,hc⟩:=hop (by rw [H6.out];omega);obtain ⟨a',ao,ac,ha',hac,har⟩:=hc p (by rw [H6.out];omega);rw [ta] at ha';obtain rfl:=zD ha';have hto:=fun (w:World) (hw:Below W6.heap.size W6 w)=>totalsOf_o (w0:=w) (f:=x.ff) (t:=x.ft) (sf:=x.sf) (st:=x.st) (RdInt64SS.onn har hw) hft.1 hft.2 hfs.2 (Hst2.out.sum H7.out).2;obtain ⟨n1,hn1⟩:∃ n,n=a.length:=⟨_,rfl⟩;rw [<- hn1] at hac hto;have Htot:Hid (∀ w,Below W6.heap.size W6 w->Calls Tryz.prog 94 #[.slice ao n1 ac,.agg #[.int .i64 x.ff,.int .i64 x.ft],.agg #[.int .i64 x.sf,.int .i64 x.st]] w fun e w'=>(∃ r,e=.returned (.tuple #[r,.int .i64 C])/\(C=0->Own eTotal 150 W6.heap.size w' r L))/\Below w.heap.size w w'):=hid (fun w hw=>(hto w hw).mono (fun e w' h=>⟨by
       obtain ⟨r,h1,h2⟩:=h.1;rw [<- hC] at h1 h2;rw [<- hL] at h2;exact ⟨r,h1,fun h0=>(h2 h0).mono hw.size⟩,h.2⟩))
      have c0:=HP6.out.cell 0 _ rfl;have c1:=HS6.out.cell 1 _ rfl;rw [hp] at c1;have c3:=hac;have c4:=HS6.out.cell 4 _ rfl;have c5:=HS6.out.cell 5 _ rfl;have c6:=HS6.out.cell 6 _ rfl;have c7:=HS6.out.cell 7 _ rfl;have d0:=HS6.out.cell 0 _ rfl;rw [H7.out] at d0;have i1:(p:Int)<6:=by omega
      clear hft hfs ta ha hC hL hop hc ha' hac har hto hn1 hlt hp;go_upto_region 6 with fail;rw [<- HX6.out,<- HW6.out];go_upto_region 7 with fail;clear d0;refine yBU (fun i v w=>match i with | 0=>v=.pointer (some ⟨w0.heap.size,0,none⟩) | 1=>v=.slice (some ⟨tb0,off,none⟩) 6 uc | 2=>v=.pointer (some ⟨w0.heap.size+1,1,none⟩) | 3=>v=.int .i64 (p:Int) | 4=>v=.pointer (some ⟨tb0,off+p,none⟩) | 5=>v=.slice ao n1 ac | 6=>v=.pointer (some ⟨w0.heap.size+1,4,none⟩) | 7=>v=.agg #[.int .i64 x.ff,.int .i64 x.ft] | 8=>v=.pointer (some ⟨w0.heap.size+1,6,none⟩) | 9=>v=.agg #[.int .i64 x.sf,.int .i64 x.st] | 10=>∃ r,v=.tuple #[r,.int .i64 C]/\(C=0->Own eTotal 150 W6.heap.size w r L) | 11=>∃ r,v=.tuple #[r,.int .i64 C]/\(C=0->Own eTotal 150 W6.heap.size w r L) | 12=>(C=0->Own eTotal 150 W6.heap.size w v L) | 13=>v=.int .i64 C | 14=>(C=0->Own eTotal 150 W6.heap.size w v L) | 15=>v=.int .i64 C | _=>True) (by kernel_rfl) (by kernel_rfl) (by kernel_rfl) ?_ ?_ ?_
      . intro i v w w' h hb
        iterate 16 (obtain _ | i:=i;· first | exact h | (obtain ⟨r,h1,h2⟩:=h;exact ⟨r,h1,fun h0=>Own.below (h2 h0) hb (zA _)⟩) | exact fun h0=>Own.below (h h0) hb (zA _))
        exact h
      . intro vs hvs
        match vs,hvs with
        | [v0,v1,v2,v3,v4,v5,v6,v7,v8,v9,v10,v11,v12,v13,v14,v15],_ =>
         refine ⟨?_,?_,?_,?_,?_,?_,?_,?_,?_,?_,?_,?_,?_,?_,?_,?_,trivial⟩
         . intro wr hC hd
           clear hd;unfold relAt;simp only [putAll];go_simp;simp only [relUpon];exact ⟨zB _ _,by first | rfl | trivial⟩
         . intro wr hC hd
           have d0:v0=.pointer (some ⟨w0.heap.size,0,none⟩):=yAC 0 (by kernel_rfl) hd;subst d0;clear hd;have e0:=(hC.cell (p:=⟨w0.heap.size,0,none⟩) (World.block_lt_of_cell? _ _ c0)).trans c0;unfold relAt;simp only [putAll];go_simp;simp only [relUpon];exact ⟨zB _ _,by first | rfl | trivial⟩
         . intro wr hC hd
           clear hd;unfold relAt;simp only [putAll];go_simp;simp only [relUpon];exact ⟨zB _ _,by first | rfl | trivial⟩
         . intro wr hC hd
           have d2:v2=.pointer (some ⟨w0.heap.size+1,1,none⟩):=yAC 2 (by kernel_rfl) hd;subst d2;clear hd;have e0:=(hC.cell (p:=⟨w0.heap.size+1,1,none⟩) (World.block_lt_of_cell? _ _ c1)).trans c1;unfold relAt;simp only [putAll];go_simp;simp only [relUpon];exact ⟨zB _ _,by first | rfl | trivial⟩
         . intro wr hC hd
           have d1:v1=.slice (some ⟨tb0,off,none⟩) 6 uc:=yAC 1 (by kernel_rfl) hd;subst d1;have d3:v3=.int .i64 (p:Int):=yAC 3 (by kernel_rfl) hd;subst d3;clear hd;unfold relAt;simp only [putAll];go_simp;simp only [relUpon];exact ⟨zB _ _,by first | rfl | trivial⟩
         . intro wr hC hd
           have d4:v4=.pointer (some ⟨tb0,off+p,none⟩):=yAC 4 (by kernel_rfl) hd;subst d4;clear hd;have e0:=(hC.cell (p:=⟨tb0,off+p,none⟩) (World.block_lt_of_cell? _ _ c3)).trans c3;unfold relAt;simp only [putAll];go_simp;simp only [relUpon];exact ⟨zB _ _,by first | rfl | trivial⟩
         . intro wr hC hd
           clear hd;unfold relAt;simp only [putAll];go_simp;simp only [relUpon];exact ⟨zB _ _,by first | rfl | trivial⟩
         . intro wr hC hd
           have d6:v6=.pointer (some ⟨w0.heap.size+1,4,none⟩):=yAC 6 (by kernel_rfl) hd;subst d6;clear hd;have e0:=(hC.cell (p:=⟨w0.heap.size+1,4,none⟩) (World.block_lt_of_cell? _ _ c4)).trans c4;have e1:=(hC.cell (p:=⟨w0.heap.size+1,5,none⟩) (World.block_lt_of_cell? _ _ c5)).trans c5;unfold relAt;simp only [putAll];go_simp;simp only [relUpon];exact ⟨zB _ _,by first | rfl | trivial⟩
         . intro wr hC hd
           clear hd;unfold relAt;simp only [putAll];go_simp;simp only [relUpon];exact ⟨zB _ _,by first | rfl | trivial⟩
         . intro wr hC hd
           have d8:v8=.pointer (some ⟨w0.heap.size+1,6,none⟩):=yAC 8 (by kernel_rfl) hd;subst d8;clear hd;have e0:=(hC.cell (p:=⟨w0.heap.size+1,6,none⟩) (World.block_lt_of_cell? _ _ c6)).trans c6;have e1:=(hC.cell (p:=⟨w0.heap.size+1,7,none⟩) (World.block_lt_of_cell? _ _ c7)).trans c7;unfold relAt;simp only [putAll];go_simp;simp only [relUpon];exact ⟨zB _ _,by first | rfl | trivial⟩
         . intro wr hC hd
           have d5:v5=.slice ao n1 ac:=yAC 5 (by kernel_rfl) hd;subst d5;have d7:v7=.agg #[.int .i64 x.ff,.int .i64 x.ft]:=yAC 7 (by kernel_rfl) hd;subst d7;have d9:v9=.agg #[.int .i64 x.sf,.int .i64 x.st]:=yAC 9 (by kernel_rfl) hd;subst d9;clear hd;unfold relAt;simp only [putAll];go_simp;simp only [relUpon];with_reducible refine (Htot.out wr hC).mono ?_
           rintro e w9 ⟨⟨r,rfl,hr⟩,hb9⟩;exact ⟨_,rfl,hb9,r,rfl,hr⟩
         . intro wr hC hd
           have d10:∃ r,v10=.tuple #[r,.int .i64 C]/\(C=0->Own eTotal 150 W6.heap.size wr r L):=yAC 10 (by kernel_rfl) hd;clear hd;have h8:=d10.choose_spec.1;have h9:=d10.choose_spec.2;generalize d10.choose=r9 at h8 h9;clear d10;subst h8;unfold relAt;simp only [putAll];go_simp;simp only [relUpon];exact ⟨zB _ _,r9,rfl,h9⟩
         . intro wr hC hd
           have d11:∃ r,v11=.tuple #[r,.int .i64 C]/\(C=0->Own eTotal 150 W6.heap.size wr r L):=yAC 11 (by kernel_rfl) hd;clear hd;have h8:=d11.choose_spec.1;have h9:=d11.choose_spec.2;generalize d11.choose=r9 at h8 h9;clear d11;subst h8;unfold relAt;simp only [putAll];go_simp;simp only [relUpon];exact ⟨zB _ _,h9⟩
         . intro wr hC hd
           have d11:∃ r,v11=.tuple #[r,.int .i64 C]/\(C=0->Own eTotal 150 W6.heap.size wr r L):=yAC 11 (by kernel_rfl) hd;clear hd;have h8:=d11.choose_spec.1;have h9:=d11.choose_spec.2;generalize d11.choose=r9 at h8 h9;clear d11;subst h8;unfold relAt;simp only [putAll];go_simp;simp only [relUpon];exact ⟨zB _ _,by first | rfl | trivial⟩
         . intro wr hC hd
           have d12:(C=0->Own eTotal 150 W6.heap.size wr v12 L):=yAC 12 (by kernel_rfl) hd;clear hd;unfold relAt;simp only [putAll];go_simp;simp only [relUpon];exact ⟨zB _ _,d12⟩
         . intro wr hC hd
           have d13:v13=.int .i64 C:=yAC 13 (by kernel_rfl) hd;subst d13;clear hd;unfold relAt;simp only [putAll];go_simp;simp only [relUpon];exact ⟨zB _ _,by first | rfl | trivial⟩
      . intro vs wq hvs hC hI
        match vs,hvs,hI with
        | [v0,v1,v2,v3,v4,v5,v6,v7,v8,v9,v10,v11,v12,v13,v14,v15],_,hI =>
         have d0:v0=.pointer (some ⟨w0.heap.size,0,none⟩):=hI 0 (by decide);subst d0;have d1:v1=.slice (some ⟨tb0,off,none⟩) 6 uc:=hI 1 (by decide);subst d1;have d2:v2=.pointer (some ⟨w0.heap.size+1,1,none⟩):=hI 2 (by decide);subst d2;have d3:v3=.int .i64 (p:Int):=hI 3 (by decide);subst d3;have d4:v4=.pointer (some ⟨tb0,off+p,none⟩):=hI 4 (by decide);subst d4;have d5:v5=.slice ao n1 ac:=hI 5 (by decide);subst d5;have d6:v6=.pointer (some ⟨w0.heap.size+1,4,none⟩):=hI 6 (by decide);subst d6;have d7:v7=.agg #[.int .i64 x.ff,.int .i64 x.ft]:=hI 7 (by decide);subst d7;have d8:v8=.pointer (some ⟨w0.heap.size+1,6,none⟩):=hI 8 (by decide);subst d8;have d9:v9=.agg #[.int .i64 x.sf,.int .i64 x.st]:=hI 9 (by decide);subst d9;have d10:∃ r,v10=.tuple #[r,.int .i64 C]/\(C=0->Own eTotal 150 W6.heap.size wq r L):=hI 10 (by decide);have d11:∃ r,v11=.tuple #[r,.int .i64 C]/\(C=0->Own eTotal 150 W6.heap.size wq r L):=hI 11 (by decide);have d12:(C=0->Own eTotal 150 W6.heap.size wq v12 L):=hI 12 (by decide);have d13:v13=.int .i64 C:=hI 13 (by decide);subst d13;have d14:(C=0->Own eTotal 150 W6.heap.size wq v14 L):=hI 14 (by decide);have d15:v15=.int .i64 C:=hI 15 (by decide);subst d15;clear hI;simp only [putAll];go_simp;have HC9:=hid hC;clear hC d10 d11 d12 c0 c1 c3 c4 c5 c6 c7;by_cases h0:C=0
         . have hF:=d14 h0
           obtain ⟨la,lc,hvl⟩:=Own.shape hF;have hO9:=HN6.out.appL (base:=w0.heap.size) HXX.out.1 HXX.out.2 Hbq.out.size;obtain ⟨ks,hO,hkl,hfin⟩:=hO9;subst hvl;subst h0;obtain ⟨ll,hll⟩:∃ ll,ll=L.length:=⟨_,rfl⟩;rw [<- hll] at hF |-;have hBq:=HBX.out.on HC9.out;have x0:=hBq.cell 0 _ rfl;have x1:=hBq.cell 1 _ rfl;have HO:=hid (hO.below HC9.out (zA _));have Hfin:=hid hfin;have Hkl:Hid (ks.length<=1000):=hid (by rw [hkl,<- Hm.out];have:=Hvp.out.2.1;have:=Hm.out;omega);have HF:=hid hF;have HBq:=hid hBq;have HRq2:=hid (HR6.out.on HC9.out);have Hb9:=hid (Hb06.out.trans (HC9.out.mono Hb06.out.size));have hsz:w0.heap.size<=wq.heap.size:=Hb9.out.size;clear hF d14 hO hkl hfin hBq hll;go_wp2_with (first | (at_builtin;refine yAB (E:=eS) rfl _ _ 33 rfl Tryz.underlying33 hi hz0 hz1 hz2 rfl (by decide) rfl rfl (HO.out.alloc _) (yAJ (E:=eS) (x:=⟨la,ll,lc⟩) trivial rfl) ?b1 ?b2 ?b3 ?_))
           case b1=>have:=Hkl.out;unfold maxLen;simp;omega
           case b2=>have:=Hkl.out;simp;omega
           case b3=>first | (simp;omega) | omega
           intro v8 w8 hO8 hg8;have hal:Below wq.heap.size wq (wq.alloc (.cells #[.slice la ll lc] 110)):=(zB _ _).alloc (zA _) _;have hN8:=Hfin.out _ ⟨la,ll,lc⟩ L (HC9.out.trans (hal.mono HC9.out.size)) (Own.below HF.out hal (zA _)) w8 v8 hO8 hg8;have hA8:Agr (fun k=>(Value.slice va5 m vc5).ownBlock=some k) (wq.alloc (.cells #[.slice la ll lc] 110)) w8:=Agr.of_grown hg8.1 (fun k hk _=>hk);have hB8:=yBJ (HBq.out.on hal) hA8 (fun e=>by have:=(Hlt5.out.2 _ e).2;have:=HX6.out;omega);have hR8:=yBJ (HRq2.out.on hal) hA8 (fun e=>by have:=(Hlt5.out.2 _ e).1;have:=HRl.out;omega);have hb8:Below w0.heap.size w0 w8:=(Hb9.out.trans (hal.mono Hb9.out.size)).trans (hA8.below (fun k hk=>by have:=(Hlt5.out.2 _ hk).1;have:=Hbq.out.size;omega) (zO Hb9.out.size hal.size));obtain ⟨sa,sc,hs8⟩:=hN8.shape.2;obtain ⟨m1,hm1⟩:∃ m1,m1=(OffT.mk o.trays (o.totals++[L])).totals.length:=⟨_,rfl⟩;rw [<- hm1] at hs8;subst hs8;have y0:=hB8.cell 0 _ rfl;have y1:=hB8.cell 1 _ rfl;have y2:=hB8.free 1;obtain ⟨W9,hW9⟩:∃ W9,W9=w8.setCell ⟨X6,1,none⟩ (.slice sa m1 sc):=⟨_,rfl⟩;have hA9:Agr (fun k=>k=X6) w8 W9:=by rw [hW9];exact Agr.set w8 ⟨X6,1,none⟩ _ rfl
           have hN9:OwnX wA.heap.size X6 W9 (.slice (some ⟨g1,0,none⟩) 6 uc5) (.slice sa m1 sc) ⟨o.trays,o.totals++[L]⟩:=hN8.turn hA9;have hB9:Box W9 X6 [.slice (some ⟨g1,0,none⟩) 6 uc5,.slice sa m1 sc]:=by rw [hW9];exact hB8.set1 (j:=1) (by simp) _
           have hXP:X6 ≠ w0.heap.size+1+1:=by have:=HRl.out;have:=HbA.out.size;have:=HX6.out;have:=Hg1.out;omega
           have hR9:Box W9 (w0.heap.size+1+1) [.slice none 0 0,.slice none 0 0]:=by rw [hW9];exact hR8.other hXP _
           have hb9:Below w0.heap.size w0 W9:=hb8.trans (hA9.below (fun k hk=>by have:=Hg1.out;have:=HX6.out;have:=Hbq.out.size;omega) hb8.size);have HW9:=hid hW9;have HN9:=hid (hN9.fin (x:=.slice (some ⟨g1,0,none⟩) 6 uc5) (y:=.slice sa m1 sc) HRl.out Hbq.out.size);have HB9:=hid hB9;have HR9:=hid hR9;have Hb99:=hid (belowRes hb9 (.slice (some ⟨g1,0,none⟩) 6 uc5) (.slice sa m1 sc));clear hO8 hg8 hal hN8 hA8 hB8 hR8 hb8 hW9 hA9 hN9 hB9 hXP hR9 hb9 hm1;go_upto_region 11 with fail;rw [<- HW9.out];have z0:=HB9.out.cell 0 _ rfl;have z1:=HB9.out.cell 1 _ rfl;have r0:=HR9.out.cell 0 _ rfl;have r1:=HR9.out.cell 1 _ rfl;have rf0:=HR9.out.free 0;have rf1:=HR9.out.free 1;clear y0 y1 y2 x0 x1;go_wp2;exact bodyPost_ret (v:=.tuple #[.agg #[.slice (some ⟨g1,0,none⟩) 6 uc5,.slice sa m1 sc],.int .i64 0]) (by simp [results,Tryz.results50,go_sem,r0,r1]) rfl ⟨⟨_,_,by rw [HRC.out],⟨⟨_,_,_,rfl⟩,_,_,_,rfl⟩,fun _=>by rw [HZL.out];exact HN9.out⟩,Hb99.out⟩
         . have h1:(C != 0)=true:=by simpa using h0
           have H0:=hid h0;have HR9:=hid (HR6.out.on HC9.out);have r0:=HR9.out.cell 0 _ rfl;have r1:=HR9.out.cell 1 _ rfl;have rf0:=HR9.out.free 0;have rf1:=HR9.out.free 1;have HB:=hid (belowRes (Hb06.out.trans (Below.mono HC9.out Hb06.out.size)) (Value.slice none 0 0) (Value.slice none 0 0));clear h0 d14;go_wp2;exact bodyPost_ret (v:=.tuple #[.agg #[.slice none 0 0,.slice none 0 0],.int .i64 C]) (by simp [results,Tryz.results50,go_sem,r0,r1]) rfl ⟨⟨_,_,by rw [HRC.out],⟨⟨_,_,_,rfl⟩,_,_,_,rfl⟩,fun h=>absurd (HRC.out.symm.trans h) H0.out⟩,HB.out⟩
    . have HR3:Hid (R=dkC o x):=hid (by rw [HR2.out,if_neg h7])
      have HZ2:Hid (Z=⟨o.trays.set x.tc.toNat (dkD o x),o.totals⟩):=hid (by rw [HZ.out,if_neg h7]);have h7':(x.kd == 7)=false:=beq_eq_false_iff_ne.2 h7;have H7:=hid h7;clear hful;go_wp2_with fail;with_reducible refine Hnew.out.mono ?_
      rintro e w5 ⟨⟨u5,v5,rfl,hN⟩,hb5⟩;obtain ⟨⟨g1,uc5,hu5⟩,va5,vc5,hv5⟩:(∃ g c,u5=.slice (some ⟨g,0,none⟩) 6 c)/\∃ a c,v5=.slice a m c:=by
       have e1:=hN.addr (by rw [H6.out];omega);have e2:=hN.shape.2;rw [H6.out] at e1;rw [<- Hm.out] at e2;exact ⟨e1,e2⟩
      subst hu5;subst hv5;obtain ⟨X6,hX6⟩:∃ X6,X6=w5.heap.size:=⟨_,rfl⟩;obtain ⟨W6,hW6⟩:∃ W6,W6=w5.alloc (.cells #[.slice (some ⟨g1,0,none⟩) 6 uc5,.slice va5 m vc5] 35):=⟨_,rfl⟩;have hb6:Below w5.heap.size w5 W6:=by rw [hW6];exact (zB _ _).alloc (zA _) _
      have hBX:Box W6 X6 [.slice (some ⟨g1,0,none⟩) 6 uc5,.slice va5 m vc5]:=by rw [hW6,hX6];exact Box.new w5 [.slice (some ⟨g1,0,none⟩) 6 uc5,.slice va5 m vc5] _
      have hlt5:=hN.lt;have hN6:OwnX wA.heap.size X6 W6 (.slice (some ⟨g1,0,none⟩) 6 uc5) (.slice va5 m vc5) o:=(OwnO.agr hN (Agr.on (S:=fun _=>False) hb6) (fun _ _ h=>h)).sub (fun q hq=>⟨hq.1,by have:=hq.2;omega,zM hq.2 hb6.size⟩);have hbA:Below wA.heap.size wA W6:=hb5.trans (hb6.mono hb5.size);have hg1:=hlt5.1 g1 rfl;have hXX:wA.heap.size<=W6.heap.size/\X6<W6.heap.size:=⟨hbA.size,hBX.lt⟩;have HW6:=hid hW6;have HX6:=hid hX6;have HBX:=hid hBX;have HN6:=hid hN6;have HXX:=hid hXX;have HbA:=hid hbA;have Hlt5:=hid hlt5;have Hg1:=hid hg1;have HP6:=hid (HPq.out.on hbA);have HS6:=hid (HSq.out.on hbA);have HR6:=hid (HRq.out.on hbA);have Ho6:=hid (RdOff.onn Hoq.out hbA);have Hb06:=hid (Hbq.out.trans (hbA.mono Hbq.out.size));have hRl:=HRq.out.lt;have HRl:=hid hRl;clear hN hb5 hX6 hW6 hb6 hBX hlt5 hN6 hbA hg1 hXX hRl c0 c1 d0 r0 r1 rf0 rf1;have hdk:=deckOf_c (x:=x) Ho6.out H6.out Hst2.out.ta Hst2.out.tb (by have h1:=Hst2.out.kd;have h2:=H7.out;omega) (Hst2.out.small Hcb.out.2);rw [<- HR3.out] at hdk;unfold vStep at hdk;have Hdk:=hid hdk;have c0:=HP6.out.cell 0 _ rfl;have c1:=HP6.out.cell 1 _ rfl;have d0:=HS6.out.cell 0 _ rfl;have d1:=HS6.out.cell 1 _ rfl;have d2:=HS6.out.cell 2 _ rfl;have d3:=HS6.out.cell 3 _ rfl;have d4:=HS6.out.cell 4 _ rfl;have d5:=HS6.out.cell 5 _ rfl;have d6:=HS6.out.cell 6 _ rfl;have d7:=HS6.out.cell 7 _ rfl;have d8:=HS6.out.cell 8 _ rfl;clear hdk;go_upto_region 6 with fail;rw [<- HX6.out,<- HW6.out];go_wp2_with fail;with_reducible refine Hdk.out.mono ?_
      rintro e w7 ⟨⟨r,rfl,hr⟩,hb7⟩;clear c0 c1 d0 d1 d2 d3 d4 d5 d6 d7 d8 h7;by_cases h0:R=0
      . obtain ⟨dd,rfl,hF⟩:=hr h0
        obtain ⟨da,dc,rfl⟩:=hF.shape;obtain ⟨q,hq⟩:=zG Hst2.out.tc.1;have hq6:q<6:=by have:=Hst2.out.tc.2;omega
        obtain ⟨dl,hdl⟩:∃ dl,dl=(dkD o x).length:=⟨_,rfl⟩;rw [<- hdl] at hF |-;obtain ⟨⟨y,e1⟩,e2,hN8⟩:=HN6.out.setT HXX.out.1 HXX.out.2 rfl (i:=q) (by rw [H6.out];exact hq6) (hx:=⟨da,dl,dc⟩) (x:=dkD o x) hb7 hF;have t3:=(HS6.out.on hb7).cell 3 _ rfl;rw [hq] at t3;have hB7:=HBX.out.on hb7;have x0:=hB7.cell 0 _ rfl;have x1:=hB7.cell 1 _ rfl;obtain ⟨W9,hW9⟩:∃ W9,W9=w7.setCell ⟨g1,q,none⟩ (.slice da dl dc):=⟨_,rfl⟩;have hN9:OwnX wA.heap.size X6 W9 (.slice (some ⟨g1,0,none⟩) 6 uc5) (.slice va5 m vc5) ⟨o.trays.set q (dkD o x),o.totals⟩:=by rw [hW9];exact hN8
        have hXg:g1 ≠ X6:=by have:=Hg1.out;have:=HX6.out;omega
        have hPg:g1 ≠ w0.heap.size+1+1:=by have:=Hg1.out;have:=HRl.out;omega
        have hB9:Box W9 X6 [.slice (some ⟨g1,0,none⟩) 6 uc5,.slice va5 m vc5]:=by rw [hW9];exact hB7.other hXg _
        have hR9:Box W9 (w0.heap.size+1+1) [.slice none 0 0,.slice none 0 0]:=by rw [hW9];exact (HR6.out.on hb7).other hPg _
        have hb9:Below w0.heap.size w0 W9:=by rw [hW9];exact (Hb06.out.trans (hb7.mono Hb06.out.size)).setCell (by show w0.heap.size<=g1;have:=Hg1.out;have:=Hbq.out.size;omega) _
        have HW9:=hid hW9;have HN9:=hid (hN9.fin (x:=.slice (some ⟨g1,0,none⟩) 6 uc5) (y:=.slice va5 m vc5) HRl.out Hbq.out.size);have HB9:=hid hB9;have HR9:=hid hR9;have Hb99:=hid (belowRes hb9 (.slice (some ⟨g1,0,none⟩) 6 uc5) (.slice va5 m vc5));have HZ3:Hid (Z=⟨o.trays.set q (dkD o x),o.totals⟩):=hid (by rw [HZ2.out,hq,zR]);have i1:(q:Int)<6:=by omega
        have HR0:=hid h0;subst h0;clear hr hF hb7 hN8 hB7 hW9 hN9 hXg hPg hB9 hR9 hb9 hq hdl;go_upto_region 16 with fail;rw [<- HW9.out];have z0:=HB9.out.cell 0 _ rfl;have z1:=HB9.out.cell 1 _ rfl;have r0:=HR9.out.cell 0 _ rfl;have r1:=HR9.out.cell 1 _ rfl;have rf0:=HR9.out.free 0;have rf1:=HR9.out.free 1;clear e1 e2 x0 x1 t3;go_wp2;exact bodyPost_ret (v:=.tuple #[.agg #[.slice (some ⟨g1,0,none⟩) 6 uc5,.slice va5 m vc5],.int .i64 0]) (by simp [results,Tryz.results50,go_sem,r0,r1]) rfl ⟨⟨_,_,rfl,⟨⟨_,_,_,rfl⟩,_,_,_,rfl⟩,by rw [HZ3.out];first | exact HN9.out | exact fun _=>HN9.out⟩,Hb99.out⟩
      . have h1:(R != 0)=true:=by simpa using h0
        have H0:=hid h0;have HR9:=hid (HR6.out.on hb7);have r0:=HR9.out.cell 0 _ rfl;have r1:=HR9.out.cell 1 _ rfl;have rf0:=HR9.out.free 0;have rf1:=HR9.out.free 1;have HB:=hid (belowRes (Hb06.out.trans (Below.mono hb7 Hb06.out.size)) (Value.slice none 0 0) (Value.slice none 0 0));clear h0 hr hb7;go_wp2;exact bodyPost_ret (v:=.tuple #[.agg #[.slice none 0 0,.slice none 0 0],.int .i64 R]) (by simp [results,Tryz.results50,go_sem,r0,r1]) rfl ⟨⟨_,_,rfl,⟨⟨_,_,_,rfl⟩,_,_,_,rfl⟩,fun h=>absurd h H0.out⟩,HB.out⟩
theorem doStep_c {o:OffT} {x:StepT} {u v:Value} {w0:World} {B:Nat} (ho:RdOff B w0 u v o) (hv:offB o=true) (hk:CopyOk o) (hx:okStep x) :
 Calls Tryz.prog 50 #[.agg #[u,v],vStep x] w0 fun e w'=>(∃ u' v',e=.returned (.tuple #[.agg #[u',v'],.int .i64 (stpC o x)])/\((∃ a n c,u'=.slice a n c)/\∃ a n c,v'=.slice a n c)/\(stpC o x=0->OffN w0.heap.size (fun k=>k<w0.heap.size) w' u' v' (stpD o x)))/\Below w0.heap.size w0 w' :=
 (doStep_o ho hv hk hx).mono (fun e w' h=>⟨by obtain ⟨u',v',h1,h2,h3⟩:=h.1;exact ⟨u',v',h1,h2,fun h0=>(h3 h0).offN (fun k hk=>hk.1)⟩,h.2⟩)
structure OutS (base:Nat) (Y:Nat->Prop) (P:Nat) (w:World) (u v:Value) (o:OffT):Prop where
 off:OffN base (fun k=>k=P\/k<base\/Y k) w u v o
 box:Box w P [u,v]
 ne:∀ q,(u.ownBlock=some q\/v.ownBlock=some q)->q ≠ P/\¬ Y q
 pb:base<=P/\¬ Y P
 hb:base<=w.heap.size
 hY:∀ k,Y k->k<w.heap.size
section
variable {base P:Nat} {Y Y':Nat->Prop} {w w1 w':World} {u v v':Value} {o:OffT}
theorem OutS.hX (h:OutS base Y P w u v o):∀ k,(k=P\/k<base\/Y k)->k<w.heap.size:=fun k hk=>by
 rcases hk with e | e | e
 . rw [e];exact h.box.lt
 . exact zM e h.hb
 . exact h.hY k e
theorem OutS.on (h:OutS base Y P w u v o) (hb:Below w.heap.size w w'):OutS base Y P w' u v o :=
 ⟨h.off.on hb,h.box.on hb,h.ne,h.pb,zO h.hb hb.size,fun k hk=>zM (h.hY k hk) hb.size⟩
def DoFr (P:Nat) (u v:Value) (w w':World):Prop:=Agr (fun k=>k=P\/u.ownBlock=some k\/v.ownBlock=some k) w w'
theorem OutS.setT (h:OutS base Y P w u v o) {g n c i:Nat} (hu:u=.slice (some ⟨g,0,none⟩) n c) (hi:i<o.trays.length) {hx:SlV} {x:List (List Int)} (hb:Below w.heap.size w w1) (hfr:FrS RdD (fun k=>k<w.heap.size) w1 hx.val x) :
 (∃ y,w1.cell? ⟨g,i,none⟩=some y)/\w1.frozen? ⟨g,i,none⟩=false/\OutS base Y P (w1.setCell ⟨g,i,none⟩ hx.val) u v ⟨o.trays.set i x,o.totals⟩/\DoFr P u v w (w1.setCell ⟨g,i,none⟩ hx.val):=by
 obtain ⟨e1,e2,e3⟩:=h.off.setT h.hX hu hi hb hfr;have hg:u.ownBlock=some g:=by rw [hu];rfl
 have hgP:=(h.ne g (.inl hg)).1;have hA:Agr (fun k=>k=P\/u.ownBlock=some k\/v.ownBlock=some k) w1 (w1.setCell ⟨g,i,none⟩ hx.val):=Agr.set w1 _ _ (.inr (.inl hg));refine ⟨e1,e2,⟨e3,(h.box.on hb).other hgP _,h.ne,h.pb,?_,fun k hk=>?_⟩,(Agr.on hb).trans hA (fun k hk _=>hk)⟩
 . have:=hb.size;have:=h.hb;simp;omega
 . have:=hb.size;have:=h.hY k hk;simp;omega
theorem OutS.appL (h:OutS base Y P w u v o):∃ ks,Own eS 110 base w v ks/\ks.length=o.totals.length /\
 ∀ (w1:World) (hx:SlV) (x:List TotalT),Below w.heap.size w w1->FrS RdTz (fun k=>k<w.heap.size) w1 hx.val x->∀ w' v',Own eS 110 base w' v' (ks++[hx])->Grew w1 w' v v' ->
  Box w' P [u,v]/\OutS base Y P (w'.setCell ⟨P,1,none⟩ v') u v' ⟨o.trays,o.totals++[x]⟩/\DoFr P u v w (w'.setCell ⟨P,1,none⟩ v'):=by
 obtain ⟨ks,a1,a2,a3⟩:=h.off.appL h.hX;refine ⟨ks,a1,a2,fun w1 hx x hb hfr w' v' ho hg=>?_⟩;have b3:=a3 w1 hx x hb hfr w' v' ho hg;have hA:Agr (fun k=>v.ownBlock=some k) w1 w':=Agr.of_grown hg.1 (fun k hk _=>hk);have hvP:v.ownBlock ≠ some P:=fun e=>(h.ne P (.inr e)).1 rfl;have hbx:=yBJ (h.box.on hb) hA hvP;have hne':∀ q,(u.ownBlock=some q\/v'.ownBlock=some q)->q ≠ P/\¬ Y q:=fun q hq=>by
  rcases hq with e | e
  . exact h.ne q (.inl e)
  . rcases hg.2 with e2 | ⟨k,e2,e3⟩
    . exact h.ne q (.inr (by rw [<- e2];exact e))
    . rw [e2] at e;cases e
      have h1:=hb.size;exact ⟨fun e=>by have:=h.box.lt;omega,fun e=>by have:=h.hY q e;omega⟩
 have hA2:Agr (fun k=>k=P) w' (w'.setCell ⟨P,1,none⟩ v'):=Agr.set w' _ _ rfl;have hsz:(w'.setCell ⟨P,1,none⟩ v').heap.size=w'.heap.size:=by simp
 have hsl:w.heap.size<=w'.heap.size:=zO hb.size hA.size;refine ⟨hbx,⟨b3.agr hA2 (fun k hk _=>⟨.inl hk,fun e=>(hne' k (.inl e)).1 hk,fun e=>(hne' k (.inr e)).1 hk⟩) (fun k h _=>h),hbx.set1 (j:=1) (by simp) v',hne',h.pb,by rw [hsz];exact zO h.hb hsl,fun k hk=>by rw [hsz];exact zM (h.hY k hk) hsl⟩,?_⟩;exact ((Agr.on hb).trans (S:=fun k=>k=P\/u.ownBlock=some k\/v.ownBlock=some k) hA (fun k hk _=>.inr (.inr hk))).trans hA2 (fun k hk _=>.inl hk)
theorem DoFr.below (h:DoFr P u v w w') (hs:OutS base Y P w u v o):Below base w w' :=
 Agr.below h (fun k hk=>by
  rcases hk with e | e | e
  . rw [e];exact hs.pb.1
  . exact (hs.off.lt.1 k e).1
  . exact (hs.off.lt.2 k e).1) hs.hb
theorem DoFr.drew1 (h:DoFr P u v w w'):DoFr P u v w w'.drew:=⟨h.os,h.tape,h.output,h.size,h.block⟩
theorem DoFr.of_below (h:Below w.heap.size w w'):DoFr P u v w w':=Agr.on h
end
theorem stpC_valid {o:OffT} {x:StepT} (h:stB x (colO o.trays)=true):stpC o x=if x.kd=7 then (if o.totals.length=20 then 5 else totC (trD o x.ta) x.ff x.ft x.sf x.st) else dkC o x:=by
 unfold stpC;rw [if_neg (by rw [h];decide)]
def DoPost (base:Nat) (Y:Nat->Prop) (P:Nat) (u v:Value) (o:OffT) (x:StepT) (w:World) (e:Ending) (w':World):Prop :=
 ∃ R,e=.returned (.int .i64 R)/\(R=0 ↔ stpC o x=0)/\DoFr P u v w w'/\(R=0->∃ u' v',OutS base Y P w' u' v' (stpD o x))/\(R ≠ 0->OutS base Y P w' u v o)
theorem l15Do_c {o:OffT} {x:StepT} {u v:Value} {w0:World} {base P X off:Nat} {Y:Nat->Prop} (hO:OutS base Y P w0 u v o) (hS:StAt w0 X off x) (hX:X<base) (hv:offB o=true) (hx:stB x (colO o.trays)=true) :
 Calls Tryz.prog 44 #[.pointer (some ⟨P,0,none⟩),.pointer (some ⟨X,off,none⟩)] w0 fun e w'=>DoPost base Y P u v o x w0 e w':=by
 obtain ⟨i0,hi,hz0,hz1,hz2⟩:=info_parts Tryz.infoTl;have hst:StOk x (colO o.trays):=of_decide_eq_true hx;have hvp:=yBF hv;have hcb:=colO_bd (fun d hd=>(hvp.2.2 d hd).1);have hC:=stpC_valid hx;have HC:=hid hC;have hO2:=hO;obtain ⟨⟨uo,uc,hu⟩,⟨vo,vc,hv2⟩⟩:=hO.off.shape;obtain ⟨g1,uc1,hug⟩:=hO.off.addr (by rw [hvp.1];omega);rw [hvp.1] at hug;clear hu;subst hug;subst hv2;have x0:=hS.c0;have p0:=hO.box.cell 0 _ rfl;have p1:=hO.box.cell 1 _ rfl;have HO:=hid hO;have HS:=hid hS;have Hst:=hid hst;have Hvp:=hid hvp;have Hcb:=hid hcb;obtain ⟨m,hm⟩:∃ m,m=o.totals.length:=⟨_,rfl⟩;rw [<- hm] at p1 HO |-;have Hm:=hid hm;have hm20:m<=20:=by rw [hm];exact hvp.2.1
 by_cases h7:x.kd=7
 . have HC7:Hid (stpC o x=if m=20 then 5 else totC (trD o x.ta) x.ff x.ft x.sf x.st):=hid (by rw [hC,if_pos h7,hm])
   have HD7:Hid (stpD o x=⟨o.trays,o.totals++[totD (trD o x.ta) x.ff x.ft x.sf x.st]⟩):=hid (by unfold stpD;rw [if_pos h7]);have H7:=hid h7;rw [h7] at x0;clear hO hS hst hvp hcb hC hO2 hm h7;by_cases hf:m=20
   . have HE:Hid (stpC o x=5):=hid (by rw [HC7.out,if_pos hf])
     subst hf;have i1:(20:Int)<=((20:Nat):Int):=by omega
     go_enter Tryz.func44,Tryz.ntmps44;go_wp2;go_ret;exact ⟨5,rfl,⟨fun h=>absurd h (by decide),fun h=>by rw [HE.out] at h;exact absurd h (by decide)⟩,DoFr.of_below (zB _ _),fun h=>absurd h (by decide),fun _=>HO.out⟩
   . have i1:¬ (20:Int)<=(m:Int):=by omega
     obtain ⟨p,hp⟩:=zG Hst.out.ta.1;have hp6:p<6:=by have:=Hst.out.ta.2;omega
     have hft:=fieldP_tray (o:=o) Hvp.out.2.2 Hvp.out.1 Hst.out.ta Hcb.out.2 Hst.out.ff;have hfs:=fieldP_tray (o:=o) (f:=x.sf) (t:=x.st) Hvp.out.2.2 Hvp.out.1 Hst.out.ta Hcb.out.2 (Hst.out.sum H7.out).1;have ta:=trD_at Hvp.out.1 Hst.out.ta;obtain ⟨a,ha⟩:∃ a,a=trD o x.ta:=⟨_,rfl⟩;rw [<- ha] at hft hfs ta;rw [hp,zR] at ta;obtain ⟨C,hC⟩:∃ C,C=totC a x.ff x.ft x.sf x.st:=⟨_,rfl⟩;obtain ⟨L,hL⟩:∃ L,L=totD a x.ff x.ft x.sf x.st:=⟨_,rfl⟩;have HSC:Hid (stpC o x=C):=hid (by rw [HC7.out,if_neg hf,<- ha];exact hC.symm);have HSD:Hid (stpD o x=⟨o.trays,o.totals++[L]⟩):=hid (by rw [HD7.out,<- ha,<- hL]);obtain ⟨uo',uc',hs,hop⟩:=RdL.open yBH HO.out.off.rd.1;rw [Hvp.out.1] at hs;injection hs with e1 e2 e3;subst e1;subst e3;clear e2;obtain ⟨tb0,off0,hgb,hlt,hc⟩:=hop (by rw [Hvp.out.1];omega);have hg1:g1=tb0/\0=off0:=by injection hgb with hgb;injection hgb with a1 a2;exact ⟨a1,a2⟩
     obtain ⟨rfl,rfl⟩:=hg1;obtain ⟨a',ao,ac,ha',hac,har⟩:=hc p (by rw [Hvp.out.1];omega);rw [ta] at ha';obtain rfl:=zD ha';have hto:=fun (w:World) (hw:Below w0.heap.size w0 w)=>l15Sums_c (w0:=w) (f:=x.ff) (t:=x.ft) (sf:=x.sf) (st:=x.st) (RdInt64SS.onn har hw) hft.1 hft.2 hfs.2 (Hst.out.sum H7.out).2;obtain ⟨n1,hn1⟩:∃ n,n=a.length:=⟨_,rfl⟩;rw [<- hn1] at hac hto;have Hcon:Hid (∀ w,Below w0.heap.size w0 w->Calls Tryz.prog 84 #[.slice ao n1 ac,.agg #[.int .i64 x.ff,.int .i64 x.ft],.agg #[.int .i64 x.sf,.int .i64 x.st]] w fun e w'=>(∃ r,e=.returned (.tuple #[r,.int .i64 C])/\(C=0->FrS RdTz (fun k=>k<w0.heap.size) w' r L))/\Below w.heap.size w w'):=hid (fun w hw=>(hto w hw).mono (fun e w' h=>⟨by
      obtain ⟨r,h1,h2⟩:=h.1;rw [<- hC] at h1 h2;rw [<- hL] at h2;exact ⟨r,h1,fun h0=>(h2 h0).weak (fun k hk _=>by have h9:k<w0.heap.size:=hk;have:=hw.size;show k<w.heap.size;omega)⟩,h.2⟩))
     have x1:=HS.out.c1;rw [hp] at x1;have x4:=HS.out.c4;have x5:=HS.out.c5;have x6:=HS.out.c6;have x7:=HS.out.c7;have xl:=HS.out.lt;have pl:=HO.out.box.lt;have t0:=hac;rw [Nat.zero_add] at t0;have tl:=hlt.2;obtain ⟨f,hf9⟩:∃ f,f=x.ff:=⟨_,rfl⟩;obtain ⟨t,ht9⟩:∃ t,t=x.ft:=⟨_,rfl⟩;obtain ⟨sf,hsf9⟩:∃ f,f=x.sf:=⟨_,rfl⟩;obtain ⟨st,hst9⟩:∃ t,t=x.st:=⟨_,rfl⟩;rw [<- hf9,<- ht9,<- hsf9,<- hst9] at Hcon;rw [<- hf9] at x4;rw [<- ht9] at x5;rw [<- hsf9] at x6;rw [<- hst9] at x7;have i2:(p:Int)<6:=by omega
     clear hft hfs ta ha hC hL hop hc ha' hac har hto hn1 hlt hp hgb hf9 ht9 hsf9 hst9 hf;go_enter Tryz.func44,Tryz.ntmps44;go_upto_region 4 with fail;refine yBU (fun i v w=>match i with | 0=>v=.pointer (some ⟨P,0,none⟩) | 1=>v=.pointer (some ⟨P,0,none⟩) | 2=>v=.pointer (some ⟨P,0,none⟩) | 3=>v=.slice (some ⟨g1,0,none⟩) 6 uc1 | 4=>v=.pointer (some ⟨X,off,none⟩) | 5=>v=.pointer (some ⟨X,off,none⟩) | 6=>v=.pointer (some ⟨X,off+1,none⟩) | 7=>v=.int .i64 (p:Int) | 8=>v=.pointer (some ⟨g1,p,none⟩) | 9=>v=.slice ao n1 ac | 10=>v=.pointer (some ⟨X,off,none⟩) | 11=>v=.pointer (some ⟨X,off,none⟩) | 12=>v=.pointer (some ⟨X,off+4,none⟩) | 13=>v=.agg #[.int .i64 f,.int .i64 t] | 14=>v=.pointer (some ⟨X,off,none⟩) | 15=>v=.pointer (some ⟨X,off,none⟩) | 16=>v=.pointer (some ⟨X,off+6,none⟩) | 17=>v=.agg #[.int .i64 sf,.int .i64 st] | 18=>∃ r,v=.tuple #[r,.int .i64 C]/\(C=0->FrS RdTz (fun k=>k<w0.heap.size) w r L) | 19=>∃ r,v=.tuple #[r,.int .i64 C]/\(C=0->FrS RdTz (fun k=>k<w0.heap.size) w r L) | 20=>C=0->FrS RdTz (fun k=>k<w0.heap.size) w v L | 21=>v=.int .i64 C | 22=>C=0->FrS RdTz (fun k=>k<w0.heap.size) w v L | 23=>v=.int .i64 C | _=>True) (by kernel_rfl) (by kernel_rfl) (by kernel_rfl) ?_ ?_ ?_
     . intro i v w w' h hb
       iterate 24 (obtain _ | i:=i;· first | exact h | (obtain ⟨r,h1,h2⟩:=h;exact ⟨r,h1,fun h0=>FrS.on (h2 h0) hb⟩) | exact fun h0=>FrS.on (h h0) hb)
       exact h
     . intro vs hvs
       match vs,hvs with
       | [v0,v1,v2,v3,v4,v5,v6,v7,v8,v9,v10,v11,v12,v13,v14,v15,v16,v17,v18,v19,v20,v21,v22,v23],_ =>
        refine ⟨?_,?_,?_,?_,?_,?_,?_,?_,?_,?_,?_,?_,?_,?_,?_,?_,?_,?_,?_,?_,?_,?_,?_,?_,trivial⟩
        . intro wr hC hd
          clear hd;unfold relAt;simp only [putAll];go_simp;simp only [relUpon];exact ⟨zB _ _,by first | rfl | trivial⟩
        . intro wr hC hd
          have d0:v0=.pointer (some ⟨P,0,none⟩):=by first | exact hd.1 rfl | exact hd.2.1 rfl | exact hd.2.2.1 rfl | exact hd.2.2.2.1 rfl | exact hd.2.2.2.2.1 rfl | exact hd.2.2.2.2.2.1 rfl | exact hd.2.2.2.2.2.2.1 rfl | exact hd.2.2.2.2.2.2.2.1 rfl | exact hd.2.2.2.2.2.2.2.2.1 rfl | exact hd.2.2.2.2.2.2.2.2.2.1 rfl
          subst d0;clear hd;unfold relAt;simp only [putAll];go_simp;simp only [relUpon];exact ⟨zB _ _,by first | rfl | trivial⟩
        . intro wr hC hd
          have d1:v1=.pointer (some ⟨P,0,none⟩):=by first | exact hd.1 rfl | exact hd.2.1 rfl | exact hd.2.2.1 rfl | exact hd.2.2.2.1 rfl | exact hd.2.2.2.2.1 rfl | exact hd.2.2.2.2.2.1 rfl | exact hd.2.2.2.2.2.2.1 rfl | exact hd.2.2.2.2.2.2.2.1 rfl | exact hd.2.2.2.2.2.2.2.2.1 rfl | exact hd.2.2.2.2.2.2.2.2.2.1 rfl
          subst d1;clear hd;unfold relAt;simp only [putAll];go_simp;simp only [relUpon];exact ⟨zB _ _,by first | rfl | trivial⟩
        . intro wr hC hd
          have d2:v2=.pointer (some ⟨P,0,none⟩):=by first | exact hd.1 rfl | exact hd.2.1 rfl | exact hd.2.2.1 rfl | exact hd.2.2.2.1 rfl | exact hd.2.2.2.2.1 rfl | exact hd.2.2.2.2.2.1 rfl | exact hd.2.2.2.2.2.2.1 rfl | exact hd.2.2.2.2.2.2.2.1 rfl | exact hd.2.2.2.2.2.2.2.2.1 rfl | exact hd.2.2.2.2.2.2.2.2.2.1 rfl
          subst d2;clear hd;have e:=(hC.cell (p:=⟨P,0,none⟩) pl).trans p0;unfold relAt;simp only [putAll];go_simp;simp only [relUpon];exact ⟨zB _ _,by first | rfl | trivial⟩
        . intro wr hC hd
          clear hd;unfold relAt;simp only [putAll];go_simp;simp only [relUpon];exact ⟨zB _ _,by first | rfl | trivial⟩
        . intro wr hC hd
          have d4:v4=.pointer (some ⟨X,off,none⟩):=by first | exact hd.1 rfl | exact hd.2.1 rfl | exact hd.2.2.1 rfl | exact hd.2.2.2.1 rfl | exact hd.2.2.2.2.1 rfl | exact hd.2.2.2.2.2.1 rfl | exact hd.2.2.2.2.2.2.1 rfl | exact hd.2.2.2.2.2.2.2.1 rfl | exact hd.2.2.2.2.2.2.2.2.1 rfl | exact hd.2.2.2.2.2.2.2.2.2.1 rfl
          subst d4;clear hd;unfold relAt;simp only [putAll];go_simp;simp only [relUpon];exact ⟨zB _ _,by first | rfl | trivial⟩
        . intro wr hC hd
          have d5:v5=.pointer (some ⟨X,off,none⟩):=by first | exact hd.1 rfl | exact hd.2.1 rfl | exact hd.2.2.1 rfl | exact hd.2.2.2.1 rfl | exact hd.2.2.2.2.1 rfl | exact hd.2.2.2.2.2.1 rfl | exact hd.2.2.2.2.2.2.1 rfl | exact hd.2.2.2.2.2.2.2.1 rfl | exact hd.2.2.2.2.2.2.2.2.1 rfl | exact hd.2.2.2.2.2.2.2.2.2.1 rfl
          subst d5;clear hd;unfold relAt;simp only [putAll];go_simp;simp only [relUpon];exact ⟨zB _ _,by first | rfl | trivial⟩
        . intro wr hC hd
          have d6:v6=.pointer (some ⟨X,off+1,none⟩):=by first | exact hd.1 rfl | exact hd.2.1 rfl | exact hd.2.2.1 rfl | exact hd.2.2.2.1 rfl | exact hd.2.2.2.2.1 rfl | exact hd.2.2.2.2.2.1 rfl | exact hd.2.2.2.2.2.2.1 rfl | exact hd.2.2.2.2.2.2.2.1 rfl | exact hd.2.2.2.2.2.2.2.2.1 rfl | exact hd.2.2.2.2.2.2.2.2.2.1 rfl
          subst d6;clear hd;have e:=(hC.cell (p:=⟨X,off+1,none⟩) xl).trans x1;unfold relAt;simp only [putAll];go_simp;simp only [relUpon];exact ⟨zB _ _,by first | rfl | trivial⟩
        . intro wr hC hd
          have d3:v3=.slice (some ⟨g1,0,none⟩) 6 uc1:=by first | exact hd.1 rfl | exact hd.2.1 rfl | exact hd.2.2.1 rfl | exact hd.2.2.2.1 rfl | exact hd.2.2.2.2.1 rfl | exact hd.2.2.2.2.2.1 rfl | exact hd.2.2.2.2.2.2.1 rfl | exact hd.2.2.2.2.2.2.2.1 rfl | exact hd.2.2.2.2.2.2.2.2.1 rfl | exact hd.2.2.2.2.2.2.2.2.2.1 rfl
          subst d3;have d7:v7=.int .i64 (p:Int):=by first | exact hd.1 rfl | exact hd.2.1 rfl | exact hd.2.2.1 rfl | exact hd.2.2.2.1 rfl | exact hd.2.2.2.2.1 rfl | exact hd.2.2.2.2.2.1 rfl | exact hd.2.2.2.2.2.2.1 rfl | exact hd.2.2.2.2.2.2.2.1 rfl | exact hd.2.2.2.2.2.2.2.2.1 rfl | exact hd.2.2.2.2.2.2.2.2.2.1 rfl
          subst d7;clear hd;unfold relAt;simp only [putAll];go_simp;simp only [relUpon];exact ⟨zB _ _,by first | rfl | trivial⟩
        . intro wr hC hd
          have d8:v8=.pointer (some ⟨g1,p,none⟩):=by first | exact hd.1 rfl | exact hd.2.1 rfl | exact hd.2.2.1 rfl | exact hd.2.2.2.1 rfl | exact hd.2.2.2.2.1 rfl | exact hd.2.2.2.2.2.1 rfl | exact hd.2.2.2.2.2.2.1 rfl | exact hd.2.2.2.2.2.2.2.1 rfl | exact hd.2.2.2.2.2.2.2.2.1 rfl | exact hd.2.2.2.2.2.2.2.2.2.1 rfl
          subst d8;clear hd;have e:=(hC.cell (p:=⟨g1,p,none⟩) tl).trans t0;unfold relAt;simp only [putAll];go_simp;simp only [relUpon];exact ⟨zB _ _,by first | rfl | trivial⟩
        . intro wr hC hd
          clear hd;unfold relAt;simp only [putAll];go_simp;simp only [relUpon];exact ⟨zB _ _,by first | rfl | trivial⟩
        . intro wr hC hd
          have d10:v10=.pointer (some ⟨X,off,none⟩):=by first | exact hd.1 rfl | exact hd.2.1 rfl | exact hd.2.2.1 rfl | exact hd.2.2.2.1 rfl | exact hd.2.2.2.2.1 rfl | exact hd.2.2.2.2.2.1 rfl | exact hd.2.2.2.2.2.2.1 rfl | exact hd.2.2.2.2.2.2.2.1 rfl | exact hd.2.2.2.2.2.2.2.2.1 rfl | exact hd.2.2.2.2.2.2.2.2.2.1 rfl
          subst d10;clear hd;unfold relAt;simp only [putAll];go_simp;simp only [relUpon];exact ⟨zB _ _,by first | rfl | trivial⟩
        . intro wr hC hd
          have d11:v11=.pointer (some ⟨X,off,none⟩):=by first | exact hd.1 rfl | exact hd.2.1 rfl | exact hd.2.2.1 rfl | exact hd.2.2.2.1 rfl | exact hd.2.2.2.2.1 rfl | exact hd.2.2.2.2.2.1 rfl | exact hd.2.2.2.2.2.2.1 rfl | exact hd.2.2.2.2.2.2.2.1 rfl | exact hd.2.2.2.2.2.2.2.2.1 rfl | exact hd.2.2.2.2.2.2.2.2.2.1 rfl
          subst d11;clear hd;unfold relAt;simp only [putAll];go_simp;simp only [relUpon];exact ⟨zB _ _,by first | rfl | trivial⟩
        . intro wr hC hd
          have d12:v12=.pointer (some ⟨X,off+4,none⟩):=by first | exact hd.1 rfl | exact hd.2.1 rfl | exact hd.2.2.1 rfl | exact hd.2.2.2.1 rfl | exact hd.2.2.2.2.1 rfl | exact hd.2.2.2.2.2.1 rfl | exact hd.2.2.2.2.2.2.1 rfl | exact hd.2.2.2.2.2.2.2.1 rfl | exact hd.2.2.2.2.2.2.2.2.1 rfl | exact hd.2.2.2.2.2.2.2.2.2.1 rfl
          subst d12;clear hd;have e1:=(hC.cell (p:=⟨X,off+4,none⟩) xl).trans x4;have e2:=(hC.cell (p:=⟨X,off+5,none⟩) xl).trans x5;unfold relAt;simp only [putAll];go_simp;simp only [relUpon];exact ⟨zB _ _,by first | rfl | trivial⟩
        . intro wr hC hd
          clear hd;unfold relAt;simp only [putAll];go_simp;simp only [relUpon];exact ⟨zB _ _,by first | rfl | trivial⟩
        . intro wr hC hd
          have d14:v14=.pointer (some ⟨X,off,none⟩):=by first | exact hd.1 rfl | exact hd.2.1 rfl | exact hd.2.2.1 rfl | exact hd.2.2.2.1 rfl | exact hd.2.2.2.2.1 rfl | exact hd.2.2.2.2.2.1 rfl | exact hd.2.2.2.2.2.2.1 rfl | exact hd.2.2.2.2.2.2.2.1 rfl | exact hd.2.2.2.2.2.2.2.2.1 rfl | exact hd.2.2.2.2.2.2.2.2.2.1 rfl
          subst d14;clear hd;unfold relAt;simp only [putAll];go_simp;simp only [relUpon];exact ⟨zB _ _,by first | rfl | trivial⟩
        . intro wr hC hd
          have d15:v15=.pointer (some ⟨X,off,none⟩):=by first | exact hd.1 rfl | exact hd.2.1 rfl | exact hd.2.2.1 rfl | exact hd.2.2.2.1 rfl | exact hd.2.2.2.2.1 rfl | exact hd.2.2.2.2.2.1 rfl | exact hd.2.2.2.2.2.2.1 rfl | exact hd.2.2.2.2.2.2.2.1 rfl | exact hd.2.2.2.2.2.2.2.2.1 rfl | exact hd.2.2.2.2.2.2.2.2.2.1 rfl
          subst d15;clear hd;unfold relAt;simp only [putAll];go_simp;simp only [relUpon];exact ⟨zB _ _,by first | rfl | trivial⟩
        . intro wr hC hd
          have d16:v16=.pointer (some ⟨X,off+6,none⟩):=by first | exact hd.1 rfl | exact hd.2.1 rfl | exact hd.2.2.1 rfl | exact hd.2.2.2.1 rfl | exact hd.2.2.2.2.1 rfl | exact hd.2.2.2.2.2.1 rfl | exact hd.2.2.2.2.2.2.1 rfl | exact hd.2.2.2.2.2.2.2.1 rfl | exact hd.2.2.2.2.2.2.2.2.1 rfl | exact hd.2.2.2.2.2.2.2.2.2.1 rfl
          subst d16;clear hd;have e1:=(hC.cell (p:=⟨X,off+6,none⟩) xl).trans x6;have e2:=(hC.cell (p:=⟨X,off+7,none⟩) xl).trans x7;unfold relAt;simp only [putAll];go_simp;simp only [relUpon];exact ⟨zB _ _,by first | rfl | trivial⟩
        . intro wr hC hd
          have d9:v9=.slice ao n1 ac:=by first | exact hd.1 rfl | exact hd.2.1 rfl | exact hd.2.2.1 rfl | exact hd.2.2.2.1 rfl | exact hd.2.2.2.2.1 rfl | exact hd.2.2.2.2.2.1 rfl | exact hd.2.2.2.2.2.2.1 rfl | exact hd.2.2.2.2.2.2.2.1 rfl | exact hd.2.2.2.2.2.2.2.2.1 rfl | exact hd.2.2.2.2.2.2.2.2.2.1 rfl
          subst d9;have d13:v13=.agg #[.int .i64 f,.int .i64 t]:=by first | exact hd.1 rfl | exact hd.2.1 rfl | exact hd.2.2.1 rfl | exact hd.2.2.2.1 rfl | exact hd.2.2.2.2.1 rfl | exact hd.2.2.2.2.2.1 rfl | exact hd.2.2.2.2.2.2.1 rfl | exact hd.2.2.2.2.2.2.2.1 rfl | exact hd.2.2.2.2.2.2.2.2.1 rfl | exact hd.2.2.2.2.2.2.2.2.2.1 rfl
          subst d13;have d17:v17=.agg #[.int .i64 sf,.int .i64 st]:=by first | exact hd.1 rfl | exact hd.2.1 rfl | exact hd.2.2.1 rfl | exact hd.2.2.2.1 rfl | exact hd.2.2.2.2.1 rfl | exact hd.2.2.2.2.2.1 rfl | exact hd.2.2.2.2.2.2.1 rfl | exact hd.2.2.2.2.2.2.2.1 rfl | exact hd.2.2.2.2.2.2.2.2.1 rfl | exact hd.2.2.2.2.2.2.2.2.2.1 rfl
          subst d17;clear hd;have h9:=Hcon.out _ hC;clear hC;unfold relAt;simp only [putAll];go_simp;simp only [relUpon];with_reducible refine h9.mono ?_
          rintro e w99 ⟨⟨r9,rfl,h2⟩,hb9⟩;exact ⟨_,rfl,hb9,r9,rfl,h2⟩
        . intro wr hC hd
          have d18:∃ r,v18=.tuple #[r,.int .i64 C]/\(C=0->FrS RdTz (fun k=>k<w0.heap.size) wr r L):=by first | exact hd.1 rfl | exact hd.2.1 rfl | exact hd.2.2.1 rfl | exact hd.2.2.2.1 rfl | exact hd.2.2.2.2.1 rfl | exact hd.2.2.2.2.2.1 rfl | exact hd.2.2.2.2.2.2.1 rfl | exact hd.2.2.2.2.2.2.2.1 rfl | exact hd.2.2.2.2.2.2.2.2.1 rfl | exact hd.2.2.2.2.2.2.2.2.2.1 rfl
          clear hd;have h8:=d18.choose_spec.1;have h9:=d18.choose_spec.2;generalize d18.choose=r9 at h8 h9;clear d18;subst h8;unfold relAt;simp only [putAll];go_simp;simp only [relUpon];exact ⟨zB _ _,r9,rfl,h9⟩
        . intro wr hC hd
          have d19:∃ r,v19=.tuple #[r,.int .i64 C]/\(C=0->FrS RdTz (fun k=>k<w0.heap.size) wr r L):=by first | exact hd.1 rfl | exact hd.2.1 rfl | exact hd.2.2.1 rfl | exact hd.2.2.2.1 rfl | exact hd.2.2.2.2.1 rfl | exact hd.2.2.2.2.2.1 rfl | exact hd.2.2.2.2.2.2.1 rfl | exact hd.2.2.2.2.2.2.2.1 rfl | exact hd.2.2.2.2.2.2.2.2.1 rfl | exact hd.2.2.2.2.2.2.2.2.2.1 rfl
          clear hd;have h8:=d19.choose_spec.1;have h9:=d19.choose_spec.2;generalize d19.choose=r9 at h8 h9;clear d19;subst h8;unfold relAt;simp only [putAll];go_simp;simp only [relUpon];exact ⟨zB _ _,h9⟩
        . intro wr hC hd
          have d19:∃ r,v19=.tuple #[r,.int .i64 C]/\(C=0->FrS RdTz (fun k=>k<w0.heap.size) wr r L):=by first | exact hd.1 rfl | exact hd.2.1 rfl | exact hd.2.2.1 rfl | exact hd.2.2.2.1 rfl | exact hd.2.2.2.2.1 rfl | exact hd.2.2.2.2.2.1 rfl | exact hd.2.2.2.2.2.2.1 rfl | exact hd.2.2.2.2.2.2.2.1 rfl | exact hd.2.2.2.2.2.2.2.2.1 rfl | exact hd.2.2.2.2.2.2.2.2.2.1 rfl
          clear hd;have h8:=d19.choose_spec.1;have h9:=d19.choose_spec.2;generalize d19.choose=r9 at h8 h9;clear d19;subst h8;unfold relAt;simp only [putAll];go_simp;simp only [relUpon];exact ⟨zB _ _,by first | rfl | trivial⟩
        . intro wr hC hd
          have d20:C=0->FrS RdTz (fun k=>k<w0.heap.size) wr v20 L:=by first | exact hd.1 rfl | exact hd.2.1 rfl | exact hd.2.2.1 rfl | exact hd.2.2.2.1 rfl | exact hd.2.2.2.2.1 rfl | exact hd.2.2.2.2.2.1 rfl | exact hd.2.2.2.2.2.2.1 rfl | exact hd.2.2.2.2.2.2.2.1 rfl | exact hd.2.2.2.2.2.2.2.2.1 rfl | exact hd.2.2.2.2.2.2.2.2.2.1 rfl
          clear hd;unfold relAt;simp only [putAll];go_simp;simp only [relUpon];exact ⟨zB _ _,d20⟩
        . intro wr hC hd
          have d21:v21=.int .i64 C:=by first | exact hd.1 rfl | exact hd.2.1 rfl | exact hd.2.2.1 rfl | exact hd.2.2.2.1 rfl | exact hd.2.2.2.2.1 rfl | exact hd.2.2.2.2.2.1 rfl | exact hd.2.2.2.2.2.2.1 rfl | exact hd.2.2.2.2.2.2.2.1 rfl | exact hd.2.2.2.2.2.2.2.2.1 rfl | exact hd.2.2.2.2.2.2.2.2.2.1 rfl
          subst d21;clear hd;unfold relAt;simp only [putAll];go_simp;simp only [relUpon];exact ⟨zB _ _,by first | rfl | trivial⟩
     . intro vs wq hvs hC hI
       match vs,hvs,hI with
       | [v0,v1,v2,v3,v4,v5,v6,v7,v8,v9,v10,v11,v12,v13,v14,v15,v16,v17,v18,v19,v20,v21,v22,v23],_,hI =>
        have d0:v0=.pointer (some ⟨P,0,none⟩):=hI 0 (by decide);subst d0;have d1:v1=.pointer (some ⟨P,0,none⟩):=hI 1 (by decide);subst d1;have d2:v2=.pointer (some ⟨P,0,none⟩):=hI 2 (by decide);subst d2;have d3:v3=.slice (some ⟨g1,0,none⟩) 6 uc1:=hI 3 (by decide);subst d3;have d4:v4=.pointer (some ⟨X,off,none⟩):=hI 4 (by decide);subst d4;have d5:v5=.pointer (some ⟨X,off,none⟩):=hI 5 (by decide);subst d5;have d6:v6=.pointer (some ⟨X,off+1,none⟩):=hI 6 (by decide);subst d6;have d7:v7=.int .i64 (p:Int):=hI 7 (by decide);subst d7;have d8:v8=.pointer (some ⟨g1,p,none⟩):=hI 8 (by decide);subst d8;have d9:v9=.slice ao n1 ac:=hI 9 (by decide);subst d9;have d10:v10=.pointer (some ⟨X,off,none⟩):=hI 10 (by decide);subst d10;have d11:v11=.pointer (some ⟨X,off,none⟩):=hI 11 (by decide);subst d11;have d12:v12=.pointer (some ⟨X,off+4,none⟩):=hI 12 (by decide);subst d12;have d13:v13=.agg #[.int .i64 f,.int .i64 t]:=hI 13 (by decide);subst d13;have d14:v14=.pointer (some ⟨X,off,none⟩):=hI 14 (by decide);subst d14;have d15:v15=.pointer (some ⟨X,off,none⟩):=hI 15 (by decide);subst d15;have d16:v16=.pointer (some ⟨X,off+6,none⟩):=hI 16 (by decide);subst d16;have d17:v17=.agg #[.int .i64 sf,.int .i64 st]:=hI 17 (by decide);subst d17;have d18:∃ r,v18=.tuple #[r,.int .i64 C]/\(C=0->FrS RdTz (fun k=>k<w0.heap.size) wq r L):=hI 18 (by decide);have d19:∃ r,v19=.tuple #[r,.int .i64 C]/\(C=0->FrS RdTz (fun k=>k<w0.heap.size) wq r L):=hI 19 (by decide);have d20:C=0->FrS RdTz (fun k=>k<w0.heap.size) wq v20 L:=hI 20 (by decide);have d21:v21=.int .i64 C:=hI 21 (by decide);subst d21;have d22:C=0->FrS RdTz (fun k=>k<w0.heap.size) wq v22 L:=hI 22 (by decide);have d23:v23=.int .i64 C:=hI 23 (by decide);subst d23;clear hI;simp only [putAll];go_simp;obtain ⟨r18,rfl,-⟩:=d18;obtain ⟨r19,rfl,-⟩:=d19;have HC9:=hid hC;clear hC x1 x4 x5 x6 x7 t0 p0 d20;by_cases h0:C=0
        . have hF:=d22 h0
          obtain ⟨la,lc,hvl⟩:=Rds.shape (E:=eTotal) (show Rds eTotal wq.heap.size wq v22 L from hF.now);obtain ⟨ks,hO,hkl,hfin⟩:=HO.out.appL;subst hvl;subst h0;obtain ⟨ll,hll⟩:∃ ll,ll=L.length:=⟨_,rfl⟩;rw [<- hll] at hF |-;have hbq:=HO.out.box.on HC9.out;have y1:=hbq.cell 1 _ rfl;have HOw:=hid (hO.below HC9.out (zA _));have Hfin:=hid hfin;have Hkl:Hid (ks.length=m):=hid (by rw [hkl,<- Hm.out]);have HF:=hid hF;have hsz:base<=wq.heap.size:=zO HO.out.hb HC9.out.size;clear hF d22 hO hkl hfin hbq hll x0 p1;go_wp2_with (first | (at_builtin;refine yAB (E:=eS) rfl _ _ 33 rfl Tryz.underlying33 hi hz0 hz1 hz2 rfl (by decide) rfl rfl (HOw.out.alloc _) (yAJ (E:=eS) (x:=⟨la,ll,lc⟩) trivial rfl) ?b1 ?b2 ?b3 ?_))
          case b1=>rw [Hkl.out];unfold maxLen;simp;omega
          case b2=>rw [Hkl.out];first | (simp;omega) | omega
          case b3=>first | omega | (simp;omega)
          intro v8 w8 hO8 hg8;have hg8':=hg8.alloc;obtain ⟨ao8,c8,hv8⟩:=hO8.shape;rw [zE,Hkl.out] at hv8;have hv9:v8=.slice ao8 (m+1) c8:=hv8;subst hv9;have hfin8:=Hfin.out wq ⟨la,ll,lc⟩ L HC9.out HF.out w8 _ hO8 hg8';have Hfin8:=hid hfin8.2;have y1:=hfin8.1.cell 1 _ rfl;have y2:=hfin8.1.free 1;have y3:=hfin8.1.lt;clear hO8 hg8 hg8' hv8 hfin8;go_wp2;go_ret;refine ⟨0,rfl,⟨fun _=>HSC.out,fun _=>rfl⟩,Hfin8.out.2,fun _=>⟨_,_,by rw [HSD.out];exact Hfin8.out.1⟩,fun h=>absurd rfl h⟩
        . have H0:=hid h0
          have hC1:(C == 0)=false:=beq_eq_false_iff_ne.2 h0;clear h0 d22 x0 p1;go_wp2;go_ret;exact ⟨C,rfl,by rw [HSC.out],DoFr.of_below HC9.out,fun h=>absurd h H0.out,fun _=>HO.out.on HC9.out⟩
 . have HCd:Hid (stpC o x=dkC o x):=hid (by rw [hC,if_neg h7])
   have HDd:Hid (stpD o x=⟨o.trays.set x.tc.toNat (dkD o x),o.totals⟩):=hid (by unfold stpD;rw [if_neg h7]);have hmk:=l15Make_c hO.off.rd hO.box hS hvp.1 hst.ta hst.tb ⟨hst.kd.1,by have:=hst.kd.2;omega⟩ ⟨hst.ff.1,hst.ff.2.1,by have:=hst.ff.2.2;omega⟩ hst.tx;have hr0:=dkR_zero (o:=o) hst.tx;obtain ⟨R,hR⟩:∃ R,R=dkR o x:=⟨_,rfl⟩;rw [<- hR] at hmk hr0;have Hmk:=hid hmk;have Hr0:=hid hr0;have h7b:(x.kd == 7)=false:=by simpa using h7
   obtain ⟨q,hq⟩:=zG hst.tc.1;have hq6:q<6:=by have:=hst.tc.2;omega
   have Hq:=hid hq;have i1:(q:Int)<6:=by omega
   clear hO hS hst hvp hcb hC hO2 hm h7 hmk hr0 hR hq;go_enter Tryz.func44,Tryz.ntmps44;go_wp2_with fail;with_reducible refine Hmk.out.mono ?_
   rintro e w7 ⟨⟨r,rfl,hr⟩,hb7⟩;have Hb7:=hid hb7;by_cases h0:R=0
   . obtain ⟨dd,rfl,hF⟩:=hr h0
     obtain ⟨da,dc,rfl⟩:=hF.shape;obtain ⟨dl,hdl⟩:∃ dl,dl=(dkD o x).length:=⟨_,rfl⟩;rw [<- hdl] at hF |-;obtain ⟨⟨y,e1⟩,e2,hN8,hfr⟩:=HO.out.setT rfl (i:=q) (by rw [Hvp.out.1];exact hq6) (hx:=⟨da,dl,dc⟩) (x:=dkD o x) hb7 hF;have t3:=(HS.out.on hb7).c3;rw [Hq.out] at t3;have b0:=(HO.out.box.on hb7).cell 0 _ rfl;have hOS:OutS base Y P (w7.setCell ⟨g1,q,none⟩ (.slice da dl dc)) (.slice (some ⟨g1,0,none⟩) 6 uc1) (.slice vo m vc) (stpD o x):=by
      rw [HDd.out,Hq.out,zR];exact hN8
     have HOS:=hid hOS;have Hfr:=hid hfr;subst h0;clear hr hF hN8 hfr hOS x0 p0 p1 hb7 hdl;go_upto_region 10 with fail;go_still_tail 9,(by kernel_rfl);go_wp2;go_ret;exact ⟨0,rfl,⟨fun _=>by rw [HCd.out];first | exact Hr0.out.2 rfl | exact Hr0.out.2 trivial,fun _=>rfl⟩,Hfr.out.drew1,fun _=>⟨_,_,HOS.out.on ((zB _ _).drew1)⟩,fun h=>absurd rfl h⟩
   . have H0:=hid h0
     have hC1:(R == 0)=false:=beq_eq_false_iff_ne.2 h0;clear h0 hr x0 p0 p1 hb7;go_wp2;go_ret;exact ⟨R,rfl,by rw [HCd.out];exact Hr0.out.symm,DoFr.of_below Hb7.out,fun h=>absurd h H0.out,fun _=>HO.out.on Hb7.out⟩
def RdO (w:World) (p:Value) (o:OffT):Prop:=∃ u v,p=.agg #[u,v]/\RdOff w.heap.size w u v o
theorem RdO.first {w:World} {B:Nat} {u v:Value} {o:OffT} (h:RdOff B w u v o):FrS RdO (fun k=>w.heap.size<=k) w (.agg #[u,v]) o:=fun w' hA =>
 ⟨u,v,rfl,(RdOff.below h.tight (hA.below (fun k h=>h) (zA _)) (zA _)).mono hA.size⟩
theorem RdO.off {S:Nat->Prop} {w:World} {u v:Value} {o:OffT} (h:FrS RdO S w (.agg #[u,v]) o):RdOff w.heap.size w u v o:=by
 obtain ⟨u',v',he,h1⟩:=h.now;injection he with he;injection he with he;injection he with e1 he;injection he with e2 he;subst e1;subst e2;exact h1
theorem RdO.own {base n:Nat} {w:World} {u v:Value} {o:OffT} (h:OffN base (fun k=>k<base) w u v o) (hn:n<=base):FrS RdO (fun k=>k<n) w (.agg #[u,v]) o:=fun w' hA =>
 ⟨u,v,rfl,(h.fr hn (fun k hk=>by show k<base;omega) hA)⟩
noncomputable def smC (o:OffT) (xs:List StepT) (m:Int):Int:=if offB o=false then 1 else if 20<xs.length\/¬ (1<=m/\m<=100) then 2 else if minL o m xs=none then 6 else 0
noncomputable def smL (o:OffT) (xs:List StepT) (m:Int):List Int:=if offB o=false then [] else if 20<xs.length\/¬ (1<=m/\m<=100) then [] else (minL o m xs).getD []
theorem minL_step {o:OffT} {m:Int} {xs:List StepT} {k:Nat} {x:StepT} (h:xs[k]?=some x):minL o m (xs.drop k)=if stpC o x=0 then (minL (stpD o x) m (xs.drop (k+1))).map (fun l=>minO o x m :: l) else none:=by
 obtain ⟨h1,e⟩:=zS.1 h;rw [List.drop_eq_getElem_cons h1,e];rfl
theorem minO_bd {o:OffT} {x:StepT} {m:Int} (hv:offB o=true) (hs:StOk x (colO o.trays)) (hm:1<=m/\m<=100):0<=minO o x m/\minO o x m<=1000000:=by
 have hp:=yBF hv;have ha:=(yAF (hp.2.2 _ (zC (trD_at hp.1 hs.ta))).1).1;have hb:=(yAF (hp.2.2 _ (zC (trD_at hp.1 hs.tb))).1).1;have hc:=colO_bd (ts:=o.trays) (fun d hd=>(hp.2.2 d hd).1);have hf:=hs.ff;obtain ⟨p,hpm⟩:=zG (show 0<=m by omega);obtain ⟨q,hq⟩:=zG (show 0<=x.ft - x.ff by have:=hf.2.1;omega);have hp100:p<=100:=by omega
 have hq20:q<=20:=by have:=hf.1;have:=hf.2.2;omega
 unfold minO;generalize (trD o x.ta).length=n1 at *
 generalize (trD o x.tb).length=n2 at *
 rw [hpm,hq];have h1:n1 * p<=4000:=zO (Nat.mul_le_mul ha hp100) (by decide);have h2:(n1+n2) * p<=8000:=zO (Nat.mul_le_mul (show n1+n2<=80 by omega) hp100) (by decide);have h3:n1 * p * (2 * q)<=160000:=zO (Nat.mul_le_mul h1 (show 2 * q<=40 by omega)) (by decide);split
 . have e:((n1+n2:Nat):Int) * (p:Int)=(((n1+n2) * p:Nat):Int):=by push_cast;rfl
   rw [e];omega
 . split
   . have e:(n1:Int) * (p:Int) * (2 * (q:Int))=((n1 * p * (2 * q):Nat):Int):=by push_cast;rfl
     rw [e];omega
   . have e:(n1:Int) * (p:Int)=((n1 * p:Nat):Int):=by push_cast;rfl
     rw [e];omega
end Go.Proofs.YthdaghfhlfjclaaGreat
