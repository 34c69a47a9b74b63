/- Lemmas on the way to the law FnTop. No condition. -/
import Derived.Test.YtmindpfmgnnieaaGreatDoorTP39
import Derived.Test.YtmindpfmgnnieaaGreatDoorTP29
import Derived.Test.YtmindpfmgnnieaaGreatDoorTP13
import Derived.Test.YtmindpfmgnnieaaGreatDoorTP31
import Derived.Test.YtmindpfmgnnieaaGreatDoorTP37
import Derived.Test.YtmindpfmgnnieaaGreatDoorTP22
import Derived.Test.YtmindpfmgnnieaaGreatDoorTP14
import Derived.Test.YtmindpfmgnnieaaGreatDoorTP16
import Derived.Test.YtmindpfmgnnieaaGreatDoorTP34
namespace Go.Proofs.YtmindpfmgnnieaaGreatDoor
set_option maxHeartbeats 4000000
set_option linter.unusedSimpArgs false
open Lib (hid)
open Go.ChangeShapes Go.WideShapes Go.ChangeAt Go.RowKit Go.Sort
set_option linter.unusedVariables false
set_option maxRecDepth 100000
theorem Tryz.infoDk:(Tryz.prog.info? 24).map (fun i=>(i.zero,i.size,i.bytes))=some (some (.slice none 0 0),1,24):=by kernel_rfl
theorem selI_rise (p:Int->Bool):∀ k,(selI p k).Pairwise (·<·)
 | 0=>List.Pairwise.nil
 | k+1=>by
  rw [yAX];rw [List.pairwise_append];refine ⟨selI_rise p k,by split <;> simp,fun x hx y hy=>?_⟩;obtain ⟨m,h1,h2,-⟩:=selI_rng p k x hx;split at hy
  . have:y=(k:Int):=by simpa using hy
    omega
  . cases hy
theorem grp_places {d:List (List Int)} {f t:Int} {G:List Int} (hG:G=selI (grpP d f t) d.length) {i:Nat} (hi:i<G.length) :
 ∃ lo hi:Nat,G[i]?=some (lo:Int)/\(G++[(d.length:Int)]).getD (i+1) 0=(hi:Int)/\G.getD i 0=(lo:Int)/\lo<hi/\hi<=d.length/\(i+1<G.length->G[i+1]?=some (hi:Int))/\(¬ i+1<G.length->hi=d.length):=by
 have hm:∀ j:Nat,j<G.length->∃ m:Nat,m<d.length/\G[j]?=some (m:Int):=by
  intro j hj;have e:G[j]?=some (G[j]'hj):=zF hj;obtain ⟨m,h1,h2,-⟩:=selI_rng (grpP d f t) d.length (G[j]'hj) (by rw [<- hG];exact zC e);exact ⟨m,h1,by rw [e,h2]⟩
 obtain ⟨lo,l1,l2⟩:=hm i hi;by_cases h:i+1<G.length
 . obtain ⟨hi2,k1,k2⟩:=hm (i+1) h
   have hr:=selI_rise (grpP d f t) d.length;rw [<- hG] at hr;have e1:G[i]'hi=(lo:Int):=by rw [zF hi] at l2;exact zD l2
   have e2:G[i+1]'h=(hi2:Int):=by rw [zF h] at k2;exact zD k2
   have hlt:=List.pairwise_iff_getElem.1 hr i (i+1) hi h (by omega);rw [e1,e2] at hlt;refine ⟨lo,hi2,l2,?_,?_,by omega,by omega,fun _=>k2,fun q=>absurd h q⟩
   . rw [List.getD_eq_getElem?_getD,zL h,k2];rfl
   . rw [List.getD_eq_getElem?_getD,l2];rfl
 . refine ⟨lo,d.length,l2,?_,?_,l1,zA _,fun q=>absurd q h,fun _=>rfl⟩
   . rw [List.getD_eq_getElem?_getD,zJ (by omega),show i+1 - G.length=0 by omega];rfl
   . rw [List.getD_eq_getElem?_getD,l2];rfl
theorem strD_eq {d:List (List Int)} {G:List Int} {i lo hi:Nat} (h1:(G++[(d.length:Int)]).getD (i+1) 0=(hi:Int)) (h2:G.getD i 0=(lo:Int)):strD d G i=(d.take hi).drop lo:=by
 unfold strD;rw [h1,h2,zR,zR]
theorem RdInt64SS.sub {w:World} {B b off n cap lo hi:Nat} {d:List (List Int)} (h:RdInt64SS B w (.slice (some ⟨b,off,none⟩) n cap) d) (hhi:hi<=d.length) (hlt:lo<hi) (hc:hi<=cap) (hcap:cap<=9223372036854775807) :
 RdInt64SS B w (.slice (some ⟨b,off+lo,none⟩) (hi - lo) (cap - lo)) ((d.take hi).drop lo):=by
 obtain ⟨hs,h1,h2,h3⟩:=h;have h4:=Rds.sub (lo:=lo) (hi:=hi) (cap':=cap - lo) h1 (by omega) hlt ⟨by omega,by omega⟩;rw [show lo * eS.sz=lo from Nat.mul_one _] at h4;refine ⟨_,h4,by simp [h2],fun i x xs e1 e2=>?_⟩;have hil:lo+i<hi:=by
  have:=yBG e2;rw [zQ,zI] at this;omega
 rw [List.getElem?_drop,List.getElem?_take,if_pos hil] at e1 e2;exact h3 _ x xs e1 e2
def grsD (d:List (List Int)) (f t:Int):List (List (List Int)):=(List.range (selI (grpP d f t) d.length).length).map (strD d (selI (grpP d f t) d.length))
theorem grsD_at {d:List (List Int)} {f t:Int} {G:List Int} (hG:G=selI (grpP d f t) d.length) {i:Nat} (hi:i<G.length):(grsD d f t)[i]?=some (strD d G i):=by
 unfold grsD;rw [<- hG,List.getElem?_map,List.getElem?_range hi];rfl
theorem grsD_len (d:List (List Int)) (f t:Int):(grsD d f t).length=(selI (grpP d f t) d.length).length:=by unfold grsD;simp
def RdGs (w:World) (v:Value) (x:List (List (List Int))):Prop:=RdDs w.heap.size w v x
theorem sizeC_c {ao:Option Addr} {n cap:Nat} {w:World} (hn:n<=9223372036854775807) :
 Calls Tryz.prog 193 #[.slice ao n cap] w fun e w'=>e=.returned (.int .i64 n)/\w=w':=by
 go_enter Tryz.func193,Tryz.ntmps193;go_wp2;go_ret;exact ⟨rfl,rfl⟩
theorem groups_c {d:List (List Int)} {v:Value} {w:World} {S:Nat->Prop} {f t:Int} (hd:FrS RdD S w v d) (hS:∀ k,S k->k<w.heap.size) (hC:ColsOk d f t) (hl:d.length<=1000) :
 Calls Tryz.prog 176 #[v,.agg #[.int .i64 f,.int .i64 t]] w fun e w'=>(∃ r,e=.returned r/\FrS RdGs S w' r (grsD d f t))/\Below w.heap.size w w':=by
 obtain ⟨i0,hi,hz0,hz1,hz2⟩:=info_parts Tryz.infoDk;have hd0:RdInt64SS w.heap.size w v d:=hd.now;obtain ⟨vo,vc,rfl,ho⟩:=hd0.open;obtain ⟨T,hT⟩:∃ T,T=w.alloc (.cells #[.int .i64 f,.int .i64 t] 27):=⟨_,rfl⟩;have hbT:Below w.heap.size w T:=by rw [hT];exact (zB _ _).alloc (zA _) _
 have hBT:Box T w.heap.size [.int .i64 f,.int .i64 t]:=by rw [hT];exact Box.new w [.int .i64 f,.int .i64 t] _
 obtain ⟨W,hW⟩:∃ W,W=T.alloc (.cells #[] 24):=⟨_,rfl⟩;have hbW:Below T.heap.size T W:=by rw [hW];exact (zB _ _).alloc (zA _) _
 have hO0:Own eS 24 w.heap.size W (.slice (some ⟨T.heap.size,0,none⟩) 0 0) ([]:List SlV):=by
  rw [hW];exact Own.lit (E:=eS) (xs:=[]) (cs:=#[]) hbT.size rfl rfl (by decide) (fun x hx=>by cases hx)
 have hbA:=hbT.trans (hbW.mono hbT.size);have hgr:=groupsOf_c (RdInt64SS.onn hd0 hbA) hC hl;have hTz:T.heap.size=w.heap.size+1:=by rw [hT];simp
 have hWz:W.heap.size=w.heap.size+2:=by rw [hW];simp [hTz]
 have hcap:=(show ∀ {ao:Option Addr} {n cap:Nat},RdInt64SS w.heap.size w (.slice ao n cap) d->n<=cap/\(0<n->cap<=9223372036854775807) from fun h=>by obtain ⟨hs,h1,h2,-⟩:=h;exact ⟨h1.cap.1,h1.cap.2.2⟩) hd0;have c0:=(hBT.alloc (.cells #[] 24)).cell 0 _ rfl;have c1:=(hBT.alloc (.cells #[] 24)).cell 1 _ rfl;have HT:=hid hT;have HW:=hid hW;have HbA:=hid hbA;have HO0:=hid hO0;have Hgr:=hid hgr;have Hd:=hid hd;have HS:=hid hS;have Ho:=hid ho;have HTz:=hid hTz;have HWz:=hid hWz;obtain ⟨n,hn⟩:∃ n,n=d.length:=⟨_,rfl⟩;rw [<- hn] at Hd Hgr hl hcap |-;have Hn:=hid hn;have Hcap:=hid hcap;clear hd hS ho hT hW hbT hbW hO0 hbA hgr hTz hWz hBT hd0 hn hcap;go_enter Tryz.func176,Tryz.ntmps176;go_upto_region 1 with fail;rw [<- HT.out];go_wp2_with fail;rw [<- HW.out];with_reducible refine Hgr.out.mono ?_
 rintro e w2 ⟨⟨r,rfl,hG⟩,hb2⟩;obtain ⟨G,hGe⟩:∃ G,G=selI (grpP d f t) d.length:=⟨_,rfl⟩;have hG':=hG;rw [Hn.out,<- hGe] at hG';obtain ⟨m,hm⟩:∃ m,m=G.length:=⟨_,rfl⟩;obtain ⟨zo,zc,hzo,hzop⟩:=RdI.open hG'.rds;rw [<- hm] at hzo hzop;subst hzo;have hmn:m<=n:=by rw [hm,hGe,Hn.out];exact yBM _ _
 have HO1:Hid (∃ hs,Own eS 24 w.heap.size w2 (.slice (some ⟨T.heap.size,0,none⟩) 0 0) hs/\hs.length=0/\∀ (i:Nat) (h:SlV),hs[i]?=some h->FrS RdD S w h.val (strD d G i)):=hid ⟨[],HO0.out.below hb2 (zA _),rfl,fun i h e=>by simp at e⟩;have HbL:Hid (Below w.heap.size w w2):=hid (HbA.out.trans (hb2.mono HbA.out.size));have HZo:=hid hzop;have HZlt:Hid (∀ q,(Value.slice zo m zc).ownBlock=some q->w.heap.size+2<=q):=hid (fun q hq=>by have h:=(hG'.lt q hq).1;have:=HWz.out;omega);have Hm:=hid hm;have HGe:=hid hGe;clear hG hG' hb2 hzop HO0 c0 c1 hm hGe;go_wp2;go_loopw [5,16] (fun ov iv wr=>∃ k:Nat,k<=m/\iv=.int .i64 k/\Hid (∃ hs,Own eS 24 w.heap.size wr ov hs/\hs.length=k/\∀ (i:Nat) (h:SlV),hs[i]?=some h->FrS RdD S w h.val (strD d G i))/\Hid (Below w.heap.size w wr)/\Hid (Within (w.heap.size+1) (w.heap.size+2) w2 wr)/\Hid (∀ q,ov.ownBlock=some q->q=w.heap.size+1\/w2.heap.size<=q)) (fun _ i _=>m - (intOf i).toNat)
 case atStart=>exact ⟨0,zK _,rfl,HO1,HbL,hid (Within.refl _ _ _),hid (fun q hq=>by have h9:T.heap.size=q:=zD hq;have:=HTz.out;omega)⟩
 case round =>
  obtain ⟨k,hk,rfl,HO,Hb,Hc,Hq⟩:=hrel;clear HO1 HbL;by_cases hkm:k<m
  . obtain ⟨lo,hi2,g1,g2,g3,g4,g5,g6,g7⟩:=grp_places (i:=k) HGe.out (by have:=Hm.out;omega)
    obtain ⟨zb,zoff,rfl,zlt,zc1⟩:=HZo.out (by omega);obtain ⟨z,hz,hzc,-⟩:=zc1 k hkm;rw [g1] at hz;obtain rfl:=zD hz;have hwi:∀ {p:Addr} {u:Value},w2.cell? p=some u->p.block=zb->wr.cell? p=some u:=fun {p u} hp hpb=>(within_cell Hc.out (p:=p) (by rw [hpb];exact zlt.2) (by have:=HZlt.out zb rfl;rw [hpb];omega)).trans hp;have d0:=hwi hzc rfl;have h9:=Ho.out (by have:=Hn.out;omega);obtain ⟨b,off,rfl,-⟩:=h9;have hcap:=Hcap.out;have hcap2:=hcap.2 (by have:=Hn.out;omega);have hcap1:=hcap.1;have hsub:FrS RdD S w (.slice (some ⟨b,off+lo,none⟩) (hi2 - lo) (vc - lo)) (strD d G k):=fun w' hA=>by
     rw [strD_eq g2 g3];exact RdInt64SS.sub (Hd.out w' hA) g5 g4 (by have:=Hn.out;omega) hcap2
    have Hsub:=hid hsub;have hg5:hi2<=n:=by have:=Hn.out;omega
    obtain ⟨hs,hO,hhl,hrows⟩:=HO.out;obtain ⟨oo,oc,hov⟩:=hO.shape;rw [hhl] at hov;subst hov;have HOh:=hid hO;have Hhl:=hid hhl;have Hrows:=hid hrows;have hl0:=hO.lt;have Hl0:=hid hl0;have e1:(k:Int)+1<=1000:=by omega
    have e2:lo<hi2:=g4;have e3:¬ vc=lo:=by omega
    have e4:lo<=hi2:=by omega
    have e5:hi2<=vc:=by omega
    have hszr:w.heap.size<=wr.heap.size:=Hb.out.size;have hsn:n<=9223372036854775807:=by omega
    have Hx:=hid (show FrS RdD S w (SlV.val ⟨some ⟨b,off+lo,none⟩,hi2 - lo,vc - lo⟩) (strD d G k) from hsub);by_cases hk1:k+1<m
    . have g8:=g6 (by have:=Hm.out;omega)
      obtain ⟨z2,hz2',hzc2,-⟩:=zc1 (k+1) hk1;rw [g8] at hz2';obtain rfl:=zD hz2';have d1:=hwi hzc2 rfl;have e6:(k:Int)+1<(m:Int):=by omega
      clear zc1 hzc hzc2 hwi g1 g2 g3 g6 g7 g8 hO hhl hrows hl0 hsub HO hz hz2' hcap;go_wp2_with (first | (go_at_call 193;with_reducible refine (sizeC_c hsn).mono ?_;rintro e w9 ⟨rfl,rfl⟩) | (at_builtin;refine yAB (E:=eS) rfl _ _ 131 rfl Tryz.underlying131 hi hz0 hz1 hz2 rfl (by decide) rfl rfl (HOh.out.alloc _) (yAH (E:=eS) (x:=⟨some ⟨b,off+lo,none⟩,hi2 - lo,vc - lo⟩) trivial rfl) ?b1 ?b2 ?b3 ?_))
      case b1=>rw [Hhl.out];unfold maxLen;simp;omega
      case b2=>rw [Hhl.out];simp;omega
      case b3=>simp;omega
      intro v' w6 hO6 hg6;have hg6':=hg6.alloc;have HO6:Hid (∃ hs,Own eS 24 w.heap.size w6 v' hs/\hs.length=k+1/\∀ (i:Nat) (h:SlV),hs[i]?=some h->FrS RdD S w h.val (strD d G i)):=hid ⟨_,hO6,by simp [Hhl.out],fun i h e=>by
       rcases Nat.lt_or_ge i hs.length with hi | hi
       . rw [zL hi] at e;exact Hrows.out i h e
       . rw [zJ hi] at e
         have h0:i - hs.length=0:=by have:=yBG e;simp at this;omega
         rw [h0] at e;cases e;rw [show i=k by have:=Hhl.out;omega];exact Hx.out⟩
      have Hb6:=hid (Hb.out.grown hg6'.1 hszr (fun q hq=>(Hl0.out q hq).1));have Hc6:=hid (within_grown Hc.out hg6'.1 (fun q hq=>by have:=Hq.out q hq;omega));have Hq6:=hid (own_or Hq.out Hc.out.size hg6'.2);clear hO6 hg6 hg6';go_wp2;go_roundw
      case rel=>exact ⟨k+1,by omega,by go_num,HO6,Hb6,Hc6,Hq6⟩
      case measure=>simp [intOf];omega
    . have g8:=g7 (by have:=Hm.out;omega)
      have e8:hi2=n:=by rw [g8];exact Hn.out.symm
      have e6:¬ (k:Int)+1<(m:Int):=by omega
      clear zc1 hzc hwi g1 g2 g3 g6 g7 g8 hO hhl hrows hl0 hsub HO hz hcap;subst e8;go_wp2_with (first | (go_at_call 193;with_reducible refine (sizeC_c hsn).mono ?_;rintro e w9 ⟨rfl,rfl⟩) | (at_builtin;refine yAB (E:=eS) rfl _ _ 131 rfl Tryz.underlying131 hi hz0 hz1 hz2 rfl (by decide) rfl rfl (HOh.out.alloc _) (yAH (E:=eS) (x:=⟨some ⟨b,off+lo,none⟩,hi2 - lo,vc - lo⟩) trivial rfl) ?b1 ?b2 ?b3 ?_))
      case b1=>rw [Hhl.out];unfold maxLen;simp;omega
      case b2=>rw [Hhl.out];simp;omega
      case b3=>simp;omega
      intro v' w6 hO6 hg6;have hg6':=hg6.alloc;have HO6:Hid (∃ hs,Own eS 24 w.heap.size w6 v' hs/\hs.length=k+1/\∀ (i:Nat) (h:SlV),hs[i]?=some h->FrS RdD S w h.val (strD d G i)):=hid ⟨_,hO6,by simp [Hhl.out],fun i h e=>by
       rcases Nat.lt_or_ge i hs.length with hi | hi
       . rw [zL hi] at e;exact Hrows.out i h e
       . rw [zJ hi] at e
         have h0:i - hs.length=0:=by have:=yBG e;simp at this;omega
         rw [h0] at e;cases e;rw [show i=k by have:=Hhl.out;omega];exact Hx.out⟩
      have Hb6:=hid (Hb.out.grown hg6'.1 hszr (fun q hq=>(Hl0.out q hq).1));have Hc6:=hid (within_grown Hc.out hg6'.1 (fun q hq=>by have:=Hq.out q hq;omega));have Hq6:=hid (own_or Hq.out Hc.out.size hg6'.2);clear hO6 hg6 hg6';go_wp2;go_roundw
      case rel=>exact ⟨k+1,by omega,by go_num,HO6,Hb6,Hc6,Hq6⟩
      case measure=>simp [intOf];omega
  . obtain rfl:k=m:=by omega
    obtain ⟨hs,hO,hhl,hrows⟩:=HO.out;have hF:FrS RdGs S wr _ (grsD d f t):=FrS.of_own (R:=fun B w v (x:List (List Int))=>RdInt64SS B w v x) hO ⟨by rw [hhl,grsD_len,<- HGe.out];exact Hm.out,fun i h x e1 e2=>by
     have hi:i<G.length:=by have:=yBG e1;have:=Hm.out;omega
     rw [grsD_at HGe.out hi] at e2;cases e2;exact (hrows i h e1).on Hb.out⟩ (fun q hq hSq=>by have h1:=(hO.lt q hq).1;have h2:=HS.out q hSq;omega)
    have HF:=hid hF;clear hF hO hhl hrows HO;go_wp2;go_ret;exact ⟨⟨_,rfl,HF.out⟩,Hb.out⟩
theorem fieldText_c {c:List Int} {b off n cap:Nat} {w:World} {A:Nat} (x y:Int) (hx:0<=x) (hxy:x<y) (hy:y<=n) (hn:n<=1000) (ha:RdI A w (.slice (some ⟨b,off,none⟩) n cap) c) (ho:okTx (partC c x y)=true) :
 Calls Tryz.prog 177 #[.agg #[.slice (some ⟨b,off,none⟩) n cap],.agg #[.int .i64 x,.int .i64 y]] w fun e' w'=>e'=.returned (.string (toB (txI (partC c x y))))/\Below w.heap.size w w':=by
 obtain ⟨lo,rfl⟩:=zG hx;obtain ⟨hi,rfl⟩:=zG (show 0<=y by omega);obtain ⟨W,hW⟩:∃ W,W=(w.alloc (.cells #[.slice (some ⟨b,off,none⟩) n cap] 69)).alloc (.cells #[.int .i64 lo,.int .i64 hi] 27):=⟨_,rfl⟩;have z1:(w.alloc (.cells #[.slice (some ⟨b,off,none⟩) n cap] 69)).heap.size=w.heap.size+1:=by simp
 have hP:Box W w.heap.size [.slice (some ⟨b,off,none⟩) n cap]:=by rw [hW];exact (Box.new w [.slice (some ⟨b,off,none⟩) n cap] _).alloc _
 have hQ:Box W (w.heap.size+1) [.int .i64 lo,.int .i64 hi]:=by
  have h:=Box.new (w.alloc (.cells #[.slice (some ⟨b,off,none⟩) n cap] 69)) [.int .i64 lo,.int .i64 hi] 27;rw [z1,<- hW] at h;exact h
 have hb0:Below w.heap.size w W:=by rw [hW];exact ((zB _ _).alloc (zA _) _).alloc (by rw [z1];omega) _
 have ca:=Rds.cap ha;have ca2:=ca.2.2 (by omega);have hpl:=yAN (c:=c) hx hxy (by have:=ca.2.1;omega);have hcon:=textOf_c ho (by rw [hpl];omega) (Rds.part (Rds.onn ha hb0) hx hxy hy);simp only [zR] at hcon;have Hcon:=hid hcon;have c0:=hP.cell 0 _ rfl;have c1:=hQ.cell 0 _ rfl;have c2:=hQ.cell 1 _ rfl;have Hb0:=hid hb0;have HW:=hid hW;have q1:lo<hi:=by omega
 have q2:hi<=n:=by omega
 have q4:hi<=cap:=by omega
 have q6:¬ cap=lo:=by omega
 have q8:lo<=hi:=by omega
 obtain ⟨S,hS⟩:∃ S,S=toB (txI (partC c (lo:Int) (hi:Int))):=⟨_,rfl⟩;rw [<- hS] at Hcon |-;clear hP hQ hb0 hW ha ca z1 hcon hpl ho hS;go_enter Tryz.func177,Tryz.ntmps177;go_upto_region 1 with fail;rw [<- HW.out];go_wp2_with fail;with_reducible refine Hcon.out.mono ?_
 rintro e w1 ⟨rfl,hb1⟩;have Hb1:=hid (Hb0.out.trans (hb1.mono Hb0.out.size));clear hb1 c0 c1 c2;go_wp2;go_ret;exact ⟨rfl,Hb1.out⟩
theorem sumC_take {sf st:Int} {d:List (List Int)} {j:Nat} {x:List Int} (h:d[j]?=some x):sumC sf st (d.take (j+1))=sumC sf st (d.take j)+numC sf st x:=by
 unfold sumC;rw [yAD h,List.map_append,List.sum_append];simp
theorem sumC_bd {sf st:Int}:∀ {d:List (List Int)},(∀ c∈d,(partC c sf st).length<=12)->-1000000000000 * (d.length:Int)<=sumC sf st d/\sumC sf st d<=1000000000000 * (d.length:Int)
 | [],_=>by unfold sumC;simp
 | c :: d,h=>by
  have h1:=sumC_bd (fun x hx=>h x (List.mem_cons_of_mem _ hx));have h2:=numR_bd _ (h c (List.mem_cons_self ..));have e:sumC sf st (c :: d)=numC sf st c+sumC sf st d:=by unfold sumC;simp
  rw [e,List.length_cons];unfold numC;omega
theorem any_take_no {α:Type} {p:α->Bool} {xs:List α} (j:Nat) {x:α} (hx:xs[j]?=some x) (h:p x=true):xs.any p=true:=List.any_eq_true.2 ⟨x,zC hx,h⟩
structure NumOk (d:List (List Int)) (sf st:Int):Prop where
 cols:ColsOk d sf st
 w12:st - sf<=12
 cells:∀ c∈d,∀ m∈c,0<=m/\m<=4095
theorem NumOk.part {d:List (List Int)} {sf st:Int} (h:NumOk d sf st):∀ c∈d,(partC c sf st).length<=12:=fun c hc=>by
 rw [yAN h.cols.1.1 h.cols.1.2 (h.cols.2 c hc)];have:=h.cols.1;have:=h.w12;omega
theorem NumOk.take {d:List (List Int)} {sf st:Int} (h:NumOk d sf st) (j:Nat):NumOk (d.take j) sf st:=⟨⟨h.cols.1,fun c hc=>h.cols.2 c (List.mem_of_mem_take hc)⟩,h.w12,fun c hc=>h.cells c (List.mem_of_mem_take hc)⟩
theorem NumOk.drop {d:List (List Int)} {sf st:Int} (h:NumOk d sf st) (j:Nat):NumOk (d.drop j) sf st:=⟨⟨h.cols.1,fun c hc=>h.cols.2 c (List.mem_of_mem_drop hc)⟩,h.w12,fun c hc=>h.cells c (List.mem_of_mem_drop hc)⟩
theorem sumsOf_c {d:List (List Int)} {v:Value} {w:World} {A g:Nat} {sf st:Int} (hF:Box w g [.int .i64 sf,.int .i64 st]) (hd:RdInt64SS A w v d) (hN:NumOk d sf st) (hl:d.length<=100) :
 Calls Tryz.prog 175 #[.slice (some ⟨g,0,none⟩) 1 1,v] w fun e w'=>(∃ r,e=.returned (.tuple #[r,.bool (!d.any (noNum sf st))])/\(d.any (noNum sf st)=false->OwnInt64S w.heap.size w' r [sumC sf st d]))/\Below w.heap.size w w':=by
 obtain ⟨i0,hi,hz0,hz1,hz2⟩:=info_parts Tryz.infoInt64;obtain ⟨vo,vc,rfl,ho⟩:=hd.tight.open;have hO0:OwnInt64S w.heap.size (w.alloc (.cells #[] 2)) (.slice (some ⟨w.heap.size,0,none⟩) 0 0) ([sumC sf st d].take 0):=Own.lit (E:=eI) (xs:=[]) (cs:=#[]) (zA _) rfl rfl (by decide) (fun x hx=>by cases hx);have hB0:Below w.heap.size w (w.alloc (.cells #[] 2)):=(zB _ _).alloc (zA _) _;have HO0:=hid hO0;have HB0:=hid hB0;have Ho:=hid ho;have HF:=hid hF;have HN:=hid hN;obtain ⟨n,hn⟩:∃ n,n=d.length:=⟨_,rfl⟩;rw [<- hn] at hl |-;have Hn:=hid hn;obtain ⟨p,hp⟩:∃ p,p=d.any (noNum sf st):=⟨_,rfl⟩;rw [<- hp];have Hp:=hid hp;obtain ⟨S,hS⟩:∃ S,S=sumC sf st d:=⟨_,rfl⟩;rw [<- hS] at HO0 |-;have HS:=hid hS;have hSb:=sumC_bd hN.part;rw [<- hS,<- hn] at hSb;have hokS:eI.ok S:=by show -9223372036854775808<=S/\S<=9223372036854775807;omega
 have HokS:=hid hokS;clear hF hd ho hO0 hB0 hN hn hp hS hokS hSb;go_enter Tryz.func175,Tryz.ntmps175;go_wp2;go_loopw [6,17] (fun ov iv wr=>∃ k:Nat,k<=1/\iv=.int .i64 k/\Hid (OwnInt64S w.heap.size wr ov ([S].take k))/\Hid (k=1->p=false)/\Hid (Below w.heap.size w wr)) (fun _ i _=>1 - (intOf i).toNat)
 case atStart=>exact ⟨0,by omega,rfl,HO0,hid (fun h=>by omega),HB0⟩
 case round =>
  obtain ⟨k,hk,rfl,HO,Hk,HB⟩:=hrel;clear HO0 HB0;by_cases hk1:k<1
  . obtain rfl:k=0:=by omega
    have hFr:=HF.out.on HB.out;have f0:=hFr.cell 0 _ rfl;have f1:=hFr.cell 1 _ rfl;obtain ⟨T,hT⟩:∃ T,T=wr.alloc (.cells #[.int .i64 sf,.int .i64 st] 27):=⟨_,rfl⟩;have hbT:Below wr.heap.size wr T:=by rw [hT];exact (zB _ _).alloc (zA _) _
    have hX:Box T wr.heap.size [.int .i64 sf,.int .i64 st]:=by rw [hT];exact Box.new wr [.int .i64 sf,.int .i64 st] _
    have HOT:=hid (HO.out.below hbT (zA _));have HbT:=hid (HB.out.trans (hbT.mono HB.out.size));have HX:=hid hX;have HT:=hid hT;obtain ⟨oo,oc,hov⟩:∃ oo oc,_=Value.slice oo 0 oc:=HO.out.shape;subst hov;rw [show ((0:Nat):Int)=0 from rfl];clear hFr hT hbT hX HO Hk HB;go_upto_region 6 with fail;rw [<- HT.out];clear f0 f1;go_wp2;go_loopw [9,23] (fun sv iv wr=>∃ j:Nat,j<=n/\iv=.int .i64 j/\sv=.int .i64 (sumC sf st (d.take j))/\Hid ((d.take j).any (noNum sf st)=false)/\Hid (Below T.heap.size T wr)) (fun _ i _=>n - (intOf i).toNat)
    case atStart=>exact ⟨0,zK _,rfl,rfl,hid rfl,hid (zB _ _)⟩
    case round =>
     obtain ⟨j,hj,rfl,rfl,HA,HB⟩:=hrel;by_cases hjn:j<n
     . obtain ⟨b,off,rfl,hlt,hc⟩:=Ho.out (by have:=Hn.out;omega)
       obtain ⟨x,ro,rc,hx,hcell,hrd⟩:=hc j (by have:=Hn.out;omega);have hm:=zC hx;have hcx:=HN.out.cols.2 x hm;have hc0:=HN.out.cols.1;have hba:=HbT.out.trans (HB.out.mono HbT.out.size);have d1:=(hba.cell (p:=⟨b,off+j,none⟩) hlt.2).trans hcell;have hrw:=Rds.onn hrd hba;obtain ⟨ro',rc',hvs,hin⟩:=RdI.open hrw;injection hvs with q1 q2 q3;subst q1;subst q3;clear q2;obtain ⟨cb,co,rfl,_⟩:=hin (by omega);obtain ⟨W,hW⟩:∃ W,W=wr.alloc (.cells #[.slice (some ⟨cb,co,none⟩) x.length rc] 69):=⟨_,rfl⟩;have hbW:Below wr.heap.size wr W:=by rw [hW];exact (zB _ _).alloc (zA _) _
       have hY:Box W wr.heap.size [.slice (some ⟨cb,co,none⟩) x.length rc]:=by rw [hW];exact Box.new wr [.slice (some ⟨cb,co,none⟩) x.length rc] _
       have hXW:=(HX.out.on HB.out).on hbW;have y0:=hY.cell 0 _ rfl;have x0:=hXW.cell 0 _ rfl;have x1:=hXW.cell 1 _ rfl;have hcon:=numberIn_c (w:=W) sf st hc0.1 hc0.2 hcx HN.out.w12 (HN.out.cells x hm) (Rds.onn hrw hbW);have hsn:=sumC_take (sf:=sf) (st:=st) hx;have hb1:=sumC_bd ((HN.out.take j).part);have hb2:=numR_bd _ (HN.out.part x hm);have hlt3:(d.take j).length<=100:=by rw [zI];omega
       obtain ⟨s0,hs0⟩:∃ s,s=sumC sf st (d.take j):=⟨_,rfl⟩;rw [<- hs0] at hsn hb1 |-;unfold numC at hsn;have Hany:=hid (fun h=>any_take_no (p:=noNum sf st) j hx h);have Hsno:=hid (fun h=>any_snoc hx HA.out h (p:=noNum sf st));have Hno:Hid (noNum sf st x=!(numR (partC x sf st)).2):=hid rfl;obtain ⟨N1,hN1⟩:∃ N1,N1=(numR (partC x sf st)).1:=⟨_,rfl⟩;obtain ⟨N2,hN2⟩:∃ N2,N2=(numR (partC x sf st)).2:=⟨_,rfl⟩;rw [<- hN1,<- hN2] at hcon;rw [<- hN1] at hsn hb2;rw [<- hN2] at Hno;have Hsn:=hid hsn;have Hcon:=hid hcon;have HW:=hid hW;have Hbx:=hid (HB.out.trans (hbW.mono HB.out.size));have e1:-9223372036854775808<=s0+N1/\s0+N1<=9223372036854775807:=by omega
       clear hc hx hrd hm hba hrw hin hbW hY hXW hcon hsn hb1 hb2 hlt3 hs0 hN1 hN2 hW hcell HA HB hcx hc0;generalize x.length=xl at *
       go_upto_region 9 with fail;rw [<- HW.out];clear d1;go_wp2_with fail;with_reducible refine Hcon.out.mono ?_
       rintro e w1 ⟨rfl,hb1⟩;have Hb1:=hid (Hbx.out.trans (hb1.mono Hbx.out.size));clear hb1 y0 x0 x1;cases N2 with
       | false =>
        have HE:Hid (p=true):=hid (by rw [Hp.out];exact Hany.out Hno.out);have Hbz:=hid (HbT.out.trans (Hb1.out.mono HbT.out.size));go_wp2;go_ret2;exact ⟨⟨_,by rw [HE.out];rfl,fun h=>by rw [HE.out] at h;cases h⟩,Hbz.out⟩
       | true =>
        have HA2:=hid (Hsno.out Hno.out);go_wp2;go_roundw
        case rel=>exact ⟨j+1,by omega,by go_num,by rw [Hsn.out],HA2,Hb1⟩
        case measure=>simp [intOf];omega
     . obtain rfl:j=n:=by omega
       have hT9:d.take j=d:=zH (by have:=Hn.out;omega);rw [hT9,<- HS.out];have HE:Hid (p=false):=hid (by rw [Hp.out,<- HA.out,hT9]);have HOq:=hid (HOT.out.below HB.out (zA _));have HBq:=hid (HbT.out.trans (HB.out.mono HbT.out.size));clear HA HB hT9;go_wp2_with (first | (at_builtin;refine yAB (E:=eI) rfl _ _ 48 rfl Tryz.underlying48 hi hz0 hz1 hz2 rfl (by decide) rfl rfl (HOq.out.alloc _) (yAH (E:=eI) (x:=S) HokS.out rfl) ?b1 ?b2 ?b3 ?_))
       case b1=>unfold maxLen;simp
       case b2=>simp
       case b3=>have:=HBq.out.size;simp;omega
       intro v3 w3 hO3 hg3;have HO3:=hid hO3;have HB3:=hid (HBq.out.grown hg3.alloc.1 HBq.out.size (fun q hq=>(HOq.out.lt q hq).1));clear hO3 hg3;go_wp2;go_roundw
       case rel=>exact ⟨0+1,by omega,by go_num,HO3,hid (fun _=>HE.out),HB3⟩
       case measure=>simp [intOf]
  . obtain rfl:k=1:=by omega
    have HE:=hid (Hk.out rfl);obtain ⟨oo,oc,hov⟩:=HO.out.shape;subst hov;go_wp2;go_ret2;exact ⟨⟨_,by rw [HE.out];rfl,fun _=>HO.out⟩,HB.out⟩
theorem eT_ok {s:ByteArray} (h:s.size<=1000):eT.ok s:=by show s.size<=9223372036854775807;omega
theorem l07Keys_c {d:List (List Int)} {v:Value} {w:World} {A:Nat} {f t:Int} (hd:RdInt64SS A w v d) :
 Calls Tryz.prog 26 #[v,.agg #[.int .i64 f,.int .i64 t]] w fun e w'=>(∃ r,e=.returned (.tuple #[r,.int .i64 (sortC d f t)])/\(sortC d f t=0->Own eT 9 w.heap.size w' r (keyT d f t)))/\Below w.heap.size w w':=by
 obtain ⟨i0,hi,hz0,hz1,hz2⟩:=info_parts Tryz.infoString;obtain ⟨vo,vc,rfl⟩:=hd.shape;obtain ⟨T,hT⟩:∃ T,T=w.alloc (.cells #[.int .i64 f,.int .i64 t] 27):=⟨_,rfl⟩;have hbT:Below w.heap.size w T:=by rw [hT];exact (zB _ _).alloc (zA _) _
 have hBT:Box T w.heap.size [.int .i64 f,.int .i64 t]:=by rw [hT];exact Box.new w [.int .i64 f,.int .i64 t] _
 have hdT:=RdInt64SS.onn hd hbT;have hdk:=l02Deck_c hdT;obtain ⟨R,hR⟩:∃ R,R=sortC d f t:=⟨_,rfl⟩;rw [<- hR];have HR:=hid hR;have HT:=hid hT;have HbT:=hid hbT;have HBT:=hid hBT;have HdT:=hid hdT;obtain ⟨V,hV⟩:∃ V,V=deckB d:=⟨_,rfl⟩;rw [<- hV] at hdk;have HV:=hid hV;have Hdk:=hid hdk;obtain ⟨n,hn⟩:∃ n,n=d.length:=⟨_,rfl⟩;rw [<- hn] at HdT Hdk |-;have Hn:=hid hn;clear hT hbT hBT hd hdT hdk hV hR hn;go_enter Tryz.func26,Tryz.ntmps26;go_upto_region 1 with fail;rw [<- HT.out];go_wp2_with fail;with_reducible refine Hdk.out.mono ?_
 rintro e w1 ⟨rfl,m1,hm1⟩;have hb1:Below T.heap.size T w1:=by rw [hm1];exact (zB _ _).drewNy m1
 have hQ1:=HBT.out.on hb1;have hd1:=RdInt64SS.onn HdT.out hb1;have Hb1:=hid (HbT.out.trans (hb1.mono HbT.out.size));have HQ1:=hid hQ1;have Hd1:=hid hd1;clear hb1 hm1;cases V with
 | false =>
  have HE:Hid (R=1):=hid (by rw [HR.out];unfold sortC;rw [if_pos HV.out.symm]);clear hQ1 hd1;go_wp2;go_ret2;exact ⟨⟨.slice none 0 0,by rw [HE.out];rfl,fun h=>by rw [HE.out] at h;exact absurd h (by decide)⟩,Hb1.out⟩
 | true =>
  have hp:=yAE HV.out.symm;obtain ⟨C,hC⟩:∃ C,C=colsD d:=⟨_,rfl⟩;have hCb:=colsD_bd HV.out.symm;rw [<- hC] at hCb;have HC:=hid hC;have f1:=cell_regrown (hQ1.cell 0 _ rfl);have f2:=cell_regrown (hQ1.cell 1 _ rfl);have hw:=fun y os=>l07Width_c (w:=grow (redrawn w1 y) os) (RdInt64SS.below hd1 (below_regrown w1 y os) (zA _));rw [<- hC] at hw;have hcf:=fun w=>l02Field_c f t C w (by omega);obtain ⟨F,hF⟩:∃ F,F=decide (fieldP f t C):=⟨_,rfl⟩;rw [<- hF] at hcf;have HF:=hid hF;have Hw:=hid hw;have Hcf:=hid hcf;have HR1:Hid (R=if F=false then 2 else if hasD d f t=false then 8 else 0):=hid (by
   rw [HR.out];unfold sortC;rw [if_neg (by rw [<- HV.out];decide),<- HC.out];by_cases h:fieldP f t C
   . rw [if_neg (fun e=>e h),show F=true by rw [HF.out];exact decide_eq_true h];rfl
   . rw [if_pos h,show F=false by rw [HF.out];exact decide_eq_false h];rfl)
  have Hlen:Hid (n<=40):=hid (by rw [Hn.out];exact hp.1);have Hcl:=hid (fun (c:List Int) (hc:c∈d)=>card_len (hp.2 c hc).1);clear hw hcf hC hF hQ1 hd1 hp;go_wp2;refine wp_region_quiet_below (by kernel_rfl) (by kernel_rfl) ?_;repeat ((with_reducible refine wpQuiet_step (fun K hK=>?_));go_simp;first | ((with_reducible refine hK _ ?_);clear hK K) | (apply Exists.intro;refine ⟨fun _=>?_,hK _ ?_⟩;((first | (go_at_call 63;with_reducible exact qb_same (Hw.out _ _)) | (go_at_call 62;with_reducible exact yAG (Hcf.out _))));clear hK K))
  refine wpQuiet_nil ?_;intro _ hw';obtain ⟨⟨dq,osq⟩,hw''⟩:=hw';subst hw'';have hbq:=below_regrown w1 dq osq;generalize grow (redrawn w1 dq) osq=wq at hbq |-;obtain ⟨w2,hw2⟩:∃ x,x=wq:=⟨_,rfl⟩;subst hw2;have HQ2:=hid (HQ1.out.on hbq);have hd2:=RdInt64SS.onn Hd1.out hbq;have Hb2:=hid (Hb1.out.trans (hbq.mono Hb1.out.size));clear hbq f1 f2;cases F with
  | false =>
   have HE:Hid (R=2):=hid (by rw [HR1.out,if_pos rfl]);clear hd2;go_wp2;go_ret2;exact ⟨⟨.slice none 0 0,by rw [HE.out];rfl,fun h=>by rw [HE.out] at h;exact absurd h (by decide)⟩,Hb2.out⟩
  | true =>
   have HCo:=hid (yAR HV.out.symm (by rw [<- HC.out];exact of_decide_eq_true HF.out.symm));obtain ⟨vo',vc',hvs,ho⟩:=hd2.open;injection hvs with q1 q2 q3;subst q1;subst q3;clear q2;rw [<- Hn.out] at ho;have Ho:=hid ho;have hO0:Own eT 9 w2.heap.size (w2.alloc (.cells #[] 9)) (.slice (some ⟨w2.heap.size,0,none⟩) 0 0) ((keyT d f t).take 0):=Own.lit (E:=eT) (xs:=[]) (cs:=#[]) (zA _) rfl rfl (by decide) (fun x hx=>by cases hx);have HO0:=hid hO0;have hba:Below w2.heap.size w2 (w2.alloc (.cells #[] 9)):=(zB _ _).alloc (zA _) _;have HBA:=hid hba;have hn40:n<=40:=Hlen.out;clear hd2 ho hO0 hba;simp only [Bool.not_true];go_wp2;go_loopw [6,7] (fun ov iv wr=>∃ (k:Nat) (oo:Option Addr) (oc:Nat),k<=n/\iv=.int .i64 k/\ov=.slice oo k oc/\Hid (Own eT 9 w2.heap.size wr (.slice oo k oc) ((keyT d f t).take k))/\Hid ((d.take k).any (notF f t)=false)/\Hid (Below w2.heap.size w2 wr)) (fun _ i _=>n - (intOf i).toNat)
   case atStart=>exact ⟨0,_,_,zK _,rfl,rfl,HO0,hid rfl,HBA⟩
   case round =>
    obtain ⟨k,oo,oc,hk,rfl,rfl,HO,HA,HB⟩:=hrel;clear HO0 HBA;by_cases hkn:k<n
    . obtain ⟨b,off,rfl,hlt,hc⟩:=Ho.out (by omega)
      obtain ⟨x,ro,rc,hx,hcell,hrd⟩:=hc k hkn;have hm:=zC hx;have hcx:=HCo.out.2 x hm;have hc0:=HCo.out.1;have hxl:=Hcl.out x hm;have d1:=(HB.out.cell (p:=⟨b,off+k,none⟩) hlt.2).trans hcell;have hrw:=Rds.onn hrd HB.out;obtain ⟨ro',rc',hvs,hin⟩:=RdI.open hrw;injection hvs with q1 q2 q3;subst q1;subst q3;clear q2;obtain ⟨cb,co,rfl,_⟩:=hin (by omega);have hQr:=HQ2.out.on HB.out;have f1:=cell_regrown (hQr.cell 0 _ rfl);have f2:=cell_regrown (hQr.cell 1 _ rfl);have f3:=cell_regrown d1;have hkey:=fun y os=>l03Key_c (w:=grow (redrawn wr y) os) f t hc0.1 hc0.2 hcx (by omega) ((((below_regrown wr y os).cell (p:=⟨b,off+k,none⟩) (World.block_lt_of_cell? _ _ d1))).trans d1) (Rds.regrown hrw (zA _) y os);obtain ⟨sx,hsx⟩:∃ s,s=txV (partC x f t):=⟨_,rfl⟩;obtain ⟨px,hpx⟩:∃ p,p=okTx (partC x f t):=⟨_,rfl⟩;rw [<- hsx,<- hpx] at hkey;have Hkey:=hid hkey;have Hpx:=hid hpx;have Hsx:Hid (px=true->sx=toB (txI (partC x f t))/\sx.size<=1000):=hid (fun h=>by
       have e:sx=toB (txI (partC x f t)):=by rw [hsx];unfold txV;rw [if_pos (by rw [<- hpx];exact h)]
       refine ⟨e,?_⟩;rw [e,toB_size];unfold txI;rw [List.length_map,yAN hc0.1 hc0.2 hcx];omega)
      have Hno:Hid (notF f t x=!px):=hid (by rw [hpx];rfl);have Hx:=hid hx;have Htk:Hid ((keyT d f t).take (k+1)=(keyT d f t).take k++[toB (txI (partC x f t))]):=hid (yAD (keyT_at hx));have Hll:Hid (((keyT d f t).take k).length=k):=hid (by rw [zI,keyT_len];have:=Hn.out;omega);have hkI:(k:Int)<(n:Int):=by omega
      obtain ⟨Tk,hTk⟩:∃ Tk,Tk=(keyT d f t).take k:=⟨_,rfl⟩;rw [<- hTk] at HO Htk Hll;clear hTk;clear hc hx hcell hrd hm hcx hc0 hxl hrw hin hQr d1 hkey hsx hpx;generalize x.length=xl at *
      go_upto_region 9 with fail;refine wp_region_quiet_below (by kernel_rfl) (by kernel_rfl) ?_;repeat ((with_reducible refine wpQuiet_step (fun K hK=>?_));go_simp;first | ((with_reducible refine hK _ ?_);clear hK K) | (apply Exists.intro;refine ⟨fun _=>?_,hK _ ?_⟩;((first | (go_at_call 64;with_reducible exact yAG (Hkey.out _ _))));clear hK K))
      refine wpQuiet_nil ?_;intro _ hw';obtain ⟨⟨dq,osq⟩,hw''⟩:=hw';subst hw'';have hbq:=below_regrown wr dq osq;generalize grow (redrawn wr dq) osq=wq at hbq |-;have HOq:=hid (HO.out.below hbq (zA _));have HBq:=hid (HB.out.trans (hbq.mono HB.out.size));clear hbq f1 f2 f3 HO HB;cases px with
      | false =>
       have HE:Hid (R=8):=hid (by
        rw [HR1.out,if_neg (by decide),if_pos];unfold hasD;rw [any_yes Hx.out (by rw [Hno.out];rfl)];rfl)
       have Hbz:=hid (Hb2.out.trans (HBq.out.mono Hb2.out.size));go_wp2;go_ret2;exact ⟨⟨.slice none 0 0,by rw [HE.out];rfl,fun h=>by rw [HE.out] at h;exact absurd h (by decide)⟩,Hbz.out⟩
      | true =>
       have HA2:=hid (any_snoc Hx.out HA.out (p:=notF f t) (by rw [Hno.out];rfl));have hs9:=Hsx.out rfl;have Hsok:Hid (eT.ok sx):=hid (eT_ok hs9.2);have Hsx2:=hid hs9.1;have hszr:w2.heap.size<=wq.heap.size:=HBq.out.size;clear hs9;go_wp2_with (first | (at_builtin;refine yAB (E:=eT) rfl _ _ 64 rfl Tryz.underlying64 hi hz0 hz1 hz2 rfl (by decide) rfl rfl (HOq.out.alloc _) (yAH (E:=eT) (x:=sx) Hsok.out rfl) ?b1 ?b2 ?b3 ?_))
       case b1=>have:=Hll.out;have:=Hlen.out;unfold maxLen;simp;omega
       case b2=>have:=Hll.out;have:=Hlen.out;simp;omega
       case b3=>first | (simp;omega) | omega
       intro v3 w3 hO3 hg3;rw [Hsx2.out,<- Htk.out] at hO3;obtain ⟨ao3,cap3,hv3⟩:=hO3.shape;rw [show ((keyT d f t).take (k+1)).length=k+1 by rw [Htk.out,zE,Hll.out];rfl] at hv3;subst hv3;have HO3:=hid hO3;have HB3:=hid (HBq.out.grown hg3.alloc.1 HBq.out.size (fun q hq=>(HOq.out.lt q hq).1));clear hO3 hg3;go_wp2;go_roundw
       case rel=>exact ⟨k+1,_,_,by omega,by go_num,rfl,HO3,HA2,HB3⟩
       case measure=>simp [intOf];omega
    . obtain rfl:k=n:=by omega
      have hany:=any_full Hn.out HA.out;have HE:Hid (R=0):=hid (by rw [HR1.out,if_neg (by decide),if_neg (by unfold hasD;rw [hany];decide)]);have hOf:=HO.out.mono (base':=w.heap.size) Hb2.out.size;rw [zH (by rw [keyT_len];have:=Hn.out;omega)] at hOf;have HOf:=hid hOf;have Hbz:=hid (Hb2.out.trans (HB.out.mono Hb2.out.size));clear hOf hany;go_wp2;go_ret2;exact ⟨⟨_,by rw [HE.out];rfl,fun _=>HOf.out⟩,Hbz.out⟩
theorem toList_ne {a b:ByteArray} (h:¬ a=b):(a.toList == b.toList)=false:=by
 refine beq_eq_false_iff_ne.2 (fun e=>h ?_);rw [ByteArray.toList_eq,ByteArray.toList_eq] at e;cases a;cases b;congr 1;exact Array.toList_inj.1 e
theorem key_at {d:List (List Int)} {f t:Int} {k:Nat} (hC:ColsOk d f t) (hr:RowsOk d) (hh:hasD d f t=true) (hk:k<d.length) :
 ∃ s,(keyT d f t)[k]?=some s/\rkS s=rks (keyC d f t k)/\chS s=true/\s.size=t.toNat - f.toNat/\s.size<=1000:=by
 have e:d[k]?=some (d[k]'hk):=zF hk;have hm:=zC e;have ho:=hasD_at hh hm;have hl:=hC.2 _ hm;have hl2:=hr.2 _ hm;have hs:(toB (txI (partC (d[k]'hk) f t))).size=t.toNat - f.toNat:=by
  rw [toB_size];unfold txI;rw [List.length_map,yAN hC.1.1 hC.1.2 hl]
 refine ⟨_,keyT_at e,?_,chS_txt ho,hs,by rw [hs];have:=hC.1;omega⟩;unfold keyC;rw [List.getD_eq_getElem?_getD,e];exact rkS_txt ho
theorem RdT.at {w:World} {B:Nat} {v:Value} {K:List ByteArray} (h:Rds eT B w v K):∃ ao cap,v=.slice ao K.length cap /\
 (0<K.length->∃ b off,ao=some ⟨b,off,none⟩/\(b<B/\b<w.heap.size)/\∀ (k:Nat) (s:ByteArray),K[k]?=some s->w.cell? ⟨b,off+k,none⟩=some (.string s)):=by
 obtain ⟨ao,cap,hv,hc⟩:=RdT.open h;refine ⟨ao,cap,hv,fun h0=>?_⟩;obtain ⟨b,off,e,hlt,h2⟩:=hc h0;refine ⟨b,off,e,hlt,fun k s hs=>?_⟩;obtain ⟨x,hx,hcell,-⟩:=h2 k (yBG hs);rw [hs] at hx;cases hx;exact hcell
theorem l09Groups_c {d:List (List Int)} {v:Value} {w:World} {A:Nat} {f t:Int} (hk:Rds eT A w v (keyT d f t)) (hC:ColsOk d f t) (hr:RowsOk d) (hh:hasD d f t=true) :
 Calls Tryz.prog 161 #[v] w fun e w'=>(∃ r,e=.returned r/\OwnInt64S w.heap.size w' r (selI (grpP d f t) d.length))/\Below w.heap.size w w':=by
 obtain ⟨i0,hi,hz0,hz1,hz2⟩:=info_parts Tryz.infoInt64;obtain ⟨ao,cap,rfl,ho⟩:=RdT.at hk.tight;rw [keyT_len] at ho |-;have hl:=hr.1;obtain ⟨n,hn⟩:∃ n,n=d.length:=⟨_,rfl⟩;have hka:=fun (k:Nat) (hk:k<d.length)=>key_at hC hr hh hk;have hO0:OwnInt64S w.heap.size (w.alloc (.cells #[] 2)) (.slice (some ⟨w.heap.size,0,none⟩) 0 0) (selI (grpP d f t) 0):=Own.lit (E:=eI) (xs:=[]) (cs:=#[]) (zA _) rfl rfl (by decide) (fun x hx=>by cases hx);have hB0:Below w.heap.size w (w.alloc (.cells #[] 2)):=(zB _ _).alloc (zA _) _;rw [<- hn] at ho hl hka |-;have Ho:=hid ho;have Hn:=hid hn;have Hka:=hid hka;have HO0:=hid hO0;have HB0:=hid hB0;clear hk hC hr hh ho hn hka hO0 hB0;go_enter Tryz.func161,Tryz.ntmps161;go_wp2;go_loopw [3,4] (fun ov iv wr=>∃ (k:Nat) (ro:Option Addr) (rc:Nat),k<=n/\iv=.int .i64 k/\ov=.slice ro (selI (grpP d f t) k).length rc/\Hid (OwnInt64S w.heap.size wr (.slice ro (selI (grpP d f t) k).length rc) (selI (grpP d f t) k))/\Hid (Below w.heap.size w wr)) (fun _ i _=>n - (intOf i).toNat)
 case atStart=>exact ⟨0,_,_,zK _,rfl,rfl,HO0,HB0⟩
 case round =>
  obtain ⟨k,ro,rc,hk,rfl,rfl,HO,HB⟩:=hrel;clear HO0 HB0;by_cases hkn:k<n
  . have Hzl:Hid ((selI (grpP d f t) k).length<=k):=hid (yBM _ _)
    obtain ⟨L,hL⟩:∃ L,L=selI (grpP d f t) k:=⟨_,rfl⟩;obtain ⟨b,off,rfl,hlt,hc⟩:=Ho.out (by omega);have hokk:eI.ok (k:Int):=by show -9223372036854775808<=(k:Int)/\(k:Int)<=9223372036854775807;omega
    by_cases hk0:k=0
    . have HS:Hid (L++[(0:Int)]=selI (grpP d f t) (k+1)):=hid (by rw [yAX,<- hL,hk0,grp_zero];rfl)
      rw [<- hL] at HO Hzl |-;have hok0:eI.ok (0:Int):=by show -9223372036854775808<=(0:Int)/\(0:Int)<=9223372036854775807;omega
      clear hL hc hokk;subst hk0;go_upto_region 5 with fail;refine wp_region_quiet_below (by kernel_rfl) (by kernel_rfl) ?_;repeat ((with_reducible refine wpQuiet_step (fun K hK=>?_));go_simp;first | ((with_reducible refine hK _ ?_);clear hK K) | ((with_reducible rw [if_neg]);rotate_left;(intro hgd;cases hgd);(with_reducible refine hK _ ?_);clear hK K) | (apply Exists.intro;refine ⟨fun _=>?_,hK _ ?_⟩;((fail));clear hK K))
      refine wpQuiet_nil ?_;intro _ hw';obtain ⟨⟨dq,osq⟩,hw''⟩:=hw';subst hw'';have hbq:=below_regrown wr dq osq;generalize grow (redrawn wr dq) osq=wq at hbq |-;have HOq:=hid (HO.out.below hbq (zA _));have HBq:=hid (HB.out.trans (hbq.mono HB.out.size));clear hbq;go_wp2_with (first | (at_builtin;refine yAB (E:=eI) rfl _ _ 48 rfl Tryz.underlying48 hi hz0 hz1 hz2 rfl (by decide) rfl rfl (HOq.out.alloc _) (yAH (E:=eI) (x:=(0:Int)) hok0 rfl) ?b1 ?b2 ?b3 ?_))
      case b1=>have:=Hzl.out;unfold maxLen;simp;omega
      case b2=>have:=Hzl.out;simp;omega
      case b3=>have:=HBq.out.size;simp;omega
      intro v3 w3 hO3 hg3;rw [HS.out] at hO3;obtain ⟨ao3,cap3,hv3⟩:=hO3.shape;subst hv3;have HO3:=hid hO3;have HB3:=hid (HBq.out.grown hg3.alloc.1 HBq.out.size (fun q hq=>(HOq.out.lt q hq).1));clear hO3 hg3;go_wp2;go_roundw
      case rel=>exact ⟨0+1,_,_,by omega,by go_num,rfl,HO3,HB3⟩
      case measure=>simp [intOf];omega
    . obtain ⟨j,rfl⟩:∃ j,k=j+1:=⟨k - 1,by omega⟩
      obtain ⟨s1,e1,r1,h1,z1,-⟩:=Hka.out (j+1) hkn;obtain ⟨s0,e0,r0,h0,z0,-⟩:=Hka.out j (by omega);have d1:=cell_regrown ((HB.out.cell (p:=⟨b,off+(j+1),none⟩) hlt.2).trans (hc (j+1) s1 e1));have d0:=cell_regrown ((HB.out.cell (p:=⟨b,off+j,none⟩) hlt.2).trans (hc j s0 e0));have hgp:grpP d f t ((j+1:Nat):Int)=decide (s1 ≠ s0):=by
       rw [grp_succ];refine decide_eq_decide.2 ?_;have hz:cmpK d f t j (j+1)=0 ↔ s0=s1:=by
        unfold cmpK;rw [<- r0,<- r1,cmpN_zero (by rw [rkS_len,rkS_len,z0,z1]),rkS_iff h0 h1]
       exact ⟨fun h e=>h (hz.2 e.symm),fun h e=>h (hz.1 e).symm⟩
      have hs1:IntKind.i64.wrap ((j:Int)+1 - 1)=(j:Int):=by rw [show (j:Int)+1 - 1=(j:Int) by omega];exact IntWalk.i64_in _ (by omega)
      have hs2:IntKind.i64.wrap (j:Int)=(j:Int):=IntWalk.i64_in _ (by omega);have i0:0<=(j:Int)+1:=by omega
      have i1:(j:Int)+1<(n:Int):=by omega
      have i2:(j:Int)<(n:Int):=by omega
      have i3:((j:Int)+1 == 0)=false:=beq_eq_false_iff_ne.2 (by omega);have hLs:selI (grpP d f t) (j+1+1)=L++(if s1 ≠ s0 then [(j:Int)+1] else []):=by
       rw [yAX,<- hL,hgp];by_cases h:s1 ≠ s0
       . rw [if_pos (decide_eq_true h),if_pos h];rfl
       . rw [if_neg (by simpa using h),if_neg h]
      rw [<- hL] at HO Hzl |-;have HLs:=hid hLs;have hokk:eI.ok ((j:Int)+1):=by show -9223372036854775808<=(j:Int)+1/\(j:Int)+1<=9223372036854775807;omega
      clear hL hc e1 r1 h1 z1 e0 r0 h0 z0 hgp hLs hk0;by_cases hq:s1=s0
      . have HS:Hid (L=selI (grpP d f t) (j+1+1)):=hid (by rw [HLs.out,if_neg (fun h=>h hq),List.append_nil])
        subst hq;go_upto_region 5 with fail;refine wp_region_quiet_below (by kernel_rfl) (by kernel_rfl) ?_;repeat ((with_reducible refine wpQuiet_step (fun K hK=>?_));go_simp;first | ((with_reducible refine hK _ ?_);clear hK K) | ((with_reducible rw [if_neg]);rotate_left;(intro hgd;cases hgd);(with_reducible refine hK _ ?_);clear hK K) | (apply Exists.intro;refine ⟨fun _=>?_,hK _ ?_⟩;((fail));clear hK K))
        refine wpQuiet_nil ?_;intro _ hw';obtain ⟨⟨dq,osq⟩,hw''⟩:=hw';subst hw'';have hbq:=below_regrown wr dq osq;generalize grow (redrawn wr dq) osq=wq at hbq |-;have hOq:=HO.out.below hbq (zA _);have HBq:=hid (HB.out.trans (hbq.mono HB.out.size));have HOq:Hid (OwnInt64S w.heap.size _ (.slice ro L.length rc) (selI (grpP d f t) (j+1+1))):=hid (by rw [<- HS.out];exact hOq);clear hbq d1 d0 hOq hs1 hs2;go_wp2;go_roundw
        case rel=>exact ⟨j+1+1,_,_,by omega,by go_num,by rw [HS.out],by rw [<- HS.out];rw [<- HS.out] at HOq;exact HOq,HBq⟩
        case measure=>simp [intOf];omega
      . have HS:Hid (L++[(j:Int)+1]=selI (grpP d f t) (j+1+1)):=hid (by rw [HLs.out,if_pos hq])
        have hq2:=toList_ne hq;clear hq;go_upto_region 5 with fail;refine wp_region_quiet_below (by kernel_rfl) (by kernel_rfl) ?_;repeat ((with_reducible refine wpQuiet_step (fun K hK=>?_));go_simp;first | ((with_reducible refine hK _ ?_);clear hK K) | ((with_reducible rw [if_neg]);rotate_left;(intro hgd;cases hgd);(with_reducible refine hK _ ?_);clear hK K) | (apply Exists.intro;refine ⟨fun _=>?_,hK _ ?_⟩;((fail));clear hK K))
        refine wpQuiet_nil ?_;intro _ hw';obtain ⟨⟨dq,osq⟩,hw''⟩:=hw';subst hw'';have hbq:=below_regrown wr dq osq;generalize grow (redrawn wr dq) osq=wq at hbq |-;have HOq:=hid (HO.out.below hbq (zA _));have HBq:=hid (HB.out.trans (hbq.mono HB.out.size));clear hbq d1 d0 hs1 hs2;go_wp2_with (first | (at_builtin;refine yAB (E:=eI) rfl _ _ 48 rfl Tryz.underlying48 hi hz0 hz1 hz2 rfl (by decide) rfl rfl (HOq.out.alloc _) (yAH (E:=eI) (x:=(j:Int)+1) hokk rfl) ?b1 ?b2 ?b3 ?_))
        case b1=>have:=Hzl.out;unfold maxLen;simp;omega
        case b2=>have:=Hzl.out;simp;omega
        case b3=>have:=HBq.out.size;simp;omega
        intro v3 w3 hO3 hg3;rw [HS.out] at hO3;obtain ⟨ao3,cap3,hv3⟩:=hO3.shape;subst hv3;have HO3:=hid hO3;have HB3:=hid (HBq.out.grown hg3.alloc.1 HBq.out.size (fun q hq=>(HOq.out.lt q hq).1));clear hO3 hg3 hq2;go_wp2;go_roundw
        case rel=>exact ⟨j+1+1,_,_,by omega,by go_num,rfl,HO3,HB3⟩
        case measure=>simp [intOf];omega
  . obtain rfl:k=n:=by omega
    go_wp2;go_ret;exact ⟨⟨_,rfl,HO.out⟩,HB.out⟩
theorem sortC_cases (d:List (List Int)) (f t:Int):sortC d f t=0\/sortC d f t=1\/sortC d f t=2\/sortC d f t=8:=by
 unfold sortC;split
 . exact .inr (.inl rfl)
 . split
   . exact .inr (.inr (.inl rfl))
   . split
     . exact .inr (.inr (.inr rfl))
     . exact .inl rfl
theorem l09Ask_c {d:List (List Int)} {v:Value} {w:World} {A g:Nat} {f t:Int} {s:ByteArray} (hd:RdInt64SS A w v d) (hg:Box w g [.string s]) (hf:0<=f/\f<t/\t<=1000) (hs:(s.size:Int)=t - f) (hc:chS s=true) :
 Calls Tryz.prog 158 #[v,.agg #[.int .i64 f,.int .i64 t],.slice (some ⟨g,0,none⟩) 1 1] w fun e w'=>(∃ r,e=.returned (.tuple #[r,.int .i64 (sortC d f t)])/\(sortC d f t=0->Rds eT w'.heap.size w' r (keyT d f t)))/\Below w.heap.size w w':=by
 obtain ⟨vo,vc,rfl⟩:=hd.shape;obtain ⟨T,hT⟩:∃ T,T=w.alloc (.cells #[.int .i64 f,.int .i64 t] 27):=⟨_,rfl⟩;have hbT:Below w.heap.size w T:=by rw [hT];exact (zB _ _).alloc (zA _) _
 have hBT:Box T w.heap.size [.int .i64 f,.int .i64 t]:=by rw [hT];exact Box.new w [.int .i64 f,.int .i64 t] _
 have hdT:=RdInt64SS.onn hd hbT;have hky:=l07Keys_c (f:=f) (t:=t) hdT;have f0:=hBT.cell 0 _ rfl;have f1:=hBT.cell 1 _ rfl;have hcs:=sortC_cases d f t;obtain ⟨R,hR⟩:∃ R,sortC d f t=R:=⟨_,rfl⟩;rw [hR] at hky hcs |-;have Hky:=hid hky;have HT:=hid hT;have HbT:=hid hbT;have HBT:=hid hBT;have HG:=hid (hg.on hbT);have Hcs:=hid hcs;have htx:txC s f t=0:=by unfold txC;rw [if_pos hs,if_pos hc]
 have Htx:=hid (fun w=>by have h:=l09Text_c s f t w (by omega) hf;rw [htx] at h;exact h);clear hT hbT hBT hdT hky hR hd hg hcs htx hc;generalize d.length=n at *
 go_enter Tryz.func158,Tryz.ntmps158;go_upto_region 1 with fail;rw [<- HT.out];go_wp2_with fail;with_reducible refine Hky.out.mono ?_
 rintro e w1 ⟨⟨rk,rfl,hK⟩,hb1⟩;have HB1:=hid (HBT.out.on hb1);have HG1:=hid (HG.out.on hb1);have Hb1:=hid (HbT.out.trans (hb1.mono HbT.out.size));have HK:Hid (R=0->Rds eT w1.heap.size w1 rk (keyT d f t)):=hid (fun h=>(hK h).rds);clear hb1 f0 f1 hK;by_cases h12:R=1\/R=2
 . have h1:(R != 0)=true:=by rcases h12 with h | h <;> (rw [h];rfl)
   have h2:(R != 8)=true:=by rcases h12 with h | h <;> (rw [h];rfl)
   have H0:Hid (R ≠ 0):=hid (by omega);clear h12;go_wp2;go_ret2;exact ⟨⟨.slice none 0 0,rfl,fun h=>absurd h H0.out⟩,Hb1.out⟩
 . have h08:R=0\/R=8:=by have:=Hcs.out;omega
   have h1:(R != 0)=false\/(R != 8)=false:=by rcases h08 with h | h <;> (rw [h];first | exact .inl rfl | exact .inr rfl)
   have hgo:∀ (b:Bool),((R != 0) && b)=true->b=(R != 8)->False:=by
    intro b h e;rw [e] at h;rcases h1 with q | q <;> (rw [q] at h;simp at h)
   clear h12 hgo;rcases h08 with h | h
   . subst h
     clear h1;go_wp2;go_loopw [10,11] (fun kv iv wr=>∃ k:Nat,k<=1/\iv=.int .i64 k/\kv=.int .i64 0/\Hid (Below w1.heap.size w1 wr)) (fun _ i _=>1 - (intOf i).toNat)
     case atStart=>exact ⟨0,by omega,rfl,rfl,hid (zB _ _)⟩
     case round =>
      obtain ⟨k,hk,rfl,rfl,HB⟩:=hrel;by_cases hk1:k<1
      . obtain rfl:k=0:=by omega
        have f0:=cell_regrown ((HB1.out.on HB.out).cell 0 _ rfl);have f1:=cell_regrown ((HB1.out.on HB.out).cell 1 _ rfl);have f2:=cell_regrown ((HG1.out.on HB.out).cell 0 _ rfl);go_upto_region 8 with fail;refine wp_region_quiet_below (by kernel_rfl) (by kernel_rfl) ?_;repeat ((with_reducible refine wpQuiet_step (fun K hK=>?_));go_simp;first | ((with_reducible refine hK _ ?_);clear hK K) | (apply Exists.intro;refine ⟨fun _=>?_,hK _ ?_⟩;((first | (go_at_call 173;with_reducible exact yAG (Htx.out _))));clear hK K))
        refine wpQuiet_nil ?_;intro _ hw';obtain ⟨⟨dq,osq⟩,hw''⟩:=hw';subst hw'';have hbq:=below_regrown wr dq osq;generalize grow (redrawn wr dq) osq=wq at hbq |-;have HBq:=hid (HB.out.trans (hbq.mono HB.out.size));clear hbq f0 f1 f2;go_wp2;go_roundw
        case rel=>exact ⟨0+1,by omega,by go_num,rfl,HBq⟩
        case measure=>simp [intOf]
      . obtain rfl:k=1:=by omega
        have Hb2:=hid (Hb1.out.trans (HB.out.mono Hb1.out.size));have Hkf:Hid (Rds eT wr.heap.size wr rk (keyT d f t)):=hid (Rds.onn (HK.out (by first | trivial | rfl)) HB.out);go_wp2;go_ret2;exact ⟨⟨_,rfl,by first | exact Hkf.out | exact fun _=>Hkf.out⟩,Hb2.out⟩
   . subst h
     clear h1;go_wp2;go_loopw [10,11] (fun kv iv wr=>∃ k:Nat,k<=1/\iv=.int .i64 k/\kv=.int .i64 0/\Hid (Below w1.heap.size w1 wr)) (fun _ i _=>1 - (intOf i).toNat)
     case atStart=>exact ⟨0,by omega,rfl,rfl,hid (zB _ _)⟩
     case round =>
      obtain ⟨k,hk,rfl,rfl,HB⟩:=hrel;by_cases hk1:k<1
      . obtain rfl:k=0:=by omega
        have f0:=cell_regrown ((HB1.out.on HB.out).cell 0 _ rfl);have f1:=cell_regrown ((HB1.out.on HB.out).cell 1 _ rfl);have f2:=cell_regrown ((HG1.out.on HB.out).cell 0 _ rfl);go_upto_region 8 with fail;refine wp_region_quiet_below (by kernel_rfl) (by kernel_rfl) ?_;repeat ((with_reducible refine wpQuiet_step (fun K hK=>?_));go_simp;first | ((with_reducible refine hK _ ?_);clear hK K) | (apply Exists.intro;refine ⟨fun _=>?_,hK _ ?_⟩;((first | (go_at_call 173;with_reducible exact yAG (Htx.out _))));clear hK K))
        refine wpQuiet_nil ?_;intro _ hw';obtain ⟨⟨dq,osq⟩,hw''⟩:=hw';subst hw'';have hbq:=below_regrown wr dq osq;generalize grow (redrawn wr dq) osq=wq at hbq |-;have HBq:=hid (HB.out.trans (hbq.mono HB.out.size));clear hbq f0 f1 f2;go_wp2;go_roundw
        case rel=>exact ⟨0+1,by omega,by go_num,rfl,HBq⟩
        case measure=>simp [intOf]
      . obtain rfl:k=1:=by omega
        have Hb2:=hid (Hb1.out.trans (HB.out.mono Hb1.out.size));go_wp2;go_ret2;exact ⟨⟨_,rfl,by first | exact trivial | (intro h;exact absurd h (by decide))⟩,Hb2.out⟩
theorem out_text {f t:Int} {s:ByteArray} {c:List Int} (ho:okTx (partC c f t)=true) (hl:(partC c f t).length=s.size) (hc:chS s=true):outB f t s s c=decide (¬ toB (txI (partC c f t))=s):=by
 unfold outB;have h0:=cmpN_zero (a:=rks (partC c f t)) (b:=rks (cds s)) (by unfold rks;rw [List.length_map,List.length_map,cds_len,hl]);have hb:=cmpN_bd (rks (partC c f t)) (rks (cds s));have h1:rks (partC c f t)=rks (cds s) ↔ toB (txI (partC c f t))=s:=by
  rw [<- rkS_txt ho,<- rkS_cds hc];exact rkS_iff (chS_txt ho) hc
 by_cases h:toB (txI (partC c f t))=s
 . have e:=h0.2 (h1.2 h)
   rw [e,decide_eq_false (show ¬ ¬ _ from fun q=>q h)];rfl
 . have e:cmpN (rks (partC c f t)) (rks (cds s)) ≠ 0:=fun q=>h (h1.1 (h0.1 q))
   rw [decide_eq_true h];by_cases hq:cmpN (rks (partC c f t)) (rks (cds s))<0
   . rw [decide_eq_true hq];rfl
   . rw [decide_eq_false hq,decide_eq_true (show (0:Int)<cmpN (rks (partC c f t)) (rks (cds s)) by omega)];rfl
theorem sSelectEqual_c {d:List (List Int)} {v:Value} {w:World} {A:Nat} {f t:Int} {s:ByteArray} (hd:RdInt64SS A w v d) (hf:0<=f/\f<t/\t<=1000) (hs:(s.size:Int)=t - f) (hc:chS s=true) :
 Calls Tryz.prog 129 #[v,.agg #[.int .i64 f,.int .i64 t],.string s] w fun e w'=>DkPost (sortC d f t) (fun x=>x=d.filter (fun y=>!outB f t s s y)) w.heap.size e w'/\Below w.heap.size w w':=by
 obtain ⟨i0,hi,hz0,hz1,hz2c⟩:=info_parts Tryz.infoCard;obtain ⟨vo,vc,rfl⟩:=hd.shape;obtain ⟨T,hT⟩:∃ T,T=w.alloc (.cells #[.int .i64 f,.int .i64 t] 27):=⟨_,rfl⟩;have hbT:Below w.heap.size w T:=by rw [hT];exact (zB _ _).alloc (zA _) _
 have hBT:Box T w.heap.size [.int .i64 f,.int .i64 t]:=by rw [hT];exact Box.new w [.int .i64 f,.int .i64 t] _
 have hdT:=RdInt64SS.onn hd hbT;obtain ⟨T2,hT2⟩:∃ T2,T2=T.alloc (.cells #[.string s] 9):=⟨_,rfl⟩;have hb2:Below T.heap.size T T2:=by rw [hT2];exact (zB _ _).alloc (zA _) _
 have hg:Box T2 T.heap.size [.string s]:=by rw [hT2];exact Box.new T [.string s] _
 have hask:=l09Ask_c (f:=f) (t:=t) (RdInt64SS.onn hdT hb2) hg hf hs hc;have f0:=hBT.cell 0 _ rfl;have f1:=hBT.cell 1 _ rfl;obtain ⟨R,hR⟩:∃ R,sortC d f t=R:=⟨_,rfl⟩;rw [hR] at hask |-;have HR:=hid hR;have Hask:=hid hask;have HT:=hid hT;have HT2:=hid hT2;have HbT:=hid (hbT.trans (hb2.mono hbT.size));have HdT:=hid (RdInt64SS.onn hdT hb2);have Hs:=hid hs;have Hc:=hid hc;clear hT hT2 hbT hBT hb2 hg hdT hask hR hd hs hc;obtain ⟨n,hn⟩:∃ n,n=d.length:=⟨_,rfl⟩;rw [<- hn] at HdT Hask |-;have Hn:=hid hn;clear hn;go_enter Tryz.func129,Tryz.ntmps129;go_upto_region 1 with fail;rw [<- HT.out];go_wp2_with fail;rw [<- HT2.out];with_reducible refine Hask.out.mono ?_
 rintro e w4 ⟨⟨rk,rfl,hK⟩,hb4⟩;have hd4:=RdInt64SS.onn HdT.out hb4;have Hb4:=hid (HbT.out.trans (hb4.mono HbT.out.size));clear hb4 f0 f1;by_cases hc0:R=0
 . have hz:=yBI (d:=d) (f:=f) (t:=t) (by rw [HR.out];exact hc0)
   have hKo:=hK hc0;subst hc0;have hlen:=(yAE hz.1).1;have hcols:=yAR hz.1 hz.2.1;have hka:=fun (k:Nat) (hk:k<d.length)=>key_at hcols (yAV hz.1) hz.2.2 hk;obtain ⟨ka,kc,hkv,hkc⟩:=RdT.at hKo;rw [keyT_len,<- Hn.out] at hkv hkc;subst hkv;obtain ⟨vo',vc',hvs,ho⟩:=hd4.open;rw [<- Hn.out] at hvs ho;injection hvs with q1 q2 q3;subst q1;subst q3;clear q2;have Ho:=hid ho;have Hkc:=hid hkc;have Hka:=hid hka;have HRw:=hid (yAV hz.1).2;have Hcols:=hid hcols;have Hz:=hid hz;have hl100:n<=40:=by have:=Hn.out;omega
   have hB0:BldG eI 2 69 w4.heap.size w4.heap.size (w4.alloc (.cells #[] 69)).heap.size (w4.alloc (.cells #[] 69)) (.slice (some ⟨w4.heap.size,0,none⟩) 0 0) ((d.take 0).filter (fun y=>!outB f t s s y)):=BldG.empty (B:=w4.heap.size) rfl (Own.lit (E:=eS) (xs:=[]) (cs:=#[]) (zA _) rfl rfl (by decide) (fun x hx=>by cases hx)) (by simp);have HB0:=hid hB0;clear hB0 hK hKo hlen hcols hka hkc hz hd4 ho;go_wp2;go_loopw [10,11] (fun ov iv wr=>∃ k:Nat,k<=n/\iv=.int .i64 k/\Hid (BldG eI 2 69 w4.heap.size w4.heap.size wr.heap.size wr ov ((d.take k).filter (fun y=>!outB f t s s y)))/\Hid (Below w4.heap.size w4 wr)) (fun _ i _=>n - (intOf i).toNat)
   case atStart=>exact ⟨0,zK _,rfl,HB0,hid ((zB _ _).alloc (zA _) _)⟩
   case round =>
    obtain ⟨k,hk,rfl,HB,Hb⟩:=hrel;clear HB0;by_cases hkn:k<n
    . obtain ⟨b,off,rfl,hlt,hc⟩:=Ho.out (by omega)
      obtain ⟨x,ro,rc,hx,hcell,hrd⟩:=hc k (by omega);obtain ⟨ba,boff,rfl,klt,kcc⟩:=Hkc.out (by omega);obtain ⟨sk,ek,-,-,-,-⟩:=Hka.out k (by have:=Hn.out;omega);have e2:=keyT_at (f:=f) (t:=t) hx;rw [ek] at e2;have e2:=zD e2;have d0:=(Hb.out.cell (p:=⟨ba,boff+k,none⟩) klt.2).trans (kcc k sk ek);have hm:=zC hx;have hxl:=HRw.out x hm;have d1:=(Hb.out.cell (p:=⟨b,off+k,none⟩) hlt.2).trans hcell;have hrw:=Rds.onn hrd Hb.out;have hout:outB f t s s x=decide (¬ sk=s):=by
       rw [e2];exact out_text (hasD_at Hz.out.2.2 hm) (by rw [yAN Hcols.out.1.1 Hcols.out.1.2 (Hcols.out.2 x hm)];have:=Hs.out;omega) Hc.out
      have hfil:(d.take (k+1)).filter (fun y=>!outB f t s s y)=(d.take k).filter (fun y=>!outB f t s s y)++(if sk=s then [x] else []):=by
       rw [yAD hx,List.filter_append];congr 1;by_cases h:sk=s
       . rw [if_pos h,List.filter_cons_of_pos (by rw [hout,decide_eq_false (fun q=>q h)];rfl)];rfl
       . rw [if_neg h,List.filter_cons_of_neg (by rw [hout,decide_eq_true h];decide)];rfl
      have Hfil:=hid hfil;have Hxl:Hid (((d.take k).filter (fun y=>!outB f t s s y)).length<=100):=hid (by have:=List.length_filter_le (fun y=>!outB f t s s y) (d.take k);rw [zI] at this;omega);obtain ⟨oo,oc,hov⟩:=HB.out.shape;subst hov;clear hc hcell hrd hx kcc ek e2 hm hout hfil;generalize (d.take k).filter (fun y=>!outB f t s s y)=Tk at *
      by_cases hq:sk=s
      . subst hq
        have Hfil2:Hid ((d.take (k+1)).filter (fun y=>!outB f t sk sk y)=Tk++[x]):=hid (by rw [Hfil.out,if_pos rfl]);have hcon:=l02Own_c rfl d1 hrw (by omega);have Hcon:=hid hcon;clear hcon d1 hrw;go_wp2_with fail;with_reducible refine Hcon.out.mono ?_
        rintro e w6 ⟨⟨u,rfl,hu⟩,hb6⟩;obtain ⟨tp,htp⟩:∃ tp,tp=wr.heap.size:=⟨_,rfl⟩;have htb:w4.heap.size<=tp:=by have:=Hb.out.size;omega
        have hz2:tp<=w6.heap.size:=by have:=hb6.size;omega
        have hB2:BldG eI 2 69 w4.heap.size w4.heap.size tp w6 (.slice oo Tk.length oc) Tk:=by rw [htp];exact HB.out.below hb6 (zA _)
        have hb2':=Hb.out.trans (hb6.mono (by omega));clear hb6;have hR9:=hu.mono (base':=tp) (by omega);obtain ⟨hs',xh,hval,hokx,hlen,hO,hfn⟩:=hB2.app hR9 htb hz2;obtain ⟨rao,rcap,hsh⟩:=hR9.shape;subst hsh;have hcells:(#[.slice rao x.length rcap]:Array Value)=(eS.cells xh).toArray:=by rw [show eS.cells xh=[xh.val] from rfl,hval]
        have HO:=hid hO;have Hfn:=hid hfn;have Hlen:=hid hlen;have Hcells:=hid hcells;have hl0:=HO.out.lt;have Hl0:=hid hl0;have Hb2':=hid hb2';have hszr:w4.heap.size<=w6.heap.size:=hb2'.size;clear hR9 hu hB2 hval hlen hO hfn hcells hl0 hb2';go_wp2_with (first | (at_builtin;refine yAB (E:=eS) rfl _ _ 24 rfl Tryz.underlying24 hi hz0 hz1 hz2c rfl (by decide) rfl rfl (HO.out.alloc _) (yAH (E:=eS) (x:=xh) hokx Hcells.out) ?b1 ?b2 ?b3 ?_))
        case b1=>rw [Hlen.out];have:=Hxl.out;unfold maxLen;simp;omega
        case b2=>rw [Hlen.out];have:=Hxl.out;simp;omega
        case b3=>simp;omega
        intro v' w8 hO8 hg8;have hg8':=hg8.alloc;have HB8:=hid (Hfn.out w8 v' hO8 hg8');have Hb8:=hid (Hb2'.out.grown hg8'.1 hszr (fun q hq=>(Hl0.out q hq).1));clear hO8 hg8 hg8';go_wp2;go_roundw
        case rel=>exact ⟨k+1,by omega,by go_num,by rw [Hfil2.out];exact HB8,Hb8⟩
        case measure=>simp [intOf];omega
      . have Hfil2:Hid ((d.take (k+1)).filter (fun y=>!outB f t s s y)=Tk):=hid (by rw [Hfil.out,if_neg hq,List.append_nil])
        have hq2:=toList_ne hq;clear hq hrw d1;go_wp2;go_roundw
        case rel=>exact ⟨k+1,by omega,by go_num,by rw [Hfil2.out];exact HB,Hb⟩
        case measure=>simp [intOf];omega
    . obtain rfl:k=n:=by omega
      have hM:=HB.out.toM (zA _);rw [zH (by have:=Hn.out;omega)] at hM;have HF:=hid ((FrD.own hM).mono Hb4.out.size);have HbF:=hid (Hb4.out.trans (Hb.out.mono Hb4.out.size));clear hM;go_wp2;go_ret2;exact ⟨⟨_,rfl,fun _=>⟨_,rfl,HF.out⟩⟩,HbF.out⟩
 . have hc1:(R != 0)=true:=by simpa using hc0
   have HR0:=hid hc0;clear hK hc0 hd4;go_wp2;go_ret2;exact ⟨DkPost.no (r:=.slice none 0 0) rfl HR0.out,Hb4.out⟩
theorem bool_of (p:Prop):∃ q:Bool,(q=true ↔ p):=by
 by_cases h:p
 . exact ⟨true,⟨fun _=>h,fun _=>rfl⟩⟩
 . exact ⟨false,⟨(fun e=>by cases e),fun e=>absurd e h⟩⟩
theorem ltK_trans {d:List (List Int)} {f t:Int} {a b c:Int} (h1:ltK d f t a b) (h2:ltK d f t b c):ltK d f t a c:=by
 unfold ltK at *
 rcases h1 with h1 | ⟨e1,h1⟩ <;> rcases h2 with h2 | ⟨e2,h2⟩
 . exact .inl (lexL_trans h1 h2)
 . exact .inl (by rw [<- e2];exact h1)
 . exact .inl (by rw [e1];exact h2)
 . exact .inr ⟨e1.trans e2,by omega⟩
theorem ins_sorted {d:List (List Int)} {f t:Int} {Z:List Int} {i:Int} {k:Nat} (hz:Z.Pairwise (ltK d f t)) (h1:∀ x∈Z.drop k,ltK d f t i x) (h2:k=0\/∃ y,Z[k - 1]?=some y/\ltK d f t y i) :
 (Z.take k++[i]++Z.drop k).Pairwise (ltK d f t):=by
 have hz2:=hz;rw [<- zP k Z,List.pairwise_append] at hz2;have ht:∀ y∈Z.take k,ltK d f t y i:=by
  intro y hy;rcases h2 with h2 | ⟨y0,e,h2⟩
  . rw [h2] at hy;simp at hy
  . obtain ⟨j,hj,rfl⟩:=List.mem_iff_getElem.1 hy
    have hjk:j<k/\j<Z.length:=by rw [zI] at hj;omega
    obtain ⟨hk1,e1⟩:=zS.1 e;rw [List.getElem_take];rcases Nat.lt_or_ge j (k - 1) with h | h
    . have:=List.pairwise_iff_getElem.1 hz j (k - 1) hjk.2 hk1 h
      rw [e1] at this;exact ltK_trans this h2
    . have hj0:j=k - 1:=by omega
      subst hj0;rw [e1];exact h2
 rw [zN,List.pairwise_append];refine ⟨hz2.1,?_,fun y hy x hx=>?_⟩
 . rw [List.singleton_append,List.pairwise_cons]
   exact ⟨h1,hz2.2.1⟩
 . rw [List.singleton_append] at hx
   rcases List.mem_cons.1 hx with rfl | hx
   . exact ht y hy
   . exact hz2.2.2 y hy x hx
theorem ins_perm {Z:List Int} {i k:Nat} (hz:Z.Perm (rangeN i)):(Z.take k++[(i:Int)]++Z.drop k).Perm (rangeN (i+1)):=by
 rw [rangeN_succ];have h1:(Z.take k++[(i:Int)]++Z.drop k).Perm ((i:Int) :: (Z.take k++Z.drop k)):=by
  rw [zN,List.singleton_append];exact List.perm_middle
 rw [zP] at h1;exact h1.trans ((List.perm_append_singleton _ _).symm.trans (List.Perm.append_right _ hz))
theorem key_len {d:List (List Int)} {f t:Int} (hC:ColsOk d f t) {k:Nat} (hk:k<d.length):(rks (keyC d f t k)).length=t.toNat - f.toNat:=by
 have e:d[k]?=some (d[k]'hk):=zF hk;unfold rks keyC;rw [List.length_map,List.getD_eq_getElem?_getD,e];exact yAN hC.1.1 hC.1.2 (hC.2 _ (zC e))
theorem Rds.empty {α:Type} (E:Elt α) (B:Nat) (w:World) (a:Addr) (c:Nat):Rds E B w (.slice (some a) 0 c) ([]:List α):=⟨⟨by simp [Elt.all],by simp,.inl ⟨rfl,_,_,rfl,fun h=>by cases h⟩⟩,fun x hx=>by cases hx⟩
theorem own_assoc {e:TypeId} {base:Nat} {w:World} {v:Value} {a c:List Int} {b:Int} (h:Own eI e base w v (a++b :: c)):Own eI e base w v (a++[b]++c):=by rw [zN];exact h
theorem l07Places_c {d:List (List Int)} {v:Value} {w:World} {A:Nat} {f t:Int} (hk:Rds eT A w v (keyT d f t)) (hC:ColsOk d f t) (hr:RowsOk d) (hh:hasD d f t=true) :
 Calls Tryz.prog 27 #[v] w fun e w'=>(∃ r Z,e=.returned r/\OwnInt64S w.heap.size w' r Z/\Z.Perm (rangeN d.length)/\Z.Pairwise (ltK d f t))/\Below w.heap.size w w':=by
 obtain ⟨i0,hi,hz0,hz1,hz2⟩:=info_parts Tryz.infoInt64;obtain ⟨ao,cap,rfl,ho⟩:=RdT.at hk.tight;rw [keyT_len] at ho |-;have hl:=hr.1;obtain ⟨n,hn⟩:∃ n,n=d.length:=⟨_,rfl⟩;have hka:=fun (k:Nat) (hk:k<d.length)=>key_at hC hr hh hk;have hkl:∀ x y:Nat,x<d.length->y<d.length->(rks (keyC d f t x)).length=(rks (keyC d f t y)).length:=fun x y hx hy=>by rw [key_len hC hx,key_len hC hy]
 have hO0:OwnInt64S w.heap.size (w.alloc (.cells #[] 2)) (.slice (some ⟨w.heap.size,0,none⟩) 0 0) []:=Own.lit (E:=eI) (xs:=[]) (cs:=#[]) (zA _) rfl rfl (by decide) (fun x hx=>by cases hx);have hB0:Below w.heap.size w (w.alloc (.cells #[] 2)):=(zB _ _).alloc (zA _) _;rw [<- hn] at ho hl hka hkl |-;have klen:=hkl;clear hkl;have Ho:=hid ho;have Hn:=hid hn;have Hka:=hid hka;have HO0:=hid hO0;have HB0:=hid hB0;clear hk hC hr hh ho hn hka hO0 hB0;go_enter Tryz.func27,Tryz.ntmps27;go_wp2;go_loopw [3,4] (fun ov iv wr=>∃ (i g oc:Nat) (Z:List Int),i<=n/\iv=.int .i64 i/\ov=.slice (some ⟨g,0,none⟩) i oc/\Hid (OwnInt64S w.heap.size wr (.slice (some ⟨g,0,none⟩) i oc) Z)/\Hid (Z.length=i)/\Hid (Z.Perm (rangeN i)/\Z.Pairwise (ltK d f t))/\Hid (Below w.heap.size w wr)) (fun _ i _=>n - (intOf i).toNat)
 case atStart=>exact ⟨0,_,_,[],zK _,rfl,rfl,HO0,hid rfl,hid ⟨List.Perm.refl _,List.Pairwise.nil⟩,HB0⟩
 case round =>
  obtain ⟨i,g,oc,Z,hi',rfl,rfl,HO,HZl,HZ,HB⟩:=hrel;clear HO0 HB0;by_cases hin:i<n
  . obtain ⟨kb,koff,rfl,klt,kcc⟩:=Ho.out (by omega)
    obtain ⟨si,ei,ri,-,zi,yi⟩:=Hka.out i hin;have hoc:=(HO.out.rds).cap;have hocl:i<=oc:=hoc.1;have hoc64:oc<=9223372036854775807\/i=0:=by rcases Nat.eq_zero_or_pos i with h | h;exact .inr h;exact .inl (hoc.2.2 h)
    have hci:=(HB.out.cell (p:=⟨kb,koff+i,none⟩) klt.2).trans (kcc i si ei);have Hkcc:=hid kcc;have hi64:(i:Int)<=1000:=by omega
    obtain ⟨W0,hW0⟩:∃ x,x=wr:=⟨_,rfl⟩;subst hW0;clear hoc kcc;go_wp2;go_loopw [5] (fun kv wr=>∃ k:Nat,k<=i/\kv=.int .i64 k/\Hid (∀ x∈Z.drop k,ltK d f t i x)/\Hid (Below W0.heap.size W0 wr)) (fun kv _=>(intOf kv).toNat)
    case atStart=>exact ⟨i,zA _,rfl,hid (fun x hx=>by rw [List.drop_of_length_le (by rw [HZl.out];exact zA _)] at hx;cases hx),hid (zB _ _)⟩
    case round =>
     obtain ⟨k,hk,rfl,HD,Hb⟩:=hrel;go_upto_region 6 with fail;obtain ⟨q,hq⟩:∃ q:Bool,(q=true ↔ ∃ z:Nat,0<k/\Z[k - 1]?=some (z:Int)/\cmpN (rks (keyC d f t i)) (rks (keyC d f t z))<0):=bool_of _;have Hq:=hid hq;clear hq;go_cut [33] (fun c wx=>c=.bool q/\Hid (Below W0.heap.size W0 wx))
     case first =>
      by_cases hk0:k=0
      . have HE:Hid (q=false):=hid (Bool.eq_false_iff.2 (fun h=>by obtain ⟨z,h1,_⟩:=Hq.out.1 h;omega))
        subst hk0;refine wp_region_quiet_below (by kernel_rfl) (by kernel_rfl) ?_;repeat ((with_reducible refine wpQuiet_step (fun K hK=>?_));go_simp;first | ((with_reducible refine hK _ ?_);clear hK K) | ((with_reducible rw [if_neg]);rotate_left;(intro hgd;cases hgd);(with_reducible refine hK _ ?_);clear hK K) | (apply Exists.intro;refine ⟨fun _=>?_,hK _ ?_⟩;((fail));clear hK K))
        refine wpQuiet_nil ?_;intro _ hw';obtain ⟨⟨dq,osq⟩,hw''⟩:=hw';subst hw'';have hbq:=below_regrown wr dq osq;generalize grow (redrawn wr dq) osq=wq at hbq |-;have HBq:=hid (Hb.out.trans (hbq.mono Hb.out.size));clear hbq;go_wp2_with fail;go_meet;exact ⟨by rw [HE.out],HBq⟩
      . obtain ⟨j,rfl⟩:∃ j,k=j+1:=⟨k - 1,by omega⟩
        have hOr:=HO.out.below Hb.out (zA _);obtain ⟨zao,zcap,hzs,hzop⟩:=RdI.open hOr.rds;rw [HZl.out] at hzs hzop;injection hzs with u1 u2 u3;subst u1;subst u3;clear u2;obtain ⟨zb,zoff,hzb,zlt,zc⟩:=hzop (by omega);injection hzb with hzb;injection hzb with g1 g2;subst g1;subst g2;obtain ⟨zz,hz1,hzc,-⟩:=zc j (by omega);obtain ⟨z,hzn,hze⟩:=yBJ i zz (HZ.out.1.mem_iff.1 (zC hz1));subst hze;obtain ⟨sz,ez,rz,-,zz2,-⟩:=Hka.out z (by omega);have e0:=cell_regrown ((Hb.out.cell (p:=⟨kb,koff+i,none⟩) (World.block_lt_of_cell? _ _ hci)).trans hci);have e1:=cell_regrown hzc;rw [Nat.zero_add] at e1;have e2:=cell_regrown (((HB.out.trans (Hb.out.mono HB.out.size)).cell (p:=⟨kb,koff+z,none⟩) klt.2).trans (Hkcc.out z sz ez));have hcmp:=fun w=>l03Compare_c (s:=si) (u:=sz) w (by rw [zi,zz2]) yi;rw [ri,rz] at hcmp;obtain ⟨R,hR⟩:∃ R,R=cmpN (rks (keyC d f t i)) (rks (keyC d f t z)):=⟨_,rfl⟩;rw [<- hR] at hcmp;have Hcmp:=hid hcmp;have HE:Hid (q=decide (R<0)):=hid (by
         rw [Bool.eq_iff_iff,decide_eq_true_iff,Hq.out];refine ⟨fun ⟨z',h1,h2,h3⟩=>?_,fun h=>⟨z,by omega,hz1,by rw [<- hR];exact h⟩⟩;have h2:Z[j]?=some (z':Int):=h2;rw [hz1] at h2;have h4:(z:Int)=(z':Int):=zD h2;have h5:z'=z:=by omega
         subst h5;rw [hR];exact h3)
        have hs1:IntKind.i64.wrap ((j:Int)+1 - 1)=(j:Int):=by rw [show (j:Int)+1 - 1=(j:Int) by omega];exact IntWalk.i64_in _ (by omega)
        have hs2:IntKind.i64.wrap (j:Int)=(j:Int):=IntWalk.i64_in _ (by omega);have p0:(0:Int)<(j:Int)+1:=by omega
        have p1:(j:Int)<(i:Int):=by omega
        have p2:(z:Int)<(n:Int):=by omega
        have p3:(i:Int)<(n:Int):=by omega
        clear hOr hzop zc hz1 hzc ez rz hcmp hR zlt;refine wp_region_quiet_below (by kernel_rfl) (by kernel_rfl) ?_;repeat ((with_reducible refine wpQuiet_step (fun K hK=>?_));go_simp;first | ((with_reducible refine hK _ ?_);clear hK K) | ((with_reducible rw [if_neg]);rotate_left;(intro hgd;cases hgd);(with_reducible refine hK _ ?_);clear hK K) | (apply Exists.intro;refine ⟨fun _=>?_,hK _ ?_⟩;((first | (go_at_call 65;with_reducible exact qb_same (Hcmp.out _))));clear hK K))
        refine wpQuiet_nil ?_;intro _ hw';obtain ⟨⟨dq,osq⟩,hw''⟩:=hw';subst hw'';have hbq:=below_regrown wr dq osq;generalize grow (redrawn wr dq) osq=wq at hbq |-;have HBq:=hid (Hb.out.trans (hbq.mono Hb.out.size));clear hbq e0 e1 e2 hs1 hs2;go_wp2_with fail;go_meet;exact ⟨by rw [HE.out],HBq⟩
     case rest =>
      obtain ⟨rfl,Hbc⟩:=hcut;obtain ⟨wx,hwx⟩:∃ x,x=wc:=⟨_,rfl⟩;subst hwx;cases q with
      | true =>
       have HD2:Hid (0<k/\∀ x∈Z.drop (k - 1),ltK d f t i x):=hid (by
        obtain ⟨z,h1,h2,h3⟩:=Hq.out.1 rfl;obtain ⟨h4,h5⟩:=zS.1 h2;refine ⟨h1,fun x hx=>?_⟩;rw [List.drop_eq_getElem_cons h4,h5] at hx;rcases List.mem_cons.1 hx with rfl | hx
        . obtain ⟨m,hm,hme⟩:=yBJ i (z:Int) (HZ.out.1.mem_iff.1 (zC h2))
          have e:z=m:=by omega
          unfold ltK;rw [zR,zR];exact .inl (cmpN_neg (klen i z (by omega) (by omega)) h3)
        . rw [show k - 1+1=k by omega] at hx
          exact HD.out x hx)
       obtain ⟨j,rfl⟩:∃ j,k=j+1:=⟨k - 1,by have:=HD2.out.1;omega⟩;have HD3:Hid (∀ x∈Z.drop j,ltK d f t i x):=hid HD2.out.2;clear hci;go_wp2;go_roundw
       case rel=>exact ⟨j,by omega,by go_num,HD3,Hbc⟩
       case measure=>simp [intOf] <;> omega
      | false =>
       have HEnd:Hid (k=0\/∃ y,Z[k - 1]?=some y/\ltK d f t y i):=hid (by
        by_cases h0:k=0
        . exact .inl h0
        . right
          have h4:k - 1<Z.length:=by rw [HZl.out];omega
          have h2:Z[k - 1]?=some (Z[k - 1]'h4):=zF h4;obtain ⟨m,hm,hme⟩:=yBJ i (Z[k - 1]'h4) (HZ.out.1.mem_iff.1 (zC h2));rw [hme] at h2;refine ⟨_,h2,?_⟩;have h5:¬ cmpN (rks (keyC d f t i)) (rks (keyC d f t m))<0:=fun h=>absurd (Hq.out.2 ⟨m,by omega,h2,h⟩) (by decide);unfold ltK;rw [zR,zR];rcases cmpN_pos (klen i m (by omega) (by omega)) h5 with e | e
          . exact .inr ⟨e.symm,by omega⟩
          . exact .inl e)
       have Hbx:=Hbc;clear Hbc hci Hb;have HOx:=hid (HO.out.below Hbx.out (zA _));have hsl:RdI wx.heap.size wx (.slice (some ⟨g,0,none⟩) (k) oc) (Z.take (k)):=(HOx.out.rds).takeN (by omega);have hown:=l00Own_c hsl (by rw [zI];omega);have Hown:=hid hown;have HBx:=hid (HB.out.trans (Hbx.out.mono HB.out.size));have hkoc:(k)<=oc:=by omega
       have Htl:Hid ((Z.take (k)).length=(k)):=hid (by rw [zI,HZl.out];omega);have hoki:eI.ok (i:Int):=by show -9223372036854775808<=(i:Int)/\(i:Int)<=9223372036854775807;omega
       clear hsl hown;go_wp2_with fail;with_reducible refine Hown.out.mono ?_
       rintro e w5 ⟨u5,rfl,hO5,hb5⟩;obtain ⟨uo,uc,hu5⟩:=hO5.shape;rw [Htl.out] at hu5;subst hu5;have HO5:=hid hO5;have Hb5:=hid hb5;have hsz5:wx.heap.size<=w5.heap.size:=hb5.size;clear hO5 hb5;go_wp2_with (first | (at_builtin;refine yAB (E:=eI) rfl _ _ 48 rfl Tryz.underlying48 hi hz0 hz1 hz2 rfl (by decide) rfl rfl (HO5.out.alloc _) (yAH (E:=eI) (x:=(i:Int)) hoki rfl) ?b1 ?b2 ?b3 ?_))
       case b1=>have:=Htl.out;unfold maxLen;simp;omega
       case b2=>have:=Htl.out;simp;omega
       case b3=>simp;omega
       intro v6 w6 hO6 hg6;obtain ⟨g6,c6,hv6,-,-⟩:=Own.addr hO6 (by simp);rw [show (Z.take (k)++[(i:Int)]).length=(k)+1 by rw [zE,Htl.out];rfl] at hv6;subst hv6;have hb56:Below w5.heap.size w5 (w5.alloc (.cells #[.int .i64 (i:Int)] 2)):=(zB _ _).alloc (zA _) _;have hb6:Below wx.heap.size wx w6:=(Hb5.out.trans (hb56.mono Hb5.out.size)).trans (by
        have h:=Agr.of_grown hg6.1 (S:=fun q=>wx.heap.size<=q) (fun q hq _=>(HO5.out.lt q hq).1);exact h.below (fun k h=>h) (by have:=hb56.size;omega))
       have hO6w:=HOx.out.below hb6 (zA _);have HO6w:=hid hO6w;have HO6:=hid hO6;have Hb6:=hid hb6;have hsz6:wx.heap.size<=w6.heap.size:=hb6.size;clear hO6 hg6 hb56 hb6 hO6w;by_cases hki:k<i
       . have hrt:RdI w6.heap.size w6 (.slice (some ⟨g,0+k,none⟩) (i - k) (oc - k)) (Z.drop k):=by
          have h:=Rds.sub (lo:=k) (hi:=i) (cap':=oc - k) (HO6w.out.rds) (by rw [HZl.out];omega) hki ⟨by omega,by omega⟩;rw [show k * eI.sz=k from Nat.mul_one _,zH (by rw [HZl.out];omega)] at h;exact h
         have hne:¬ oc=k:=by omega
         rw [Nat.zero_add] at hrt;have Hrt:=hid hrt;have hkle:k<=i:=by omega
         clear hrt;go_wp2_with (first | (at_builtin;refine yAB (E:=eI) rfl _ _ 48 rfl Tryz.underlying48 hi hz0 hz1 hz2 rfl (by decide) rfl rfl HO6.out Hrt.out ?c1 ?c2 ?c3 ?_))
         case c1=>have:=Htl.out;have:=HZl.out;unfold maxLen;simp;omega
         case c2=>have:=Htl.out;have:=HZl.out;simp;omega
         case c3=>omega
         intro v7 w7 hO7 hg7;have hO7:=own_assoc hO7;obtain ⟨g7,c7,hv7,-,-⟩:=Own.addr hO7 (by simp;omega);rw [show (Z.take (k)++[(i:Int)]++Z.drop (k)).length=i+1 by rw [zE,zE,Htl.out,zQ,HZl.out];show (k)+1+(i - (k))=i+1;omega] at hv7;subst hv7;have hb7:Below w.heap.size w w7:=(HBx.out.trans (Hb6.out.mono HBx.out.size)).trans ((Agr.of_grown hg7.1 (S:=fun q=>wx.heap.size<=q) (fun q hq _=>(HO6.out.lt q hq).1)).below (fun q hq=>by have h9:wx.heap.size<=q:=hq;have:=HBx.out.size;omega) (by have:=HBx.out.size;omega));have HO7:=hid (hO7.mono (base':=w.heap.size) HBx.out.size);have Hb7:=hid hb7;have HZ7:Hid ((Z.take (k)++[(i:Int)]++Z.drop (k)).Perm (rangeN (i+1))/\(Z.take (k)++[(i:Int)]++Z.drop (k)).Pairwise (ltK d f t)):=hid ⟨ins_perm HZ.out.1,ins_sorted HZ.out.2 HD.out HEnd.out⟩;have HZl7:Hid ((Z.take (k)++[(i:Int)]++Z.drop (k)).length=i+1):=hid (by rw [zE,zE,Htl.out,zQ,HZl.out];show (k)+1+(i - (k))=i+1;omega);clear hO7 hg7 hb7;go_wp2;go_roundw
         case rel=>exact ⟨i+1,g7,c7,_,by omega,by go_num,rfl,HO7,HZl7,HZ7,Hb7⟩
         case measure=>simp [intOf];omega
       . have hke:k=i:=by omega
         have hdn:Z.drop k=[]:=List.drop_of_length_le (by rw [HZl.out];omega);subst hke;by_cases hcap:oc=k
         . have Hrt:Hid (RdI w6.heap.size w6 (.slice (some ⟨g,0,none⟩) 0 0) (Z.drop k)):=hid (by rw [hdn];exact Rds.empty _ _ _ _ _)
           clear hdn;subst hcap;go_wp2_with (first | (at_builtin;refine yAB (E:=eI) rfl _ _ 48 rfl Tryz.underlying48 hi hz0 hz1 hz2 rfl (by decide) rfl rfl HO6.out Hrt.out ?c1 ?c2 ?c3 ?_))
           case c1=>have:=Htl.out;have:=HZl.out;unfold maxLen;simp;omega
           case c2=>have:=Htl.out;have:=HZl.out;simp;omega
           case c3=>omega
           intro v7 w7 hO7 hg7;have hO7:=own_assoc hO7;obtain ⟨g7,c7,hv7,-,-⟩:=Own.addr hO7 (by simp;omega);rw [show (Z.take (oc)++[(oc:Int)]++Z.drop (oc)).length=oc+1 by rw [zE,zE,Htl.out,zQ,HZl.out];show (oc)+1+(oc - (oc))=oc+1;omega] at hv7;subst hv7;have hb7:Below w.heap.size w w7:=(HBx.out.trans (Hb6.out.mono HBx.out.size)).trans ((Agr.of_grown hg7.1 (S:=fun q=>wx.heap.size<=q) (fun q hq _=>(HO6.out.lt q hq).1)).below (fun q hq=>by have h9:wx.heap.size<=q:=hq;have:=HBx.out.size;omega) (by have:=HBx.out.size;omega));have HO7:=hid (hO7.mono (base':=w.heap.size) HBx.out.size);have Hb7:=hid hb7;have HZ7:Hid ((Z.take (oc)++[(oc:Int)]++Z.drop (oc)).Perm (rangeN (oc+1))/\(Z.take (oc)++[(oc:Int)]++Z.drop (oc)).Pairwise (ltK d f t)):=hid ⟨ins_perm HZ.out.1,ins_sorted HZ.out.2 HD.out HEnd.out⟩;have HZl7:Hid ((Z.take (oc)++[(oc:Int)]++Z.drop (oc)).length=oc+1):=hid (by rw [zE,zE,Htl.out,zQ,HZl.out];show (oc)+1+(oc - (oc))=oc+1;omega);clear hO7 hg7 hb7;go_wp2;go_roundw
           case rel=>exact ⟨oc+1,g7,c7,_,by omega,by go_num,rfl,HO7,HZl7,HZ7,Hb7⟩
           case measure=>simp [intOf];omega
         . have Hrt:Hid (RdI w6.heap.size w6 (.slice (some ⟨g,k,none⟩) 0 (oc - k)) (Z.drop k)):=hid (by rw [hdn];exact Rds.empty _ _ _ _ _)
           clear hdn;go_wp2_with (first | (at_builtin;refine yAB (E:=eI) rfl _ _ 48 rfl Tryz.underlying48 hi hz0 hz1 hz2 rfl (by decide) rfl rfl HO6.out Hrt.out ?c1 ?c2 ?c3 ?_))
           case c1=>have:=Htl.out;have:=HZl.out;unfold maxLen;simp;omega
           case c2=>have:=Htl.out;have:=HZl.out;simp;omega
           case c3=>omega
           intro v7 w7 hO7 hg7;have hO7:=own_assoc hO7;obtain ⟨g7,c7,hv7,-,-⟩:=Own.addr hO7 (by simp;omega);rw [show (Z.take (k)++[(k:Int)]++Z.drop (k)).length=k+1 by rw [zE,zE,Htl.out,zQ,HZl.out];show (k)+1+(k - (k))=k+1;omega] at hv7;subst hv7;have hb7:Below w.heap.size w w7:=(HBx.out.trans (Hb6.out.mono HBx.out.size)).trans ((Agr.of_grown hg7.1 (S:=fun q=>wx.heap.size<=q) (fun q hq _=>(HO6.out.lt q hq).1)).below (fun q hq=>by have h9:wx.heap.size<=q:=hq;have:=HBx.out.size;omega) (by have:=HBx.out.size;omega));have HO7:=hid (hO7.mono (base':=w.heap.size) HBx.out.size);have Hb7:=hid hb7;have HZ7:Hid ((Z.take (k)++[(k:Int)]++Z.drop (k)).Perm (rangeN (k+1))/\(Z.take (k)++[(k:Int)]++Z.drop (k)).Pairwise (ltK d f t)):=hid ⟨ins_perm HZ.out.1,ins_sorted HZ.out.2 HD.out HEnd.out⟩;have HZl7:Hid ((Z.take (k)++[(k:Int)]++Z.drop (k)).length=k+1):=hid (by rw [zE,zE,Htl.out,zQ,HZl.out];show (k)+1+(k - (k))=k+1;omega);clear hO7 hg7 hb7;go_wp2;go_roundw
           case rel=>exact ⟨k+1,g7,c7,_,by omega,by go_num,rfl,HO7,HZl7,HZ7,Hb7⟩
           case measure=>simp [intOf];omega
  . obtain rfl:i=n:=by omega
    go_wp2;go_ret;exact ⟨⟨_,Z,rfl,HO.out,HZ.out.1,HZ.out.2⟩,HB.out⟩
theorem sSortedBy_c {d:List (List Int)} {v:Value} {w:World} {A:Nat} {f t:Int} (hd:RdInt64SS A w v d) :
 Calls Tryz.prog 7 #[v,.agg #[.int .i64 f,.int .i64 t]] w fun e w'=>DkPost (sortC d f t) (fun x=>x=pickD d (ordD d f t)) w.heap.size e w'/\Below w.heap.size w w':=by
 obtain ⟨i0,hi,hz0,hz1,hz2c⟩:=info_parts Tryz.infoCard;obtain ⟨vo,vc,rfl⟩:=hd.shape;obtain ⟨T,hT⟩:∃ T,T=w.alloc (.cells #[.int .i64 f,.int .i64 t] 27):=⟨_,rfl⟩;have hbT:Below w.heap.size w T:=by rw [hT];exact (zB _ _).alloc (zA _) _
 have hBT:Box T w.heap.size [.int .i64 f,.int .i64 t]:=by rw [hT];exact Box.new w [.int .i64 f,.int .i64 t] _
 have hdT:=RdInt64SS.onn hd hbT;have hky:=l07Keys_c (f:=f) (t:=t) hdT;have f0:=hBT.cell 0 _ rfl;have f1:=hBT.cell 1 _ rfl;obtain ⟨R,hR⟩:∃ R,sortC d f t=R:=⟨_,rfl⟩;rw [hR] at hky |-;have HR:=hid hR;have Hky:=hid hky;have HT:=hid hT;have HbT:=hid hbT;have HdT:=hid hdT;clear hT hbT hBT hdT hky hR hd;obtain ⟨n,hn⟩:∃ n,n=d.length:=⟨_,rfl⟩;rw [<- hn] at HdT Hky |-;have Hn:=hid hn;clear hn;go_enter Tryz.func7,Tryz.ntmps7;go_upto_region 1 with fail;rw [<- HT.out];go_wp2_with fail;with_reducible refine Hky.out.mono ?_
 rintro e w1 ⟨⟨rk,rfl,hK⟩,hb1⟩;have Hd1:=hid (RdInt64SS.onn HdT.out hb1);have Hb1:=hid (HbT.out.trans (hb1.mono HbT.out.size));clear hb1 f0 f1;by_cases hc0:R=0
 . have hz:=yBI (d:=d) (f:=f) (t:=t) (by rw [HR.out];exact hc0)
   have hKo:=hK hc0;subst hc0;have hlen:=(yAE hz.1).1;have hcon:=l07Places_c hKo.rds (yAR hz.1 hz.2.1) (yAV hz.1) hz.2.2;have Hcon:=hid hcon;have HRw:=hid (yAV hz.1).2;have hl100:n<=100:=by have:=Hn.out;omega
   have Hz:=hid hz;clear hcon hK hKo hlen hz;go_wp2_with fail;with_reducible refine Hcon.out.mono ?_
   rintro e w4 ⟨⟨rz,G,rfl,hG,hZp,hZw⟩,hb4⟩;have hmn:G.length<=n:=by rw [hZp.length_eq,yBK];exact Nat.le_of_eq Hn.out.symm
   have hZm:∀ (j:Nat) (z:Int),G[j]?=some z->∃ k:Nat,k<n/\z=(k:Int):=fun j z hz=>by
    rw [Hn.out];exact yBJ d.length z (hZp.mem_iff.1 (zC hz))
   have HOrd:Hid (IsOrd d f t G):=hid ⟨hZp,hZw⟩;clear hZp hZw;obtain ⟨zo,zc,hzo,hzop⟩:=RdI.open hG.rds;obtain ⟨m,hm⟩:∃ m,m=G.length:=⟨_,rfl⟩;subst hzo;rw [<- hm];have hd4:=RdInt64SS.onn Hd1.out hb4;obtain ⟨vo',vc',hvs,ho⟩:=hd4.open;rw [<- Hn.out] at hvs ho;injection hvs with q1 q2 q3;subst q1;subst q3;clear q2;have Ho:=hid ho;have Hm:=hid hm;have HZo:=hid hzop;have HZm:=hid hZm;have Hb4:=hid (Hb1.out.trans (hb4.mono Hb1.out.size));have hmn2:m<=n:=by rw [hm];exact hmn
   clear hG hb4 hzop hZm hm hd4 ho;have hB0:BldG eI 2 69 w4.heap.size w4.heap.size (w4.alloc (.cells #[] 69)).heap.size (w4.alloc (.cells #[] 69)) (.slice (some ⟨w4.heap.size,0,none⟩) 0 0) (pickD d (G.take 0)):=BldG.empty (B:=w4.heap.size) rfl (Own.lit (E:=eS) (xs:=[]) (cs:=#[]) (zA _) rfl rfl (by decide) (fun x hx=>by cases hx)) (by simp);have HB0:=hid hB0;clear hB0;go_wp2;go_loopw [9,10] (fun ov iv wr=>∃ k:Nat,k<=m/\iv=.int .i64 k/\Hid (BldG eI 2 69 w4.heap.size w4.heap.size wr.heap.size wr ov (pickD d (G.take k)))/\Hid (Below w4.heap.size w4 wr)) (fun _ i _=>m - (intOf i).toNat)
   case atStart=>exact ⟨0,zK _,rfl,HB0,hid ((zB _ _).alloc (zA _) _)⟩
   case round =>
    obtain ⟨k,hk,rfl,HB,Hb⟩:=hrel;clear HB0;by_cases hkn:k<m
    . obtain ⟨zb,zoff,rfl,zlt,zc1⟩:=HZo.out (by have:=Hm.out;omega)
      obtain ⟨z,hz,hzc,-⟩:=zc1 k (by have:=Hm.out;omega);obtain ⟨p,hp,hze⟩:=HZm.out k z hz;subst hze;have d0:=(Hb.out.cell (p:=⟨zb,zoff+k,none⟩) zlt.2).trans hzc;obtain ⟨b,off,rfl,hlt,hc⟩:=Ho.out (by omega);obtain ⟨x,ro,rc,hx,hcell,hrd⟩:=hc p (by omega);have hxl:=HRw.out x (zC hx);have d1:=(Hb.out.cell (p:=⟨b,off+p,none⟩) hlt.2).trans hcell;have hcon:=l02Own_c rfl d1 (Rds.onn hrd Hb.out) (by omega);have Hcon:=hid hcon;have Htk:Hid (pickD d (G.take (k+1))=pickD d (G.take k)++[x]):=hid (by unfold pickD;rw [yAD hz,List.map_append];simp [List.getD_eq_getElem?_getD,hx]);have Hxl:Hid ((pickD d (G.take k)).length<=100):=hid (by unfold pickD;rw [List.length_map,zI];omega);obtain ⟨oo,oc,hov⟩:=HB.out.shape;subst hov;have hmI:(p:Int)<(n:Int):=by omega
      have hmI0:(0:Int)<=(p:Int):=by omega
      clear hc hcell hrd hx hzc zc1 hz hcon d1;generalize pickD d (G.take k)=Tk at *
      go_wp2_with fail;with_reducible refine Hcon.out.mono ?_
      rintro e w6 ⟨⟨u,rfl,hu⟩,hb6⟩;obtain ⟨tp,htp⟩:∃ tp,tp=wr.heap.size:=⟨_,rfl⟩;have htb:w4.heap.size<=tp:=by have:=Hb.out.size;omega
      have hz2:tp<=w6.heap.size:=by have:=hb6.size;omega
      have hB2:BldG eI 2 69 w4.heap.size w4.heap.size tp w6 (.slice oo Tk.length oc) Tk:=by rw [htp];exact HB.out.below hb6 (zA _)
      have hb2':=Hb.out.trans (hb6.mono (by omega));clear hb6 d0;have hR9:=hu.mono (base':=tp) (by omega);obtain ⟨hs',xh,hval,hokx,hlen,hO,hfn⟩:=hB2.app hR9 htb hz2;obtain ⟨rao,rcap,hsh⟩:=hR9.shape;subst hsh;have hcells:(#[.slice rao x.length rcap]:Array Value)=(eS.cells xh).toArray:=by rw [show eS.cells xh=[xh.val] from rfl,hval]
      have HO:=hid hO;have Hfn:=hid hfn;have Hlen:=hid hlen;have Hcells:=hid hcells;have hl0:=HO.out.lt;have Hl0:=hid hl0;have Hb2':=hid hb2';have hszr:w4.heap.size<=w6.heap.size:=hb2'.size;clear hR9 hu hB2 hval hlen hO hfn hcells hl0 hb2';go_wp2_with (first | (at_builtin;refine yAB (E:=eS) rfl _ _ 24 rfl Tryz.underlying24 hi hz0 hz1 hz2c rfl (by decide) rfl rfl (HO.out.alloc _) (yAH (E:=eS) (x:=xh) hokx Hcells.out) ?b1 ?b2 ?b3 ?_))
      case b1=>rw [Hlen.out];have:=Hxl.out;unfold maxLen;simp;omega
      case b2=>rw [Hlen.out];have:=Hxl.out;simp;omega
      case b3=>simp;omega
      intro v' w8 hO8 hg8;have hg8':=hg8.alloc;have HB8:=hid (Hfn.out w8 v' hO8 hg8');have Hb8:=hid (Hb2'.out.grown hg8'.1 hszr (fun q hq=>(Hl0.out q hq).1));clear hO8 hg8 hg8';go_wp2;go_roundw
      case rel=>exact ⟨k+1,by omega,by go_num,by rw [Htk.out];exact HB8,Hb8⟩
      case measure=>simp [intOf];omega
    . obtain rfl:k=m:=by omega
      have hM:=HB.out.toM (zA _);rw [zH (by have:=Hm.out;omega)] at hM;have HM:=hid hM;clear hM;have hF:=(FrD.own HM.out).mono Hb4.out.size;rw [HOrd.out.eq] at hF;have HF:=hid hF;have HbF:=hid (Hb4.out.trans (Hb.out.mono Hb4.out.size));clear hF;go_wp2;go_ret2;exact ⟨⟨_,rfl,fun _=>⟨_,rfl,HF.out⟩⟩,HbF.out⟩
 . have hc1:(R != 0)=true:=by simpa using hc0
   have HR0:=hid hc0;clear hK hc0;go_wp2;go_ret2;exact ⟨DkPost.no (r:=.slice none 0 0) rfl HR0.out,Hb1.out⟩
structure SetP (w:World) (P S:Nat) (f t sf st:Int):Prop where
 box:Box w P [.int .i64 f,.int .i64 t,.slice (some ⟨S,0,none⟩) 1 1,.bool false]
 sums:Box w S [.int .i64 sf,.int .i64 st]
theorem SetP.on {w w':World} {P S:Nat} {f t sf st:Int} (h:SetP w P S f t sf st) (hb:Below w.heap.size w w'):SetP w' P S f t sf st:=⟨h.box.on hb,h.sums.on hb⟩
theorem l13Ok_c {w:World} {P S:Nat} {f t sf st c9:Int} (hP:SetP w P S f t sf st) (hc:1<=c9/\c9<=20) (hf:fieldP f t c9) (hs:fieldP sf st c9) (h12:st - sf<=12) :
 Calls Tryz.prog 159 #[.pointer (some ⟨P,0,none⟩),.int .i64 c9] w fun e w'=>e=.returned (.bool true)/\Below w.heap.size w w':=by
 have p0:=hP.box.cell 0 _ rfl;have p1:=hP.box.cell 1 _ rfl;have HP:=hid hP;have hfa:Hid (∀ W,Calls Tryz.prog 62 #[.agg #[.int .i64 f,.int .i64 t],.int .i64 c9] W fun e w'=>e=.returned (.bool true)/\Below W.heap.size W w'):=hid (fun W=>by
  have h:=l02Field_c f t c9 W (by omega);rw [decide_eq_true hf] at h;exact h)
 have hsa:Hid (∀ W,Calls Tryz.prog 62 #[.agg #[.int .i64 sf,.int .i64 st],.int .i64 c9] W fun e w'=>e=.returned (.bool true)/\Below W.heap.size W w'):=hid (fun W=>by
  have h:=l02Field_c sf st c9 W (by omega);rw [decide_eq_true hs] at h;exact h)
 have b1:-9223372036854775808<=st - sf:=by have:=hs.1;have:=hs.2.1;omega
 have b2:st - sf<=9223372036854775807:=by omega
 have b3:¬ (12:Int)<st - sf:=by omega
 have Hc:=hid hc;clear hP hf hs hc;go_enter Tryz.func159,Tryz.ntmps159;go_wp2_with (first | (go_at_call 142;refine (l00In_yes _ _ _ _ Hc.out.1 Hc.out.2).mono ?_;rintro e w1 ⟨rfl,rfl⟩) | (go_at_call 62;with_reducible refine (hfa.out _).mono ?_;rintro e w1 ⟨rfl,hb1⟩;have Hb1:=hid hb1;clear hb1));go_loopw [5] (fun iv wr=>∃ k:Nat,k<=1/\iv=.int .i64 k/\Hid (Below w.heap.size w wr)) (fun i _=>1 - (intOf i).toNat)
 case atStart=>exact ⟨0,zK _,rfl,Hb1⟩
 case round =>
  obtain ⟨k,hk,rfl,Hb⟩:=hrel;have f2:=(HP.out.on Hb.out).box.cell 2 _ rfl;by_cases hk1:k<1
  . obtain rfl:k=0:=by omega
    rw [show ((0:Nat):Int)=0 from rfl];have s0:=(HP.out.on Hb.out).sums.cell 0 _ rfl;have s1:=(HP.out.on Hb.out).sums.cell 1 _ rfl;have k2:=cell_regrown f2;have k3:=cell_regrown s0;have k4:=cell_regrown s1;have b4:IntKind.i64.wrap (st - sf)=st - sf:=IntWalk.i64_in _ (by omega);go_upto_region 6 with fail;clear f2 s0 s1 p0 p1;refine wp_region_quiet_below (by kernel_rfl) (by kernel_rfl) ?_;repeat ((with_reducible refine wpQuiet_step (fun K hK=>?_));go_simp;first | ((with_reducible refine hK _ ?_);clear hK K) | ((with_reducible rw [if_neg]);rotate_left;(intro hgd;cases hgd);(with_reducible refine hK _ ?_);clear hK K) | (apply Exists.intro;refine ⟨fun _=>?_,hK _ ?_⟩;((first | (go_at_call 62;with_reducible exact yAG (hsa.out _))));clear hK K))
    refine wpQuiet_nil ?_;intro _ hw';obtain ⟨⟨dq,osq⟩,hw''⟩:=hw';subst hw'';have hbq:=below_regrown wr dq osq;generalize grow (redrawn wr dq) osq=wq at hbq |-;have Hb2:=hid (Hb.out.trans (hbq.mono Hb.out.size));clear hbq k2 k3 k4;go_wp2;go_roundw
    case rel=>exact ⟨1,by omega,by go_num,Hb2⟩
    case measure=>simp [intOf]
  . obtain rfl:k=1:=by omega
    go_wp2;go_ret;exact ⟨rfl,Hb.out⟩
def numL (sf st:Int) (d:List (List Int)):List (List Int):=d.map (fun c=>[numC sf st c])
theorem numL_at {sf st:Int} {d:List (List Int)} {k:Nat} {x:List Int} (h:d[k]?=some x):(numL sf st d)[k]?=some [numC sf st x]:=by unfold numL;rw [List.getElem?_map,h];rfl
theorem numL_len (sf st:Int) (d:List (List Int)):(numL sf st d).length=d.length:=by unfold numL;rw [List.length_map]
structure ReadP (w:World) (b:Nat) (d:List (List Int)) (f t sf st:Int) (ks ns hs:Value):Prop where
 box:Box w b [ks,ns,hs]
 keys:Rds eT w.heap.size w ks (keyT d f t)
 nums:RdInt64SS w.heap.size w ns (numL sf st d)
 heads:RdI w.heap.size w hs (selI (grpP d f t) d.length)
theorem ReadP.on {w w':World} {b:Nat} {d:List (List Int)} {f t sf st:Int} {ks ns hs:Value} (h:ReadP w b d f t sf st ks ns hs) (hb:Below w.heap.size w w'):ReadP w' b d f t sf st ks ns hs :=
 ⟨h.box.on hb,h.keys.onn hb,RdInt64SS.onn h.nums hb,Rds.onn h.heads hb⟩
theorem BldG.nil {α:Type} {E:Elt α} (er e:TypeId) (base rb tp:Nat) (w:World):BldG E er e base rb tp w (.slice none 0 0) ([]:List (List α)) :=
 ⟨[],⟨Own.nil _ _ _ _,fun k hk=>by cases hk⟩,rfl,fun i h xs e1=>by simp at e1,fun i h e1=>by simp at e1,fun i j h h' _ e1=>by simp at e1⟩
structure InR (w wr:World) (X N2 N3:Nat) (ks nv:Value) (k:Nat) (d:List (List Int)) (f t sf st:Int):Prop where
 box:Box wr X [.slice none 0 0,nv,.slice none 0 0]
 bld:BldG eI 2 48 N3 N3 wr.heap.size wr nv ((numL sf st d).take k)
 keys:OwnT eT 9 N2 N3 wr ks (keyT d f t)
 any:(d.take k).any (noNum sf st)=false
 below:Below X w wr
 n3:N3<=wr.heap.size
theorem InR.on {w wr w':World} {X N2 N3:Nat} {ks nv:Value} {k:Nat} {d:List (List Int)} {f t sf st:Int} (h:InR w wr X N2 N3 ks nv k d f t sf st) (hX:X<N3) (hb:Below wr.heap.size wr w'):InR w w' X N2 N3 ks nv k d f t sf st :=
 ⟨h.box.on hb,(h.bld.below hb (zA _)).mono hb.size,h.keys.below hb h.n3,h.any,h.below.trans (hb.mono (by have:=h.n3;omega)),zO h.n3 hb.size⟩
theorem InR.put {w wr w6:World} {X N2 N3:Nat} {ks nv nv':Value} {k:Nat} {d:List (List Int)} {f t sf st:Int} (h:InR w wr X N2 N3 ks nv k d f t sf st) (hX:X<N2) (h23:N2<=N3) (hg:Grew wr w6 nv nv')
 (hB:BldG eI 2 48 N3 N3 w6.heap.size w6 nv' ((numL sf st d).take (k+1))) (ha:(d.take (k+1)).any (noNum sf st)=false) :
 Box w6 X [.slice none 0 0,nv,.slice none 0 0]/\InR w (w6.setCell ⟨X,1,none⟩ nv') X N2 N3 ks nv' (k+1) d f t sf st:=by
 have ho:∀ q,nv.ownBlock=some q->N3<=q:=fun q hq=>by
  obtain ⟨hs,h1,_⟩:=h.bld;exact (h1.1.lt q hq).1
 have hb:Below N3 wr w6:=(zB _ _).grown hg.1 h.n3 ho;have hbx:=h.box.below hb (by omega);have hgs:=yBL w6 ⟨X,1,none⟩ nv';have hsz:(w6.setCell ⟨X,1,none⟩ nv').heap.size=w6.heap.size:=by simp
 have hk:=h.keys.below hb (zA _);refine ⟨hbx,hbx.set1 (j:=1) (by simp) nv',?_,hk.keep hgs (.inr (fun e=>by have:=(hk.1.lt X e).1;omega)),ha,(h.below.trans (hb.mono (by omega))).setCell (zA _) _,by rw [hsz];exact zO h.n3 hb.size⟩;rw [hsz];refine hB.keep hgs ?_ (fun q hq=>by cases hq;left;show X<N3;omega);cases hv:nv'.ownBlock with
 | none=>exact .inl rfl
 | some q =>
  right;intro e;cases e;obtain ⟨hs,h1,_⟩:=hB;have:=(h1.1.lt X hv).1;omega
theorem l13Read_c {d:List (List Int)} {v:Value} {w:World} {A P S:Nat} {f t sf st:Int} (hd:RdInt64SS A w v d) (hP:SetP w P S f t sf st) (hD:deckB d=true) (hc:1<=colsD d) (hf:fieldP f t (colsD d)) (hs:fieldP sf st (colsD d)) (h12:st - sf<=12) :
 Calls Tryz.prog 130 #[.pointer (some ⟨P,0,none⟩),v] w fun e w'=>(∃ b,e=.returned (.tuple #[.pointer (some ⟨b,0,none⟩),.int .i64 (totC d f t sf st)])/\(totC d f t sf st=0->∃ ks ns hs,ReadP w' b d f t sf st ks ns hs))/\Below w.heap.size w w':=by
 obtain ⟨i0,hi,hz0,hz1,hz2⟩:=info_parts Tryz.infoInt64;obtain ⟨i1,hi1,hy0,hy1,hy2⟩:=info_parts Tryz.infoSlI;obtain ⟨vo,vc,rfl⟩:=hd.shape;obtain ⟨T,hT⟩:∃ T,T=w.alloc (.cells #[.slice none 0 0,.slice none 0 0,.slice none 0 0] 191):=⟨_,rfl⟩;have hbT:Below w.heap.size w T:=by rw [hT];exact (zB _ _).alloc (zA _) _
 have hBT:Box T w.heap.size [.slice none 0 0,.slice none 0 0,.slice none 0 0]:=by rw [hT];exact Box.new w [.slice none 0 0,.slice none 0 0,.slice none 0 0] _
 have hzT:T.heap.size=w.heap.size+1:=by rw [hT];simp
 have hdT:=RdInt64SS.onn hd hbT;have hPT:=hP.on hbT;obtain ⟨R,hR⟩:∃ R,R=totC d f t sf st:=⟨_,rfl⟩;rw [<- hR];have HR:=hid hR;have hdk:=l02Deck_c hdT;rw [hD] at hdk;have Hdk:=hid hdk;have HT:=hid hT;have HbT:=hid hbT;have HBT:=hid hBT;have HzT:=hid hzT;have HdT:=hid hdT;have HPT:=hid hPT;have HD:=hid hD;have Hc:=hid hc;have Hf:=hid hf;have Hs:=hid hs;have H12:=hid h12;obtain ⟨n,hn⟩:∃ n,n=d.length:=⟨_,rfl⟩;have Hn:=hid hn;rw [<- hn] at Hdk HdT |-;have Hd0:=hid hd;have HP0:=hid hP;rw [<- hn] at Hd0;clear hd hP hR hdk hT hbT hBT hzT hdT hPT hD hc hf hs h12 hn;obtain ⟨X,hX⟩:∃ X,X=w.heap.size:=⟨_,rfl⟩;rw [<- hX] at HBT HzT;go_enter Tryz.func130,Tryz.ntmps130;go_upto_region 2 with fail;rw [<- HT.out,<- hX];have HX:=hid hX;clear hX;go_wp2_with fail;with_reducible refine Hdk.out.mono ?_
 rintro e w1 ⟨rfl,m1,hm1⟩;have hb1:Below T.heap.size T w1:=by rw [hm1];exact (zB _ _).drewNy m1
 have Hd1:=hid (RdInt64SS.onn HdT.out hb1);have HP1:=hid (HPT.out.on hb1);have HX1:=hid (HBT.out.on hb1);have Hb1:=hid hb1;clear hb1 hm1;go_wp2_with fail;with_reducible refine (l07Width_c Hd1.out).mono ?_
 rintro e w1' ⟨rfl,rfl⟩;go_wp2_with fail;with_reducible refine (l13Ok_c HP1.out ⟨Hc.out,(colsD_bd HD.out).2⟩ Hf.out Hs.out H12.out).mono ?_
 rintro e w2 ⟨rfl,hb2⟩;have Hd2:=hid (RdInt64SS.onn Hd1.out hb2);have HP2:=hid (HP1.out.on hb2);have HX2:=hid (HX1.out.on hb2);have Hb2:=hid (Hb1.out.trans (hb2.mono Hb1.out.size));have p0:=HP2.out.box.cell 0 _ rfl;have p1:=HP2.out.box.cell 1 _ rfl;have hky:=l07Keys_c (f:=f) (t:=t) Hd2.out;obtain ⟨Ck,hCk⟩:∃ C,C=sortC d f t:=⟨_,rfl⟩;rw [<- hCk] at hky;have Hky:=hid hky;have HCk:Hid (Ck=if hasD d f t=false then 8 else 0):=hid (by rw [hCk];unfold sortC;rw [if_neg (by rw [HD.out];decide),if_neg (fun h=>h Hf.out)]);clear hb2 hky hCk;go_wp2_with fail;with_reducible refine Hky.out.mono ?_
 rintro e w3 ⟨⟨kv,rfl,hkv⟩,hb3⟩;have Hd3:=hid (RdInt64SS.onn Hd2.out hb3);have HP3:=hid (HP2.out.on hb3);have HX3:=hid (HX2.out.on hb3);have Hk3:=hid hb3;have hb03:=Hb2.out.trans (hb3.mono Hb2.out.size);have Hb3:=hid hb03;have Hbw:=hid (HbT.out.trans (hb03.mono HbT.out.size));have Hkv:=hid hkv;clear hb3 hb03 p0 p1 hkv;by_cases h8:hasD d f t=false
 . have HE:Hid (Ck=8):=hid (by rw [HCk.out,if_pos h8])
   have hC1:(Ck != 0)=true:=by rw [HE.out];rfl
   have HE2:Hid (R=8):=hid (by rw [HR.out];unfold totC;rw [if_pos (.inr h8)]);clear h8;go_wp2;go_ret2;exact ⟨⟨X,by rw [HE.out,HE2.out];first | done | rfl,fun h=>absurd (HE2.out.symm.trans h) (by decide)⟩,Hbw.out⟩
 . have h8':hasD d f t=true:=by simpa using h8
   have HE:Hid (Ck=0):=hid (by rw [HCk.out,if_neg h8]);have hkv2:=Hkv.out HE.out;obtain ⟨ko,kc,hks⟩:=hkv2.shape;rw [keyT_len,<- Hn.out] at hks;subst hks;have Hkr:=hid hkv2;have H8:=hid h8';have HR2:Hid (R=if d.any (noNum sf st)=true then 8 else 0):=hid (by
    rw [HR.out];unfold totC;by_cases h:d.any (noNum sf st)=true
    . rw [if_pos (.inl h),if_pos h]
    . rw [if_neg (fun e=>e.elim h h8),if_neg h])
   have hC0:=HE.out;subst hC0;clear h8 h8' hkv2 Hkv HCk Hky HE HR;have HCo:=hid (yAR HD.out Hs.out);have Hro:=hid (yAV HD.out);have Hm:=hid (fun (c:List Int) (hc:c∈d)=>card_masks ((yAE HD.out).2 c hc).1);have Hcl:=hid (fun (c:List Int) (hc:c∈d)=>card_len ((yAE HD.out).2 c hc).1);have Hlen:Hid (n<=40):=hid (by rw [Hn.out];exact (yAE HD.out).1);have hn40:n<=40:=Hlen.out;obtain ⟨N2,hN2⟩:∃ N,N=w2.heap.size:=⟨_,rfl⟩;obtain ⟨N3,hN3⟩:∃ N,N=w3.heap.size:=⟨_,rfl⟩;have hXN:X<N2:=by have:=Hb2.out.size;have:=HzT.out;omega
   have hN23:N2<=N3:=by have:=Hk3.out.size;omega
   have HI0:Hid (InR w w3 X N2 N3 (.slice ko n kc) (.slice none 0 0) 0 d f t sf st):=hid ⟨HX3.out,by rw [List.take_zero];exact BldG.nil _ _ _ _ _ _,by rw [hN2,hN3];exact Own.top Hkr.out,rfl,by rw [HX.out];exact Hbw.out,by omega⟩;have HN3:=hid hN3;obtain ⟨vo',vc',hvs,ho⟩:=Hd0.out.tight.open;injection hvs with q1 q2 q3;subst q1;subst q3;clear q2;rw [<- Hn.out,<- HX.out] at ho;have Ho:=hid ho;have HPw:=hid (show P<X/\S<X from ⟨by rw [HX.out];exact HP0.out.box.lt,by rw [HX.out];exact HP0.out.sums.lt⟩);clear ho hN2 hN3;go_wp2;go_loopw [9] (fun iv wr=>∃ (k:Nat) (oo:Option Addr) (oc:Nat),k<=n/\iv=.int .i64 k/\Hid (InR w wr X N2 N3 (.slice ko n kc) (.slice oo k oc) k d f t sf st)) (fun i _=>n - (intOf i).toNat)
   case atStart=>exact ⟨0,none,0,zK _,rfl,HI0⟩
   case round =>
    obtain ⟨k,oo,oc,hk,rfl,HI⟩:=hrel;obtain ⟨wo,hwo⟩:∃ x,x=wr:=⟨_,rfl⟩;subst hwo;clear HI0;by_cases hkn:k<n
    . obtain ⟨b,off,rfl,hlt,hc⟩:=Ho.out (by omega)
      obtain ⟨x,ro,rc,hx,hcell,hrd⟩:=hc k hkn;have hm:=zC hx;have d1:=(HI.out.below.cell (p:=⟨b,off+k,none⟩) hlt.2).trans hcell;have hrw:=hrd.below HI.out.below (by rw [HX.out];exact zA _);obtain ⟨ro',rc',hvs,hin⟩:=RdI.open hrw;injection hvs with q1 q2 q3;subst q1;subst q3;clear q2;have hcx:=HCo.out.2 x hm;have hc0:=HCo.out.1;have hxl:=Hcl.out x hm;obtain ⟨cb,co,rfl,_⟩:=hin (by omega);have hbw:b<wo.heap.size:=World.block_lt_of_cell? _ _ d1;have hnx:noNum sf st x=!(numR (partC x sf st)).2:=rfl;have hpl:0<(partC x sf st).length/\(partC x sf st).length<=12:=by rw [yAN hc0.1 hc0.2 hcx];have:=H12.out;omega
      have hpm:∀ m∈partC x sf st,0<=m/\m<=4095:=fun m hm2=>Hm.out x hm m (partC_mem hm2);have hbn:=numR_bd (partC x sf st) hpl.2;have Hx:=hid hx;obtain ⟨z,hz⟩:∃ z,z=(numR (partC x sf st)).1:=⟨_,rfl⟩;obtain ⟨g,hg⟩:∃ g,g=(numR (partC x sf st)).2:=⟨_,rfl⟩;rw [<- hz] at hbn;rw [<- hg] at hnx;have Hbn:=hid hbn;have Hnx:=hid hnx;have Hpl:=hid hpl;have Hpm:=hid hpm;have Hrw:=hid hrw;have Hd1:=hid d1;have Hcx:=hid hcx;have Hbw2:=hid hbw;have Hcap:=hid (Rds.cap hrw);have Hz:=hid hz;have Hg:=hid hg;have Hxl:=hid hxl;have Hnum:Hid ((numL sf st d).take (k+1)=(numL sf st d).take k++[[z]]):=hid (by rw [yAD (numL_at hx)];unfold numC;rw [hz]);have Hlk:Hid (((numL sf st d).take k).length=k):=hid (by rw [zI,numL_len,<- Hn.out];omega);have HIw:=HI.out;have hB1:Below wo.heap.size wo (wo.alloc (.cells #[] 2)):=(zB _ _).alloc (zA _) _;have HB1:=hid hB1;have hO1:Own eI 2 wo.heap.size (wo.alloc (.cells #[] 2)) (.slice (some ⟨wo.heap.size,0,none⟩) 0 0) ([z].take 0):=Own.lit (E:=eI) (xs:=[]) (cs:=#[]) (zA _) rfl rfl (by decide) (fun x hx=>by cases hx);have HO1:=hid hO1;clear hc hcell hrd hx hm d1 hrw hin hcx hxl hbw hnx hpl hpm hbn hz hg HIw hB1 hO1;generalize x.length=xl at *
      go_wp2;go_loopw [10,11] (fun ov iv wr=>∃ (j:Nat) (ro2:Option Addr) (rc2:Nat),j<=1/\iv=.int .i64 j/\ov=.slice ro2 j rc2/\Hid (Own eI 2 wo.heap.size wr (.slice ro2 j rc2) ([z].take j))/\Hid (Below wo.heap.size wo wr)/\Hid (0<j->g=true)) (fun _ i _=>1 - (intOf i).toNat)
      case atStart=>exact ⟨0,_,_,zK _,rfl,rfl,HO1,HB1,hid (fun h=>absurd h (by decide))⟩
      case round =>
       obtain ⟨j,ro2,rc2,hj,rfl,rfl,HO,HB,Hgj⟩:=hrel;clear HO1 HB1;have hbX:=HI.out.below.trans (HB.out.mono (by have:=HI.out.n3;omega));have hPw:=HP0.out.box.below hbX HPw.out.1;have hSw:=HP0.out.sums.below hbX HPw.out.2;have f2:=hPw.cell 2 _ rfl;by_cases hj1:j<1
       . obtain rfl:j=0:=by omega
         rw [show ((0:Nat):Int)=0 from rfl];have s0:=hSw.cell 0 _ rfl;have s1:=hSw.cell 1 _ rfl;have k2:=cell_regrown f2;have k3:=cell_regrown s0;have k4:=cell_regrown s1;have d2:=(HB.out.cell (p:=⟨b,off+k,none⟩) Hbw2.out).trans Hd1.out;have hrd2:=Rds.onn Hrw.out HB.out;have hbw3:b<wr.heap.size:=zM Hbw2.out HB.out.size;have hc9:=Rds.cap hrd2;have hcap9:=hc9.2.2 (by have:=Hxl.out;omega);have Hlp:=hid (fun q os=>l02Part_c (w:=grow (redrawn wr q) os) sf st HCo.out.1.1 HCo.out.1.2 Hcx.out hc9.1 hcap9 (cell_regrown d2 q os) (zM hbw3 (below_regrown wr q os).size));have Hln:=hid (fun q os=>l03Number_c (w:=grow (redrawn wr q) os) Hpl.out.1 Hpl.out.2 Hpm.out (Rds.part (Rds.regrown hrd2 (zA _) q os) HCo.out.1.1 HCo.out.1.2 Hcx.out));rw [<- Hz.out,<- Hg.out] at Hln;have hkI:(k:Int)<(n:Int):=by omega
         clear hbX hPw hSw d2 hrd2 hc9 hcap9;go_upto_region 16 with fail;clear f2 s0 s1;refine wp_region_quiet_below (by kernel_rfl) (by kernel_rfl) ?_;repeat ((with_reducible refine wpQuiet_step (fun K hK=>?_));go_simp;first | ((with_reducible refine hK _ ?_);clear hK K) | (apply Exists.intro;refine ⟨fun _=>?_,hK _ ?_⟩;((first | (go_at_call 109;with_reducible exact yAG (Hlp.out _ _)) | (go_at_call 160;with_reducible exact qb_same (Hln.out _ _))));clear hK K))
         refine wpQuiet_nil ?_;intro _ hw';obtain ⟨⟨dq,osq⟩,hw''⟩:=hw';subst hw'';have hbq:=below_regrown wr dq osq;generalize grow (redrawn wr dq) osq=wq at hbq |-;have HOq:=hid (HO.out.below hbq (zA _));have HBq:=hid (HB.out.trans (hbq.mono HB.out.size));clear hbq k2 k3 k4 HO HB hbw3;cases g with
         | false =>
          have HE2:Hid (R=8):=hid (by rw [HR2.out,if_pos (any_yes Hx.out (by rw [Hnx.out];rfl))]);have Hbz:=hid (show Below w.heap.size w wq from by rw [<- HX.out];exact HI.out.below.trans (HBq.out.mono (by have:=HI.out.n3;omega)));go_wp2;go_ret2;exact ⟨⟨X,by rw [HE2.out];first | done | rfl,fun h=>absurd (HE2.out.symm.trans h) (by decide)⟩,Hbz.out⟩
         | true =>
          have hszq:wo.heap.size<=wq.heap.size:=HBq.out.size;have Hzok:Hid (eI.ok z):=hid (by have:=Hbn.out;show -9223372036854775808<=z/\z<=9223372036854775807;omega);go_wp2_with (first | (at_builtin;refine yAB (E:=eI) rfl _ _ 48 rfl Tryz.underlying48 hi hz0 hz1 hz2 rfl (by decide) rfl rfl (HOq.out.alloc _) (yAH (E:=eI) (x:=z) Hzok.out rfl) ?b1 ?b2 ?b3 ?_))
          case b1=>unfold maxLen;simp
          case b3=>first | (simp;omega) | omega
          intro v3 w4 hO3 hg3;obtain ⟨ao3,cap3,hv3⟩:=hO3.shape;subst hv3;have HO3:Hid (Own eI 2 wo.heap.size w4 (.slice ao3 1 cap3) ([z].take 1)):=hid hO3;have HB3:=hid (HBq.out.grown hg3.alloc.1 hszq (fun q hq=>(HOq.out.lt q hq).1));clear hO3 hg3;go_wp2;go_roundw
          case rel=>exact ⟨1,_,_,by omega,by go_num,rfl,HO3,HB3,hid (by simp)⟩
          case measure=>simp [intOf]
       . obtain rfl:j=1:=by omega
         have HA2:=hid (any_snoc Hx.out HI.out.any (p:=noNum sf st) (by rw [Hnx.out,Hgj.out (by omega)];rfl));have HIr:=hid (HI.out.on (by omega) HB.out);have hn3:=HI.out.n3;have hsz:=HB.out.size;obtain ⟨hs',xh,hval,hokx,hlen,hO,hfn⟩:=(HI.out.bld.below HB.out (zA _)).app HO.out hn3 hsz;have hcells:(#[.slice ro2 1 rc2]:Array Value)=(eS.cells xh).toArray:=by rw [show eS.cells xh=[xh.val] from rfl,hval]
         rw [Hlk.out] at hlen;have g1:=HIr.out.box.cell 1 _ rfl;have HOh:=hid hO;have Hfn:=hid hfn;have Hlen:=hid hlen;have Hcells:=hid hcells;clear hbX hPw hSw hval hlen hO hfn hcells;go_wp2_with (first | (at_builtin;refine yAB (E:=eS) rfl _ _ 189 rfl Tryz.underlying189 hi1 hy0 hy1 hy2 rfl (by decide) rfl rfl (HOh.out.alloc _) (yAH (E:=eS) (x:=xh) hokx Hcells.out) ?d1 ?d2 ?d3 ?_))
         case d1=>rw [Hlen.out];unfold maxLen;simp;omega
         case d2=>rw [Hlen.out];simp;omega
         case d3=>simp;omega
         intro v6 w6 hO6 hg6;have hg6':=hg6.alloc;obtain ⟨ao6,cap6,hv6⟩:=hO6.shape;rw [zE,Hlen.out] at hv6;have hv7:v6=.slice ao6 (k+1) cap6:=hv6;subst hv7;have hB6:=Hfn.out w6 _ hO6 hg6';rw [show ([z].take 1)=[z] from rfl,<- Hnum.out] at hB6;have h9:=HIr.out.put hXN hN23 hg6' hB6 HA2.out;have HI9:=hid h9.2;have g2:=h9.1.cell 1 _ rfl;have g3:=h9.1.free 1;have g4:=h9.1.lt;clear hO6 hg6 hg6' hv6 hB6 h9 g1;go_wp2;go_roundw
         case rel=>exact ⟨k+1,_,_,by omega,by go_num,HI9⟩
         case measure=>simp [intOf];omega
    . obtain rfl:k=n:=by omega
      have HE:Hid (R=0):=hid (by rw [HR2.out,if_neg (by rw [any_full Hn.out HI.out.any];decide)]);obtain ⟨W5,hW5⟩:∃ W,W=wo.setCell ⟨X,0,none⟩ (.slice ko k kc):=⟨_,rfl⟩;have hgs:=yBL wo ⟨X,0,none⟩ (.slice ko k kc);have hsz5:W5.heap.size=wo.heap.size:=by rw [hW5];simp
      have hbx5:Box W5 X [.slice ko k kc,.slice oo k oc,.slice none 0 0]:=by rw [hW5];exact HI.out.box.set1 (j:=0) (by simp) _
      have hky5:OwnT eT 9 N2 N3 W5 (.slice ko k kc) (keyT d f t):=by rw [hW5];exact HI.out.keys.keep hgs (.inr (fun e=>by have:=(HI.out.keys.1.lt X e).1;omega))
      have hbd5:BldG eI 2 48 N3 N3 W5.heap.size W5 (.slice oo k oc) (numL sf st d):=by
       have h:=HI.out.bld;rw [zH (by rw [numL_len,<- Hn.out];exact zA _)] at h;have hne:∀ q,(Value.slice oo k oc).ownBlock=some q->N3<=q:=fun q hq=>by obtain ⟨hs,h1,_⟩:=h;exact (h1.1.lt q hq).1
       rw [hsz5,hW5];refine h.keep hgs ?_ (fun q hq=>by cases hq;left;show X<N3;omega);cases hv:(Value.slice oo k oc).ownBlock with
       | none=>exact .inl rfl
       | some q=>exact .inr (fun e=>by cases e;have:=hne X hv;omega)
      have hbe5:Below X w W5:=by rw [hW5];exact HI.out.below.setCell (zA _) _
      have hgr:=l09Groups_c (hky5.1.rds) (yAR HD.out Hf.out) Hro.out H8.out;obtain ⟨G,hG⟩:∃ G,G=selI (grpP d f t) d.length:=⟨_,rfl⟩;rw [<- hG] at hgr;have Hgr:=hid hgr;have HG:=hid hG;have HW5:=hid hW5;have Hbx5:=hid hbx5;have Hky5:=hid hky5;have Hbd5:=hid hbd5;have Hbe5:=hid hbe5;have Hsz5:=hid hsz5;have g2:=HI.out.box.cell 0 _ rfl;have g3:=HI.out.box.free 0;have g4:=HI.out.box.lt;have Hn3:=hid HI.out.n3;clear hW5 hgs hsz5 hbx5 hky5 hbd5 hbe5 hgr hG;go_wp2_with fail;rw [<- HW5.out];with_reducible refine Hgr.out.mono ?_
      rintro e w6 ⟨⟨r,rfl,hr⟩,hb6⟩;obtain ⟨ro6,rc6,hr6⟩:=hr.shape;subst hr6;have hbx6:=Hbx5.out.on hb6;have Hbx6:=hid hbx6;have Hky6:=hid (Hky5.out.below hb6 (by rw [Hsz5.out];exact Hn3.out));have Hbd6:=hid (Hbd5.out.below hb6 (zA _));have Hbe6:=hid (Hbe5.out.trans (hb6.mono (by have:=hbx6.lt;have:=Hsz5.out;have:=Hn3.out;omega)));have Hr6:=hid hr;have Hsz6:=hid hb6.size;have e2:=hbx6.cell 2 _ rfl;have e3:=hbx6.free 2;have e4:=hbx6.lt;clear g2 g3 g4 hbx6 hr hb6;go_wp2;go_ret2;have hgs:=yBL w6 ⟨X,2,none⟩ (.slice ro6 G.length rc6);have hsz:(w6.setCell ⟨X,2,none⟩ (.slice ro6 G.length rc6)).heap.size=w6.heap.size:=by simp
      have hn3:=Hn3.out;have hs5:=Hsz5.out;have hs6:=Hsz6.out;refine ⟨⟨X,by rw [HE.out];first | done | rfl,fun _=>⟨_,_,_,Hbx6.out.set1 (j:=2) (by simp) _,?_,?_,?_⟩⟩,?_⟩
      . exact ((Hky6.out.keep hgs (.inr (fun e=>by have:=(Hky6.out.1.lt X e).1;omega))).1.rds)
      . rw [hsz]
        have h:=Hbd6.out;have hne:∀ q,(Value.slice oo k oc).ownBlock=some q->N3<=q:=fun q hq=>by obtain ⟨hs,h1,_⟩:=h;exact (h1.1.lt q hq).1
        have h2:=h.keep hgs (by
         cases hv:(Value.slice oo k oc).ownBlock with
         | none=>exact .inl rfl
         | some q=>exact .inr (fun e=>by cases e;have:=hne X hv;omega)) (fun q hq=>by cases hq;left;show X<N3;omega)
        exact (h2.toM (zA _)).rds.mono (by omega)
      . rw [<- HG.out]
        exact (Hr6.out.kept hgs (.inr (fun e=>by have:=(Hr6.out.lt X e).1;omega))).rds
      . rw [<- HX.out]
        exact Hbe6.out.setCell (zA _) _
theorem sSameDeck_c {d:List (List Int)} {u v:Value} {w:World} {A B:Nat} (ha:RdInt64SS A w u d) (hb:RdInt64SS B w v d) :
 Calls Tryz.prog 11 #[u,v] w fun e w'=>e=.returned (.bool true)/\∃ m,w'=w.drewN m:=by
 have hle:=ha.le;obtain ⟨ao,ac,rfl,ho⟩:=ha.open;obtain ⟨bo,bc,rfl,hob⟩:=hb.open;obtain ⟨n,hn⟩:∃ n,n=d.length:=⟨_,rfl⟩;rw [<- hn] at ho hob hle |-;have Ho:=hid ho;have Hob:=hid hob;have Hn:=hid hn;clear ho hob ha hb hn;go_enter Tryz.func11,Tryz.ntmps11;go_wp2;go_loopw [5] (fun i wr=>∃ k:Nat,k<=n/\i=.int .i64 k/\∃ m,wr=w.drewN m) (fun i _=>n - (intOf i).toNat)
 case atStart=>exact ⟨0,zK _,rfl,0,rfl⟩
 case round =>
  obtain ⟨k,hk,rfl,m,rfl⟩:=hrel;by_cases hkn:k<n
  . obtain ⟨b,off,rfl,hlt,hc⟩:=Ho.out (by omega)
    obtain ⟨x,ro,rc,hx,d0,hrd⟩:=hc k hkn;obtain ⟨b2,off2,rfl,hlt2,hc2⟩:=Hob.out (by omega);obtain ⟨y,qo,qc,hy,d1,hrd2⟩:=hc2 k hkn;obtain rfl:x=y:=zD (hx.symm.trans hy);have hkni:(k:Int)<(n:Int):=by omega
    have hcon:=fun a=>l00Same_c (w:=w.drewN a) (xs:=x) (ys:=x) (hrd.drewN a) (hrd2.drewN a);rw [decide_eq_true rfl] at hcon;have Hcon:=hid hcon;obtain ⟨xl,hxl⟩:∃ l,l=x.length:=⟨_,rfl⟩;rw [<- hxl] at d0 d1 Hcon;clear hc hc2 hx hy hrd hrd2 hcon hxl;go_wp2;go_quiet ((go_at_call 40;first | with_reducible exact quiet_atN (Hcon.out _) | with_reducible exact quiet_atN0 (Hcon.out _)));clear d0 d1;go_wp2;go_roundw
    case rel=>exact ⟨k+1,by omega,by go_num,_,rfl⟩
    case measure=>simp [intOf];omega
  . obtain rfl:k=n:=by omega
    go_wp2;go_ret;exact ⟨rfl,_,rfl⟩
theorem neq_tot (x:TotalT) (w:World):(binOp .neq 153 (vTotal x) (vTotal x)).run Tryz.prog w=.ok (.bool false) w:=by
 have hS:Tryz.prog.underlying 153=some (.struct (Tryz.prog.fieldsOf 153)):=by kernel_rfl
 have hp:Tryz.prog.stoodInHeld 153=false:=by kernel_rfl
 rw [run_neq_struct,show (10000:Nat)=9999+1 from rfl,run_equalIn_agg w 9999 153 _ _ hS hp];simp only [Program.fieldsOf,Tryz.underlying153];go_simp
theorem sSameTot_c {xs:List TotalT} {u v:Value} {w:World} {A B:Nat} (ha:Rds eTotal A w u xs) (hb:Rds eTotal B w v xs) :
 Calls Tryz.prog 47 #[u,v] w fun e w'=>e=.returned (.bool true)/\∃ m,w'=w.drewN m:=by
 have hle:=ha.le;obtain ⟨ao,ac,rfl,ho⟩:=eTotal_open ha;obtain ⟨bo,bc,rfl,hob⟩:=eTotal_open hb;obtain ⟨n,hn⟩:∃ n,n=xs.length:=⟨_,rfl⟩;rw [<- hn] at ho hob hle |-;have Ho:=hid ho;have Hob:=hid hob;have hrun:=fun (x:TotalT) (W:World)=>neq_tot x W;have Hrun:=hid hrun;clear ho hob ha hb hn hrun;go_enter Tryz.func47,Tryz.ntmps47;go_wp2;go_loopw [5] (fun i wr=>∃ k:Nat,k<=n/\i=.int .i64 k/\∃ m,wr=w.drewN m) (fun i _=>n - (intOf i).toNat)
 case atStart=>exact ⟨0,zK _,rfl,0,rfl⟩
 case round =>
  obtain ⟨k,hk,rfl,m,rfl⟩:=hrel;by_cases hkn:k<n
  . obtain ⟨b,off,rfl,hlt,hc⟩:=Ho.out (by omega)
    obtain ⟨x,hx,⟨d0,d1⟩,-⟩:=hc k hkn;obtain ⟨b2,off2,rfl,hlt2,hc2⟩:=Hob.out (by omega);obtain ⟨y,hy,⟨d2,d3⟩,-⟩:=hc2 k hkn;obtain rfl:x=y:=zD (hx.symm.trans hy);have hkni:(k:Int)<(n:Int):=by omega
    have hr:=Hrun.out x;clear hc hc2 hx hy;go_wp2;go_quiet (fail);clear d0 d1 d2 d3;go_wp2;go_roundw
    case rel=>exact ⟨k+1,by omega,by go_num,_,rfl⟩
    case measure=>simp [intOf];omega
  . obtain rfl:k=n:=by omega
    go_wp2;go_ret;exact ⟨rfl,_,rfl⟩
end Go.Proofs.YtmindpfmgnnieaaGreatDoor
