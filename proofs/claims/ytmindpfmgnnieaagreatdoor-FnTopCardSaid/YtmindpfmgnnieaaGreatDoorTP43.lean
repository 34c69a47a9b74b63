/- Lemmas on the way to the law FnTop. No condition. -/
import Derived.Test.YtmindpfmgnnieaaGreatDoorTP42
import Derived.Test.YtmindpfmgnnieaaGreatDoorTP23
import Derived.Test.YtmindpfmgnnieaaGreatDoorTP19
import Derived.Test.YtmindpfmgnnieaaGreatDoorTP16
import Derived.Test.YtmindpfmgnnieaaGreatDoorTP39
import Derived.Lib.QuietBelow
import Derived.Test.YtmindpfmgnnieaaGreatDoorTP40
import Derived.StillTailTactics
import Derived.Test.YtmindpfmgnnieaaGreatDoorTP7
namespace Go.Proofs.YtmindpfmgnnieaaGreatDoor
set_option maxHeartbeats 4000000
set_option linter.unusedSimpArgs false
open Lib (hid)
open Go.ChangeShapes Go.WideShapes Go.ChangeAt Go.RowKit
set_option linter.unusedVariables false
set_option maxRecDepth 100000
abbrev vSpec (x:SpecT):Value:=.agg #[.int .i64 x.wf,.int .i64 x.wt,.string x.tx,.int .i64 x.gf,.int .i64 x.gt,.int .i64 x.sf,.int .i64 x.st]
abbrev cSpec (x:SpecT):List Value:=[.int .i64 x.wf,.int .i64 x.wt,.string x.tx,.int .i64 x.gf,.int .i64 x.gt,.int .i64 x.sf,.int .i64 x.st]
theorem isField_y {f t c:Int} (w:World) (hc:0<=c/\c<=1000) (h:fieldP f t c):Calls Tryz.prog 29 #[.agg #[.int .i64 f,.int .i64 t],.int .i64 c] w fun e w'=>e=.returned (.bool true)/\Below w.heap.size w w':=by
 have h1:=yBN f t c w hc;rw [decide_eq_true h] at h1;exact h1
theorem isNumberField_y {f t c:Int} (w:World) (hc:0<=c/\c<=1000) (h:fieldP f t c/\t - f<=12):Calls Tryz.prog 86 #[.agg #[.int .i64 f,.int .i64 t],.int .i64 c] w fun e w'=>e=.returned (.bool true)/\Below w.heap.size w w':=by
 have h1:=isNumberField_c f t c w hc;rw [decide_eq_true h] at h1;exact h1
theorem ValidSpec_c {x:SpecT} (c:Int) (w:World) (hx:Spec13 x) (hc:5<=c/\c<=20) :
 Calls Tryz.prog 43 #[vSpec x,.int .i64 c] w fun e w'=>e=.returned (.bool true)/\Below w.heap.size w w':=by
 obtain ⟨W,hW⟩:∃ W,W=w.alloc (.cells (cSpec x).toArray 38):=⟨_,rfl⟩;have hbW:Below w.heap.size w W:=by rw [hW];exact (zB _ _).alloc (zA _) _
 have hX:Box W w.heap.size (cSpec x):=by rw [hW];exact Box.new w (cSpec x) _
 have hg:fieldP x.gf x.gt c:=by have:=hx.grp;unfold fieldP;omega
 have hs:fieldP x.sf x.st c/\x.st - x.sf<=12:=by have:=hx.grp;unfold fieldP;omega
 have Hg:=hid (fun w=>isField_y w (show 0<=c/\c<=1000 by omega) hg);have Hs:=hid (fun w=>isNumberField_y w (show 0<=c/\c<=1000 by omega) hs);have Hin:=hid (fun w=>yBD c 1 20 w (by omega) hc.2);have Hx:=hid hx;obtain ⟨wf,wt,tx,gf,gt,sf,st⟩:=x;simp only at *
 have HW:=hid hW;have HX:=hid hX;have HbW:=hid hbW;have hc1:=hc.1;clear hx hW hX hbW hg hs;go_enter Tryz.func43,Tryz.ntmps43;go_upto_region 1 with fail;rw [<- HW.out];clear HW;have x3:=HX.out.cell 3 _ rfl;have x4:=HX.out.cell 4 _ rfl;go_wp2_with fail;with_reducible refine (Hin.out _).mono ?_
 rintro e w1 ⟨rfl,rfl⟩;go_wp2_with fail;with_reducible refine (Hg.out _).mono ?_
 rintro e w2 ⟨rfl,hb2⟩;have hX2:=HX.out.on hb2;have y5:=hX2.cell 5 _ rfl;have y6:=hX2.cell 6 _ rfl;have HX2:=hid hX2;have Hb2:=hid (HbW.out.trans (hb2.mono HbW.out.size));clear hb2 hX2 x3 x4;go_wp2_with fail;with_reducible refine (Hs.out _).mono ?_
 rintro e w3 ⟨rfl,hb3⟩;have hX3:=HX2.out.on hb3;have z0:=hX3.cell 0 _ rfl;have z1:=hX3.cell 1 _ rfl;have z2:=hX3.cell 2 _ rfl;have HX3:=hid hX3;have Hb3:=hid (Hb2.out.trans (hb3.mono Hb2.out.size));clear hb3 hX3 y5 y6;by_cases h0:tx.size=0
 . have he:=txt_empty h0
   obtain ⟨rfl,rfl⟩:wf=0/\wt=0:=by
    rcases Hx.out.2 with ⟨-,a,b⟩ | ⟨a,-⟩
    . exact ⟨a,b⟩
    . exact absurd h0 (by have a':tx.size=1:=a;omega)
   go_wp2;go_ret;exact ⟨rfl,Hb3.out⟩
 . have hw:=Hx.out.whr h0
   simp only at hw;have he:=txt_full h0;have hz:tx.size=1:=hw.1;have hzi:(1:Int)=wt - wf:=by omega
   have Hwf:=hid (fun w=>isField_y w (show 0<=c/\c<=1000 by omega) (show fieldP wf wt c by unfold fieldP;omega));have hch:=fun w=>areCharacters_c tx w (by omega);rw [hw.2.1] at hch;have Hch:=hid hch;clear hch hw h0;go_wp2_with fail;with_reducible refine (Hwf.out _).mono ?_
   rintro e w4 ⟨rfl,hb4⟩;have hX4:=HX3.out.on hb4;have u0:=hX4.cell 0 _ rfl;have u1:=hX4.cell 1 _ rfl;have u2:=hX4.cell 2 _ rfl;have Hb4:=hid (Hb3.out.trans (hb4.mono Hb3.out.size));clear hb4 hX4 z0 z1 z2;go_wp2_with fail;with_reducible refine (Hch.out _).mono ?_
   rintro e w5 ⟨rfl,rfl⟩;go_wp2;go_ret;exact ⟨rfl,Hb4.out⟩
theorem Spec13.small {x:SpecT} (h:Spec13 x):okStep (stSel x)/\(∀ k,k=0\/k=1->okStep (stSrt x k))/\okStep (stTot x):=by
 have h1:=h.grp;have h2:(x.tx.size<=1)/\0<=x.wf/\x.wf<=2/\0<=x.wt/\x.wt<=3:=by
  rcases h.2 with ⟨a,b,c⟩ | ⟨a,-,b⟩
  . omega
  . omega
 refine ⟨?_,fun k hk=>?_,?_⟩
 . unfold okStep stSel;simp only;omega
 . unfold okStep stSrt;simp only [ByteArray.size,Array.size];simp;omega
 . unfold okStep stTot;simp only [ByteArray.size,Array.size];simp;omega
theorem FlowFor_c {x:SpecT} (w:World) (hx:Spec13 x) :
 Calls Tryz.prog 14 #[vSpec x] w fun e w'=>(∃ u,e=.returned (.tuple #[u,.int .i64 0])/\RdStepS w'.heap.size w' u (flowX x))/\Below w.heap.size w w':=by
 obtain ⟨i0,hi,hz0,hz1,hz2⟩:=info_parts Tryz.infoStep;obtain ⟨W,hW⟩:∃ W,W=w.alloc (.cells (cSpec x).toArray 38):=⟨_,rfl⟩;have hbW:Below w.heap.size w W:=by rw [hW];exact (zB _ _).alloc (zA _) _
 have hX:Box W w.heap.size (cSpec x):=by rw [hW];exact Box.new w (cSpec x) _
 have Hv:=hid (fun w=>ValidSpec_c 20 w hx (by omega));have Hok:=hid hx.small;obtain ⟨fl,hfl⟩:∃ fl,fl=flowX x:=⟨_,rfl⟩;rw [<- hfl];have Hfl:=hid hfl;obtain ⟨wf,wt,tx,gf,gt,sf,st⟩:=x;have HW:=hid hW;have HX:=hid hX;have HbW:=hid hbW;have x0:=hX.cell 0 _ rfl;have x1:=hX.cell 1 _ rfl;have x2:=hX.cell 2 _ rfl;have x3:=hX.cell 3 _ rfl;have x4:=hX.cell 4 _ rfl;have x5:=hX.cell 5 _ rfl;have x6:=hX.cell 6 _ rfl;simp only at x0 x1 x2 x3 x4 x5 x6;clear hx hW hX hbW hfl;go_enter Tryz.func14,Tryz.ntmps14;go_upto_region 1 with fail;rw [<- HW.out];clear HW;go_wp2_with fail;with_reducible refine (Hv.out _).mono ?_
 rintro e w1 ⟨rfl,hb1⟩;have hX1:=HX.out.on hb1;obtain ⟨V,hV⟩:∃ V,V=w1.alloc (.cells #[] 90):=⟨_,rfl⟩;have hbV:Below w1.heap.size w1 V:=by rw [hV];exact (zB _ _).alloc (zA _) _
 have hXV:=hX1.on hbV;have HbV:=hid (HbW.out.trans ((hb1.mono HbW.out.size).trans (hbV.mono (zO HbW.out.size hb1.size))));have hO:Own eStep 90 (w.heap.size+1) V (.slice (some ⟨w1.heap.size,0,none⟩) 0 0) []:=by rw [hV];exact Own.lit (E:=eStep) (xs:=[]) (cs:=#[]) (by have:=HX.out.lt;have:=hb1.size;omega) rfl rfl (by decide) (fun x hx=>by cases hx)
 have y0:=hXV.cell 0 _ rfl;have y1:=hXV.cell 1 _ rfl;have y2:=hXV.cell 2 _ rfl;have y3:=hXV.cell 3 _ rfl;have y4:=hXV.cell 4 _ rfl;have y5:=hXV.cell 5 _ rfl;have y6:=hXV.cell 6 _ rfl;simp only at y0 y1 y2 y3 y4 y5 y6;have HO:=hid hO;have Hol:=hid hO.lt;have HV:=hid hV;have HXV:=hid hXV;have hVs:=HbV.out.size;have hVx:=hXV.lt;clear hb1 hX1 hV hbV hXV hO x0 x1 x2 x3 x4 x5 x6;go_upto_region 4 with fail;rw [<- HV.out];clear HV;generalize w1.heap.size=X1 at *
 by_cases h0:tx.size=0
 . have he:=txt_empty h0
   have hok2:∀ y∈[stSrt ⟨wf,wt,tx,gf,gt,sf,st⟩ 0,stTot ⟨wf,wt,tx,gf,gt,sf,st⟩],okStep y:=fun y hy=>by
    simp only [List.mem_cons,List.not_mem_nil,or_false] at hy;rcases hy with rfl | rfl
    . exact Hok.out.2.1 0 (.inl rfl)
    . exact Hok.out.2.2
   have hlit:=(Own.lit (E:=eStep) (e:=90) (base:=0) (w:=V) (xs:=[stSrt ⟨wf,wt,tx,gf,gt,sf,st⟩ 0,stTot ⟨wf,wt,tx,gf,gt,sf,st⟩]) (cs:=#[.int .i64 1,.int .i64 0,.int .i64 0,.int .i64 2,.int .i64 gf,.int .i64 gt,.int .i64 0,.int .i64 0,.string ⟨#[]⟩,.int .i64 7,.int .i64 2,.int .i64 0,.int .i64 0,.int .i64 gf,.int .i64 gt,.int .i64 sf,.int .i64 st,.string ⟨#[]⟩]) (n:=2) (zK _) rfl rfl (by decide) hok2).rds;have HL:=hid hlit;clear hlit hok2;go_wp2_with (first | (at_builtin;refine yAB (E:=eStep) rfl _ _ 40 rfl Tryz.underlying40 hi hz0 hz1 hz2 rfl (by decide) rfl rfl (HO.out.alloc _) HL.out ?b1 ?b2 ?b3 ?_))
   case b1=>unfold maxLen;simp
   case b2=>simp
   case b3=>simp;omega
   intro v3 w3 hO3 hg3;obtain ⟨ao3,c3,hv3⟩:=hO3.shape;have HO3:=hid (Own.rds hO3);have HB3:=hid (hg3.alloc.below HbV.out HbV.out.size (fun q hq=>by have:=(Hol.out q hq).1;omega));simp only [List.nil_append,List.singleton_append,List.cons_append,List.length_cons,List.length_nil] at hv3;subst hv3;clear hO3 hg3 HO;go_wp2;go_ret2;exact ⟨⟨_,rfl,by rw [Hfl.out,show flowX ⟨wf,wt,tx,gf,gt,sf,st⟩=[stSrt ⟨wf,wt,tx,gf,gt,sf,st⟩ 0,stTot ⟨wf,wt,tx,gf,gt,sf,st⟩] from if_pos h0];exact HO3.out⟩,HB3.out⟩
 . have he:=txt_full h0
   have hok2:∀ y∈[stSrt ⟨wf,wt,tx,gf,gt,sf,st⟩ 1,stTot ⟨wf,wt,tx,gf,gt,sf,st⟩],okStep y:=fun y hy=>by
    simp only [List.mem_cons,List.not_mem_nil,or_false] at hy;rcases hy with rfl | rfl
    . exact Hok.out.2.1 1 (.inr rfl)
    . exact Hok.out.2.2
   go_wp2_with (first | (at_builtin;refine yAB (E:=eStep) rfl _ _ 40 rfl Tryz.underlying40 hi hz0 hz1 hz2 rfl (by decide) rfl rfl (HO.out.alloc _) (yAH (E:=eStep) (x:=stSel ⟨wf,wt,tx,gf,gt,sf,st⟩) Hok.out.1 rfl) ?b1 ?b2 ?b3 ?_))
   case b1=>unfold maxLen;simp
   case b2=>simp
   case b3=>simp;omega
   intro v2 w2 hO2 hg2;obtain ⟨ao2,c2,hv2⟩:=hO2.shape;have HO2:=hid hO2;have Hol2:=hid hO2.lt;have HB2:=hid (hg2.alloc.below HbV.out HbV.out.size (fun q hq=>by have:=(Hol.out q hq).1;omega));have hX2:=HXV.out.keptB hg2.alloc.1 (fun e=>by have:=(Hol.out _ e).1;omega);have hVs2:=HB2.out.size;have z3:=hX2.cell 3 _ rfl;have z4:=hX2.cell 4 _ rfl;have z5:=hX2.cell 5 _ rfl;have z6:=hX2.cell 6 _ rfl;have hVx2:=hX2.lt;simp only at z3 z4 z5 z6;simp only [List.nil_append,List.length_cons,List.length_nil] at hv2;subst hv2;clear hO2 hg2 HO y0 y1 y2 y3 y4 y5 y6 hX2;have hlit:=(Own.lit (E:=eStep) (e:=90) (base:=0) (w:=w2) (xs:=[stSrt ⟨wf,wt,tx,gf,gt,sf,st⟩ 1,stTot ⟨wf,wt,tx,gf,gt,sf,st⟩]) (cs:=#[.int .i64 1,.int .i64 1,.int .i64 0,.int .i64 2,.int .i64 gf,.int .i64 gt,.int .i64 0,.int .i64 0,.string ⟨#[]⟩,.int .i64 7,.int .i64 2,.int .i64 0,.int .i64 0,.int .i64 gf,.int .i64 gt,.int .i64 sf,.int .i64 st,.string ⟨#[]⟩]) (n:=2) (zK _) rfl rfl (by decide) hok2).rds;have HL:=hid hlit;clear hlit hok2;go_wp2_with (first | (at_builtin;refine yAB (E:=eStep) rfl _ _ 40 rfl Tryz.underlying40 hi hz0 hz1 hz2 rfl (by decide) rfl rfl (HO2.out.alloc _) HL.out ?b1 ?b2 ?b3 ?_))
   case b1=>unfold maxLen;simp
   case b2=>simp
   case b3=>simp;omega
   intro v3 w3 hO3 hg3;obtain ⟨ao3,c3,hv3⟩:=hO3.shape;have HO3:=hid (Own.rds hO3);have HB3:=hid (hg3.alloc.below HB2.out HB2.out.size (fun q hq=>by have:=(Hol2.out q hq).1;omega));simp only [List.nil_append,List.singleton_append,List.cons_append,List.length_cons,List.length_nil] at hv3;subst hv3;clear hO3 hg3 HO2;go_wp2;go_ret2;exact ⟨⟨_,rfl,by rw [Hfl.out,show flowX ⟨wf,wt,tx,gf,gt,sf,st⟩=[stSel ⟨wf,wt,tx,gf,gt,sf,st⟩,stSrt ⟨wf,wt,tx,gf,gt,sf,st⟩ 1,stTot ⟨wf,wt,tx,gf,gt,sf,st⟩] from if_neg h0];exact HO3.out⟩,HB3.out⟩
structure XInv (w W:World) (b N R D:Nat) (x:SpecT):Prop where
 src:Src W b N
 gr:w.grownBy W (some b)
 hR:Box W R (cSpec ⟨0,0,⟨#[]⟩,0,0,0,0⟩)
 hD:Box W D (cSpec x)
 bR:w.heap.size<=R
 bD:w.heap.size<=D
 bb:b<w.heap.size
 ne:R ≠ D
theorem XInv.fin {w W:World} {b N R D:Nat} {x:SpecT} (h:XInv w W b N R D x):FinP w W b N:=⟨h.src,h.gr⟩
theorem XInv.kept {w W W':World} {b N M R D:Nat} {x:SpecT} (h:XInv w W b N R D x) (hs:Src W' b M) (hg:W.grownBy W' (some b)):XInv w W' b M R D x:=by
 have h1:=h.bR;have h2:=h.bD;have h3:=h.bb;exact ⟨hs,yAA h.gr hg,h.hR.keptB hg (fun e=>by have:=zD e;omega),h.hD.keptB hg (fun e=>by have:=zD e;omega),h.bR,h.bD,h.bb,h.ne⟩
theorem XInv.put {w W:World} {b N R D j:Nat} {x x':SpecT} {v:Value} (h:XInv w W b N R D x) (hj:j<7) (hc:(cSpec x).set j v=cSpec x') :
 XInv w (W.setCell ⟨D,j,none⟩ v) b N R D x':=by
 have hf:=h.fin.set (j:=j) (v:=v) h.bb h.bD;have hb:=h.hD.set1 (j:=j) hj v;rw [hc] at hb;exact ⟨hf.1,hf.2,h.hR.keptB (yAS W ⟨D,j,none⟩ v) (fun e=>h.ne (zD e).symm),hb,h.bR,h.bD,h.bb,h.ne⟩
def Chr1 (s:ByteArray):Prop:=s.size=1/\chS s=true
theorem chr1_lit (c:UInt8) (h:chS ⟨#[c]⟩=true):Chr1 ⟨#[c]⟩:=⟨rfl,h⟩
theorem l16Draw_c {w:World} {b N:Nat} (hs:Src w b N) (hN:N<=100000) :
 Calls Tryz.prog 42 #[.pointer (some ⟨b,0,none⟩)] w fun e w'=>(∃ x:SpecT,e=.returned (vSpec x)/\Spec13 x)/\Src w' b (N+20)/\w.grownBy w' (some b):=by
 have hbl:=hs.lt;obtain ⟨W,hW⟩:∃ W,W=(w.alloc (.cells (cSpec ⟨0,0,⟨#[]⟩,0,0,0,0⟩).toArray 38)).alloc (.cells (cSpec ⟨0,0,⟨#[]⟩,0,1,1,3⟩).toArray 38):=⟨_,rfl⟩;have z1:(w.alloc (.cells (cSpec ⟨0,0,⟨#[]⟩,0,0,0,0⟩).toArray 38)).heap.size=w.heap.size+1:=by simp
 have P0:XInv w W b N w.heap.size (w.heap.size+1) ⟨0,0,⟨#[]⟩,0,1,1,3⟩:=by
  rw [hW];refine ⟨(hs.alloc _).alloc _,yAA (World.grownBy_alloc _ _ _) (World.grownBy_alloc _ _ _),(Box.new w _ _).alloc _,?_,zA _,by omega,hbl,by omega⟩;have h:=Box.new (w.alloc (.cells (cSpec ⟨0,0,⟨#[]⟩,0,0,0,0⟩).toArray 38)) (cSpec ⟨0,0,⟨#[]⟩,0,1,1,3⟩) 38;rw [z1] at h;exact h
 have HW:=hid hW;clear hs hW z1;go_enter Tryz.func42,Tryz.ntmps42;go_upto_region 2 with fail;rw [<- HW.out];clear HW;obtain ⟨D,hD⟩:∃ D,D=w.heap.size+1:=⟨_,rfl⟩;rw [<- hD] at P0 |-;clear hD;generalize hRR:w.heap.size=R at P0 |-;clear hRR;go_wp2_with fail;with_reducible refine (one_any 4 P0.src (by omega) (by omega)).mono ?_
 rintro e w3 ⟨⟨q,rfl⟩,hs3,hg3,-⟩;have P3:=P0.kept hs3 hg3;clear P0 hs3 hg3;go_upto_if 8 with fail;go_cut [] (fun wx=>∃ gf gt sf st:Int,Hid (gf=0/\gt=1/\sf=1/\st=3\/gf=1/\gt=2/\sf=3/\st=5)/\XInv w wx b (N+2) R D ⟨0,0,⟨#[]⟩,gf,gt,sf,st⟩)
 case first =>
  cases q with
  | true =>
   have c3:=P3.hD.cell 3 _ rfl;have c4:=P3.hD.cell 4 _ rfl;have c5:=P3.hD.cell 5 _ rfl;have c6:=P3.hD.cell 6 _ rfl;have f3:=P3.hD.free 3;have f4:=P3.hD.free 4;have f5:=P3.hD.free 5;have f6:=P3.hD.free 6;have HP:=hid ((((P3.put (j:=3) (v:=.int .i64 1) (x':=⟨0,0,⟨#[]⟩,1,1,1,3⟩) (by decide) rfl).put (j:=4) (v:=.int .i64 2) (x':=⟨0,0,⟨#[]⟩,1,2,1,3⟩) (by decide) rfl).put (j:=5) (v:=.int .i64 3) (x':=⟨0,0,⟨#[]⟩,1,2,3,3⟩) (by decide) rfl).put (j:=6) (v:=.int .i64 5) (x':=⟨0,0,⟨#[]⟩,1,2,3,5⟩) (by decide) rfl);clear P3;go_wp2_with fail;go_meet;exact ⟨1,2,3,5,hid (.inr ⟨rfl,rfl,rfl,rfl⟩),HP.out⟩
  | false =>
   go_wp2_with fail;go_meet;exact ⟨0,1,1,3,hid (.inl ⟨rfl,rfl,rfl,rfl⟩),P3⟩
 case rest =>
  obtain ⟨gf,gt,sf,st,Hg,P5⟩:=hcut;clear P3;go_wp2_with fail;with_reducible refine (yAO 3 P5.src (by omega) (by omega)).mono ?_
  rintro e w6 ⟨⟨k,rfl,hk0,hk1,_⟩,hs6,hg6,-⟩;have hk2:=hk1 (by omega);have P6:=P5.kept hs6 hg6;clear P5 hs6 hg6 hk1;by_cases k0:k=0
  . subst k0
    have c0:=P6.hD.cell 0 _ rfl;have c1:=P6.hD.cell 1 _ rfl;have f0:=P6.hD.free 0;have f1:=P6.hD.free 1;have P7:=(P6.put (j:=0) (v:=.int .i64 0) (x':=⟨0,0,⟨#[]⟩,gf,gt,sf,st⟩) (by decide) rfl).put (j:=1) (v:=.int .i64 1) (x':=⟨0,1,⟨#[]⟩,gf,gt,sf,st⟩) (by decide) rfl;clear P6;go_upto_region 8 with fail;clear c0 c1 f0 f1;generalize (w6.setCell ⟨D,0,none⟩ (.int .i64 0)).setCell ⟨D,1,none⟩ (.int .i64 1)=W7 at P7 |-;have hst:StrIn Chr1 (W7.alloc (.cells #[.string ⟨#[65]⟩,.string ⟨#[66]⟩,.string ⟨#[49]⟩] 9)) W7.heap.size 3:=StrIn.new (fun k hk=>by
     obtain rfl | rfl | rfl:k=0\/k=1\/k=2:=by omega
     all_goals exact ⟨_,rfl,chr1_lit _ (by decide +kernel)⟩)
    have hcon:=text_in Chr1 (nb:=W7.heap.size) (n:=3) (P7.src.alloc _) (by omega) hst (by have:=P7.src.lt;omega) (by omega);have Hcon:=hid hcon;have hDW:D<W7.heap.size:=P7.hD.lt;clear hst hcon;go_wp2_with fail;with_reducible refine Hcon.out.mono ?_
    rintro e w8 ⟨⟨s,rfl,hs1⟩,hs8,hg8⟩;have P8:=P7.kept hs8 (yAA (World.grownBy_alloc _ _ _) hg8);have HX:Hid (Spec13 ⟨0,1,s,gf,gt,sf,st⟩):=hid ⟨Hg.out,.inr ⟨hs1.1,hs1.2,by exact .inl ⟨rfl,rfl⟩⟩⟩;have c2:=P8.hD.cell 2 _ rfl;have f2:=P8.hD.free 2;have P9:=P8.put (j:=2) (v:=.string s) (x':=⟨0,1,s,gf,gt,sf,st⟩) (by decide) rfl;clear P7 P8 hs8 hg8 hs1 hDW Hcon;go_upto_region 12 with fail;clear c2 f2;generalize w8.setCell ⟨D,2,none⟩ (.string s)=W9 at P9 |-;obtain ⟨x,hx⟩:∃ x:SpecT,x=⟨0,1,s,gf,gt,sf,st⟩:=⟨_,rfl⟩;rw [<- hx] at HX;have Hx:=hid hx;clear hx;have d0:=P9.hD.cell 0 _ rfl;have d1:=P9.hD.cell 1 _ rfl;have d2:=P9.hD.cell 2 _ rfl;have d3:=P9.hD.cell 3 _ rfl;have d4:=P9.hD.cell 4 _ rfl;have d5:=P9.hD.cell 5 _ rfl;have d6:=P9.hD.cell 6 _ rfl;have r0:=P9.hR.cell 0 _ rfl;have r1:=P9.hR.cell 1 _ rfl;have r2:=P9.hR.cell 2 _ rfl;have r3:=P9.hR.cell 3 _ rfl;have r4:=P9.hR.cell 4 _ rfl;have r5:=P9.hR.cell 5 _ rfl;have r6:=P9.hR.cell 6 _ rfl;have s0:=P9.hR.free 0;have s1:=P9.hR.free 1;have s2:=P9.hR.free 2;have s3:=P9.hR.free 3;have s4:=P9.hR.free 4;have s5:=P9.hR.free 5;have s6:=P9.hR.free 6;have HF:=hid (FinP.more P9.fin (show _<=N+20 by omega));have Hbb:=hid (And.intro P9.bb P9.bR);clear P9;go_wp2;refine bodyPost_ret (v:=vSpec x) (by simp [results,Tryz.results42,go_sem,Hx.out,r0,r1,r2,r3,r4,r5,r6]) rfl ⟨⟨x,rfl,HX.out⟩,?_⟩;repeat (refine FinP.set ?_ Hbb.out.1 Hbb.out.2)
    exact HF.out
  . by_cases k1:k=1
    . subst k1
      have c0:=P6.hD.cell 0 _ rfl;have c1:=P6.hD.cell 1 _ rfl;have f0:=P6.hD.free 0;have f1:=P6.hD.free 1;have P7:=(P6.put (j:=0) (v:=.int .i64 2) (x':=⟨2,0,⟨#[]⟩,gf,gt,sf,st⟩) (by decide) rfl).put (j:=1) (v:=.int .i64 3) (x':=⟨2,3,⟨#[]⟩,gf,gt,sf,st⟩) (by decide) rfl;clear P6;go_upto_region 11 with fail;clear c0 c1 f0 f1;generalize (w6.setCell ⟨D,0,none⟩ (.int .i64 2)).setCell ⟨D,1,none⟩ (.int .i64 3)=W7 at P7 |-;have hst:StrIn Chr1 (W7.alloc (.cells #[.string ⟨#[48]⟩,.string ⟨#[49]⟩,.string ⟨#[53]⟩] 9)) W7.heap.size 3:=StrIn.new (fun k hk=>by
       obtain rfl | rfl | rfl:k=0\/k=1\/k=2:=by omega
       all_goals exact ⟨_,rfl,chr1_lit _ (by decide +kernel)⟩)
      have hcon:=text_in Chr1 (nb:=W7.heap.size) (n:=3) (P7.src.alloc _) (by omega) hst (by have:=P7.src.lt;omega) (by omega);have Hcon:=hid hcon;have hDW:D<W7.heap.size:=P7.hD.lt;clear hst hcon;go_wp2_with fail;with_reducible refine Hcon.out.mono ?_
      rintro e w8 ⟨⟨s,rfl,hs1⟩,hs8,hg8⟩;have P8:=P7.kept hs8 (yAA (World.grownBy_alloc _ _ _) hg8);have HX:Hid (Spec13 ⟨2,3,s,gf,gt,sf,st⟩):=hid ⟨Hg.out,.inr ⟨hs1.1,hs1.2,by exact .inr ⟨rfl,rfl⟩⟩⟩;have c2:=P8.hD.cell 2 _ rfl;have f2:=P8.hD.free 2;have P9:=P8.put (j:=2) (v:=.string s) (x':=⟨2,3,s,gf,gt,sf,st⟩) (by decide) rfl;clear P7 P8 hs8 hg8 hs1 hDW Hcon;go_upto_region 12 with fail;clear c2 f2;generalize w8.setCell ⟨D,2,none⟩ (.string s)=W9 at P9 |-;obtain ⟨x,hx⟩:∃ x:SpecT,x=⟨2,3,s,gf,gt,sf,st⟩:=⟨_,rfl⟩;rw [<- hx] at HX;have Hx:=hid hx;clear hx;have d0:=P9.hD.cell 0 _ rfl;have d1:=P9.hD.cell 1 _ rfl;have d2:=P9.hD.cell 2 _ rfl;have d3:=P9.hD.cell 3 _ rfl;have d4:=P9.hD.cell 4 _ rfl;have d5:=P9.hD.cell 5 _ rfl;have d6:=P9.hD.cell 6 _ rfl;have r0:=P9.hR.cell 0 _ rfl;have r1:=P9.hR.cell 1 _ rfl;have r2:=P9.hR.cell 2 _ rfl;have r3:=P9.hR.cell 3 _ rfl;have r4:=P9.hR.cell 4 _ rfl;have r5:=P9.hR.cell 5 _ rfl;have r6:=P9.hR.cell 6 _ rfl;have s0:=P9.hR.free 0;have s1:=P9.hR.free 1;have s2:=P9.hR.free 2;have s3:=P9.hR.free 3;have s4:=P9.hR.free 4;have s5:=P9.hR.free 5;have s6:=P9.hR.free 6;have HF:=hid (FinP.more P9.fin (show _<=N+20 by omega));have Hbb:=hid (And.intro P9.bb P9.bR);clear P9;go_wp2;refine bodyPost_ret (v:=vSpec x) (by simp [results,Tryz.results42,go_sem,Hx.out,r0,r1,r2,r3,r4,r5,r6]) rfl ⟨⟨x,rfl,HX.out⟩,?_⟩;repeat (refine FinP.set ?_ Hbb.out.1 Hbb.out.2)
      exact HF.out
    . have e0:(k == 0)=false:=by simpa using k0
      have e1:(k == 1)=false:=by simpa using k1
      have P9:=P6;clear P6;have HX:Hid (Spec13 ⟨0,0,⟨#[]⟩,gf,gt,sf,st⟩):=hid ⟨Hg.out,.inl ⟨rfl,rfl,rfl⟩⟩;obtain ⟨x,hx⟩:∃ x:SpecT,x=⟨0,0,⟨#[]⟩,gf,gt,sf,st⟩:=⟨_,rfl⟩;rw [<- hx] at HX;have Hx:=hid hx;clear hx;have d0:=P9.hD.cell 0 _ rfl;have d1:=P9.hD.cell 1 _ rfl;have d2:=P9.hD.cell 2 _ rfl;have d3:=P9.hD.cell 3 _ rfl;have d4:=P9.hD.cell 4 _ rfl;have d5:=P9.hD.cell 5 _ rfl;have d6:=P9.hD.cell 6 _ rfl;have r0:=P9.hR.cell 0 _ rfl;have r1:=P9.hR.cell 1 _ rfl;have r2:=P9.hR.cell 2 _ rfl;have r3:=P9.hR.cell 3 _ rfl;have r4:=P9.hR.cell 4 _ rfl;have r5:=P9.hR.cell 5 _ rfl;have r6:=P9.hR.cell 6 _ rfl;have s0:=P9.hR.free 0;have s1:=P9.hR.free 1;have s2:=P9.hR.free 2;have s3:=P9.hR.free 3;have s4:=P9.hR.free 4;have s5:=P9.hR.free 5;have s6:=P9.hR.free 6;have HF:=hid (FinP.more P9.fin (show _<=N+20 by omega));have Hbb:=hid (And.intro P9.bb P9.bR);clear P9;go_wp2;refine bodyPost_ret (v:=vSpec x) (by simp [results,Tryz.results42,go_sem,Hx.out,r0,r1,r2,r3,r4,r5,r6]) rfl ⟨⟨x,rfl,HX.out⟩,?_⟩;repeat (refine FinP.set ?_ Hbb.out.1 Hbb.out.2)
      exact HF.out
theorem A2Spec_c {w:World} {A:Nat} {v:Value} {xs:List Int} (ha:Rds eB A w v xs) (hA:A<=w.heap.size) :
 Calls Tryz.prog 13 #[v] w fun e w'=>(∃ x:SpecT,e=.returned (vSpec x)/\Spec13 x)/\Below w.heap.size w w':=by
 obtain ⟨W,hW⟩:∃ W,W=w.alloc (.cells (cSpec ⟨0,0,⟨#[]⟩,0,0,0,0⟩).toArray 38):=⟨_,rfl⟩;have hbW:Below w.heap.size w W:=by rw [hW];exact (zB _ _).alloc (zA _) _
 have hX:Box W w.heap.size (cSpec ⟨0,0,⟨#[]⟩,0,0,0,0⟩):=by rw [hW];exact Box.new w _ _
 have Ha:=hid (Rds.onn ha hbW);have HW:=hid hW;have HbW:=hid hbW;have HX:=hid hX;obtain ⟨ao,cap,rfl⟩:=ha.shape;clear ha hW hbW hX;go_enter Tryz.func13,Tryz.ntmps13;go_upto_region 1 with fail;rw [<- HW.out];clear HW;go_wp2_with fail;refine (l00From_any Ha.out (zA _)).mono ?_;rintro e w1 ⟨rfl,hs1,hb1⟩;have hX1:=HX.out.on hb1;have hsW:=HbW.out.size;have hXl:=HX.out.lt;have Hb1:=hid (HbW.out.trans (hb1.mono hsW));generalize W.heap.size=b at *
 clear hb1;go_wp2_with fail;with_reducible refine (l16Draw_c hs1 (by omega)).mono ?_
 rintro e w2 ⟨⟨x,rfl,hx⟩,hs2,hg2⟩;have hX2:=hX1.keptB hg2 (fun e=>by have:=zD e;omega);have Hb2:=hid (grown_below Hb1.out hg2 (by omega) Hb1.out.size);have Hx:=hid hx;have r0:=hX2.cell 0 _ rfl;have r1:=hX2.cell 1 _ rfl;have r2:=hX2.cell 2 _ rfl;have r3:=hX2.cell 3 _ rfl;have r4:=hX2.cell 4 _ rfl;have r5:=hX2.cell 5 _ rfl;have r6:=hX2.cell 6 _ rfl;have s0:=hX2.free 0;have s1:=hX2.free 1;have s2:=hX2.free 2;have s3:=hX2.free 3;have s4:=hX2.free 4;have s5:=hX2.free 5;have s6:=hX2.free 6;clear hs1 hs2 hX1 hX2 hg2 hx;go_wp2;refine bodyPost_ret (v:=vSpec x) (by simp [results,Tryz.results13,go_sem,r0,r1,r2,r3,r4,r5,r6]) rfl ⟨⟨x,rfl,Hx.out⟩,?_⟩;exact ((((((Hb2.out.setCell (p:=⟨w.heap.size,0,none⟩) (zA _) _).setCell (p:=⟨w.heap.size,1,none⟩) (zA _) _).setCell (p:=⟨w.heap.size,2,none⟩) (zA _) _).setCell (p:=⟨w.heap.size,3,none⟩) (zA _) _).setCell (p:=⟨w.heap.size,4,none⟩) (zA _) _).setCell (p:=⟨w.heap.size,5,none⟩) (zA _) _).setCell (p:=⟨w.heap.size,6,none⟩) (zA _) _
open Go.Sort
theorem l02Field_y {f t c:Int} (hc:0<=c/\c<=1000) (h:fieldP f t c):∀ W,Calls Tryz.prog 62 #[.agg #[.int .i64 f,.int .i64 t],.int .i64 c] W fun e w'=>e=.returned (.bool true)/\Below W.heap.size W w':=fun W=>by
 have h1:=l02Field_c f t c W hc;rw [decide_eq_true h] at h1;exact h1
theorem l16Ok_c {x:SpecT} {c:Int} {w:World} {g:Nat} (hg:Box w g (cSpec x)) (hx:Spec13 x) (hc:5<=c/\c<=20) :
 Calls Tryz.prog 157 #[.pointer (some ⟨g,0,none⟩),.int .i64 c] w fun e w'=>e=.returned (.bool true)/\Below w.heap.size w w':=by
 have hgf:fieldP x.gf x.gt c:=by have:=hx.grp;unfold fieldP;omega
 have hsf:fieldP x.sf x.st c:=by have:=hx.grp;unfold fieldP;omega
 have h12:¬ (12:Int)<x.st - x.sf:=by have:=hx.grp;omega
 have hw12:IntKind.i64.wrap (x.st - x.sf)=x.st - x.sf:=by have:=hx.grp;exact IntWalk.i64_in _ (by omega)
 have hb1:-1000<=x.st - x.sf/\x.st - x.sf<=1000:=by have:=hx.grp;omega
 have Hgf:=hid (l02Field_y (show 0<=c/\c<=1000 by omega) hgf);have Hsf:=hid (l02Field_y (show 0<=c/\c<=1000 by omega) hsf);have Hx:=hid hx;have HG:=hid hg;obtain ⟨wf,wt,tx,gf,gt,sf,st⟩:=x;simp only at *
 have x3:=cell_regrown (hg.cell 3 _ rfl);have x4:=cell_regrown (hg.cell 4 _ rfl);have x5:=cell_regrown (hg.cell 5 _ rfl);have x6:=cell_regrown (hg.cell 6 _ rfl);simp only at x3 x4 x5 x6;clear hx hg hgf hsf;go_enter Tryz.func157,Tryz.ntmps157;go_upto_region 1 with fail;refine wp_region_quiet_below (by kernel_rfl) (by kernel_rfl) ?_;repeat ((with_reducible refine wpQuiet_step (fun K hK=>?_));go_simp;first | ((with_reducible refine hK _ ?_);clear hK K) | (apply Exists.intro;refine ⟨fun _=>?_,hK _ ?_⟩;((first | (go_at_call 62;first | with_reducible exact yAG (Hgf.out _) | with_reducible exact yAG (Hsf.out _))));clear hK K))
 refine wpQuiet_nil ?_;intro _ hw';obtain ⟨⟨dq,osq⟩,hw''⟩:=hw';subst hw'';have hbq:=below_regrown w dq osq;generalize grow (redrawn w dq) osq=wq at hbq |-;have HGq:=HG.out.on hbq;have Hbq:=hid hbq;clear hbq x3 x4 x5 x6 h12 hw12;have y0:=HGq.cell 0 _ rfl;have y1:=HGq.cell 1 _ rfl;have y2:=HGq.cell 2 _ rfl;simp only at y0 y1 y2;have HGQ:=hid HGq;clear HGq;by_cases h0:tx.size=0
 . have he:=txt_empty h0
   obtain ⟨rfl,rfl⟩:wf=0/\wt=0:=by
    rcases Hx.out.2 with ⟨-,a,b⟩ | ⟨a,-⟩
    . exact ⟨a,b⟩
    . exact absurd h0 (by have a':tx.size=1:=a;omega)
   go_wp2;go_ret;exact ⟨rfl,Hbq.out⟩
 . have hw:=Hx.out.whr h0
   simp only at hw;have he:=txt_full h0;have Hwf:=hid (l02Field_y (show 0<=c/\c<=1000 by omega) (show fieldP wf wt c by unfold fieldP;omega));have htx:txC tx wf wt=0:=by
    unfold txC;rw [if_pos (by omega),if_pos hw.2.1]
   have Htx:=hid (fun w=>by have h:=l09Text_c tx wf wt w (by omega) (by omega);rw [htx] at h;exact h);clear hw htx;have z0:=cell_regrown y0;have z1:=cell_regrown y1;have z2:=cell_regrown y2;go_upto_region 5 with fail;clear y0 y1 y2;refine wp_region_quiet_below (by kernel_rfl) (by kernel_rfl) ?_;repeat ((with_reducible refine wpQuiet_step (fun K hK=>?_));go_simp;first | ((with_reducible refine hK _ ?_);clear hK K) | (apply Exists.intro;refine ⟨fun _=>?_,hK _ ?_⟩;((first | (go_at_call 62;with_reducible exact yAG (Hwf.out _)) | (go_at_call 173;with_reducible exact yAG (Htx.out _))));clear hK K))
   refine wpQuiet_nil ?_;intro _ hw';obtain ⟨⟨dq,osq⟩,hw''⟩:=hw';subst hw'';have hbq:=below_regrown wq dq osq;generalize grow (redrawn wq dq) osq=wq2 at hbq |-;have Hbz:=hid (Hbq.out.trans (hbq.mono Hbq.out.size));clear hbq z0 z1 z2;go_wp2;go_ret;exact ⟨rfl,Hbz.out⟩
def endG (d:List (List Int)) (G:List Int) (i:Nat):Int:=(G++[(d.length:Int)]).getD (i+1) 0
theorem endG_in {d:List (List Int)} {G:List Int} {i:Nat} {y:Int} (h:G[i+1]?=some y):endG d G i=y:=by
 unfold endG;rw [List.getD_eq_getElem?_getD,zL (yBG h),h];rfl
theorem endG_out {d:List (List Int)} {G:List Int} {i:Nat} (h:G.length=i+1):endG d G i=d.length:=by
 unfold endG;rw [List.getD_eq_getElem?_getD,zJ (by omega),h];simp
theorem l13End_c {d:List (List Int)} {w:World} {b i:Nat} {f t sf st:Int} {ks ns hs:Value} (h:ReadP w b d f t sf st ks ns hs) (hi:i<(selI (grpP d f t) d.length).length) (hd:d.length<=40) :
 Calls Tryz.prog 132 #[.pointer (some ⟨b,0,none⟩),.int .i64 i] w fun e w'=>e=.returned (.int .i64 (endG d (selI (grpP d f t) d.length) i))/\w=w':=by
 obtain ⟨G,hG⟩:∃ G,G=selI (grpP d f t) d.length:=⟨_,rfl⟩;have hh:=h.heads;rw [<- hG] at hi hh |-;have hgl:G.length<=40:=by have:=yBM (grpP d f t) d.length;rw [hG];omega
 have hk:=h.keys;obtain ⟨ko,kc,rfl⟩:=hk.shape;obtain ⟨ho,hc,rfl,hop⟩:=RdI.open hh;have c0:=h.box.cell 0 _ rfl;have c2:=h.box.cell 2 _ rfl;rw [keyT_len] at c0;obtain ⟨g,hg⟩:∃ g,g=G.length:=⟨_,rfl⟩;obtain ⟨n,hn⟩:∃ n,n=d.length:=⟨_,rfl⟩;rw [<- hg] at c2 hi hgl;rw [<- hn] at c0;have Hn:=hid hn;have Hg:=hid hg;have hi40:i<=40:=by omega
 by_cases hlt:i+1<g
 . obtain ⟨bb,oo,rfl,hl2,hcc⟩:=hop (by omega)
   obtain ⟨y,hy,hyc⟩:=hcc (i+1) (by omega);have HE:=hid (endG_in (d:=d) hy);have i1:(i:Int)+1<(g:Int):=by omega
   have i2:((i:Int)+1).toNat=i+1:=by omega
   have hyc2:=hyc.1;clear hn hg hcc hop hk hh hG h hyc hy;go_enter Tryz.func132,Tryz.ntmps132;go_wp2;go_ret;exact ⟨yAJ HE.out.symm,rfl⟩
 . have HE:=hid (endG_out (d:=d) (G:=G) (i:=i) (by omega))
   rw [<- hn] at HE;have i1:¬ (i:Int)+1<(g:Int):=by omega
   clear hn hg hop hk hh hG h;go_enter Tryz.func132,Tryz.ntmps132;go_wp2;go_ret;exact ⟨yAJ HE.out.symm,rfl⟩
theorem sumC_seg {sf st:Int} {d:List (List Int)} {a i:Nat} {x:List Int} (h:d[i]?=some x) (ha:a<=i):sumC sf st ((d.take (i+1)).drop a)=sumC sf st ((d.take i).drop a)+numC sf st x:=by
 have hl:=yBG h;rw [yAD h,List.drop_append_of_le_length (by rw [zI];omega)];unfold sumC;rw [List.map_append,List.sum_append];simp
theorem seg_bd {sf st:Int} {d:List (List Int)} (hn:∀ c∈d,(partC c sf st).length<=12) (hl:d.length<=40) (a i:Nat):-40000000000000<=sumC sf st ((d.take i).drop a)/\sumC sf st ((d.take i).drop a)<=40000000000000:=by
 have h:=sumC_bd (sf:=sf) (st:=st) (d:=(d.take i).drop a) (fun c hc=>hn c (List.mem_of_mem_take (List.mem_of_mem_drop hc)));have h2:((d.take i).drop a).length<=d.length:=by rw [zQ,zI];omega
 omega
theorem one_own {e:TypeId} {base cap g:Nat} {w:World} (h:w.ownsRow base e 1 (.slice (some ⟨g,0,none⟩) 1 cap) 1 (madeCells #[.int .i64 0] 1).toList):Own eI e base w (.slice (some ⟨g,0,none⟩) 1 cap) [0]:=by
 rw [toList_madeCells_one] at h;exact ⟨h,fun x hx=>by
  have:x=0:=by simpa using hx
  subst this;show -9223372036854775808<=(0:Int)/\(0:Int)<=9223372036854775807
  omega⟩
theorem l13Sums_c {d:List (List Int)} {w:World} {b p q:Nat} {f t sf st:Int} {ks ns hs:Value} (h:ReadP w b d f t sf st ks ns hs) (hpq:p<=q) (hq:q<=d.length) (hd:d.length<=40) (hn12:∀ c∈d,(partC c sf st).length<=12) :
 Calls Tryz.prog 131 #[.pointer (some ⟨b,0,none⟩),.int .i64 p,.int .i64 q,.int .i64 1] w fun e w'=>(∃ g,e=.returned (.slice (some ⟨g,0,none⟩) 1 1)/\w.heap.size<=g/\Box w' g [.int .i64 (sumC sf st ((d.take q).drop p))])/\Below w.heap.size w w':=by
 obtain ⟨i0,hi,hz0,hz1,hz2⟩:=info_parts Tryz.infoInt64;obtain ⟨no,nc,rfl,hop⟩:=h.nums.open;have c1:=h.box.cell 1 _ rfl;have hbb:=h.box.lt;rw [numL_len] at c1 hop;obtain ⟨n,hn⟩:∃ n,n=d.length:=⟨_,rfl⟩;rw [<- hn] at c1 hop hq hd;have Hn:=hid hn;have Hop:=hid hop;have Hc1:=hid c1;have H12:=hid hn12;have Hbd:=hid (fun i=>seg_bd hn12 (by rw [<- hn];exact hd) p i);have hq40:q<=40:=by omega
 clear h hop c1 hn hn12;go_enter Tryz.func131,Tryz.ntmps131;go_wp2_with (first | (at_make;refine wpList_make_full _ rfl _ _ 48 rfl w.heap.size 2 i0 (.int .i64 0) 1 Tryz.underlying48 hi hz0 hz1 _ _ _ _ 1 rfl rfl rfl rfl ?b1 ?b2 (zA _) ?_))
 case b1=>rw [hz2];omega
 case b2=>unfold maxLen;omega
 intro w1 hr1 hg1;have hb1:Below w.heap.size w w1:=(zB _ _).grown hg1 (zA _) (fun k hk=>by cases hk);have hO1:OwnInt64S w.heap.size w1 (.slice (some ⟨w.heap.size,0,none⟩) 1 1) [0]:=one_own hr1;have HO1:=hid hO1;have Hb1:=hid hb1;obtain ⟨X,hX⟩:∃ X,X=w.heap.size:=⟨_,rfl⟩;rw [<- hX] at HO1 |-;have HX:=hid hX;clear hr1 hg1 hb1 hO1 hX;go_wp2;go_loopw [10] (fun iv wr=>∃ i:Nat,(p<=i/\i<=q)/\iv=.int .i64 i/\Hid (OwnInt64S X wr (.slice (some ⟨X,0,none⟩) 1 1) [sumC sf st ((d.take i).drop p)])/\Hid (Below w.heap.size w wr)) (fun i _=>q - (intOf i).toNat)
 case atStart=>exact ⟨p,⟨zA _,hpq⟩,rfl,by rw [show (d.take p).drop p=[] from List.drop_of_length_le (by rw [zI];omega)];exact HO1,Hb1⟩
 case round =>
  obtain ⟨i,hik,rfl,HO,HB⟩:=hrel;clear HO1 Hb1;obtain ⟨wo,hwo⟩:∃ x,x=wr:=⟨_,rfl⟩;subst hwo;by_cases hiq:i<q
  . obtain ⟨nb,noff,rfl,hlt,hc⟩:=Hop.out (by omega)
    obtain ⟨x,ro,rc,hx,hcell,hrd⟩:=hc i (by omega);obtain ⟨y,hy⟩:∃ y,d[i]?=some y:=⟨_,zF (by have:=Hn.out;omega)⟩;rw [numL_at hy] at hx;obtain rfl:=zD hx;obtain ⟨ro',rc',hvs,hin⟩:=RdI.open hrd;injection hvs with q1 q2 q3;subst q1;subst q3;clear q2;obtain ⟨ib,io,rfl,hl3,hcc⟩:=hin (by simp);obtain ⟨z,hz,hzc⟩:=hcc 0 (by simp);have ez:numC sf st y=z:=by simpa using hz
    obtain ⟨s,hs⟩:∃ s,s=sumC sf st ((d.take i).drop p):=⟨_,rfl⟩;have hbd:=Hbd.out i;have hbd2:=Hbd.out (i+1);rw [sumC_seg hy hik.1,ez,<- hs] at hbd2;rw [<- hs] at HO hbd;have Hsn:Hid (sumC sf st ((d.take (i+1)).drop p)=s+z):=hid (by rw [sumC_seg hy hik.1,ez,hs]);have z0:IntKind.i64.wrap (s+z)=s+z:=IntWalk.i64_in _ (by omega);have hok:eI.ok (s+z):=by show -9223372036854775808<=s+z/\s+z<=9223372036854775807;omega
    have Hok:=hid hok;have Hcell:=hid hcell;have Hzc:=hid hzc.1;rw [show ([numC sf st y]:List Int).length=1 from rfl] at Hcell;have hb1:nb<w.heap.size:=hlt.2;have hb2:ib<w.heap.size:=hl3.2;have hq0:(i:Int)<(q:Int):=by omega
    have hin2:(i:Int)<(n:Int):=by omega
    clear hc hx hcell hrd hin hcc hz hzc hy hs ez hbd hbd2 hok hlt hl3;go_wp2;go_loopw [11] (fun jv wr=>∃ j:Nat,j<=1/\jv=.int .i64 j/\Hid (OwnInt64S X wr (.slice (some ⟨X,0,none⟩) 1 1) [if j=0 then s else s+z])/\Hid (Below w.heap.size w wr)) (fun j _=>1 - (intOf j).toNat)
    case atStart=>exact ⟨0,zK _,rfl,HO,HB⟩
    case round =>
     obtain ⟨j,hj,rfl,HOj,HBj⟩:=hrel;clear HO HB;by_cases hj1:j<1
     . obtain rfl:j=0:=by omega
       rw [show ((0:Nat):Int)=0 from rfl];have c1:=(HBj.out.cell (p:=⟨b,1,none⟩) hbb).trans Hc1.out;have c2:=(HBj.out.cell (p:=⟨nb,noff+i,none⟩) hb1).trans Hcell.out;have c3:=(HBj.out.cell (p:=⟨ib,io+0,none⟩) hb2).trans Hzc.out;rw [Nat.add_zero] at c3;have hO:=HOj.out;rw [if_pos rfl] at hO;obtain ⟨⟨y0,hy0⟩,hfz,hO4,hg4⟩:=Own.storeI hO rfl (k:=0) (by decide) Hok.out;have hcg:wr.cell? ⟨X,0,none⟩=some (.int .i64 s):=by
        have h9:=hO.ints.cellAt 0 (by decide);simpa using h9
       have HO4:Hid (OwnInt64S X (wr.setCell ⟨X,0,none⟩ (.int .i64 (s+z))) (.slice (some ⟨X,0,none⟩) 1 1) [if 1=0 then s else s+z]):=hid (by rw [if_neg (by decide)];exact hO4);have Hb4:=hid (HBj.out.setCell (p:=⟨X,0,none⟩) (by rw [HX.out];exact zA _) (.int .i64 (s+z))).drew1;clear hO hy0 hO4 hg4;go_wp2_with fail;go_still_tail 15,(by kernel_rfl);go_wp2;go_roundw
       case rel=>exact ⟨1,by omega,by go_num,HO4,Hb4⟩
       case measure=>simp [intOf]
     . obtain rfl:j=1:=by omega
       have HO5:Hid (OwnInt64S X wr (.slice (some ⟨X,0,none⟩) 1 1) [sumC sf st ((d.take (i+1)).drop p)]):=hid (by rw [Hsn.out];exact HOj.out);go_wp2;go_roundw
       case rel=>exact ⟨i+1,⟨by omega,by omega⟩,by go_num,HO5,HBj⟩
       case measure=>simp [intOf];omega
  . obtain rfl:i=q:=by omega
    go_wp2;go_ret;refine ⟨⟨X,rfl,by rw [HX.out];exact zA _,?_⟩,HB.out⟩;exact ⟨(HO.out.lt X rfl).2,fun j u hj=>(by cases j with
     | zero=>cases hj;simpa using HO.out.ints.cellAt 0 (by decide)
     | succ j=>cases hj),fun j=>HO.out.ints.frozenAt j⟩
theorem l15Sums_c {d:List (List Int)} {v:Value} {w0:World} {A:Nat} {f t sf st:Int} (hd:RdInt64SS A w0 v d) (hD:deckB d=true) (hf:fieldP f t (colsD d)) (hs:fieldP sf st (colsD d)) (h12:st - sf<=12) :
 Calls Tryz.prog 89 #[v,.agg #[.int .i64 f,.int .i64 t],.agg #[.int .i64 sf,.int .i64 st]] w0 fun e w'=>(∃ r,e=.returned (.tuple #[r,.int .i64 (totC d f t sf st)])/\(totC d f t sf st=0->FrS RdTz (fun k=>k<w0.heap.size) w' r (totD d f t sf st)))/\Below w0.heap.size w0 w':=by
 obtain ⟨i0,hi,hz0,hz1,hz2⟩:=info_parts Tryz.infoTotal;obtain ⟨vo,vc,rfl⟩:=hd.shape;obtain ⟨T,hT⟩:∃ T,T=(w0.alloc (.cells #[.int .i64 f,.int .i64 t] 27)).alloc (.cells #[.int .i64 sf,.int .i64 st] 27):=⟨_,rfl⟩;have z1:(w0.alloc (.cells #[.int .i64 f,.int .i64 t] 27)).heap.size=w0.heap.size+1:=by simp
 have zT:T.heap.size=w0.heap.size+2:=by rw [hT];simp
 have hP:Box T w0.heap.size [.int .i64 f,.int .i64 t]:=by rw [hT];exact (Box.new w0 [.int .i64 f,.int .i64 t] _).alloc _
 have hQ:Box T (w0.heap.size+1) [.int .i64 sf,.int .i64 st]:=by
  have h:=Box.new (w0.alloc (.cells #[.int .i64 f,.int .i64 t] 27)) [.int .i64 sf,.int .i64 st] 27;rw [z1,<- hT] at h;exact h
 have hbT:Below w0.heap.size w0 T:=by rw [hT];exact ((zB _ _).alloc (zA _) _).alloc (by rw [z1];omega) _
 obtain ⟨T2,hT2⟩:∃ T2,T2=(T.alloc (.cells #[.int .i64 sf,.int .i64 st] 27)).alloc (.cells #[.int .i64 f,.int .i64 t,.slice (some ⟨T.heap.size,0,none⟩) 1 1,.bool false] 188):=⟨_,rfl⟩;have z2:(T.alloc (.cells #[.int .i64 sf,.int .i64 st] 27)).heap.size=T.heap.size+1:=by simp
 have hb2:Below T.heap.size T T2:=by rw [hT2];exact ((zB _ _).alloc (zA _) _).alloc (by rw [z2];omega) _
 have hbA:=hbT.trans (hb2.mono hbT.size);have hS1:Box T2 T.heap.size [.int .i64 sf,.int .i64 st]:=by
  have h:=(Box.new T [.int .i64 sf,.int .i64 st] 27).alloc (.cells #[.int .i64 f,.int .i64 t,.slice (some ⟨T.heap.size,0,none⟩) 1 1,.bool false] 188);rw [<- hT2] at h;exact h
 have hS2:Box T2 (T.heap.size+1) [.int .i64 f,.int .i64 t,.slice (some ⟨T.heap.size,0,none⟩) 1 1,.bool false]:=by
  have h:=Box.new (T.alloc (.cells #[.int .i64 sf,.int .i64 st] 27)) [.int .i64 f,.int .i64 t,.slice (some ⟨T.heap.size,0,none⟩) 1 1,.bool false] 188;rw [z2,<- hT2] at h;exact h
 have hset:SetP T2 (T.heap.size+1) T.heap.size f t sf st:=⟨hS2,hS1⟩;have hread:=l13Read_c (RdInt64SS.onn hd hbA) hset hD (by have:=hf.1;have:=hf.2.1;have:=hf.2.2;omega) hf hs h12;have hl:=(yAE hD).1;have p0:=hP.cell 0 _ rfl;have p1:=hP.cell 1 _ rfl;have q0:=hQ.cell 0 _ rfl;have q1:=hQ.cell 1 _ rfl;have HT:=hid hT;have HT2:=hid hT2;have HzT:=hid zT;have HbA:=hid hbA;have HC:=hid (yAR hD hf);have H12:=hid (numOk_of hD hs h12).part;have HD:=hid hD;obtain ⟨R,hR⟩:∃ R,R=totC d f t sf st:=⟨_,rfl⟩;rw [<- hR] at hread |-;have HR:=hid hR;have Hread:=hid hread;obtain ⟨TL,hTL0⟩:∃ TL,TL=totD d f t sf st:=⟨_,rfl⟩;rw [<- hTL0];have HTL:=hid hTL0;obtain ⟨n,hn⟩:∃ n,n=d.length:=⟨_,rfl⟩;rw [<- hn] at hl Hread |-;have Hn:=hid hn;clear hd hD hf hs hT z1 zT hP hQ hbT hT2 z2 hb2 hbA hS1 hS2 hset hread hR hTL0 hn h12;go_enter Tryz.func89,Tryz.ntmps89;go_upto_region 1 with fail;rw [<- HT.out];go_wp2_with fail;rw [<- HT2.out];with_reducible refine Hread.out.mono ?_
 rintro e w4 ⟨⟨b,rfl,hr⟩,hb4⟩;have Hb4:=hid (HbA.out.trans (hb4.mono HbA.out.size));clear p0 p1 q0 q1 hb4;by_cases h0:R=0
 . obtain ⟨ks,ns,hs,hR4⟩:=hr h0
   have hhd:hasD d f t=true:=by
    have h9:=HR.out;rw [h0] at h9;unfold totC at h9;by_cases h:d.any (noNum sf st)=true\/hasD d f t=false
    . rw [if_pos h] at h9;cases h9
    . cases hq:hasD d f t with
      | true=>rfl
      | false=>exact absurd (Or.inr hq) h
   have Hhd:=hid hhd;obtain ⟨G,hG⟩:∃ G,G=selI (grpP d f t) d.length:=⟨_,rfl⟩;have hheads:=hR4.heads;have hkeys:=hR4.keys;rw [<- hG] at hheads;obtain ⟨ho,hc,rfl⟩:=hheads.shape;obtain ⟨m,hm⟩:∃ m,m=G.length:=⟨_,rfl⟩;rw [<- hm] at hheads hR4;obtain ⟨ko,kc,rfl⟩:=hkeys.shape;rw [keyT_len,<- Hn.out] at hkeys hR4;have hmn:m<=n:=by rw [hm,hG,Hn.out];exact yBM _ _
   obtain ⟨b0,hb0⟩:∃ b,b=w4.heap.size:=⟨_,rfl⟩;obtain ⟨W,hW⟩:∃ W,W=w4.alloc (.cells #[] 153):=⟨_,rfl⟩;have hbW:Below w4.heap.size w4 W:=by rw [hW];exact (zB _ _).alloc (zA _) _
   have hWz:W.heap.size=b0+1:=by rw [hW,hb0];simp
   have hO0:Own eTotal 153 w0.heap.size W (.slice (some ⟨b0,0,none⟩) 0 0) (TL.take 0):=by
    rw [hW,hb0];exact Own.lit (E:=eTotal) (xs:=[]) (cs:=#[]) Hb4.out.size rfl rfl (by decide) (fun x hx=>by cases hx)
   have HA0:Hid (TotA (.slice (some ⟨b0,0,none⟩) 0 0) W w0 W b0 (TL.take 0)):=hid ⟨hO0,Hb4.out.trans (hbW.mono Hb4.out.size),Agr.refl _ _,fun q hq=>.inl (zD hq).symm⟩;have y2:=((hR4.on hbW).box.cell 2 _ rfl);have HR4:=hid hR4;have HbW:=hid hbW;have HW:=hid hW;have HWz:=hid hWz;have Hm:=hid hm;have HG:=hid hG;have Hb0:=hid hb0;have hbb:b<b0:=by rw [hb0];exact hR4.box.lt
   have E0:=hid h0;subst h0;clear hr hhd hheads hkeys hbW hWz hO0 hR4 hm hG hW;go_upto_region 5 with fail;rw [<- HW.out,<- hb0];clear hb0;go_wp2;go_loopw [10,11] (fun ov iv wr=>∃ (k:Nat) (oo:Option Addr) (oc:Nat),k<=m/\iv=.int .i64 k/\ov=.slice oo k oc/\Hid (TotA (.slice oo k oc) wr w0 W b0 (TL.take k))) (fun _ i _=>m - (intOf i).toNat)
   case atStart=>exact ⟨0,_,_,zK _,rfl,rfl,HA0⟩
   case round =>
    obtain ⟨k,oo,oc,hk,rfl,rfl,HA⟩:=hrel;clear HA0;obtain ⟨W9,hW9⟩:∃ x,x=wr:=⟨_,rfl⟩;subst hW9;have hbl:Below w4.heap.size w4 W9:=by
     have h1:=HbW.out.trans ((HA.out.2.2.1.below (fun k h=>by have h9:k=b0:=h;exact Nat.le_of_eq (h9.symm ▸ Hb0.out.symm)) HbW.out.size));exact h1
    have hRw:=HR4.out.on hbl;have y2:=hRw.box.cell 2 _ rfl;by_cases hkm:k<m
    . obtain ⟨lo,hi2,q1,q2,q3,q4,q5,-,-⟩:=grp_places (i:=k) HG.out (by have:=Hm.out;omega)
      have hse:=strD_eq (d:=d) q2 q3;have hhe:=hRw.heads;rw [<- HG.out] at hhe;obtain ⟨ho',hc',hvs,hin⟩:=RdI.open hhe;rw [<- Hm.out] at hvs hin;injection hvs with u1 u2 u3;subst u1;subst u3;clear u2;obtain ⟨hb,hf,rfl,_,hcc⟩:=hin (by omega);obtain ⟨z,hz,yh,-⟩:=hcc k hkm;rw [q1] at hz;obtain rfl:=zD hz;obtain ⟨c,hcd⟩:∃ c,d[lo]?=some c:=⟨_,zF (by omega)⟩;have hcm:=zC hcd;have hcols:=HC.out.2 c hcm;have hc01:=HC.out.1;have hcl:=card_len ((yAE HD.out).2 c hcm).1;obtain ⟨ko',kc',hvs,hkin⟩:=RdT.at hRw.keys;rw [keyT_len,<- Hn.out] at hvs hkin;injection hvs with u1 u2 u3;subst u1;subst u3;clear u2;obtain ⟨kb,kf,rfl,_,hkc⟩:=hkin (by omega);have yk:=hkc lo _ (keyT_at hcd);have y0:=hRw.box.cell 0 _ rfl;have hend:=fun (w:World) (hw:Below W9.heap.size W9 w)=>l13End_c (hRw.on hw) (i:=k) (by rw [<- HG.out,<- Hm.out];exact hkm) (by rw [<- Hn.out];exact hl);rw [<- HG.out,show endG d G k=(hi2:Int) from q2] at hend;have hsum:=fun (w:World) (hw:Below W9.heap.size W9 w)=>l13Sums_c (p:=lo) (q:=hi2) (hRw.on hw) (by omega) q5 (by rw [<- Hn.out];exact hl) H12.out;rw [<- hse] at hsum;have hnext:TL.take (k+1)=TL.take k++[⟨toB (txI (partC c f t)),sumC sf st (strD d G k)⟩]:=by
       have e:TL[k]?=some ⟨toB (txI (partC c f t)),sumC sf st (strD d G k)⟩:=by
        rw [HTL.out,totD_at HG.out (by have:=Hm.out;omega)];unfold totOf;rw [q3,zR,List.getD_eq_getElem?_getD,hcd];rfl
       exact yAD e
      have hsmb:=sumC_bd (sf:=sf) (st:=st) (d:=strD d G k) (fun c hc=>H12.out c (strD_mem hc));have hsl:=strD_len d G k;rw [<- Hn.out] at hsl;obtain ⟨nm,hnm⟩:∃ nm,nm=toB (txI (partC c f t)):=⟨_,rfl⟩;obtain ⟨sm,hsm⟩:∃ sm,sm=sumC sf st (strD d G k):=⟨_,rfl⟩;rw [<- hsm] at hsum hnext hsmb;rw [<- hnm] at yk hnext;have hnms:nm.size<=1000:=by rw [hnm,toB_size];unfold txI;rw [List.length_map,yAN hc01.1 hc01.2 hcols];omega
      have Hok:Hid (okTotal ⟨nm,sm⟩):=hid ⟨by show nm.size<=_;omega,by show -9223372036854775808<=sm/\sm<=9223372036854775807;omega⟩;have Hend:=hid hend;have Hsum:=hid hsum;have Hnext:=hid hnext;have hlk:(TL.take k).length=k:=by
       have e:TL.length=m:=by rw [HTL.out,totD_len,<- HG.out];exact Hm.out.symm
       rw [zI,e];omega
      have Hlk:=hid hlk;obtain ⟨ho,hbl2,hag,hown⟩:=HA.out;have HO:=hid ho;have Hl:Hid ((TL.take k).length<=100):=hid (by rw [Hlk.out];omega);have Hsz:Hid (w0.heap.size<=W9.heap.size):=hid hbl2.size;have hWz2:=HWz.out;have Hfin:Hid (∀ (wx:World) (v9:Value) (w9:World),Below W9.heap.size W9 wx->Own eTotal 153 w0.heap.size w9 v9 (TL.take k++[⟨nm,sm⟩])->Grew wx w9 (.slice oo k oc) v9->TotA v9 w9 w0 W b0 (TL.take (k+1))):=hid (fun wx v9 w9 hwx h1 h2=>by
       have ho2:=ho.below hwx (zA _);have hb2:=hbl2.trans (hwx.mono hbl2.size);have ha2:=hag.trans (Agr.on (S:=fun k=>k=b0) hwx) (fun k h _=>h);rw [Hnext.out];refine ⟨h1,hb2.grown h2.1 hb2.size (fun q hq=>(ho.lt q hq).1),ha2.trans (Agr.of_grown h2.1 (S:=fun k=>k=b0\/W.heap.size<=k) (fun q hq _=>hown q hq)) (fun q hq hlt=>hq.elim id (fun h=>by omega)),?_⟩;intro q hq;rcases h2.2 with h6 | ⟨q2,h6,h7⟩
       . exact hown q (by rw [<- h6];exact hq)
       . rw [h6] at hq;cases hq
         have:=ha2.size;exact .inr (by omega))
      have hkI:(k:Int)<(m:Int):=by omega
      have hloI:(lo:Int)<(n:Int):=by have:=Hn.out;omega
      have hln:lo<n:=by have:=Hn.out;omega
      clear q1 q2 q3 hse hhe hin hcc hz hcd hcm hcols hc01 hcl hkin hkc hend hsum hnext hsmb hsl hnm hsm hnms hlk ho hbl2 hag hown hWz2 hRw hbl;go_upto_region 8 with fail;refine wp_region_app (W:=W9) (.slice oo k oc) 30 31 (fun i=>match i with | 0=>true | 1=>true | 2=>true | 3=>true | 5=>true | 6=>true | 7=>true | 9=>true | 14=>true | 15=>true | 16=>true | 17=>true | 19=>true | 22=>true | 23=>true | _=>false) (fun i v w=>match i with | 0=>v=.slice oo k oc | 1=>v=.pointer (some ⟨b,0,none⟩) | 2=>v=.pointer (some ⟨b,0,none⟩) | 3=>v=.pointer (some ⟨b,0,none⟩) | 4=>v=.slice (some ⟨kb,kf,none⟩) n kc | 5=>v=.pointer (some ⟨b,0,none⟩) | 6=>v=.pointer (some ⟨b,0,none⟩) | 7=>v=.pointer (some ⟨b,2,none⟩) | 8=>v=.slice (some ⟨hb,hf,none⟩) m hc | 9=>v=.int .i64 k | 10=>v=.pointer (some ⟨hb,hf+k,none⟩) | 11=>v=.int .i64 lo | 12=>v=.pointer (some ⟨kb,kf+lo,none⟩) | 13=>v=.string nm | 14=>v=.pointer (some ⟨b,0,none⟩) | 15=>v=.pointer (some ⟨b,0,none⟩) | 16=>v=.pointer (some ⟨b,0,none⟩) | 17=>v=.pointer (some ⟨b,2,none⟩) | 18=>v=.slice (some ⟨hb,hf,none⟩) m hc | 19=>v=.int .i64 k | 20=>v=.pointer (some ⟨hb,hf+k,none⟩) | 21=>v=.int .i64 lo | 22=>v=.pointer (some ⟨b,0,none⟩) | 23=>v=.int .i64 k | 24=>v=.int .i64 hi2 | 25=>∃ g,v=.slice (some ⟨g,0,none⟩) 1 1/\Box w g [.int .i64 sm] | 26=>∃ g,v=.pointer (some ⟨g,0,none⟩)/\Box w g [.int .i64 sm] | 27=>v=.int .i64 sm | 28=>v=.agg #[.string nm,.int .i64 sm] | 29=>Rds eTotal w.heap.size w v [⟨nm,sm⟩] | _=>True) (fun v w=>TotA v w w0 W b0 (TL.take (k+1))) (fun x v w=>v=x/\TotA x w w0 W b0 (TL.take (k+1))) (by kernel_rfl) (by kernel_rfl) (by kernel_rfl) (by kernel_rfl) (by kernel_rfl) ?_ ?_ ?_ ?_
      . intro i v w w' h hb
        iterate 32 (obtain _ | i:=i;· first | exact h | (obtain ⟨g,h1,h2⟩:=h;exact ⟨g,h1,h2.on hb⟩) | exact Rds.onn h hb)
        exact h
      . intro i v w w' hp h
        iterate 32 (obtain _ | i:=i;· first | exact h | exact absurd hp (by decide))
        exact h
      . intro vs hvs
        match vs,hvs with
        | [v0,v1,v2,v3,v4,v5,v6,v7,v8,v9,v10,v11,v12,v13,v14,v15,v16,v17,v18,v19,v20,v21,v22,v23,v24,v25,v26,v27,v28,v29,v30,v31],_ =>
         refine ⟨?_,?_,?_,?_,?_,?_,?_,?_,?_,?_,?_,?_,?_,?_,?_,?_,?_,?_,?_,?_,?_,?_,?_,?_,?_,?_,?_,?_,?_,?_,?_,?_,trivial⟩
         . refine yAK ?_ ?_ ?_ ?_;exact (by decide);exact (by decide);kernel_rfl
           intro wr h0 hd;replace h0:v31=.slice oo k oc:=h0 (by kernel_rfl);subst h0;clear hd;unfold relAt;simp only [putAll];go_simp;simp only [relUpon];trivial
         . refine yAK ?_ ?_ ?_ ?_;exact (by decide);exact (by decide);kernel_rfl
           intro wr h0 hd;clear h0;clear hd;unfold relAt;simp only [putAll];go_simp;simp only [relUpon];trivial
         . refine yAK ?_ ?_ ?_ ?_;exact (by decide);exact (by decide);kernel_rfl
           intro wr h0 hd;clear h0;have d1:v1=.pointer (some ⟨b,0,none⟩):=yAF 1 (by kernel_rfl) hd rfl;subst d1;clear hd;unfold relAt;simp only [putAll];go_simp;simp only [relUpon];trivial
         . refine yAK ?_ ?_ ?_ ?_;exact (by decide);exact (by decide);kernel_rfl
           intro wr h0 hd;clear h0;have d2:v2=.pointer (some ⟨b,0,none⟩):=yAF 2 (by kernel_rfl) hd rfl;subst d2;clear hd;unfold relAt;simp only [putAll];go_simp;simp only [relUpon];trivial
         . refine yAI ?_ ?_ ?_ ?_;exact (by decide);exact (by decide);kernel_rfl
           intro wr h0 hC hd;clear h0;have d3:v3=.pointer (some ⟨b,0,none⟩):=yAF 3 (by kernel_rfl) hd;subst d3;clear hd;have e:=(hC.cell (p:=⟨b,0,none⟩) (World.block_lt_of_cell? _ _ y0)).trans y0;unfold relAt;simp only [putAll];go_simp;simp only [relUpon];exact ⟨zB _ _,by first | rfl | trivial⟩
         . refine yAK ?_ ?_ ?_ ?_;exact (by decide);exact (by decide);kernel_rfl
           intro wr h0 hd;clear h0;clear hd;unfold relAt;simp only [putAll];go_simp;simp only [relUpon];trivial
         . refine yAK ?_ ?_ ?_ ?_;exact (by decide);exact (by decide);kernel_rfl
           intro wr h0 hd;clear h0;have d5:v5=.pointer (some ⟨b,0,none⟩):=yAF 5 (by kernel_rfl) hd rfl;subst d5;clear hd;unfold relAt;simp only [putAll];go_simp;simp only [relUpon];trivial
         . refine yAK ?_ ?_ ?_ ?_;exact (by decide);exact (by decide);kernel_rfl
           intro wr h0 hd;clear h0;have d6:v6=.pointer (some ⟨b,0,none⟩):=yAF 6 (by kernel_rfl) hd rfl;subst d6;clear hd;unfold relAt;simp only [putAll];go_simp;simp only [relUpon];trivial
         . refine yAI ?_ ?_ ?_ ?_;exact (by decide);exact (by decide);kernel_rfl
           intro wr h0 hC hd;clear h0;have d7:v7=.pointer (some ⟨b,2,none⟩):=yAF 7 (by kernel_rfl) hd;subst d7;clear hd;have e:=(hC.cell (p:=⟨b,2,none⟩) (World.block_lt_of_cell? _ _ y2)).trans y2;unfold relAt;simp only [putAll];go_simp;simp only [relUpon];exact ⟨zB _ _,by first | rfl | trivial⟩
         . refine yAK ?_ ?_ ?_ ?_;exact (by decide);exact (by decide);kernel_rfl
           intro wr h0 hd;clear h0;clear hd;unfold relAt;simp only [putAll];go_simp;simp only [relUpon];trivial
         . refine yAI ?_ ?_ ?_ ?_;exact (by decide);exact (by decide);kernel_rfl
           intro wr h0 hC hd;clear h0;have d8:v8=.slice (some ⟨hb,hf,none⟩) m hc:=yAF 8 (by kernel_rfl) hd;subst d8;have d9:v9=.int .i64 k:=yAF 9 (by kernel_rfl) hd;subst d9;clear hd;unfold relAt;simp only [putAll];go_simp;simp only [relUpon];exact ⟨zB _ _,by first | rfl | trivial⟩
         . refine yAI ?_ ?_ ?_ ?_;exact (by decide);exact (by decide);kernel_rfl
           intro wr h0 hC hd;clear h0;have d10:v10=.pointer (some ⟨hb,hf+k,none⟩):=yAF 10 (by kernel_rfl) hd;subst d10;clear hd;have e:=(hC.cell (p:=⟨hb,hf+k,none⟩) (World.block_lt_of_cell? _ _ yh)).trans yh;unfold relAt;simp only [putAll];go_simp;simp only [relUpon];exact ⟨zB _ _,by first | rfl | trivial⟩
         . refine yAI ?_ ?_ ?_ ?_;exact (by decide);exact (by decide);kernel_rfl
           intro wr h0 hC hd;clear h0;have d4:v4=.slice (some ⟨kb,kf,none⟩) n kc:=yAF 4 (by kernel_rfl) hd;subst d4;have d11:v11=.int .i64 lo:=yAF 11 (by kernel_rfl) hd;subst d11;clear hd;unfold relAt;simp only [putAll];go_simp;simp only [relUpon];exact ⟨zB _ _,by first | rfl | trivial⟩
         . refine yAI ?_ ?_ ?_ ?_;exact (by decide);exact (by decide);kernel_rfl
           intro wr h0 hC hd;clear h0;have d12:v12=.pointer (some ⟨kb,kf+lo,none⟩):=yAF 12 (by kernel_rfl) hd;subst d12;clear hd;have e:=(hC.cell (p:=⟨kb,kf+lo,none⟩) (World.block_lt_of_cell? _ _ yk)).trans yk;unfold relAt;simp only [putAll];go_simp;simp only [relUpon];exact ⟨zB _ _,by first | rfl | trivial⟩
         . refine yAK ?_ ?_ ?_ ?_;exact (by decide);exact (by decide);kernel_rfl
           intro wr h0 hd;clear h0;clear hd;unfold relAt;simp only [putAll];go_simp;simp only [relUpon];trivial
         . refine yAK ?_ ?_ ?_ ?_;exact (by decide);exact (by decide);kernel_rfl
           intro wr h0 hd;clear h0;clear hd;unfold relAt;simp only [putAll];go_simp;simp only [relUpon];trivial
         . refine yAK ?_ ?_ ?_ ?_;exact (by decide);exact (by decide);kernel_rfl
           intro wr h0 hd;clear h0;have d15:v15=.pointer (some ⟨b,0,none⟩):=yAF 15 (by kernel_rfl) hd rfl;subst d15;clear hd;unfold relAt;simp only [putAll];go_simp;simp only [relUpon];trivial
         . refine yAK ?_ ?_ ?_ ?_;exact (by decide);exact (by decide);kernel_rfl
           intro wr h0 hd;clear h0;have d16:v16=.pointer (some ⟨b,0,none⟩):=yAF 16 (by kernel_rfl) hd rfl;subst d16;clear hd;unfold relAt;simp only [putAll];go_simp;simp only [relUpon];trivial
         . refine yAI ?_ ?_ ?_ ?_;exact (by decide);exact (by decide);kernel_rfl
           intro wr h0 hC hd;clear h0;have d17:v17=.pointer (some ⟨b,2,none⟩):=yAF 17 (by kernel_rfl) hd;subst d17;clear hd;have e:=(hC.cell (p:=⟨b,2,none⟩) (World.block_lt_of_cell? _ _ y2)).trans y2;unfold relAt;simp only [putAll];go_simp;simp only [relUpon];exact ⟨zB _ _,by first | rfl | trivial⟩
         . refine yAK ?_ ?_ ?_ ?_;exact (by decide);exact (by decide);kernel_rfl
           intro wr h0 hd;clear h0;clear hd;unfold relAt;simp only [putAll];go_simp;simp only [relUpon];trivial
         . refine yAI ?_ ?_ ?_ ?_;exact (by decide);exact (by decide);kernel_rfl
           intro wr h0 hC hd;clear h0;have d18:v18=.slice (some ⟨hb,hf,none⟩) m hc:=yAF 18 (by kernel_rfl) hd;subst d18;have d19:v19=.int .i64 k:=yAF 19 (by kernel_rfl) hd;subst d19;clear hd;unfold relAt;simp only [putAll];go_simp;simp only [relUpon];exact ⟨zB _ _,by first | rfl | trivial⟩
         . refine yAI ?_ ?_ ?_ ?_;exact (by decide);exact (by decide);kernel_rfl
           intro wr h0 hC hd;clear h0;have d20:v20=.pointer (some ⟨hb,hf+k,none⟩):=yAF 20 (by kernel_rfl) hd;subst d20;clear hd;have e:=(hC.cell (p:=⟨hb,hf+k,none⟩) (World.block_lt_of_cell? _ _ yh)).trans yh;unfold relAt;simp only [putAll];go_simp;simp only [relUpon];exact ⟨zB _ _,by first | rfl | trivial⟩
         . refine yAK ?_ ?_ ?_ ?_;exact (by decide);exact (by decide);kernel_rfl
           intro wr h0 hd;clear h0;clear hd;unfold relAt;simp only [putAll];go_simp;simp only [relUpon];trivial
         . refine yAK ?_ ?_ ?_ ?_;exact (by decide);exact (by decide);kernel_rfl
           intro wr h0 hd;clear h0;clear hd;unfold relAt;simp only [putAll];go_simp;simp only [relUpon];trivial
         . refine yAI ?_ ?_ ?_ ?_;exact (by decide);exact (by decide);kernel_rfl
           intro wr h0 hC hd;clear h0;have d22:v22=.pointer (some ⟨b,0,none⟩):=yAF 22 (by kernel_rfl) hd;subst d22;have d23:v23=.int .i64 k:=yAF 23 (by kernel_rfl) hd;subst d23;clear hd;have h9:=Hend.out _ hC;clear hC;unfold relAt;simp only [putAll];go_simp;simp only [relUpon];with_reducible refine h9.mono ?_
           rintro e w9 ⟨rfl,rfl⟩;exact ⟨_,rfl,zB _ _,by first | rfl | trivial⟩
         . refine yAI ?_ ?_ ?_ ?_;exact (by decide);exact (by decide);kernel_rfl
           intro wr h0 hC hd;clear h0;have d14:v14=.pointer (some ⟨b,0,none⟩):=yAF 14 (by kernel_rfl) hd;subst d14;have d21:v21=.int .i64 lo:=yAF 21 (by kernel_rfl) hd;subst d21;have d24:v24=.int .i64 hi2:=yAF 24 (by kernel_rfl) hd;subst d24;clear hd;have h9:=Hsum.out _ hC;clear hC;unfold relAt;simp only [putAll];go_simp;simp only [relUpon];with_reducible refine h9.mono ?_
           rintro e w9 ⟨⟨g9,rfl,-,hg9⟩,hb9⟩;exact ⟨_,rfl,hb9,g9,rfl,hg9⟩
         . refine yAI ?_ ?_ ?_ ?_;exact (by decide);exact (by decide);kernel_rfl
           intro wr h0 hC hd;clear h0;have d25:∃ g,v25=.slice (some ⟨g,0,none⟩) 1 1/\Box wr g [.int .i64 sm]:=yAF 25 (by kernel_rfl) hd;clear hd;have h8:=d25.choose_spec.1;have h9:=d25.choose_spec.2;generalize d25.choose=g9 at h8 h9;clear d25;subst h8;unfold relAt;simp only [putAll];go_simp;simp only [relUpon];exact ⟨zB _ _,g9,rfl,h9⟩
         . refine yAI ?_ ?_ ?_ ?_;exact (by decide);exact (by decide);kernel_rfl
           intro wr h0 hC hd;clear h0;have d26:∃ g,v26=.pointer (some ⟨g,0,none⟩)/\Box wr g [.int .i64 sm]:=yAF 26 (by kernel_rfl) hd;clear hd;have h8:=d26.choose_spec.1;have h9:=d26.choose_spec.2;generalize d26.choose=g9 at h8 h9;clear d26;subst h8;have e:=h9.cell 0 _ rfl;unfold relAt;simp only [putAll];go_simp;simp only [relUpon];exact ⟨zB _ _,by first | rfl | trivial⟩
         . refine yAI ?_ ?_ ?_ ?_;exact (by decide);exact (by decide);kernel_rfl
           intro wr h0 hC hd;clear h0;have d13:v13=.string nm:=yAF 13 (by kernel_rfl) hd;subst d13;have d27:v27=.int .i64 sm:=yAF 27 (by kernel_rfl) hd;subst d27;clear hd;unfold relAt;simp only [putAll];go_simp;simp only [relUpon];exact ⟨zB _ _,by first | rfl | trivial⟩
         . refine yAI ?_ ?_ ?_ ?_;exact (by decide);exact (by decide);kernel_rfl
           intro wr h0 hC hd;clear h0;have d28:v28=.agg #[.string nm,.int .i64 sm]:=yAF 28 (by kernel_rfl) hd;subst d28;clear hd;unfold relAt;simp only [putAll];go_simp;simp only [relUpon];exact ⟨(zB _ _).alloc (zA _) _,(yAH (E:=eTotal) (x:=⟨nm,sm⟩) Hok.out rfl).mono (by simp)⟩
         . refine appStep_p ?_ ?_;kernel_rfl
           intro wr h0 hC hd;clear h0;have d0:v0=.slice oo k oc:=yAF 0 (by kernel_rfl) hd;subst d0;have d29:Rds eTotal wr.heap.size wr v29 [⟨nm,sm⟩]:=yAF 29 (by kernel_rfl) hd;clear hd;simp only [putAll];refine relAt_appS (E:=eTotal) _ _ 43 rfl Tryz.underlying43 hi hz0 hz1 hz2 rfl (by decide) (by kernel_rfl) (by kernel_rfl) (HO.out.below hC (zA _)) d29 ?b1 ?b2 ?b3 ?b4
           case b1=>have:=Hl.out;unfold maxLen;simp;omega
           case b2=>have:=Hl.out;simp;omega
           case b3=>have:=hC.size;have:=Hsz.out;omega
           case b4=>exact fun v9 w9 ho9 hg9=>Hfin.out wr v9 w9 hC ho9 hg9
         . refine appStep_s ?_ ?_ ?_;exact (by decide);kernel_rfl
           intro wr h0 hA hd;replace hA:TotA v30 wr w0 W b0 (TL.take (k+1)):=hA;clear h0;clear hd;simp only [putAll] at hA |-;unfold relAt;go_simp;simp only [relUpon];first | exact ⟨rfl,hA⟩ | exact ⟨trivial,hA⟩ | exact hA
      . intro vs wq hvs hZ hI
        match vs,hvs,hZ,hI with
        | [v0,v1,v2,v3,v4,v5,v6,v7,v8,v9,v10,v11,v12,v13,v14,v15,v16,v17,v18,v19,v20,v21,v22,v23,v24,v25,v26,v27,v28,v29,v30,v31],_,hZ,hI =>
         replace hZ:v31=v30/\TotA v30 wq w0 W b0 (TL.take (k+1)):=hZ;have d0:v0=.slice oo k oc:=hI 0 (by decide) rfl;subst d0;have d1:v1=.pointer (some ⟨b,0,none⟩):=hI 1 (by decide) rfl;subst d1;have d2:v2=.pointer (some ⟨b,0,none⟩):=hI 2 (by decide) rfl;subst d2;have d3:v3=.pointer (some ⟨b,0,none⟩):=hI 3 (by decide) rfl;subst d3;have d5:v5=.pointer (some ⟨b,0,none⟩):=hI 5 (by decide) rfl;subst d5;have d6:v6=.pointer (some ⟨b,0,none⟩):=hI 6 (by decide) rfl;subst d6;have d7:v7=.pointer (some ⟨b,2,none⟩):=hI 7 (by decide) rfl;subst d7;have d9:v9=.int .i64 k:=hI 9 (by decide) rfl;subst d9;have d14:v14=.pointer (some ⟨b,0,none⟩):=hI 14 (by decide) rfl;subst d14;have d15:v15=.pointer (some ⟨b,0,none⟩):=hI 15 (by decide) rfl;subst d15;have d16:v16=.pointer (some ⟨b,0,none⟩):=hI 16 (by decide) rfl;subst d16;have d17:v17=.pointer (some ⟨b,2,none⟩):=hI 17 (by decide) rfl;subst d17;have d19:v19=.int .i64 k:=hI 19 (by decide) rfl;subst d19;have d22:v22=.pointer (some ⟨b,0,none⟩):=hI 22 (by decide) rfl;subst d22;have d23:v23=.int .i64 k:=hI 23 (by decide) rfl;subst d23;clear hI;simp only [putAll];go_simp;obtain ⟨hzv,hZ⟩:=hZ;subst hzv;obtain ⟨ao9,c9,hv9⟩:=hZ.1.shape;rw [show (TL.take (k+1)).length=k+1 from by rw [Hnext.out,zE,Hlk.out];rfl] at hv9;subst hv9;have HZ:=hid hZ;clear hZ;go_wp2;go_roundw
         case rel=>exact ⟨k+1,_,_,by omega,by go_num,rfl,HZ⟩
         case measure=>simp [intOf];omega
    . obtain rfl:k=m:=by omega
      obtain ⟨ho,hbl2,hag,hown⟩:=HA.out;have hTlen:TL.length=k:=by rw [HTL.out,totD_len,<- HG.out];exact Hm.out.symm
      rw [zH (by omega)] at ho;have hF:FrS RdTz (fun k=>k<w0.heap.size) W9 (.slice oo k oc) TL:=by
       intro w' hA;have h1:=OwnT.agr (Own.top ho) hA (fun q hq (hS:q<w0.heap.size)=>by have:=(ho.lt q hq).1;omega);exact h1.1.rds
      have HF:=hid hF;have HB:=hid hbl2;clear hF hbl2 hag hown ho hTlen hRw hbl;go_wp2;go_ret2;first | exact ⟨⟨_,rfl,fun _=>HF.out⟩,HB.out⟩ | exact ⟨⟨_,rfl,HF.out⟩,HB.out⟩
 . have H0:=hid h0
   have hC1:(R != 0)=true:=by simpa using h0
   clear hr h0;go_wp2;go_ret2;exact ⟨⟨.slice none 0 0,by first | done | rfl,fun h=>absurd h H0.out⟩,Hb4.out⟩
theorem l16Code_c {d:List (List Int)} {x:SpecT} {v:Value} {w:World} {A g:Nat} (hg:Box w g (cSpec x)) (hd:RdInt64SS A w v d) (hx:Spec13 x) (hD:Deck13 d) :
 Calls Tryz.prog 127 #[.pointer (some ⟨g,0,none⟩),v] w fun e w'=>e=.returned (.int .i64 0)/\Below w.heap.size w w':=by
 have hdk:=l02Deck_c hd;rw [hD.ok] at hdk;have Hdk:=hid hdk;have Hd:=hid hd;have Hx:=hid hx;have HG:=hid hg;have hcb:=colsD_bd hD.ok;have hc5:=hD.cols5;obtain ⟨vo,vc,rfl⟩:=hd.shape;clear hdk hd hx hg hD;generalize hcc:colsD d=cc at hcb hc5;have Hcc:=hid hcc;clear hcc;obtain ⟨dl,hdl⟩:∃ dl,dl=d.length:=⟨_,rfl⟩;rw [<- hdl] at Hdk Hd |-;clear hdl;go_enter Tryz.func127,Tryz.ntmps127;go_wp2_with fail;with_reducible refine Hdk.out.mono ?_
 rintro e w1 ⟨rfl,m,rfl⟩;have hdr:Below w.heap.size w (w.drewN m):=⟨rfl,rfl,rfl,zA _,fun _ _=>rfl⟩;have Hd1:=hid (RdInt64SS.onn Hd.out hdr);have HG1:=hid (HG.out.drewN m);have Hb1:Hid (Below w.heap.size w (w.drewN m)):=hid hdr;clear hdr;generalize hW1:w.drewN m=w1 at *
 clear hW1;go_wp2_with fail;with_reducible refine (l07Width_c Hd1.out).mono ?_
 rw [Hcc.out];rintro e w2 ⟨rfl,rfl⟩;go_wp2_with fail;with_reducible refine (l16Ok_c HG1.out Hx.out ⟨hc5,hcb.2⟩).mono ?_
 rintro e w3 ⟨rfl,hb3⟩;have Hb3:=hid (Hb1.out.trans (hb3.mono Hb1.out.size));clear hb3;go_wp2;go_ret;exact ⟨rfl,Hb3.out⟩
theorem l16Cards_c {d:List (List Int)} {x:SpecT} {v:Value} {w:World} {A g:Nat} (hg:Box w g (cSpec x)) (hd:RdInt64SS A w v d) (hx:Spec13 x) (hD:Deck13 d) :
 Calls Tryz.prog 88 #[.pointer (some ⟨g,0,none⟩),v] w fun e w'=>(∃ r,e=.returned (.tuple #[r,.int .i64 0])/\RdInt64SS w'.heap.size w' r (selX x d))/\Below w.heap.size w w':=by
 have hcd:=l16Code_c hg hd hx hD;have Hcd:=hid hcd;have Hd:=hid hd;have Hx:=hid hx;have HG:=hid hg;have HD:=hid hD;obtain ⟨S,hS⟩:∃ S,S=selX x d:=⟨_,rfl⟩;rw [<- hS];have HS:=hid hS;obtain ⟨wf,wt,tx,gf,gt,sf,st⟩:=x;obtain ⟨vo,vc,rfl⟩:=hd.shape;clear hcd hd hx hg hD hS;obtain ⟨dl,hdl⟩:∃ dl,dl=d.length:=⟨_,rfl⟩;rw [<- hdl] at Hcd Hd |-;clear hdl;go_enter Tryz.func88,Tryz.ntmps88;go_wp2_with fail;with_reducible refine Hcd.out.mono ?_
 rintro e w2 ⟨rfl,hb2⟩;have Hd2:=hid (RdInt64SS.onn Hd.out hb2);have hG2:=HG.out.on hb2;have y0:=hG2.cell 0 _ rfl;have y1:=hG2.cell 1 _ rfl;have y2:=hG2.cell 2 _ rfl;simp only at y0 y1 y2;have Hb2:=hid hb2;clear hb2 hG2;by_cases h0:tx.size=0
 . have he:=txt_empty h0
   have Hcp:=hid (l02Copy_c Hd2.out (yAV HD.out.ok));have HSd:Hid (S=d):=hid (by rw [HS.out];unfold selX;rw [if_pos h0]);go_wp2_with fail;with_reducible refine Hcp.out.mono ?_
   rintro e w3 ⟨⟨r,rfl,hr⟩,hb3⟩;have HR:Hid (RdInt64SS w3.heap.size w3 r S):=hid (by rw [HSd.out];exact OwnCardS.rds hr);have Hb3:=hid (Hb2.out.trans (hb3.mono Hb2.out.size));obtain ⟨ro,rc,hsr⟩:=(OwnCardS.rds hr).shape;subst hsr;clear hr hb3;go_wp2;go_ret2;exact ⟨⟨_,rfl,HR.out⟩,Hb3.out⟩
 . have hw:=Hx.out.whr h0
   simp only at hw;have he:=txt_full h0;have hsel:∀ w',Below w2.heap.size w2 w'->Calls Tryz.prog 129 #[.slice vo dl vc,.agg #[.int .i64 wf,.int .i64 wt],.string tx] w' fun e w''=>(∃ r,e=.returned (.tuple #[r,.int .i64 0])/\RdInt64SS w''.heap.size w'' r S)/\Below w'.heap.size w' w'':=fun w' hb'=>by
    refine (sSelectEqual_c (f:=wf) (t:=wt) (s:=tx) (RdInt64SS.onn Hd2.out hb') (by omega) (by omega) hw.2.1).mono ?_;have hsc:=HD.out.sortC hw.2.2;rw [hsc];rintro e w9 ⟨⟨r,rfl,h9⟩,hb9⟩;obtain ⟨y,hy,hfr⟩:=h9 rfl;refine ⟨⟨r,rfl,?_⟩,hb9⟩;have e1:S=y:=by rw [HS.out,hy];unfold selX;rw [if_neg h0]
    rw [e1];exact FrD.rds hfr
   have Hsel:=hid hsel;clear hw hsel;go_upto_region 6 with fail;refine yAZ (fun i v w=>match i with | 0=>v=.slice vo dl vc | 1=>v=.pointer (some ⟨g,0,none⟩) | 2=>v=.pointer (some ⟨g,0,none⟩) | 3=>v=.pointer (some ⟨g,0,none⟩) | 4=>v=.agg #[.int .i64 wf,.int .i64 wt] | 5=>v=.pointer (some ⟨g,0,none⟩) | 6=>v=.pointer (some ⟨g,0,none⟩) | 7=>v=.pointer (some ⟨g,2,none⟩) | 8=>v=.string tx | 9=>∃ r,v=.tuple #[r,.int .i64 0]/\RdInt64SS w.heap.size w r S | 10=>RdInt64SS w.heap.size w v S | 11=>v=.int .i64 0 | 12=>RdInt64SS w.heap.size w v S | 13=>v=.int .i64 0 | _=>True) (by kernel_rfl) (by kernel_rfl) (by kernel_rfl) ?_ ?_ ?_
   . intro i v w w' h hb
     iterate 14 (obtain _ | i:=i;· first | exact h | (obtain ⟨r,h1,h2⟩:=h;exact ⟨r,h1,RdInt64SS.onn h2 hb⟩) | exact RdInt64SS.onn h hb)
     exact h
   . intro vs hvs
     match vs,hvs with
     | [v0,v1,v2,v3,v4,v5,v6,v7,v8,v9,v10,v11,v12,v13],_ =>
      refine ⟨?_,?_,?_,?_,?_,?_,?_,?_,?_,?_,?_,?_,?_,?_,trivial⟩
      . intro wr hC hd
        clear hd;unfold relAt;simp only [putAll];go_simp;simp only [relUpon];exact ⟨zB _ _,by first | rfl | trivial⟩
      . intro wr hC hd
        clear hd;unfold relAt;simp only [putAll];go_simp;simp only [relUpon];exact ⟨zB _ _,by first | rfl | trivial⟩
      . intro wr hC hd
        have d1:v1=.pointer (some ⟨g,0,none⟩):=by first | exact hd.1 rfl | exact hd.2.1 rfl | exact hd.2.2.1 rfl | exact hd.2.2.2.1 rfl | exact hd.2.2.2.2.1 rfl | exact hd.2.2.2.2.2.1 rfl | exact hd.2.2.2.2.2.2.1 rfl | exact hd.2.2.2.2.2.2.2.1 rfl | exact hd.2.2.2.2.2.2.2.2.1 rfl | exact hd.2.2.2.2.2.2.2.2.2.1 rfl
        subst d1;clear hd;unfold relAt;simp only [putAll];go_simp;simp only [relUpon];exact ⟨zB _ _,by first | rfl | trivial⟩
      . intro wr hC hd
        have d2:v2=.pointer (some ⟨g,0,none⟩):=by first | exact hd.1 rfl | exact hd.2.1 rfl | exact hd.2.2.1 rfl | exact hd.2.2.2.1 rfl | exact hd.2.2.2.2.1 rfl | exact hd.2.2.2.2.2.1 rfl | exact hd.2.2.2.2.2.2.1 rfl | exact hd.2.2.2.2.2.2.2.1 rfl | exact hd.2.2.2.2.2.2.2.2.1 rfl | exact hd.2.2.2.2.2.2.2.2.2.1 rfl
        subst d2;clear hd;unfold relAt;simp only [putAll];go_simp;simp only [relUpon];exact ⟨zB _ _,by first | rfl | trivial⟩
      . intro wr hC hd
        have d3:v3=.pointer (some ⟨g,0,none⟩):=by first | exact hd.1 rfl | exact hd.2.1 rfl | exact hd.2.2.1 rfl | exact hd.2.2.2.1 rfl | exact hd.2.2.2.2.1 rfl | exact hd.2.2.2.2.2.1 rfl | exact hd.2.2.2.2.2.2.1 rfl | exact hd.2.2.2.2.2.2.2.1 rfl | exact hd.2.2.2.2.2.2.2.2.1 rfl | exact hd.2.2.2.2.2.2.2.2.2.1 rfl
        subst d3;clear hd;have e0:=(hC.cell (p:=⟨g,0,none⟩) (World.block_lt_of_cell? _ _ y0)).trans y0;have e1:=(hC.cell (p:=⟨g,1,none⟩) (World.block_lt_of_cell? _ _ y1)).trans y1;unfold relAt;simp only [putAll];go_simp;simp only [relUpon];exact ⟨zB _ _,by first | rfl | trivial⟩
      . intro wr hC hd
        clear hd;unfold relAt;simp only [putAll];go_simp;simp only [relUpon];exact ⟨zB _ _,by first | rfl | trivial⟩
      . intro wr hC hd
        have d5:v5=.pointer (some ⟨g,0,none⟩):=by first | exact hd.1 rfl | exact hd.2.1 rfl | exact hd.2.2.1 rfl | exact hd.2.2.2.1 rfl | exact hd.2.2.2.2.1 rfl | exact hd.2.2.2.2.2.1 rfl | exact hd.2.2.2.2.2.2.1 rfl | exact hd.2.2.2.2.2.2.2.1 rfl | exact hd.2.2.2.2.2.2.2.2.1 rfl | exact hd.2.2.2.2.2.2.2.2.2.1 rfl
        subst d5;clear hd;unfold relAt;simp only [putAll];go_simp;simp only [relUpon];exact ⟨zB _ _,by first | rfl | trivial⟩
      . intro wr hC hd
        have d6:v6=.pointer (some ⟨g,0,none⟩):=by first | exact hd.1 rfl | exact hd.2.1 rfl | exact hd.2.2.1 rfl | exact hd.2.2.2.1 rfl | exact hd.2.2.2.2.1 rfl | exact hd.2.2.2.2.2.1 rfl | exact hd.2.2.2.2.2.2.1 rfl | exact hd.2.2.2.2.2.2.2.1 rfl | exact hd.2.2.2.2.2.2.2.2.1 rfl | exact hd.2.2.2.2.2.2.2.2.2.1 rfl
        subst d6;clear hd;unfold relAt;simp only [putAll];go_simp;simp only [relUpon];exact ⟨zB _ _,by first | rfl | trivial⟩
      . intro wr hC hd
        have d7:v7=.pointer (some ⟨g,2,none⟩):=by first | exact hd.1 rfl | exact hd.2.1 rfl | exact hd.2.2.1 rfl | exact hd.2.2.2.1 rfl | exact hd.2.2.2.2.1 rfl | exact hd.2.2.2.2.2.1 rfl | exact hd.2.2.2.2.2.2.1 rfl | exact hd.2.2.2.2.2.2.2.1 rfl | exact hd.2.2.2.2.2.2.2.2.1 rfl | exact hd.2.2.2.2.2.2.2.2.2.1 rfl
        subst d7;clear hd;have e0:=(hC.cell (p:=⟨g,2,none⟩) (World.block_lt_of_cell? _ _ y2)).trans y2;unfold relAt;simp only [putAll];go_simp;simp only [relUpon];exact ⟨zB _ _,by first | rfl | trivial⟩
      . intro wr hC hd
        have d0:v0=.slice vo dl vc:=by first | exact hd.1 rfl | exact hd.2.1 rfl | exact hd.2.2.1 rfl | exact hd.2.2.2.1 rfl | exact hd.2.2.2.2.1 rfl | exact hd.2.2.2.2.2.1 rfl | exact hd.2.2.2.2.2.2.1 rfl | exact hd.2.2.2.2.2.2.2.1 rfl | exact hd.2.2.2.2.2.2.2.2.1 rfl | exact hd.2.2.2.2.2.2.2.2.2.1 rfl
        subst d0;have d4:v4=.agg #[.int .i64 wf,.int .i64 wt]:=by first | exact hd.1 rfl | exact hd.2.1 rfl | exact hd.2.2.1 rfl | exact hd.2.2.2.1 rfl | exact hd.2.2.2.2.1 rfl | exact hd.2.2.2.2.2.1 rfl | exact hd.2.2.2.2.2.2.1 rfl | exact hd.2.2.2.2.2.2.2.1 rfl | exact hd.2.2.2.2.2.2.2.2.1 rfl | exact hd.2.2.2.2.2.2.2.2.2.1 rfl
        subst d4;have d8:v8=.string tx:=by first | exact hd.1 rfl | exact hd.2.1 rfl | exact hd.2.2.1 rfl | exact hd.2.2.2.1 rfl | exact hd.2.2.2.2.1 rfl | exact hd.2.2.2.2.2.1 rfl | exact hd.2.2.2.2.2.2.1 rfl | exact hd.2.2.2.2.2.2.2.1 rfl | exact hd.2.2.2.2.2.2.2.2.1 rfl | exact hd.2.2.2.2.2.2.2.2.2.1 rfl
        subst d8;clear hd;unfold relAt;simp only [putAll];go_simp;simp only [relUpon];with_reducible refine (Hsel.out wr hC).mono ?_
        rintro e w9 ⟨⟨r,rfl,hr⟩,hb9⟩;exact ⟨_,rfl,hb9,r,rfl,hr⟩
      . intro wr hC hd
        have d9:∃ r,v9=.tuple #[r,.int .i64 0]/\RdInt64SS wr.heap.size wr r S:=by first | exact hd.1 rfl | exact hd.2.1 rfl | exact hd.2.2.1 rfl | exact hd.2.2.2.1 rfl | exact hd.2.2.2.2.1 rfl | exact hd.2.2.2.2.2.1 rfl | exact hd.2.2.2.2.2.2.1 rfl | exact hd.2.2.2.2.2.2.2.1 rfl | exact hd.2.2.2.2.2.2.2.2.1 rfl | exact hd.2.2.2.2.2.2.2.2.2.1 rfl
        clear hd;have h8:=d9.choose_spec.1;have h9:=d9.choose_spec.2;generalize d9.choose=r9 at h8 h9;clear d9;subst h8;unfold relAt;simp only [putAll];go_simp;simp only [relUpon];exact ⟨zB _ _,h9⟩
      . intro wr hC hd
        have d9:∃ r,v9=.tuple #[r,.int .i64 0]/\RdInt64SS wr.heap.size wr r S:=by first | exact hd.1 rfl | exact hd.2.1 rfl | exact hd.2.2.1 rfl | exact hd.2.2.2.1 rfl | exact hd.2.2.2.2.1 rfl | exact hd.2.2.2.2.2.1 rfl | exact hd.2.2.2.2.2.2.1 rfl | exact hd.2.2.2.2.2.2.2.1 rfl | exact hd.2.2.2.2.2.2.2.2.1 rfl | exact hd.2.2.2.2.2.2.2.2.2.1 rfl
        clear hd;have h8:=d9.choose_spec.1;have h9:=d9.choose_spec.2;generalize d9.choose=r9 at h8 h9;clear d9;subst h8;unfold relAt;simp only [putAll];go_simp;simp only [relUpon];exact ⟨zB _ _,by first | rfl | trivial⟩
      . intro wr hC hd
        have d10:RdInt64SS wr.heap.size wr v10 S:=by first | exact hd.1 rfl | exact hd.2.1 rfl | exact hd.2.2.1 rfl | exact hd.2.2.2.1 rfl | exact hd.2.2.2.2.1 rfl | exact hd.2.2.2.2.2.1 rfl | exact hd.2.2.2.2.2.2.1 rfl | exact hd.2.2.2.2.2.2.2.1 rfl | exact hd.2.2.2.2.2.2.2.2.1 rfl | exact hd.2.2.2.2.2.2.2.2.2.1 rfl
        clear hd;unfold relAt;simp only [putAll];go_simp;simp only [relUpon];exact ⟨zB _ _,d10⟩
      . intro wr hC hd
        have d11:v11=.int .i64 0:=by first | exact hd.1 rfl | exact hd.2.1 rfl | exact hd.2.2.1 rfl | exact hd.2.2.2.1 rfl | exact hd.2.2.2.2.1 rfl | exact hd.2.2.2.2.2.1 rfl | exact hd.2.2.2.2.2.2.1 rfl | exact hd.2.2.2.2.2.2.2.1 rfl | exact hd.2.2.2.2.2.2.2.2.1 rfl | exact hd.2.2.2.2.2.2.2.2.2.1 rfl
        subst d11;clear hd;unfold relAt;simp only [putAll];go_simp;simp only [relUpon];exact ⟨zB _ _,by first | rfl | trivial⟩
   . intro vs wq hvs hC hI
     match vs,hvs,hI with
     | [v0,v1,v2,v3,v4,v5,v6,v7,v8,v9,v10,v11,v12,v13],_,hI =>
      have d0:v0=.slice vo dl vc:=hI 0 (by decide);subst d0;have d1:v1=.pointer (some ⟨g,0,none⟩):=hI 1 (by decide);subst d1;have d2:v2=.pointer (some ⟨g,0,none⟩):=hI 2 (by decide);subst d2;have d3:v3=.pointer (some ⟨g,0,none⟩):=hI 3 (by decide);subst d3;have d4:v4=.agg #[.int .i64 wf,.int .i64 wt]:=hI 4 (by decide);subst d4;have d5:v5=.pointer (some ⟨g,0,none⟩):=hI 5 (by decide);subst d5;have d6:v6=.pointer (some ⟨g,0,none⟩):=hI 6 (by decide);subst d6;have d7:v7=.pointer (some ⟨g,2,none⟩):=hI 7 (by decide);subst d7;have d8:v8=.string tx:=hI 8 (by decide);subst d8;have d9:∃ r,v9=.tuple #[r,.int .i64 0]/\RdInt64SS wq.heap.size wq r S:=hI 9 (by decide);have d10:RdInt64SS wq.heap.size wq v10 S:=hI 10 (by decide);have d11:v11=.int .i64 0:=hI 11 (by decide);subst d11;have d12:RdInt64SS wq.heap.size wq v12 S:=hI 12 (by decide);have d13:v13=.int .i64 0:=hI 13 (by decide);subst d13;clear hI;simp only [putAll];go_simp;have HR:=hid d12;have Hb3:=hid (Hb2.out.trans (hC.mono Hb2.out.size));obtain ⟨ro,rc,hsr⟩:=d12.shape;subst hsr;clear d9 d10 d12 hC hvs;go_wp2;go_ret2;exact ⟨⟨_,rfl,HR.out⟩,Hb3.out⟩
theorem l16Eval_c {d:List (List Int)} {x:SpecT} {v:Value} {w:World} {A g:Nat} (hg:Box w g (cSpec x)) (hd:RdInt64SS A w v d) (hx:Spec13 x) (hD:Deck13 d) :
 Calls Tryz.prog 44 #[.pointer (some ⟨g,0,none⟩),v] w fun e w'=>(∃ r,e=.returned (.tuple #[r,.int .i64 0])/\RdTs w'.heap.size w' r (totX x d))/\Below w.heap.size w w':=by
 have hcd:=l16Cards_c hg hd hx hD;have Hcd:=hid hcd;have Hx:=hid hx;have HG:=hid hg;have HD:=hid hD;obtain ⟨S,hS⟩:∃ S,S=selX x d:=⟨_,rfl⟩;obtain ⟨Z,hZ⟩:∃ Z,Z=srtX x d:=⟨_,rfl⟩;obtain ⟨L,hL⟩:∃ L,L=totX x d:=⟨_,rfl⟩;have HDS:Hid (Deck13 S):=hid (by rw [hS];exact hD.sel x);have HDZ:Hid (Deck13 Z):=hid (by rw [hZ];exact hD.srt x);have HZe:Hid (Z=pickD S (ordD S x.gf x.gt)):=hid (by rw [hZ,hS];rfl);have HLe:Hid (L=totD Z x.gf x.gt x.sf x.st):=hid (by rw [hL,hZ];rfl);rw [<- hS] at Hcd;rw [<- hL];obtain ⟨wf,wt,tx,gf,gt,sf,st⟩:=x;obtain ⟨vo,vc,rfl⟩:=hd.shape;have hgrp:=hx.grp;simp only at hgrp HZe HLe;clear hcd hd hx hg hD hS hZ hL;generalize d.length=dl at *
 go_enter Tryz.func44,Tryz.ntmps44;go_wp2_with fail;with_reducible refine Hcd.out.mono ?_
 rintro e w2 ⟨⟨r,rfl,hr⟩,hb2⟩;have hG2:=HG.out.on hb2;have x3:=hG2.cell 3 _ rfl;have x4:=hG2.cell 4 _ rfl;simp only at x3 x4;have hso:=sSortedBy_c (f:=gf) (t:=gt) hr;rw [HDS.out.sortC hgrp.1] at hso;have Hso:=hid hso;have HG2:=hid hG2;have Hb2:=hid hb2;obtain ⟨ro,rc,hsr⟩:=hr.shape;subst hsr;generalize S.length=sl at *
 clear hb2 hG2 hr hso;go_wp2_with fail;with_reducible refine Hso.out.mono ?_
 rintro e w4 ⟨⟨z,rfl,h9⟩,hb4⟩;obtain ⟨y,hy,hfr⟩:=h9 rfl;have HZ:Hid (RdInt64SS w4.heap.size w4 z Z):=hid (by rw [HZe.out,<- hy];exact FrD.rds hfr);have hG4:=HG2.out.on hb4;have y3:=hG4.cell 3 _ rfl;have y4:=hG4.cell 4 _ rfl;have y5:=hG4.cell 5 _ rfl;have y6:=hG4.cell 6 _ rfl;simp only at y3 y4 y5 y6;have Hb4:=hid (Hb2.out.trans (hb4.mono Hb2.out.size));have hsum:∀ (w':World) (u:Value),RdInt64SS w'.heap.size w' u Z->Calls Tryz.prog 89 #[u,.agg #[.int .i64 gf,.int .i64 gt],.agg #[.int .i64 sf,.int .i64 st]] w' fun e w''=>(∃ r,e=.returned (.tuple #[r,.int .i64 0])/\RdTs w''.heap.size w'' r L)/\Below w'.heap.size w' w'':=fun w' u hu=>by
  refine (l15Sums_c (f:=gf) (t:=gt) (sf:=sf) (st:=st) hu HDZ.out.ok (HDZ.out.field (by omega)) (HDZ.out.field (by omega)) (by omega)).mono ?_;rw [HDZ.out.totC hgrp.1 hgrp.2];rintro e w9 ⟨⟨r,rfl,h9⟩,hb9⟩;refine ⟨⟨r,rfl,?_⟩,hb9⟩;rw [HLe.out];exact FrS.now (R:=RdTz) (h9 rfl)
 have Hsum:=hid hsum;clear h9 hy hfr hb4 hG4 hsum x3 x4 hgrp;go_upto_region 7 with fail;refine yAZ (fun i v w=>match i with | 0=>RdInt64SS w.heap.size w v Z | 1=>v=.pointer (some ⟨g,0,none⟩) | 2=>v=.pointer (some ⟨g,0,none⟩) | 3=>v=.pointer (some ⟨g,3,none⟩) | 4=>v=.agg #[.int .i64 gf,.int .i64 gt] | 5=>v=.pointer (some ⟨g,0,none⟩) | 6=>v=.pointer (some ⟨g,0,none⟩) | 7=>v=.pointer (some ⟨g,5,none⟩) | 8=>v=.agg #[.int .i64 sf,.int .i64 st] | 9=>∃ r,v=.tuple #[r,.int .i64 0]/\RdTs w.heap.size w r L | 10=>RdTs w.heap.size w v L | 11=>v=.int .i64 0 | 12=>RdTs w.heap.size w v L | 13=>v=.int .i64 0 | _=>True) (by kernel_rfl) (by kernel_rfl) (by kernel_rfl) ?_ ?_ ?_
 . intro i v w w' h hb
   iterate 14 (obtain _ | i:=i;· first | exact h | exact RdInt64SS.onn h hb | (obtain ⟨r,h1,h2⟩:=h;exact ⟨r,h1,Rds.onn h2 hb⟩) | exact Rds.onn h hb)
   exact h
 . intro vs hvs
   match vs,hvs with
   | [v0,v1,v2,v3,v4,v5,v6,v7,v8,v9,v10,v11,v12,v13],_ =>
    refine ⟨?_,?_,?_,?_,?_,?_,?_,?_,?_,?_,?_,?_,?_,?_,trivial⟩
    . intro wr hC hd
      clear hd;unfold relAt;simp only [putAll];go_simp;simp only [relUpon];exact ⟨zB _ _,RdInt64SS.onn HZ.out hC⟩
    . intro wr hC hd
      clear hd;unfold relAt;simp only [putAll];go_simp;simp only [relUpon];exact ⟨zB _ _,by first | rfl | trivial⟩
    . intro wr hC hd
      have d1:v1=.pointer (some ⟨g,0,none⟩):=by first | exact hd.1 rfl | exact hd.2.1 rfl | exact hd.2.2.1 rfl | exact hd.2.2.2.1 rfl | exact hd.2.2.2.2.1 rfl | exact hd.2.2.2.2.2.1 rfl | exact hd.2.2.2.2.2.2.1 rfl | exact hd.2.2.2.2.2.2.2.1 rfl | exact hd.2.2.2.2.2.2.2.2.1 rfl | exact hd.2.2.2.2.2.2.2.2.2.1 rfl
      subst d1;clear hd;unfold relAt;simp only [putAll];go_simp;simp only [relUpon];exact ⟨zB _ _,by first | rfl | trivial⟩
    . intro wr hC hd
      have d2:v2=.pointer (some ⟨g,0,none⟩):=by first | exact hd.1 rfl | exact hd.2.1 rfl | exact hd.2.2.1 rfl | exact hd.2.2.2.1 rfl | exact hd.2.2.2.2.1 rfl | exact hd.2.2.2.2.2.1 rfl | exact hd.2.2.2.2.2.2.1 rfl | exact hd.2.2.2.2.2.2.2.1 rfl | exact hd.2.2.2.2.2.2.2.2.1 rfl | exact hd.2.2.2.2.2.2.2.2.2.1 rfl
      subst d2;clear hd;unfold relAt;simp only [putAll];go_simp;simp only [relUpon];exact ⟨zB _ _,by first | rfl | trivial⟩
    . intro wr hC hd
      have d3:v3=.pointer (some ⟨g,3,none⟩):=by first | exact hd.1 rfl | exact hd.2.1 rfl | exact hd.2.2.1 rfl | exact hd.2.2.2.1 rfl | exact hd.2.2.2.2.1 rfl | exact hd.2.2.2.2.2.1 rfl | exact hd.2.2.2.2.2.2.1 rfl | exact hd.2.2.2.2.2.2.2.1 rfl | exact hd.2.2.2.2.2.2.2.2.1 rfl | exact hd.2.2.2.2.2.2.2.2.2.1 rfl
      subst d3;clear hd;have e0:=(hC.cell (p:=⟨g,3,none⟩) (World.block_lt_of_cell? _ _ y3)).trans y3;have e1:=(hC.cell (p:=⟨g,4,none⟩) (World.block_lt_of_cell? _ _ y4)).trans y4;unfold relAt;simp only [putAll];go_simp;simp only [relUpon];exact ⟨zB _ _,by first | rfl | trivial⟩
    . intro wr hC hd
      clear hd;unfold relAt;simp only [putAll];go_simp;simp only [relUpon];exact ⟨zB _ _,by first | rfl | trivial⟩
    . intro wr hC hd
      have d5:v5=.pointer (some ⟨g,0,none⟩):=by first | exact hd.1 rfl | exact hd.2.1 rfl | exact hd.2.2.1 rfl | exact hd.2.2.2.1 rfl | exact hd.2.2.2.2.1 rfl | exact hd.2.2.2.2.2.1 rfl | exact hd.2.2.2.2.2.2.1 rfl | exact hd.2.2.2.2.2.2.2.1 rfl | exact hd.2.2.2.2.2.2.2.2.1 rfl | exact hd.2.2.2.2.2.2.2.2.2.1 rfl
      subst d5;clear hd;unfold relAt;simp only [putAll];go_simp;simp only [relUpon];exact ⟨zB _ _,by first | rfl | trivial⟩
    . intro wr hC hd
      have d6:v6=.pointer (some ⟨g,0,none⟩):=by first | exact hd.1 rfl | exact hd.2.1 rfl | exact hd.2.2.1 rfl | exact hd.2.2.2.1 rfl | exact hd.2.2.2.2.1 rfl | exact hd.2.2.2.2.2.1 rfl | exact hd.2.2.2.2.2.2.1 rfl | exact hd.2.2.2.2.2.2.2.1 rfl | exact hd.2.2.2.2.2.2.2.2.1 rfl | exact hd.2.2.2.2.2.2.2.2.2.1 rfl
      subst d6;clear hd;unfold relAt;simp only [putAll];go_simp;simp only [relUpon];exact ⟨zB _ _,by first | rfl | trivial⟩
    . intro wr hC hd
      have d7:v7=.pointer (some ⟨g,5,none⟩):=by first | exact hd.1 rfl | exact hd.2.1 rfl | exact hd.2.2.1 rfl | exact hd.2.2.2.1 rfl | exact hd.2.2.2.2.1 rfl | exact hd.2.2.2.2.2.1 rfl | exact hd.2.2.2.2.2.2.1 rfl | exact hd.2.2.2.2.2.2.2.1 rfl | exact hd.2.2.2.2.2.2.2.2.1 rfl | exact hd.2.2.2.2.2.2.2.2.2.1 rfl
      subst d7;clear hd;have e0:=(hC.cell (p:=⟨g,5,none⟩) (World.block_lt_of_cell? _ _ y5)).trans y5;have e1:=(hC.cell (p:=⟨g,6,none⟩) (World.block_lt_of_cell? _ _ y6)).trans y6;unfold relAt;simp only [putAll];go_simp;simp only [relUpon];exact ⟨zB _ _,by first | rfl | trivial⟩
    . intro wr hC hd
      have d0:RdInt64SS wr.heap.size wr v0 Z:=by first | exact hd.1 rfl | exact hd.2.1 rfl | exact hd.2.2.1 rfl | exact hd.2.2.2.1 rfl | exact hd.2.2.2.2.1 rfl | exact hd.2.2.2.2.2.1 rfl | exact hd.2.2.2.2.2.2.1 rfl | exact hd.2.2.2.2.2.2.2.1 rfl | exact hd.2.2.2.2.2.2.2.2.1 rfl | exact hd.2.2.2.2.2.2.2.2.2.1 rfl
      have d4:v4=.agg #[.int .i64 gf,.int .i64 gt]:=by first | exact hd.1 rfl | exact hd.2.1 rfl | exact hd.2.2.1 rfl | exact hd.2.2.2.1 rfl | exact hd.2.2.2.2.1 rfl | exact hd.2.2.2.2.2.1 rfl | exact hd.2.2.2.2.2.2.1 rfl | exact hd.2.2.2.2.2.2.2.1 rfl | exact hd.2.2.2.2.2.2.2.2.1 rfl | exact hd.2.2.2.2.2.2.2.2.2.1 rfl
      subst d4;have d8:v8=.agg #[.int .i64 sf,.int .i64 st]:=by first | exact hd.1 rfl | exact hd.2.1 rfl | exact hd.2.2.1 rfl | exact hd.2.2.2.1 rfl | exact hd.2.2.2.2.1 rfl | exact hd.2.2.2.2.2.1 rfl | exact hd.2.2.2.2.2.2.1 rfl | exact hd.2.2.2.2.2.2.2.1 rfl | exact hd.2.2.2.2.2.2.2.2.1 rfl | exact hd.2.2.2.2.2.2.2.2.2.1 rfl
      subst d8;clear hd;unfold relAt;simp only [putAll];go_simp;simp only [relUpon];with_reducible refine (Hsum.out wr _ d0).mono ?_
      rintro e w9 ⟨⟨r,rfl,hr⟩,hb9⟩;exact ⟨_,rfl,hb9,r,rfl,hr⟩
    . intro wr hC hd
      have d9:∃ r,v9=.tuple #[r,.int .i64 0]/\RdTs wr.heap.size wr r L:=by first | exact hd.1 rfl | exact hd.2.1 rfl | exact hd.2.2.1 rfl | exact hd.2.2.2.1 rfl | exact hd.2.2.2.2.1 rfl | exact hd.2.2.2.2.2.1 rfl | exact hd.2.2.2.2.2.2.1 rfl | exact hd.2.2.2.2.2.2.2.1 rfl | exact hd.2.2.2.2.2.2.2.2.1 rfl | exact hd.2.2.2.2.2.2.2.2.2.1 rfl
      clear hd;have h8:=d9.choose_spec.1;have h9:=d9.choose_spec.2;generalize d9.choose=r9 at h8 h9;clear d9;subst h8;unfold relAt;simp only [putAll];go_simp;simp only [relUpon];exact ⟨zB _ _,h9⟩
    . intro wr hC hd
      have d9:∃ r,v9=.tuple #[r,.int .i64 0]/\RdTs wr.heap.size wr r L:=by first | exact hd.1 rfl | exact hd.2.1 rfl | exact hd.2.2.1 rfl | exact hd.2.2.2.1 rfl | exact hd.2.2.2.2.1 rfl | exact hd.2.2.2.2.2.1 rfl | exact hd.2.2.2.2.2.2.1 rfl | exact hd.2.2.2.2.2.2.2.1 rfl | exact hd.2.2.2.2.2.2.2.2.1 rfl | exact hd.2.2.2.2.2.2.2.2.2.1 rfl
      clear hd;have h8:=d9.choose_spec.1;have h9:=d9.choose_spec.2;generalize d9.choose=r9 at h8 h9;clear d9;subst h8;unfold relAt;simp only [putAll];go_simp;simp only [relUpon];exact ⟨zB _ _,by first | rfl | trivial⟩
    . intro wr hC hd
      have d10:RdTs wr.heap.size wr v10 L:=by first | exact hd.1 rfl | exact hd.2.1 rfl | exact hd.2.2.1 rfl | exact hd.2.2.2.1 rfl | exact hd.2.2.2.2.1 rfl | exact hd.2.2.2.2.2.1 rfl | exact hd.2.2.2.2.2.2.1 rfl | exact hd.2.2.2.2.2.2.2.1 rfl | exact hd.2.2.2.2.2.2.2.2.1 rfl | exact hd.2.2.2.2.2.2.2.2.2.1 rfl
      clear hd;unfold relAt;simp only [putAll];go_simp;simp only [relUpon];exact ⟨zB _ _,d10⟩
    . intro wr hC hd
      have d11:v11=.int .i64 0:=by first | exact hd.1 rfl | exact hd.2.1 rfl | exact hd.2.2.1 rfl | exact hd.2.2.2.1 rfl | exact hd.2.2.2.2.1 rfl | exact hd.2.2.2.2.2.1 rfl | exact hd.2.2.2.2.2.2.1 rfl | exact hd.2.2.2.2.2.2.2.1 rfl | exact hd.2.2.2.2.2.2.2.2.1 rfl | exact hd.2.2.2.2.2.2.2.2.2.1 rfl
      subst d11;clear hd;unfold relAt;simp only [putAll];go_simp;simp only [relUpon];exact ⟨zB _ _,by first | rfl | trivial⟩
 . intro vs wq hvs hC hI
   match vs,hvs,hI with
   | [v0,v1,v2,v3,v4,v5,v6,v7,v8,v9,v10,v11,v12,v13],_,hI =>
    have d0:RdInt64SS wq.heap.size wq v0 Z:=hI 0 (by decide);have d1:v1=.pointer (some ⟨g,0,none⟩):=hI 1 (by decide);subst d1;have d2:v2=.pointer (some ⟨g,0,none⟩):=hI 2 (by decide);subst d2;have d3:v3=.pointer (some ⟨g,3,none⟩):=hI 3 (by decide);subst d3;have d4:v4=.agg #[.int .i64 gf,.int .i64 gt]:=hI 4 (by decide);subst d4;have d5:v5=.pointer (some ⟨g,0,none⟩):=hI 5 (by decide);subst d5;have d6:v6=.pointer (some ⟨g,0,none⟩):=hI 6 (by decide);subst d6;have d7:v7=.pointer (some ⟨g,5,none⟩):=hI 7 (by decide);subst d7;have d8:v8=.agg #[.int .i64 sf,.int .i64 st]:=hI 8 (by decide);subst d8;have d9:∃ r,v9=.tuple #[r,.int .i64 0]/\RdTs wq.heap.size wq r L:=hI 9 (by decide);have d10:RdTs wq.heap.size wq v10 L:=hI 10 (by decide);have d11:v11=.int .i64 0:=hI 11 (by decide);subst d11;have d12:RdTs wq.heap.size wq v12 L:=hI 12 (by decide);have d13:v13=.int .i64 0:=hI 13 (by decide);subst d13;clear hI;simp only [putAll];go_simp;have HR:=hid d12;have Hb5:=hid (Hb4.out.trans (hC.mono Hb4.out.size));clear d0 d9 d10 d12 hC hvs;go_wp2;go_ret2;exact ⟨⟨_,rfl,HR.out⟩,Hb5.out⟩
theorem EvalSpec_c {d:List (List Int)} {x:SpecT} {v:Value} {w:World} {A:Nat} (hd:RdInt64SS A w v d) (hx:Spec13 x) (hD:Deck13 d) :
 Calls Tryz.prog 15 #[vSpec x,v] w fun e w'=>(∃ r,e=.returned (.tuple #[r,.int .i64 0])/\RdTs w'.heap.size w' r (totX x d))/\Below w.heap.size w w':=by
 have hbW:Below w.heap.size w (w.alloc (.cells (cSpec x).toArray 38)):=(zB _ _).alloc (zA _) _;have Hev:=hid (l16Eval_c (Box.new w (cSpec x) 38) (RdInt64SS.onn hd hbW) hx hD);have HbW:=hid hbW;obtain ⟨vo,vc,rfl⟩:=hd.shape;obtain ⟨L,hL⟩:∃ L,L=totX x d:=⟨_,rfl⟩;rw [<- hL] at Hev |-;obtain ⟨wf,wt,tx,gf,gt,sf,st⟩:=x;generalize d.length=dl at *
 clear hd hx hD hbW hL;go_enter Tryz.func15,Tryz.ntmps15;go_wp2_with fail;with_reducible refine Hev.out.mono ?_
 rintro e w2 ⟨⟨r,rfl,hr⟩,hb2⟩;have HR:=hid hr;have Hb2:=hid (HbW.out.trans (hb2.mono HbW.out.size));clear hr hb2;go_wp2;go_ret2;exact ⟨⟨_,rfl,HR.out⟩,Hb2.out⟩
theorem sSameTotals_c {L:List TotalT} {u v:Value} {w:World} {A B:Nat} (ha:RdTs A w u L) (hb:RdTs B w v L) :
 Calls Tryz.prog 17 #[u,v] w fun e w'=>e=.returned (.bool true)/\Below w.heap.size w w':=by
 have Hcon:=hid (sSameTot_c ha hb);obtain ⟨ao,ac,rfl⟩:=ha.shape;obtain ⟨bo,bc,rfl⟩:=hb.shape;generalize L.length=n at *
 clear ha hb;go_enter Tryz.func17,Tryz.ntmps17;go_wp2_with fail;with_reducible refine Hcon.out.mono ?_
 rintro e w1 ⟨rfl,m,rfl⟩;have hb1:Below w.heap.size w (w.drewN m):=⟨rfl,rfl,rfl,zA _,fun _ _=>rfl⟩;go_wp2;go_ret;exact ⟨rfl,hb1⟩
theorem Tryz.infoTl:(Tryz.prog.info? 43).map (fun i=>(i.zero,i.size,i.bytes))=some (some (.slice none 0 0),1,24):=by kernel_rfl
structure CopyOk (o:OffT):Prop where
 nt:o.trays.length<=1000
 rows:∀ d∈o.trays,RowsOk d
 nl:o.totals.length<=1000
 lens:∀ l∈o.totals,l.length<=2097152
theorem OwnShape {base:Nat} {w:World} {v:Value} {l:List TotalT} {n:Nat} (h:Own eTotal 153 base w v l) (hn:l.length=n):∃ a c,v=.slice a n c/\Own eTotal 153 base w (.slice a n c) l:=by
 obtain ⟨a,c,e⟩:=h.shape;rw [hn] at e;exact ⟨a,c,e,by rw [<- e];exact h⟩
theorem agr2 (w:World) (g:Nat) (x y:Value):Agr (fun q=>q=g) w ((w.setCell ⟨g,0,none⟩ x).setCell ⟨g,1,none⟩ y):=(Agr.set (S:=fun q=>q=g) w ⟨g,0,none⟩ x rfl).trans (Agr.set (S:=fun q=>q=g) _ ⟨g,1,none⟩ y rfl) (fun k h _=>h)
theorem newOffice_o {o:OffT} {u v:Value} {w0:World} {B:Nat} (ho:RdOff B w0 u v o) (hk:CopyOk o) :
 Calls Tryz.prog 136 #[.agg #[u,v]] w0 fun e w'=>(∃ u' v',e=.returned (.agg #[u',v'])/\OwnO (fun q=>w0.heap.size<=q/\q<w'.heap.size) w' u' v' o)/\Below w0.heap.size w0 w':=by
 obtain ⟨i0,hi,hz0,hz1,hz2⟩:=info_parts Tryz.infoDk;obtain ⟨i1,ti,tz0,tz1,tz2⟩:=info_parts Tryz.infoTotal;obtain ⟨i2,si,sz0,sz1,sz2⟩:=info_parts Tryz.infoTl;have hot:=ho.tight;obtain ⟨uo0,uc0,rfl,hop⟩:=RdL.open rowK_D hot.1;obtain ⟨vo0,vc0,rfl,hop2⟩:=RdL.open rowK_T hot.2;obtain ⟨ts,ls⟩:=o;obtain ⟨po,hpo⟩:∃ po,po=[Value.slice uo0 ts.length uc0,Value.slice vo0 ls.length vc0]:=⟨_,rfl⟩;obtain ⟨T,hT⟩:∃ T,T=(w0.alloc (.cells #[.slice uo0 ts.length uc0,.slice vo0 ls.length vc0] 147)).alloc (.cells #[.slice none 0 0,.slice none 0 0] 147):=⟨_,rfl⟩;have z1:(w0.alloc (.cells #[.slice uo0 ts.length uc0,.slice vo0 ls.length vc0] 147)).heap.size=w0.heap.size+1:=by simp
 have hTz:T.heap.size=w0.heap.size+2:=by rw [hT];simp
 have hP:Box T w0.heap.size po:=by rw [hT,hpo];exact (Box.new w0 [Value.slice uo0 ts.length uc0,Value.slice vo0 ls.length vc0] _).alloc _
 have hR:Box T (w0.heap.size+1) [.slice none 0 0,.slice none 0 0]:=by
  have h:=Box.new (w0.alloc (.cells #[.slice uo0 ts.length uc0,.slice vo0 ls.length vc0] 147)) [.slice none 0 0,.slice none 0 0] 147;rw [z1,<- hT] at h;exact h
 have hbT:Below w0.heap.size w0 T:=by rw [hT];exact ((zB _ _).alloc (zA _) _).alloc (by rw [z1];omega) _
 obtain ⟨X0,hX0⟩:∃ X0,X0=T.heap.size+1+1:=⟨_,rfl⟩;obtain ⟨W,hW⟩:∃ W,W=((T.alloc (.cells #[] 24)).alloc (.cells #[] 43)).alloc (.cells #[.slice (some ⟨T.heap.size,0,none⟩) 0 0,.slice (some ⟨T.heap.size+1,0,none⟩) 0 0] 147):=⟨_,rfl⟩;have hS0:NewF w0 X0 po W (.slice (some ⟨T.heap.size,0,none⟩) 0 0) (.slice (some ⟨T.heap.size+1,0,none⟩) 0 0) (.slice (some ⟨T.heap.size,0,none⟩) 0 0) (.slice (some ⟨T.heap.size+1,0,none⟩) 0 0) ⟨[],[]⟩:=by
  have y1:(T.alloc (.cells #[] 24)).heap.size=T.heap.size+1:=by simp
  have y2:((T.alloc (.cells #[] 24)).alloc (.cells #[] 43)).heap.size=T.heap.size+1+1:=by simp
  have b1:Below T.heap.size T (T.alloc (.cells #[] 24)):=(zB _ _).alloc (zA _) _;have b2:Below (T.heap.size+1) (T.alloc (.cells #[] 24)) W:=by rw [hW,<- y1];exact ((zB _ _).alloc (zA _) _).alloc (by rw [y2,y1];omega) _
  have b3:Below (T.heap.size+1+1) ((T.alloc (.cells #[] 24)).alloc (.cells #[] 43)) W:=by rw [hW,<- y2];exact (zB _ _).alloc (zA _) _
  have o1:Own eS 24 w0.heap.size (T.alloc (.cells #[] 24)) (.slice (some ⟨T.heap.size,0,none⟩) 0 0) []:=Own.lit (E:=eS) (xs:=[]) (cs:=#[]) hbT.size rfl rfl (by decide) (fun x hx=>by cases hx);have o2:Own eS 43 w0.heap.size ((T.alloc (.cells #[] 24)).alloc (.cells #[] 43)) (.slice (some ⟨T.heap.size+1,0,none⟩) 0 0) []:=by
   have h:=Own.lit (E:=eS) (e:=43) (base:=w0.heap.size) (w:=T.alloc (.cells #[] 24)) (xs:=[]) (cs:=#[]) (n:=0) (by rw [y1];omega) rfl rfl (by decide) (fun x hx=>by cases hx);rw [y1] at h;exact h
  have hbx:Box W X0 [.slice (some ⟨T.heap.size,0,none⟩) 0 0,.slice (some ⟨T.heap.size+1,0,none⟩) 0 0]:=by
   have h:=Box.new ((T.alloc (.cells #[] 24)).alloc (.cells #[] 43)) [.slice (some ⟨T.heap.size,0,none⟩) 0 0,.slice (some ⟨T.heap.size+1,0,none⟩) 0 0] 147;rw [y2,<- hW,<- hX0] at h;exact h
  have hbW:Below T.heap.size T W:=b1.trans (b2.mono (by omega));have hWz:W.heap.size=T.heap.size+3:=by rw [hW];simp
  refine ⟨⟨fun k=>k=T.heap.size,fun k=>k=T.heap.size+1,OwnL.empty (o1.below b2 (by rw [y1];omega)) (fun q hq=>(zD hq).symm),OwnL.empty (o2.below b3 (by rw [y2];omega)) (fun q hq=>(zD hq).symm),fun k hk=>?_,fun k hk=>?_,fun k hk hk2=>?_⟩,hbx,hP.on hbW,hR.on hbW,hbT.trans (hbW.mono hbT.size),fun q hq=>?_,by omega⟩
  . have:k=T.heap.size:=hk
    omega
  . have:k=T.heap.size+1:=hk
    omega
  . have e1:k=T.heap.size:=hk
    have e2:k=T.heap.size+1:=hk2;omega
  . rcases hq with hq | hq
    . have e1:T.heap.size=q:=zD hq
      omega
    . have e1:T.heap.size+1=q:=zD hq
      omega
 have c0:=hS0.2.2.1.cell 0 _ (by rw [hpo];rfl);have HS0:=hid hS0;have HT:=hid hT;have HW:=hid hW;have HX0:=hid hX0;have Hpo:=hid hpo;have Hop:=hid hop;have Hop2:=hid hop2;have Hk:=hid hk;obtain ⟨vT,hv0⟩:∃ vT,vT=Value.slice (some ⟨T.heap.size+1,0,none⟩) 0 0:=⟨_,rfl⟩;rw [<- hv0] at HS0;have Hv0:=hid hv0;have hn1:=hk.nt;have hn2:=hk.nl;obtain ⟨n,hn⟩:∃ n,n=ts.length:=⟨_,rfl⟩;obtain ⟨m,hm⟩:∃ m,m=ls.length:=⟨_,rfl⟩;simp only [<- hn,<- hm] at Hop Hop2 HT Hpo c0 hn1 hn2 |-;have Hn:=hid hn;have Hm:=hid hm;clear ho hot hop hop2 hT z1 hTz hP hR hbT hW hS0 hk hpo hX0 hv0 hn hm;go_enter Tryz.func136,Tryz.ntmps136;go_upto_region 1 with fail;rw [<- HT.out];go_upto_region 2 with fail;rw [<- HW.out,<- HX0.out];go_wp2;go_loopw [14] (fun iv wr=>∃ (k:Nat) (uo:Option Addr) (uc:Nat),k<=n/\iv=.int .i64 k/\Hid (NewF w0 X0 po wr (.slice uo k uc) vT (.slice uo k uc) vT ⟨ts.take k,[]⟩)) (fun i _=>n - (intOf i).toNat)
 case atStart=>exact ⟨0,_,_,zK _,rfl,HS0⟩
 case round =>
  obtain ⟨k,uo,uc,hk,rfl,HS⟩:=hrel;clear HS0 c0;by_cases hkn:k<n
  . obtain ⟨b,off,rfl,hlt,hc⟩:=Hop.out (by omega)
    obtain ⟨d,ro,rc,hd,hcell,hrd⟩:=hc k hkn;have hs:=HS.out;have hbl:=hs.2.2.2.2.1;have d1:=(hbl.cell (p:=⟨b,off+k,none⟩) hlt.2).trans hcell;have hrw:=RdInt64SS.onn hrd hbl;have hro:=Hk.out.rows d (zC hd);have hnd:=fun (w:World) (hw:Below wr.heap.size wr w)=>newDeck_c (w:=w) (RdInt64SS.onn hrw hw) hro;obtain ⟨dl,hdl⟩:∃ dl,dl=d.length:=⟨_,rfl⟩;obtain ⟨W9,hW9⟩:∃ W9,W9=wr:=⟨_,rfl⟩;subst hW9;have Hnd:Hid (∀ (w:World),Below W9.heap.size W9 w->Calls Tryz.prog 75 #[.slice ro dl rc] w fun e w'=>(∃ a c,e=.returned (.slice a dl c)/\OwD W9.heap.size w' (.slice a dl c) d)/\Below w.heap.size w w'):=hid (fun w hw=>by
     have h:=hnd w hw;rw [<- hdl] at h;refine h.mono (fun e w' h=>⟨?_,h.2⟩);obtain ⟨r,he,hO⟩:=h.1;have hf:=(OwD.own hO).mono hw.size;obtain ⟨a,c,hs9⟩:=hf.shape;rw [<- hdl] at hs9;subst hs9;exact ⟨a,c,he,hf⟩)
    obtain ⟨hs1,hO,hhl,hfin⟩:=hs.appT;have hlk:(ts.take k).length=k:=by rw [zI];have:=Hn.out;omega
    have HO:=hid hO;have Hl:Hid (hs1.length<=1000):=hid (by rw [hhl];simp only [];rw [hlk];omega);have Hsz:Hid (w0.heap.size<=W9.heap.size):=hid hbl.size;have Hfin:=hid hfin;have Htl:Hid ((OffT.mk (ts.take k++[d]) []).trays.length=k+1):=hid (by show (ts.take k++[d]).length=k+1;rw [zE,hlk];rfl);have Htk:=hid (show ts.take (k+1)=ts.take k++[d] from yAD hd);have x0:=hs.2.1.cell 0 _ rfl;have x1:=hs.2.1.free 0;rw [<- hdl] at d1;clear hc hcell hrd hrw hro hnd hs hbl hO hhl hfin hlk hd hdl;go_upto_region 5 with fail;refine wp_region_app (W:=W9) (undef) 5 7 (fun i=>match i with | 0=>true | 2=>true | 6=>true | _=>false) (fun i v w=>match i with | 0=>v=.pointer (some ⟨X0,0,none⟩) | 1=>v=.slice uo k uc | 2=>v=.slice ro dl rc | 3=>∃ a c,v=.slice a dl c/\OwD W9.heap.size w (.slice a dl c) d | 4=>∃ y:SlV,Rds eS w.heap.size w v [y]/\OwD W9.heap.size w y.val d | 6=>v=.pointer (some ⟨X0,0,none⟩) | _=>True) (fun v w=>∃ a c,v=.slice a (k+1) c/\NewF w0 X0 po w (.slice uo k uc) vT (.slice a (k+1) c) vT ⟨ts.take k++[d],[]⟩) (fun x v w=>∃ a c,NewF w0 X0 po w (.slice a (k+1) c) vT (.slice a (k+1) c) vT ⟨ts.take k++[d],[]⟩) (by kernel_rfl) (by kernel_rfl) (by kernel_rfl) (by kernel_rfl) (by kernel_rfl) ?_ ?_ ?_ ?_
    . intro i v w w' h hb
      iterate 8 (obtain _ | i:=i;· first | exact h | (obtain ⟨a,c,h1,h2⟩:=h;exact ⟨a,c,h1,OwD.onB h2 hb⟩) | (obtain ⟨y,h1,h2⟩:=h;exact ⟨y,Rds.onn h1 hb,OwD.onB h2 hb⟩))
      exact h
    . intro i v w w' hp h
      iterate 8 (obtain _ | i:=i;· first | exact h | exact absurd hp (by decide))
      exact h
    . intro vs hvs
      match vs,hvs with
      | [v0,v1,v2,v3,v4,v5,v6,v7],_ =>
       refine ⟨?_,?_,?_,?_,?_,?_,?_,?_,trivial⟩
       . refine yAK ?_ ?_ ?_ ?_;exact (by decide);exact (by decide);kernel_rfl
         intro wr h0 hd;clear h0;clear hd;unfold relAt;simp only [putAll];go_simp;simp only [relUpon];trivial
       . refine yAI ?_ ?_ ?_ ?_;exact (by decide);exact (by decide);kernel_rfl
         intro wr h0 hC hd;clear h0;have d0:v0=.pointer (some ⟨X0,0,none⟩):=yAF 0 (by kernel_rfl) hd;subst d0;clear hd;have e:=(hC.cell (p:=⟨X0,0,none⟩) (World.block_lt_of_cell? _ _ x0)).trans x0;unfold relAt;simp only [putAll];go_simp;simp only [relUpon];exact ⟨zB _ _,by first | rfl | trivial⟩
       . refine yAK ?_ ?_ ?_ ?_;exact (by decide);exact (by decide);kernel_rfl
         intro wr h0 hd;clear h0;clear hd;unfold relAt;simp only [putAll];go_simp;simp only [relUpon];trivial
       . refine yAI ?_ ?_ ?_ ?_;exact (by decide);exact (by decide);kernel_rfl
         intro wr h0 hC hd;clear h0;have d2:v2=.slice ro dl rc:=yAF 2 (by kernel_rfl) hd;subst d2;clear hd;unfold relAt;simp only [putAll];go_simp;simp only [relUpon];with_reducible refine (Hnd.out wr hC).mono ?_
         rintro e w9 ⟨⟨a,c,rfl,hf9⟩,hb9⟩;exact ⟨_,rfl,hb9,a,c,rfl,hf9⟩
       . refine yAI ?_ ?_ ?_ ?_;exact (by decide);exact (by decide);kernel_rfl
         intro wr h0 hC hd;clear h0;have d3:∃ a c,v3=.slice a dl c/\OwD W9.heap.size wr (.slice a dl c) d:=yAF 3 (by kernel_rfl) hd;clear hd;have q1:=d3.choose_spec;generalize d3.choose=a9 at q1;clear d3;have q2:=q1.choose_spec;generalize q1.choose=c9 at q2;clear q1;have h8:=q2.1;have h9:=q2.2;clear q2;subst h8;unfold relAt;simp only [putAll];go_simp;simp only [relUpon];exact ⟨(zB _ _).alloc (zA _) _,⟨a9,dl,c9⟩,(yAH (E:=eS) (x:=⟨a9,dl,c9⟩) trivial rfl).mono (by simp),OwD.onB h9 ((zB _ _).alloc (zA _) _)⟩
       . refine appStep_p ?_ ?_;kernel_rfl
         intro wr h0 hC hd;clear h0;have d1:v1=.slice uo k uc:=yAF 1 (by kernel_rfl) hd;subst d1;have d4:∃ y:SlV,Rds eS wr.heap.size wr v4 [y]/\OwD W9.heap.size wr y.val d:=yAF 4 (by kernel_rfl) hd;clear hd;have q1:=d4.choose_spec;generalize d4.choose=y9 at q1;clear d4;simp only [putAll];refine relAt_appS (E:=eS) _ _ 131 rfl Tryz.underlying131 hi hz0 hz1 hz2 rfl (by decide) (by kernel_rfl) (by kernel_rfl) (HO.out.below hC (zA _)) q1.1 ?b1 ?b2 ?b3 ?b4
         case b1=>have:=Hl.out;unfold maxLen;simp;omega
         case b2=>have:=Hl.out;simp;omega
         case b3=>have:=hC.size;have:=Hsz.out;omega
         case b4=>exact fun v9 w9 ho9 hg9=>(Hfin.out wr y9 d hC q1.2 w9 v9 ho9 hg9).shT Htl.out
       . refine yAK ?_ ?_ ?_ ?_;exact (by decide);exact (by decide);kernel_rfl
         intro wr h0 hd;clear h0;clear hd;unfold relAt;simp only [putAll];go_simp;simp only [relUpon];trivial
       . refine appStep_s ?_ ?_ ?_;exact (by decide);kernel_rfl
         intro wr h0 hA hd;replace hA:∃ a c,v5=.slice a (k+1) c/\NewF w0 X0 po wr (.slice uo k uc) vT (.slice a (k+1) c) vT ⟨ts.take k++[d],[]⟩:=hA;clear h0;have d6:v6=.pointer (some ⟨X0,0,none⟩):=yAF 6 (by kernel_rfl) hd rfl;subst d6;clear hd;have q1:=hA.choose_spec;generalize hA.choose=a9 at q1;clear hA;have q2:=q1.choose_spec;generalize q1.choose=c9 at q2;clear q1;have h8:=q2.1;have h9:=q2.2;clear q2;subst h8;have f0:=h9.2.1.cell 0 _ rfl;have f1:=h9.2.1.free 0;have hfin:=h9.put 0 (.slice a9 (k+1) c9) (by omega) rfl;have Hfn:=hid hfin;clear hfin h9;unfold relAt;simp only [putAll];go_simp;simp only [relUpon];exact ⟨_,_,Hfn.out⟩
    . intro vs wq hvs hZ hI
      match vs,hvs,hZ,hI with
      | [v0,v1,v2,v3,v4,v5,v6,v7],_,hZ,hI =>
       replace hZ:∃ a c,NewF w0 X0 po wq (.slice a (k+1) c) vT (.slice a (k+1) c) vT ⟨ts.take k++[d],[]⟩:=hZ;have d0:v0=.pointer (some ⟨X0,0,none⟩):=hI 0 (by decide) rfl;subst d0;have d2:v2=.slice ro dl rc:=hI 2 (by decide) rfl;subst d2;have d6:v6=.pointer (some ⟨X0,0,none⟩):=hI 6 (by decide) rfl;subst d6;clear hI;simp only [putAll];go_simp;clear x0 x1 d1;obtain ⟨ua,uca,hZ⟩:=hZ;have Hs9:=hid hZ;clear hZ;go_wp2;go_roundw
       case rel=>exact ⟨k+1,_,_,by omega,by go_num,by rw [Htk.out];exact Hs9⟩
       case measure=>simp [intOf];omega
  . obtain rfl:k=n:=by omega
    obtain ⟨uF,huF⟩:∃ uF,uF=Value.slice uo k uc:=⟨_,rfl⟩;have HuF:=hid huF;have hs:=HS.out;rw [<- huF,zH (by have:=Hn.out;omega)] at hs;have q0:=hs.2.2.1.cell 1 _ (by rw [Hpo.out];rfl);have Hs0:Hid (NewF w0 X0 po wr uF vT uF vT ⟨ts,ls.take 0⟩):=hid hs;obtain ⟨vo2,vc2,hv2⟩:∃ a c,vT=.slice a 0 c:=⟨_,_,Hv0.out⟩;clear hs huF HS;subst hv2;go_wp2;go_loopw [29] (fun iv wr=>∃ (k:Nat) (lo2:Option Addr) (lc2:Nat),k<=m/\iv=.int .i64 k/\Hid (NewF w0 X0 po wr uF (.slice lo2 k lc2) uF (.slice lo2 k lc2) ⟨ts,ls.take k⟩)) (fun i _=>m - (intOf i).toNat)
    case atStart=>exact ⟨0,_,_,zK _,rfl,Hs0⟩
    case round =>
     obtain ⟨k,lo2,lc2,hk,rfl,HS⟩:=hrel;clear Hs0 q0;by_cases hkm:k<m
     . obtain ⟨b,off,rfl,hlt,hc⟩:=Hop2.out (by omega)
       obtain ⟨l,ro,rc,hl,hcell,hrd⟩:=hc k hkm;have hs:=HS.out;have hbl:=hs.2.2.2.2.1;have d1:=(hbl.cell (p:=⟨b,off+k,none⟩) hlt.2).trans hcell;have hrw:Rds eTotal wr.heap.size wr _ l:=Rds.onn hrd hbl;have hll:=Hk.out.lens l (zC hl);obtain ⟨ll,hlle⟩:∃ ll,ll=l.length:=⟨_,rfl⟩;obtain ⟨W9,hW9⟩:∃ W9,W9=wr:=⟨_,rfl⟩;subst hW9;rw [<- hlle] at hrw d1;have Hrd:=hid hrw;have Hll:=hid hll;have Hll2:=hid hlle.symm;obtain ⟨ks1,hO,hhl,hfin⟩:=hs.appL;have hlk:(ls.take k).length=k:=by rw [zI];have:=Hm.out;omega
       have HO:=hid hO;have Hl:Hid (ks1.length<=1000):=hid (by rw [hhl];simp only [];rw [hlk];omega);have Hsz:Hid (w0.heap.size<=W9.heap.size):=hid hbl.size;have Hfin:=hid hfin;have Htl:Hid ((OffT.mk ts (ls.take k++[l])).totals.length=k+1):=hid (by show (ls.take k++[l]).length=k+1;rw [zE,hlk];rfl);have Htk:=hid (show ls.take (k+1)=ls.take k++[l] from yAD hl);have x0:=hs.2.1.cell 0 _ rfl;have x1:=hs.2.1.cell 1 _ rfl;clear hc hcell hrd hrw hll hs hbl hO hhl hfin hlk hl hlle;go_upto_region 10 with fail;refine wp_region_app (W:=W9) (undef) 6 8 (fun i=>match i with | 0=>true | 3=>true | 7=>true | _=>false) (fun i v w=>match i with | 0=>v=.pointer (some ⟨X0,1,none⟩) | 1=>v=.slice lo2 k lc2 | 2=>∃ e0,v=.slice (some ⟨e0,0,none⟩) 0 0/\Own eTotal 153 W9.heap.size w (.slice (some ⟨e0,0,none⟩) 0 0) [] | 3=>v=.slice ro ll rc | 4=>∃ a c,v=.slice a ll c/\Own eTotal 153 W9.heap.size w (.slice a ll c) l | 5=>∃ y:SlV,Rds eS w.heap.size w v [y]/\Own eTotal 153 W9.heap.size w y.val l | 7=>v=.pointer (some ⟨X0,1,none⟩) | _=>True) (fun v w=>∃ a c,v=.slice a (k+1) c/\NewF w0 X0 po w uF (.slice lo2 k lc2) uF (.slice a (k+1) c) ⟨ts,ls.take k++[l]⟩) (fun x v w=>∃ a c,NewF w0 X0 po w uF (.slice a (k+1) c) uF (.slice a (k+1) c) ⟨ts,ls.take k++[l]⟩) (by kernel_rfl) (by kernel_rfl) (by kernel_rfl) (by kernel_rfl) (by kernel_rfl) ?_ ?_ ?_ ?_
       . intro i v w w' h hb
         iterate 9 (obtain _ | i:=i;· first | exact h | (obtain ⟨e0,h1,h2⟩:=h;exact ⟨e0,h1,h2.below hb (zA _)⟩) | (obtain ⟨a,c,h1,h2⟩:=h;exact ⟨a,c,h1,h2.below hb (zA _)⟩) | (obtain ⟨y,h1,h2⟩:=h;exact ⟨y,Rds.onn h1 hb,h2.below hb (zA _)⟩))
         exact h
       . intro i v w w' hp h
         iterate 9 (obtain _ | i:=i;· first | exact h | exact absurd hp (by decide))
         exact h
       . intro vs hvs
         match vs,hvs with
         | [v0,v1,v2,v3,v4,v5,v6,v7,v8],_ =>
          refine ⟨?_,?_,?_,?_,?_,?_,?_,?_,?_,trivial⟩
          . refine yAK ?_ ?_ ?_ ?_;exact (by decide);exact (by decide);kernel_rfl
            intro wr h0 hd;clear h0;clear hd;unfold relAt;simp only [putAll];go_simp;simp only [relUpon];trivial
          . refine yAI ?_ ?_ ?_ ?_;exact (by decide);exact (by decide);kernel_rfl
            intro wr h0 hC hd;clear h0;have d0:v0=.pointer (some ⟨X0,1,none⟩):=yAF 0 (by kernel_rfl) hd;subst d0;clear hd;have e:=(hC.cell (p:=⟨X0,1,none⟩) (World.block_lt_of_cell? _ _ x1)).trans x1;unfold relAt;simp only [putAll];go_simp;simp only [relUpon];exact ⟨zB _ _,by first | rfl | trivial⟩
          . refine yAI ?_ ?_ ?_ ?_;exact (by decide);exact (by decide);kernel_rfl
            intro wr h0 hC hd;clear h0;clear hd;unfold relAt;simp only [putAll];go_simp;simp only [relUpon];exact ⟨(zB _ _).alloc (zA _) _,_,rfl,Own.lit (E:=eTotal) (xs:=[]) (cs:=#[]) hC.size rfl rfl (by decide) (fun x hx=>by cases hx)⟩
          . refine yAK ?_ ?_ ?_ ?_;exact (by decide);exact (by decide);kernel_rfl
            intro wr h0 hd;clear h0;clear hd;unfold relAt;simp only [putAll];go_simp;simp only [relUpon];trivial
          . refine yAI ?_ ?_ ?_ ?_;exact (by decide);exact (by decide);kernel_rfl
            intro wr h0 hC hd;clear h0;have d2:∃ e0,v2=.slice (some ⟨e0,0,none⟩) 0 0/\Own eTotal 153 W9.heap.size wr (.slice (some ⟨e0,0,none⟩) 0 0) []:=yAF 2 (by kernel_rfl) hd;have d3:v3=.slice ro ll rc:=yAF 3 (by kernel_rfl) hd;subst d3;clear hd;have h8:=d2.choose_spec.1;have h9:=d2.choose_spec.2;generalize d2.choose=e0 at h8 h9;clear d2;subst h8;simp only [putAll];refine relAt_copyS (E:=eTotal) (ys:=l) _ _ 43 rfl Tryz.underlying43 ti tz0 tz1 tz2 rfl (by decide) (by kernel_rfl) (by kernel_rfl) h9 (Rds.onn Hrd.out hC) ?b1 ?b2 ?b3 ?b4
            case b1=>have:=Hll.out;unfold maxLen;omega
            case b2=>have:=Hll.out;omega
            case b3=>exact hC.size
            case b4=>exact fun v9 w9 ho9 hb9=>⟨hb9,OwnShape ho9 Hll2.out⟩
          . refine yAI ?_ ?_ ?_ ?_;exact (by decide);exact (by decide);kernel_rfl
            intro wr h0 hC hd;clear h0;have d4:∃ a c,v4=.slice a ll c/\Own eTotal 153 W9.heap.size wr (.slice a ll c) l:=yAF 4 (by kernel_rfl) hd;clear hd;have q1:=d4.choose_spec;generalize d4.choose=a9 at q1;clear d4;have q2:=q1.choose_spec;generalize q1.choose=c9 at q2;clear q1;have h8:=q2.1;have h9:=q2.2;clear q2;subst h8;unfold relAt;simp only [putAll];go_simp;simp only [relUpon];exact ⟨(zB _ _).alloc (zA _) _,⟨a9,ll,c9⟩,(yAH (E:=eS) (x:=⟨a9,ll,c9⟩) trivial rfl).mono (by simp),h9.below ((zB _ _).alloc (zA _) _) (zA _)⟩
          . refine appStep_p ?_ ?_;kernel_rfl
            intro wr h0 hC hd;clear h0;have d1:v1=.slice lo2 k lc2:=yAF 1 (by kernel_rfl) hd;subst d1;have d5:∃ y:SlV,Rds eS wr.heap.size wr v5 [y]/\Own eTotal 153 W9.heap.size wr y.val l:=yAF 5 (by kernel_rfl) hd;clear hd;have q1:=d5.choose_spec;generalize d5.choose=y9 at q1;clear d5;simp only [putAll];refine relAt_appS (E:=eS) _ _ 145 rfl Tryz.underlying145 si sz0 sz1 sz2 rfl (by decide) (by kernel_rfl) (by kernel_rfl) (HO.out.below hC (zA _)) q1.1 ?b1 ?b2 ?b3 ?b4
            case b1=>have:=Hl.out;unfold maxLen;simp;omega
            case b2=>have:=Hl.out;simp;omega
            case b3=>have:=hC.size;have:=Hsz.out;omega
            case b4=>exact fun v9 w9 ho9 hg9=>(Hfin.out wr y9 l hC (q1.2) w9 v9 ho9 hg9).shL Htl.out
          . refine yAK ?_ ?_ ?_ ?_;exact (by decide);exact (by decide);kernel_rfl
            intro wr h0 hd;clear h0;clear hd;unfold relAt;simp only [putAll];go_simp;simp only [relUpon];trivial
          . refine appStep_s ?_ ?_ ?_;exact (by decide);kernel_rfl
            intro wr h0 hA hd;replace hA:∃ a c,v6=.slice a (k+1) c/\NewF w0 X0 po wr uF (.slice lo2 k lc2) uF (.slice a (k+1) c) ⟨ts,ls.take k++[l]⟩:=hA;clear h0;have d7:v7=.pointer (some ⟨X0,1,none⟩):=yAF 7 (by kernel_rfl) hd rfl;subst d7;clear hd;have q1:=hA.choose_spec;generalize hA.choose=a9 at q1;clear hA;have q2:=q1.choose_spec;generalize q1.choose=c9 at q2;clear q1;have h8:=q2.1;have h9:=q2.2;clear q2;subst h8;have f0:=h9.2.1.cell 1 _ rfl;have f1:=h9.2.1.free 1;have hfin:=h9.put 1 (.slice a9 (k+1) c9) (by omega) rfl;have Hfn:=hid hfin;clear hfin h9;unfold relAt;simp only [putAll];go_simp;simp only [relUpon];exact ⟨_,_,Hfn.out⟩
       . intro vs wq hvs hZ hI
         match vs,hvs,hZ,hI with
         | [v0,v1,v2,v3,v4,v5,v6,v7,v8],_,hZ,hI =>
          replace hZ:∃ a c,NewF w0 X0 po wq uF (.slice a (k+1) c) uF (.slice a (k+1) c) ⟨ts,ls.take k++[l]⟩:=hZ;have d0:v0=.pointer (some ⟨X0,1,none⟩):=hI 0 (by decide) rfl;subst d0;have d3:v3=.slice ro ll rc:=hI 3 (by decide) rfl;subst d3;have d7:v7=.pointer (some ⟨X0,1,none⟩):=hI 7 (by decide) rfl;subst d7;clear hI;simp only [putAll];go_simp;clear x0 x1 d1;obtain ⟨ua,uca,hZ⟩:=hZ;have Hs9:=hid hZ;clear hZ;go_wp2;go_roundw
          case rel=>exact ⟨k+1,_,_,by omega,by go_num,by rw [Htk.out];exact Hs9⟩
          case measure=>simp [intOf];omega
     . obtain rfl:k=m:=by omega
       have hs:=HS.out;rw [zH (by have:=Hm.out;omega)] at hs;have x0:=hs.2.1.cell 0 _ rfl;have x1:=hs.2.1.cell 1 _ rfl;have r0:=hs.2.2.2.1.cell 0 _ rfl;have r1:=hs.2.2.2.1.cell 1 _ rfl;have rf0:=hs.2.2.2.1.free 0;have rf1:=hs.2.2.2.1.free 1;have hq:=hs.2.2.2.2.2.1;obtain ⟨vF,hvF⟩:∃ vF,vF=Value.slice lo2 k lc2:=⟨_,rfl⟩;rw [<- hvF] at hs x1 hq;have HvF:=hid hvF;have HFin:∀ (wz:World),Agr (fun q=>q=w0.heap.size+1) wr wz->(OwnO (fun q=>w0.heap.size<=q/\q<wz.heap.size) wz uF vF ⟨ts,ls⟩/\Below w0.heap.size w0 wz):=fun wz hA =>
        ⟨(hs.1.agr hA (fun q hq2 (he:q=w0.heap.size+1)=>by have:=hq2.1;omega)).sub (fun q hq2=>⟨by have:=hq2.1;omega,zM hq2.2.2 hA.size⟩),hs.2.2.2.2.1.trans (hA.below (fun q hq=>by omega) hs.2.2.2.2.1.size)⟩
       have HFin:=hid HFin;clear hs hq hvF HS;obtain ⟨a1,n1,c1,h1⟩:∃ a n c,uF=Value.slice a n c:=⟨_,_,_,HuF.out⟩;obtain ⟨a2,n2,c2,h2⟩:∃ a n c,vF=Value.slice a n c:=⟨_,_,_,HvF.out⟩;clear HuF HvF;subst h1;subst h2;go_wp2;exact bodyPost_ret (v:=.agg #[.slice a1 n1 c1,.slice a2 n2 c2]) (by simp [results,Tryz.results136,go_sem,r0,r1]) rfl ⟨⟨_,_,rfl,(HFin.out _ (agr2 wr (w0.heap.size+1) _ _)).1⟩,(HFin.out _ (agr2 wr (w0.heap.size+1) _ _)).2⟩
def OwnX (n X:Nat) (w:World) (u v:Value) (o:OffT):Prop:=OwnO (fun q=>n<=q/\q ≠ X/\q<w.heap.size) w u v o
section
variable {n X base:Nat} {w w1 w':World} {u v u' v':Value} {o:OffT}
theorem OwnX.shape (h:OwnX n X w u v o):(∃ a c,u=.slice a o.trays.length c)/\∃ a c,v=.slice a o.totals.length c:=OwnO.shape h
theorem OwnO.lt {lo hi:Nat} (h:OwnO (fun q=>lo<=q/\q<hi) w u v o):(∀ q,u.ownBlock=some q->lo<=q/\q<hi)/\∀ q,v.ownBlock=some q->lo<=q/\q<hi :=
 ⟨fun q hq=>(h.own q (.inl hq)).1,fun q hq=>(h.own q (.inr hq)).1⟩
theorem OwnO.addr {S:Nat->Prop} (h:OwnO S w u v o) (h0:0<o.trays.length):∃ g c,u=.slice (some ⟨g,0,none⟩) o.trays.length c:=by
 obtain ⟨Su,Sv,h1,h2,-⟩:=h;obtain ⟨g,c,e,-⟩:=OwnL.addr h1 h0;exact ⟨g,c,e⟩
theorem OwnX.on (h:OwnX n X w u v o) (hb:Below w.heap.size w w'):OwnX n X w' u v o :=
 (OwnO.agr h (Agr.on (S:=fun _=>False) hb) (fun _ _ h=>h)).sub (fun q hq=>⟨hq.1,hq.2.1,zM hq.2.2 hb.size⟩)
theorem OwnX.appL (h:OwnX n X w u v o) (hn:n<=w.heap.size) (hX:X<w.heap.size) (hbn:base<=n):∃ ks,Own eS 43 base w v ks/\ks.length=o.totals.length /\
 ∀ (w1:World) (hx:SlV) (x:List TotalT),Below w.heap.size w w1->Own eTotal 153 w.heap.size w1 hx.val x->∀ w' v',Own eS 43 base w' v' (ks++[hx])->Grew w1 w' v v'->OwnX n X w' u v' ⟨o.trays,o.totals++[x]⟩:=by
 obtain ⟨Su,Sv,p1,p2,p3,p4,p5⟩:=h;obtain ⟨ks,a1,a2,a3⟩:=OwnL.app rowO_T p2 (fun k hk=>(p4 k hk).2.2);refine ⟨ks,a1.rebase (fun q hq=>by have:=p4 q (OwnL.own p2 q hq).1;omega),a2,fun w1 hx x hb hfr w' v' ho hg=>?_⟩;obtain ⟨b1,b2⟩:=a3 w1 hx x hb (QT.of hfr) w' v' (ho.mono (zK _)) hg;have hs9:=b2.size;refine ⟨Su,_,OwnL.agr rowO_D p1 b2 (fun k hk he=>p5 k hk (OwnL.own p2 k he).1),b1,fun k hk=>by have:=p3 k hk;omega,fun k hk=>?_,fun k hk hk2=>?_⟩
 . rcases hk with e | e
   . have:=p4 k e;omega
   . omega
 . rcases hk2 with e | e
   . exact p5 k hk e
   . have:=p3 k hk;omega
theorem OwnX.setT (h:OwnX n X w u v o) (hn:n<=w.heap.size) (hX:X<w.heap.size) {g m c i:Nat} (hu:u=.slice (some ⟨g,0,none⟩) m c) (hi:i<o.trays.length) {hx:SlV} {x:List (List Int)} (hb:Below w.heap.size w w1) (hfr:OwD w.heap.size w1 hx.val x) :
 (∃ y,w1.cell? ⟨g,i,none⟩=some y)/\w1.frozen? ⟨g,i,none⟩=false/\OwnX n X (w1.setCell ⟨g,i,none⟩ hx.val) u v ⟨o.trays.set i x,o.totals⟩:=by
 obtain ⟨Su,Sv,p1,p2,p3,p4,p5⟩:=h;subst hu;have hm:m=o.trays.length:=by obtain ⟨a,c',e⟩:=OwnL.shape p1;cases e;rfl
 have hA0:Agr (fun _=>False) w w1:=Agr.on hb;obtain ⟨e1,e2,e3,e4⟩:=OwnL.put (k:=i) rowO_D (OwnL.agr rowO_D p1 hA0 (fun _ _ h=>h)) hm (by omega) (QD.of hfr) (fun q hq hq2=>by have:=p3 q hq2;omega);have hgS:=(OwnL.own p1 g rfl).1;have hsz:=hb.size;refine ⟨e1,e2,⟨_,Sv,e3,OwnL.agr rowO_T (OwnL.agr rowO_T p2 hA0 (fun _ _ h=>h)) e4 (fun k hk (he:k=g)=>p5 g hgS (by rw [<- he];exact hk)),fun k hk=>?_,fun k hk=>by have:=p4 k hk;simp;omega,fun k hk hk2=>?_⟩⟩
 . rcases hk with e | e
   . have:=p3 k e;simp;omega
   . simp;omega
 . rcases hk with e | e
   . exact p5 k e hk2
   . have:=p4 k hk2;omega
theorem OwnX.turn (h:OwnX n X w u v o) (hA:Agr (fun k=>k=X) w w'):OwnX n X w' u v o :=
 (OwnO.agr h hA (fun k hk he=>hk.2.1 he)).sub (fun q hq=>⟨hq.1,hq.2.1,zM hq.2.2 hA.size⟩)
theorem OwnX.fin {P2 n0:Nat} {x y:Value} (h:OwnX n X w u v o) (hP:P2<n) (hn:n0<=n) :
 OwnO (fun q=>n0<=q/\q<((w.setCell ⟨P2,0,none⟩ x).setCell ⟨P2,1,none⟩ y).heap.size) ((w.setCell ⟨P2,0,none⟩ x).setCell ⟨P2,1,none⟩ y) u v o :=
 (OwnO.agr h (agr2 w P2 x y) (fun k hk he=>by have:=hk.1;omega)).sub (fun q hq=>⟨zO hn hq.1,by simpa using hq.2.2⟩)
end
end Go.Proofs.YtmindpfmgnnieaaGreatDoor
