/- The great law: a deck sorted by the told passes is ordered and stable; a flow for a specification tells what is wanted; a diagnosis explains its report with the fewest faults. Printed by gfntop.py. The condition: the library's table of powers of ten lies as its text lays it. -/
import Derived.Test.YtmindpfmgnnieaaGreatDoorTP46
import Derived.Test.YtmindpfmgnnieaaGreatDoorTP43
import Derived.Test.YtmindpfmgnnieaaGreatDoorTP44
import Derived.Test.YtmindpfmgnnieaaGreatDoorTP38
import Derived.Test.YtmindpfmgnnieaaGreatDoorTP36
import Derived.Test.YtmindpfmgnnieaaGreatDoorTP9
import Derived.Test.YtmindpfmgnnieaaGreatDoorTP24
import Derived.Test.YtmindpfmgnnieaaGreatDoorTP12
import Derived.Test.YtmindpfmgnnieaaGreatDoorCards
import Derived.Test.YtmindpfmgnnieaaGreatDoorTie
import Derived.Deep.DeepCutAuto
namespace Go.Proofs.YtmindpfmgnnieaaGreatDoor
set_option maxHeartbeats 8000000
set_option linter.unusedSimpArgs false
open Lib (hid)
open Go.ChangeShapes Go.WideShapes Go.ChangeAt Go.RowKit Go.Sort
set_option linter.unusedVariables false
set_option maxRecDepth 100000
theorem RunPasses_z {d Z:List (List Int)} {ps:List PsT} {f:Int} {m:Nat} {v u:Value} {w:World} {A B:Nat} (hd:RdInt64SS A w v d) (hu:RdPsS B w u ps) (hs:sortC d f (f+m)=0) (h9:C9p (colsD d)) (hl:ps.length<=40) (hm:∀ p∈ps,p∈fullQ f m) (hz:runPD d ps=Z) :
 Calls Tryz.prog 10 #[v,u] w fun e w'=>(∃ a n c,e=.returned (.tuple #[.slice a n c,.int .i64 0])/\RdInt64SS w'.heap.size w' (.slice a n c) Z)/\Below w.heap.size w w':=by
 obtain ⟨h1,h2,h3⟩:=yBI hs;refine (RunPasses_c hd (yAV h1) h1 ((psOk_full hs).sub hm) hu hl (fun p hp=>full_bad hs p (hm p hp)) h9).mono ?_;rintro e w1 ⟨⟨r,rfl,hr⟩,hb⟩;have h4:=OwnCardS.rds hr;rw [hz] at h4;obtain ⟨ao,ac,e1⟩:=h4.shape;subst e1;exact ⟨⟨_,_,_,rfl,h4⟩,hb⟩
theorem below_dn {w w':World} {q:Nat} (h:w'=w.drewN q):Below w.heap.size w w':=by rw [h];exact ⟨rfl,rfl,rfl,zA _,fun _ _=>rfl⟩
theorem walk_FnTop (w:World) (t:PowAt w) {x0:List Int} {v0:Value} (a0:Rds eB w.heap.size w v0 x0) {x1:List Int} {v1:Value} (a1:Rds eB w.heap.size w v1 x1) :
 Calls Tryz.prog 3 #[v0,v1] w fun e w'=>e=.returned (.bool true)/\Below w.heap.size w w':=by
 by_cases hbig:(3000:Int)<x0.length\/(3000:Int)<x1.length
 . go_enter Tryz.func3,Tryz.ntmps3
   go_wp2_with fail;refine (a2Long_any a0 a1).mono ?_;rw [decide_eq_true hbig];rintro e w' ⟨rfl,rfl⟩;go_wp2;go_ret;exact ⟨rfl,zB _ _⟩
 have Hbig:=hid hbig;clear hbig;obtain ⟨vo,vcap,hv0⟩:=a0.shape;subst hv0;obtain ⟨uo,ucap,hv1⟩:=a1.shape;subst hv1;go_enter Tryz.func3,Tryz.ntmps3;go_wp2_with fail;refine (a2Long_any a0 a1).mono ?_;rw [decide_eq_false Hbig.out];rintro e w' ⟨rfl,rfl⟩;clear Hbig;obtain ⟨B,a,b⟩:Below w.heap.size w w/\Rds eB w.heap.size w (.slice vo x0.length vcap) x0/\Rds eB w.heap.size w (.slice uo x1.length ucap) x1:=⟨zB _ _,a0,a1⟩;clear a0 a1;generalize x0.length=l0 at *
 generalize x1.length=l1 at *
 go_wp2_with fail;with_reducible refine (A2Deck_c a (zA _)).mono ?_
 rintro e w1 ⟨⟨ud,d,n,rfl,od,hn,hC⟩,bb⟩;have D:=OwnCardS.rds od;replace t:=t.below bb;replace a:=Rds.onn a bb;replace b:=Rds.onn b bb;replace B:=B.trans (bb.mono B.size);obtain ⟨dko,dcap,hd⟩:=D.shape;subst hd;obtain ⟨dl,hdl⟩:∃ dl,dl=d.length:=⟨_,rfl⟩;rw [<- hdl] at D |-;have HC:=hid hC;have HN:=hid hn;clear od bb hC hn hdl;go_wp2_with fail;with_reducible refine (a2Field_c D HC.out HN.out b).mono ?_
 rintro e w1 ⟨⟨fr,m,rfl,hm,hf⟩,bb⟩;replace t:=t.below bb;replace a:=Rds.onn a bb;replace b:=Rds.onn b bb;replace B:=B.trans (bb.mono B.size);replace D:=RdInt64SS.onn D bb;have HS:=hid (HC.out.sort HN.out hm hf);have hw3:widA n d<=3:=by have:=HN.out;unfold widA;split <;> omega
 have hm3:1<=m/\m<=3:=by omega
 have Hf20:Hid (0<=(fr:Int)/\(fr:Int)+m<=20):=hid (by omega);have H9:Hid (C9p (colsD d)):=hid (by
  have hn9:=HN.out;rcases HC.out.cols with h | h
  . rw [h];exact ⟨by decide,by decide⟩
  . rw [h];exact ⟨by omega,by omega⟩)
 obtain ⟨ZZ,hZ⟩:∃ ZZ,ZZ=pickD d (ordD d fr (fr+m)):=⟨_,rfl⟩;have HZ:=hid hZ;clear bb hf hw3 hZ HC HN;obtain ⟨W,hW⟩:∃ W,W=w1.alloc (.cells #[.int .i64 fr,.int .i64 (fr+m)] 27):=⟨_,rfl⟩;have bb:Below w1.heap.size w1 W:=by rw [hW];exact (zB _ _).alloc (zA _) _
 have kf:Box W w1.heap.size [.int .i64 fr,.int .i64 (fr+m)]:=by rw [hW];exact Box.new w1 [.int .i64 fr,.int .i64 (fr+m)] _
 have HW:=hid hW;clear hW;replace t:=t.below bb;replace a:=Rds.onn a bb;replace b:=Rds.onn b bb;replace B:=B.trans (bb.mono B.size);replace D:=RdInt64SS.onn D bb;clear bb;go_upto_region 5 with fail;rw [<- HW.out];clear HW;generalize w1.heap.size=Xf at kf |-;have c0:=kf.cell 0 _ rfl;have c1:=kf.cell 1 _ rfl;have hso:=sSortedBy_c (f:=fr) (t:=fr+m) D;rw [HS.out] at hso;have Hso:=hid hso;clear hso;go_wp2_with fail;with_reducible refine Hso.out.mono ?_
 rintro e w1 ⟨⟨z,rfl,h9⟩,bb⟩;obtain ⟨y,hy,hfr⟩:=h9 rfl;have Z:RdInt64SS w1.heap.size w1 z ZZ:=by rw [HZ.out,<- hy];exact FrD.rds hfr
 obtain ⟨zo,zcap,hz⟩:=Z.shape;subst hz;generalize ZZ.length=zl at *
 replace t:=t.below bb;replace a:=Rds.onn a bb;replace b:=Rds.onn b bb;replace B:=B.trans (bb.mono B.size);replace D:=RdInt64SS.onn D bb;replace kf:=kf.on bb;clear bb hy hfr h9 Hso c0 c1;have c0:=kf.cell 0 _ rfl;have c1:=kf.cell 1 _ rfl;have Hfp:=hid (fun w=>FullPlan_c (f:=fr) (N:=m) w hm3.1 Hf20.out);go_wp2_with fail;with_reducible refine (Hfp.out _).mono ?_
 rintro e w1 ⟨⟨up,rfl,op⟩,bb⟩;have pl:=Own.rds op;obtain ⟨QQ,hQQ⟩:∃ QQ,QQ=fullQ (fr:Int) m:=⟨_,rfl⟩;rw [<- hQQ] at pl;obtain ⟨po,pcap,hp⟩:=pl.shape;subst hp;have HQQ:=hid hQQ;obtain ⟨ql,hql⟩:∃ ql,ql=QQ.length:=⟨_,rfl⟩;rw [<- hql] at pl |-;have Hq2:Hid (ql=2 * m):=hid (by rw [hql,hQQ,fullQ_len]);replace t:=t.below bb;replace a:=Rds.onn a bb;replace b:=Rds.onn b bb;replace B:=B.trans (bb.mono B.size);replace D:=RdInt64SS.onn D bb;replace kf:=kf.on bb;replace Z:=RdInt64SS.onn Z bb;clear bb op hQQ hql Hfp c0 c1;have c0:=kf.cell 0 _ rfl;have c1:=kf.cell 1 _ rfl;have Hfw:=hid (FewestPasses_c (n:=m) D HS.out (by omega));go_wp2_with fail;with_reducible refine Hfw.out.mono ?_
 rintro e w1 ⟨⟨uf,ps,rfl,ofw,hfl,hfm,hfr⟩,bb⟩;have fw:=Own.rds ofw;obtain ⟨wo,wcap,hp⟩:=fw.shape;subst hp;have Hfm:=hid hfm;have Hfr:Hid (runPD d ps=ZZ):=hid (by rw [hfr,HZ.out]);have Hfl:Hid (ps.length<=40):=hid (by omega);obtain ⟨wl,hwl⟩:∃ wl,wl=ps.length:=⟨_,rfl⟩;rw [<- hwl] at fw hfl |-;replace t:=t.below bb;replace a:=Rds.onn a bb;replace b:=Rds.onn b bb;replace B:=B.trans (bb.mono B.size);replace D:=RdInt64SS.onn D bb;replace kf:=kf.on bb;replace Z:=RdInt64SS.onn Z bb;replace pl:=Rds.onn pl bb;clear bb ofw hwl Hfw c0 c1 hfm hfr;have hlen:¬ (ql:Int)<(wl:Int):=by have:=Hq2.out;omega
 clear hfl;clear kf;have Hrn:=hid (RunPasses_z (Z:=ZZ) (f:=fr) (m:=m) D pl HS.out H9.out (by have:=HQQ.out;rw [this,fullQ_len];omega) (by rw [HQQ.out];exact fun p h=>h) (by rw [HQQ.out,HZ.out];exact full_plan (chD_of HS.out) Hf20.out.1));go_wp2_with fail;with_reducible refine Hrn.out.mono ?_
 rintro e w1 ⟨⟨x1a1,x1b2,x1c3,rfl,X1⟩,bb⟩;replace t:=t.below bb;replace a:=Rds.onn a bb;replace b:=Rds.onn b bb;replace B:=B.trans (bb.mono B.size);replace D:=RdInt64SS.onn D bb;replace Z:=RdInt64SS.onn Z bb;replace pl:=Rds.onn pl bb;replace fw:=Rds.onn fw bb;clear bb Hrn;clear pl;have Hrn:=hid (RunPasses_z (Z:=ZZ) (f:=fr) (m:=m) D fw HS.out H9.out Hfl.out Hfm.out Hfr.out);go_wp2_with fail;with_reducible refine Hrn.out.mono ?_
 rintro e w1 ⟨⟨x2a1,x2b2,x2c3,rfl,X2⟩,bb⟩;replace t:=t.below bb;replace a:=Rds.onn a bb;replace b:=Rds.onn b bb;replace B:=B.trans (bb.mono B.size);replace D:=RdInt64SS.onn D bb;replace Z:=RdInt64SS.onn Z bb;replace fw:=Rds.onn fw bb;replace X1:=RdInt64SS.onn X1 bb;clear bb Hrn;clear fw D hlen;go_wp2_with fail;with_reducible refine (sSameDeck_c X1 Z).mono ?_
 rintro e w1 ⟨rfl,q,hq⟩;have bb:Below _ _ w1:=below_dn hq;clear hq;replace t:=t.below bb;replace a:=Rds.onn a bb;replace b:=Rds.onn b bb;replace B:=B.trans (bb.mono B.size);replace Z:=RdInt64SS.onn Z bb;replace X1:=RdInt64SS.onn X1 bb;replace X2:=RdInt64SS.onn X2 bb;clear bb X1;go_wp2_with fail;with_reducible refine (sSameDeck_c X2 Z).mono ?_
 rintro e w1 ⟨rfl,q,hq⟩;have bb:Below _ _ w1:=below_dn hq;clear hq;replace t:=t.below bb;replace a:=Rds.onn a bb;replace b:=Rds.onn b bb;replace B:=B.trans (bb.mono B.size);replace Z:=RdInt64SS.onn Z bb;replace X2:=RdInt64SS.onn X2 bb;clear bb X2;clear Z Hfr Hfm HZ HQQ Hfl H9 Hf20 HS;go_upto_region 14 with fail;go_wp2_with fail;with_reducible refine (A2Cards_c b (zA _)).mono ?_
 rintro e w1 ⟨⟨uc,cs,rfl,oc,hC⟩,bb⟩;have C:=OwnCardS.rds oc;replace t:=t.below bb;replace a:=Rds.onn a bb;replace b:=Rds.onn b bb;replace B:=B.trans (bb.mono B.size);obtain ⟨co,ccap,hd⟩:=C.shape;subst hd;obtain ⟨cl,hcl⟩:∃ cl,cl=cs.length:=⟨_,rfl⟩;rw [<- hcl] at C |-;have HC:=hid hC;clear oc bb hC hcl b;go_wp2_with fail;with_reducible refine (A2Spec_c a (zA _)).mono ?_
 rintro e w1 ⟨⟨x,rfl,hx⟩,bb⟩;replace t:=t.below bb;replace a:=Rds.onn a bb;replace B:=B.trans (bb.mono B.size);replace C:=RdInt64SS.onn C bb;have Hx:=hid hx;obtain ⟨LL,hLL⟩:∃ LL,LL=totX x cs:=⟨_,rfl⟩;have HLL:=hid hLL;clear bb hx hLL;obtain ⟨W,hW⟩:∃ W,W=w1.alloc (.cells #[.int .i64 x.wf,.int .i64 x.wt,.string x.tx,.int .i64 x.gf,.int .i64 x.gt,.int .i64 x.sf,.int .i64 x.st] 38):=⟨_,rfl⟩;have bb:Below w1.heap.size w1 W:=by rw [hW];exact (zB _ _).alloc (zA _) _
 have kx:Box W w1.heap.size [.int .i64 x.wf,.int .i64 x.wt,.string x.tx,.int .i64 x.gf,.int .i64 x.gt,.int .i64 x.sf,.int .i64 x.st]:=by rw [hW];exact Box.new w1 [.int .i64 x.wf,.int .i64 x.wt,.string x.tx,.int .i64 x.gf,.int .i64 x.gt,.int .i64 x.sf,.int .i64 x.st] _
 have HW:=hid hW;clear hW;replace t:=t.below bb;replace a:=Rds.onn a bb;replace B:=B.trans (bb.mono B.size);replace C:=RdInt64SS.onn C bb;clear bb;go_upto_region 16 with fail;rw [<- HW.out];clear HW;generalize w1.heap.size=Xx at kx |-;have c0:=kx.cell 0 _ rfl;have c1:=kx.cell 1 _ rfl;have c2:=kx.cell 2 _ rfl;have c3:=kx.cell 3 _ rfl;have c4:=kx.cell 4 _ rfl;have c5:=kx.cell 5 _ rfl;have c6:=kx.cell 6 _ rfl;have Hff:=hid (fun w=>FlowFor_c w Hx.out);go_wp2_with fail;with_reducible refine (Hff.out _).mono ?_
 rintro e w1 ⟨⟨uf,rfl,fl⟩,bb⟩;obtain ⟨fo,fcap,hd⟩:=fl.shape;subst hd;obtain ⟨fn,hfn⟩:∃ fn,fn=(flowX x).length:=⟨_,rfl⟩;rw [<- hfn] at fl |-;replace t:=t.below bb;replace a:=Rds.onn a bb;replace B:=B.trans (bb.mono B.size);replace C:=RdInt64SS.onn C bb;replace kx:=kx.on bb;clear bb hfn Hff c0 c1 c2 c3 c4 c5 c6;have c0:=kx.cell 0 _ rfl;have c1:=kx.cell 1 _ rfl;have c2:=kx.cell 2 _ rfl;have c3:=kx.cell 3 _ rfl;have c4:=kx.cell 4 _ rfl;have c5:=kx.cell 5 _ rfl;have c6:=kx.cell 6 _ rfl;have Hev:=hid (EvalSpec_c C Hx.out HC.out);go_wp2_with fail;with_reducible refine Hev.out.mono ?_
 rw [<- HLL.out];rintro e w1 ⟨⟨ur,rfl,rt⟩,bb⟩;obtain ⟨ro,rcap,hd⟩:=Rds.shape rt;subst hd;generalize LL.length=rl at *
 replace t:=t.below bb;replace a:=Rds.onn a bb;replace B:=B.trans (bb.mono B.size);replace C:=RdInt64SS.onn C bb;replace kx:=kx.on bb;replace fl:=Rds.onn fl bb;clear bb Hev c0 c1 c2 c3 c4 c5 c6;clear kx;have Hro:=hid (ResultOf_c fl C HC.out Hx.out);go_wp2_with fail;with_reducible refine Hro.out.mono ?_
 rw [<- HLL.out];rintro e w1 ⟨⟨ta,tn,tc,rfl,td⟩,bb⟩;replace t:=t.below bb;replace a:=Rds.onn a bb;replace B:=B.trans (bb.mono B.size);replace C:=RdInt64SS.onn C bb;replace fl:=Rds.onn fl bb;replace rt:=Rds.onn rt bb;clear bb Hro fl C;have Hst:=hid (sSameTotals_c (L:=LL) td rt);clear td rt;go_wp2_with fail;with_reducible refine Hst.out.mono ?_
 rintro e w1 ⟨rfl,bb⟩;clear Hst;replace t:=t.below bb;replace a:=Rds.onn a bb;replace B:=B.trans (bb.mono B.size);clear bb HC Hx HLL;go_upto_region 21 with fail;go_wp2_with fail;with_reducible refine (A2Amounts_any a (zA _)).mono ?_
 rintro e w1 ⟨⟨u,v,xs,fs,rfl,ou,ov,hxs,hfs⟩,bb⟩;have l:=ou.rds;have f:=ov.rds;clear a;replace t:=t.below bb;replace B:=B.trans (bb.mono B.size);obtain ⟨lo,lcap,hl⟩:=ou.shape;subst hl;obtain ⟨fo2,fcap2,hf⟩:=ov.shape;subst hf;obtain ⟨xl,hxl⟩:∃ xl,xl=xs.length:=⟨_,rfl⟩;obtain ⟨fsl,hfsl⟩:∃ fsl,fsl=fs.length:=⟨_,rfl⟩;rw [<- hxl] at l |-;rw [<- hfsl] at f |-;have HX:=hid hxs;have HF:=hid hfs;have Hfs:=hid hfsl;clear bb ou ov hxs hfs hxl hfsl;obtain ⟨r,hr⟩:∃ r,repOf (afterL xs fs)=r:=⟨_,rfl⟩;have Hr:=hid hr;clear hr;go_wp2_with fail;with_reducible refine (sReportAfter_c l f HX.out HF.out).mono ?_
 rw [Hr.out];rintro e w1 ⟨rfl,bb⟩;replace t:=t.below bb;replace B:=B.trans (bb.mono B.size);replace l:=Rds.onn l bb;replace f:=Rds.onn f bb;clear bb;obtain ⟨W,hW⟩:∃ W,W=w1.alloc (.cells #[.int .i64 r.count,.int .i64 r.sum,.int .i64 r.digits] 53):=⟨_,rfl⟩;have bb:Below w1.heap.size w1 W:=by rw [hW];exact (zB _ _).alloc (zA _) _
 have kr:Box W w1.heap.size [.int .i64 r.count,.int .i64 r.sum,.int .i64 r.digits]:=by rw [hW];exact Box.new w1 [.int .i64 r.count,.int .i64 r.sum,.int .i64 r.digits] _
 have HW:=hid hW;clear hW;replace t:=t.below bb;replace B:=B.trans (bb.mono B.size);replace l:=Rds.onn l bb;replace f:=Rds.onn f bb;clear bb;go_upto_region 23 with fail;rw [<- HW.out];clear HW;generalize w1.heap.size=Xr at kr |-;obtain ⟨e1,e2,e3,e4,e5,e6,e7,-,-⟩:=few_facts HX.out HF.out Hr.out.symm;have e10:=few_le HX.out HF.out Hr.out.symm;have hro:okReport r:=by rw [<- Hr.out];exact isRep_ok (rep_isRep HX.out HF.out)
 obtain ⟨found,hfd⟩:∃ z,fewA xs r=z:=⟨_,rfl⟩;rw [hfd] at e2 e5 e6 e7 e10;obtain ⟨cnt,hcnt⟩:∃ z,fewN xs r=z:=⟨_,rfl⟩;rw [hcnt] at e3 e4;rw [<- Hfs.out] at e10;have hdg:=Diagnose_c l hro t;rw [e1,e2,e3] at hdg;have Hdg:=hid hdg;have E6:=hid e6;have E7:=hid e7;clear e1 e2 e3 e5 e6 e7 hro hfd hcnt hdg f;have c0:=kr.cell 0 _ rfl;have c1:=kr.cell 1 _ rfl;have c2:=kr.cell 2 _ rfl;go_wp2_with fail;with_reducible refine Hdg.out.mono ?_
 rintro e w1 ⟨u0,rfl,og,bb⟩;have of:=og.rds;obtain ⟨go,gcap,hg⟩:=og.shape;subst hg;obtain ⟨gl,hgl⟩:∃ gl,gl=found.length:=⟨_,rfl⟩;rw [<- hgl] at of e10 |-;replace t:=t.below bb;replace B:=B.trans (bb.mono B.size);replace l:=Rds.onn l bb;replace kr:=kr.on bb;clear bb og hgl Hdg c0 c1 c2;have q1:¬ cnt<1:=by omega
 have q2:¬ (fsl:Int)<(gl:Int):=by omega
 have Hra:=hid (sReportAfter_c l of HX.out E6.out);go_wp2_with fail;with_reducible refine Hra.out.mono ?_
 rw [E7.out];rintro e w1 ⟨rfl,bb⟩;replace t:=t.below bb;replace B:=B.trans (bb.mono B.size);replace l:=Rds.onn l bb;replace kr:=kr.on bb;replace of:=Rds.onn of bb;clear bb Hra;clear l of;obtain ⟨W,hW⟩:∃ W,W=w1.alloc (.cells #[.int .i64 r.count,.int .i64 r.sum,.int .i64 r.digits] 53):=⟨_,rfl⟩;have bb:Below w1.heap.size w1 W:=by rw [hW];exact (zB _ _).alloc (zA _) _
 have ka:Box W w1.heap.size [.int .i64 r.count,.int .i64 r.sum,.int .i64 r.digits]:=by rw [hW];exact Box.new w1 [.int .i64 r.count,.int .i64 r.sum,.int .i64 r.digits] _
 have HW:=hid hW;clear hW;replace t:=t.below bb;replace B:=B.trans (bb.mono B.size);replace kr:=kr.on bb;clear bb;go_upto_region 27 with fail;rw [<- HW.out];clear HW;generalize w1.heap.size=Xa at ka |-;have c0:=kr.cell 0 _ rfl;have c1:=kr.cell 1 _ rfl;have c2:=kr.cell 2 _ rfl;have g0:=ka.cell 0 _ rfl;have g1:=ka.cell 1 _ rfl;have g2:=ka.cell 2 _ rfl;have HB:=hid B;clear B t kr ka;go_wp2;go_ret;exact ⟨rfl,HB.out⟩
namespace fnTop
theorem own:ownKnob Tryz.prog.godebug=none:=by kernel_rfl
theorem door_met (os:Os) (args:Array Value):laidMetH Tryz.prog Rows.fnTopRow.laid ((World.doorLaid Tryz.prog 24 os).forCall (fun _ _=>0) ⟨#[],args,[]⟩).memory :=
 laidMetH_of_parts3 (fuel:=8) (laidMet_of_run' 8 (by kernel_rfl) (by kernel_rfl)) (by kernel_rfl) (by kernel_rfl)
theorem lifted (os:Os) (started:os.Started) (H:Type) (enc:TypeId × Value->H) :
 ReturnsInHanded {} Tryz.checked os 3 .any (fun w args=>(Rows.fnTopSpec.pre enc Tryz.prog Tryz.f3 [] false w args/\laidMetH Tryz.prog Rows.fnTopRow.laid w)/\sizedMet enc Tryz.prog Tryz.f3 (OpenSpec.ofChange Rows.fnTopSpec) false w args) (Rows.fnTopSpec.post enc Tryz.prog Tryz.f3 false true false false):=by
 refine returnsInHanded_of_change_and (C:=Tryz.checked) (X:=fun w _=>laidMetH Tryz.prog Rows.fnTopRow.laid w) (fun _ _ _ hh h=>h.of_heap hh) own started (by kernel_rfl) Tryz.func3
  (ChangeSpec.witness_shaped (enc:=enc) (C:=Tryz.checked) (os:=os) (X:=fun w _=>laidMetH Tryz.prog Rows.fnTopRow.laid w) false (World.doorLaid Tryz.prog 24 os) #[.slice none 0 0,.slice none 0 0] 8 rfl (World.shaped_of_RefB (by kernel_rfl) (by kernel_rfl)) (by kernel_rfl) (by kernel_rfl) (by kernel_rfl) (door_met os _)) ?_
 intro W base args ds gs before hval0 hW _ _ hL _;have hval:∀ (j:Nat) t v,Tryz.f3.params[j]?=some t->args[j]?=some v->Value.okWide Tryz.prog W .any base t v:=hval0;have hW':=hW;obtain ⟨p,q,hA0,hV,rfl,hfz,hnd⟩:=hW;have hA:DataW.TrodAll enc Tryz.prog W 0 (fun _=>true) true Tryz.f3.params.toList args.toList ds p:=hA0;rw [Tryz.params3] at hA hval;obtain ⟨v0,vs0,d0,ds0,p0,s0,hargs,rfl,rfl,h0,q0⟩:=trodAll_cons hA;obtain ⟨v1,vs1,d1,ds1,p1,s1,rfl,rfl,rfl,h1,q1⟩:=trodAll_cons q0;obtain ⟨rfl,rfl,rfl⟩:=trodAll_nil q1;obtain rfl:args=#[v0,v1]:=by cases args;simp_all
 obtain ⟨x0,r0,_⟩:=open_rdB Tryz.underlying22 Tryz.underlying5 (by kernel_rfl) (hval 0 22 v0 rfl rfl) h0;obtain ⟨x1,r1,_⟩:=open_rdB Tryz.underlying22 Tryz.underlying5 (by kernel_rfl) (hval 1 22 v1 rfl rfl) h1;obtain ⟨rfl,rfl⟩:=trodVars_none hV;exact (walk_FnTop W (pow_of3 hL) r0 r1).mono fun e W' hh=>⟨_,hh.1,law_postV (f:=Tryz.f3) (s:=Rows.fnTopSpec) (T:=4) (by kernel_rfl) (of_decide_eq_true (by kernel_rfl)) (by kernel_rfl) rfl Tryz.underlying4 rfl hW' hh.2⟩
theorem row_holds:Rows.FnTopSaid :=
 OpenClaim.holds_of_wide 3 Tryz.f3 rfl rfl rfl rfl rfl rfl rfl ⟨rfl,rfl,rfl,rfl,rfl⟩ rfl rfl rfl rfl rfl (by kernel_rfl) Tryz.func3 (by kernel_rfl)
  (of_decide_eq_true (by kernel_rfl)) (by unfold Func.isWrapper;first | (rw [if_pos (by decide +kernel)];kernel_rfl) | (rw [if_neg (by decide +kernel)];exact ⟨rfl,rfl⟩))
  (fun os started H enc _=>lifted os started H enc)
theorem proved:Rows.FnTopCardSaid :=
 Claim7.holds_tied_plain_at .later [] [.data,.data,.data] true (true, "925b2fd9c4ffd789b77037af82181e41f6dccfd1ef3a068efb758ba94b6fa98c") false
  row_holds (fun _ h=>by cases h) (by kernel_rfl) (fun _ h=>by cases h) fnTop_row_tie rfl ⟨rfl,rfl⟩ (by kernel_rfl) rfl
  (fun f fn hf hfn=>by
   obtain rfl:f=3:=Option.some.inj ((show Tryz.prog.funcNamed "loop.example/g01012/laws.FnTop" = some 3 by kernel_rfl).symm.trans hf) |>.symm
   obtain rfl:fn=Tryz.f3:=(zD (Tryz.func3.symm.trans hfn)).symm;exact ⟨by kernel_rfl,fun j t ht=>by
    rw [Tryz.params3] at ht;have hm:t∈[22,22]:=by simpa using Array.mem_of_getElem? ht
    have hall:([22,22].all fun u=>!Tryz.prog.wantsStandIn u)=true:=by kernel_rfl
    exact (show Tryz.prog.wantsStandIn t=false by simpa using List.all_eq_true.1 hall t hm)⟩)
  (by kernel_rfl)
end fnTop
#print axioms fnTop.proved
end Go.Proofs.YtmindpfmgnnieaaGreatDoor
