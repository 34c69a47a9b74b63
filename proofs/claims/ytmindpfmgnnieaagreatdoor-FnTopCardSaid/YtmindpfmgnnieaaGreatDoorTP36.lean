/- Lemmas on the way to the law FnTop. No condition. -/
import Derived.Test.YtmindpfmgnnieaaGreatDoorTP30
import Derived.Test.YtmindpfmgnnieaaGreatDoorTP32
import Derived.Test.YtmindpfmgnnieaaGreatDoorTP6
import Derived.Test.YtmindpfmgnnieaaGreatDoorTP13
namespace Go.Proofs.YtmindpfmgnnieaaGreatDoor
set_option maxHeartbeats 2000000
set_option linter.unusedSimpArgs false
open Lib (hid)
open Go.ChangeShapes Go.WideShapes Go.ChangeAt Go.RowKit Go.Sort
set_option linter.unusedVariables false
set_option maxRecDepth 100000
theorem sglK_succ {xs:List Int} {r:ReportT} {i:Nat} {f:FaultT} (h:(allF xs)[i]?=some f):sglK xs r (i+1)=sglK xs r i++(if (missF xs r f == zReport)=true then [f] else []):=by
 unfold sglK;rw [yAD h,List.filter_append];cases hz:(missF xs r f == zReport) <;> simp [hz]
theorem less_a1 (r x:ReportT) (w:World) :
 Calls Tryz.prog 147 #[vReport r,vReport x] w fun e w'=>e=.returned (.agg #[.int .i64 (lessW r x).count,.int .i64 (lessW r x).sum,.int .i64 (lessW r x).digits])/\Below w.heap.size w w':=less_c r x w
theorem explan1_c {xs:List Int} {r:ReportT} {v:Value} {w:World} {A:Nat} (ha:RdI A w v xs) (hx:amtOk xs=true) (hr:okReport r) (ht:PowAt w) :
 Calls Tryz.prog 104 #[v,vReport r,.int .i64 1] w fun e w'=>∃ u,e=.returned u/\BldG eFault 155 49 w.heap.size w.heap.size w'.heap.size w' u (explF xs r 1)/\Below w.heap.size w w':=by
 obtain ⟨i0,hi,hz0,hz1,hz2⟩:=info_parts infoReportN;obtain ⟨i1,hi1,hy0,hy1,hy2⟩:=info_parts infoSlF;obtain ⟨hl,hxx⟩:=yAQ hx;obtain ⟨N,hN⟩:∃ N,N=w.heap.size:=⟨_,rfl⟩;obtain ⟨W0,hW0⟩:∃ W0,W0=(w.alloc (.cells #[.int .i64 r.count,.int .i64 r.sum,.int .i64 r.digits] 53)).alloc (.cells #[] 49):=⟨_,rfl⟩;have hs1:(w.alloc (.cells #[.int .i64 r.count,.int .i64 r.sum,.int .i64 r.digits] 53)).heap.size=N+1:=by rw [hN];simp
 have hs0:W0.heap.size=N+1+1:=by rw [hW0,hN];simp
 have hR0:Box W0 N [.int .i64 r.count,.int .i64 r.sum,.int .i64 r.digits]:=by rw [hW0,hN];exact (Box.new w [.int .i64 r.count,.int .i64 r.sum,.int .i64 r.digits] _).alloc _
 have hO0:Own eS 49 N W0 (.slice (some ⟨N+1,0,none⟩) 0 0) []:=by
  have h:=Own.lit (E:=eS) (e:=49) (base:=N) (w:=w.alloc (.cells #[.int .i64 r.count,.int .i64 r.sum,.int .i64 r.digits] 53)) (xs:=[]) (cs:=#[]) (n:=0) (by omega) rfl rfl (by decide) (fun x hx=>by cases hx);rw [hs1] at h;rw [hW0];exact h
 have hb0:Below N w W0:=by rw [hW0,hN];exact ((zB _ _).alloc (zA _) _).alloc (by simp) _
 have hB0:BldG eFault 155 49 N N W0.heap.size W0 (.slice (some ⟨N+1,0,none⟩) 0 0) ([]:List (List FaultT)):=BldG.empty rfl hO0 (by omega);have ha0:=Rds.onn ha (show Below w.heap.size w W0 by rw [<- hN];exact hb0);have ht0:=ht.below (show Below w.heap.size w W0 by rw [<- hN];exact hb0);have HW0:=hid hW0;have HN:=hid hN;have HR0:=hid hR0;have Hb0:=hid hb0;have HB0:=hid hB0;have Ha0:=hid ha0;have Ht0:=hid ht0;have Hx:=hid hx;have Hxx:=hid hxx;have Hl:=hid hl;have Hr:=hid hr;have Hs0:=hid hs0;obtain ⟨ao,cap,rfl⟩:=ha.shape;clear ha hx hr ht hl hxx hW0 hs1 hs0 hR0 hO0 hb0 hB0 ha0 ht0;rw [<- hN];clear hN;go_enter Tryz.func104,Tryz.ntmps104;go_wp2_with fail;rw [<- HN.out,<- HW0.out];with_reducible refine (reportOf_c Ha0.out Hxx.out (by have:=Hl.out;omega) Ht0.out).mono ?_
 rintro e w1 ⟨rfl,hb1⟩;obtain ⟨B,hB⟩:∃ B,B=w1.heap.size:=⟨_,rfl⟩;obtain ⟨bs,hbs⟩:∃ bs,bs=repOf xs:=⟨_,rfl⟩;rw [<- hbs];obtain ⟨W1,hW1⟩:∃ W1,W1=w1.alloc (.cells #[.int .i64 bs.count,.int .i64 bs.sum,.int .i64 bs.digits] 53):=⟨_,rfl⟩;have hbW:Below W0.heap.size W0 W1:=by rw [hW1];exact hb1.alloc hb1.size _
 have hQ1:Box W1 B [.int .i64 bs.count,.int .i64 bs.sum,.int .i64 bs.digits]:=by rw [hW1,hB];exact Box.new w1 [.int .i64 bs.count,.int .i64 bs.sum,.int .i64 bs.digits] _
 have HQ1:=hid hQ1;have HR1:=hid (HR0.out.on hbW);have Ha1:=hid (Ha0.out.onn hbW);have Ht1:=hid (Ht0.out.below hbW);have HB1:=hid (HB0.out.below hbW (zA _));have Hb1:=hid (Hb0.out.trans (hbW.mono (by have:=Hs0.out;omega)));have hBN:N+1+1<=B:=by have:=Hs0.out;have:=hb1.size;omega
 have HW1:=hid hW1;have HbW:=hid hbW;have Hbs:=hid hbs;have HBe:=hid hB;clear hb1 hbW hQ1 hbs hW1 hB;go_wp2_with fail;rw [<- HBe.out,<- HW1.out];with_reducible refine (allFaults_c Ha1.out Hx.out).mono ?_
 rintro e w2 ⟨z,rfl,hz,hb2⟩;have hfl:=allK_len xs xs.length;have hfm:∀ f∈allF xs,fOk xs f:=fun f hf=>mem_allF.1 hf;obtain ⟨m,hm⟩:∃ m,m=(allF xs).length:=⟨_,rfl⟩;have hm5:m<=504:=by rw [hm];have:=Hl.out;unfold allF;omega
 obtain ⟨za,zc,rfl⟩:=hz.shape;rw [<- hm] at hz |-;have Hz:=hid hz;have HQ2:=hid (HQ1.out.on hb2);have HR2:=hid (HR1.out.on hb2);have Ha2:=hid (Ha1.out.onn hb2);have Ht2:=hid (Ht1.out.below hb2);have HB2:=hid ((HB1.out.mono (show W0.heap.size<=W1.heap.size from HbW.out.size)).below hb2 (zA _));have Hb2:=hid (Hb1.out.trans (hb2.mono (by have:=Hb1.out.size;have:=HN.out;omega)));have hW1B:B<W1.heap.size:=HQ1.out.lt;have hw12:=hb2.size;have Hfm:=hid hfm;have Hm:=hid hm;have hC0:Own eReport 53 w2.heap.size (w2.alloc (.cells #[] 53)) (.slice (some ⟨w2.heap.size,0,none⟩) 0 0) []:=Own.lit (E:=eReport) (xs:=[]) (cs:=#[]) (zA _) rfl rfl (by decide) (fun x hx=>by cases hx);have hbC:Below w2.heap.size w2 (w2.alloc (.cells #[] 53)):=(zB _ _).alloc (zA _) _;have HC0:=hid hC0;have HbC:=hid hbC;clear hz hb2 hfl hfm hm hC0 hbC HQ1 HR1 Ha1 Ht1 HB1 Hb1 HbW;go_wp2;go_loopw [35,10] (fun iv cv wr=>∃ k:Nat,k<=m/\iv=.int .i64 k/\Own eReport 53 w2.heap.size wr cv (((allF xs).map (chgF xs)).take k)/\Below w2.heap.size w2 wr) (fun iv _ _=>m - (intOf iv).toNat)
 case atStart=>exact ⟨0,zK _,rfl,HC0.out,HbC.out⟩
 case round =>
  obtain ⟨k,hk,rfl,hC,hbk⟩:=hrel;clear HC0 HbC;by_cases hkm:k<m
  . have hzk:=Rds.below Hz.out.rds hbk (zA _)
    obtain ⟨zo,zcap,hsh,hzo⟩:=yAU hzk;rw [<- Hm.out] at hsh hzo;injection hsh with h1 h2 h3;subst h1;clear h2 h3;obtain ⟨zb,zoff,rfl,hzl,hzc⟩:=hzo (by omega);obtain ⟨f,hfk,⟨c0,c1,c2,c3⟩,hfo⟩:=hzc k hkm;have hfx:=Hfm.out f (zC hfk);have hsz:=hbk.size;have hba:=hbk.alloc hsz (.cells #[.int .i64 f.kind,.int .i64 f.card,.int .i64 f.place,.int .i64 f.digit] 155);have hcon:=change_c (f:=f) (Ha2.out.below hba (zA _)) Hx.out hfx (Ht2.out.below hba);have hcb:=yBF Hx.out hfx;have hco:okReport (chgF xs f):=by unfold okReport;omega
    have hlk:(((allF xs).map (chgF xs)).take k).length=k:=by rw [zI,List.length_map,<- Hm.out];omega
    have hsn:((allF xs).map (chgF xs)).take (k+1)=((allF xs).map (chgF xs)).take k++[chgF xs f]:=yAD (by rw [List.getElem?_map,hfk];rfl);have HC:=hid (hC.alloc (.cells #[.int .i64 f.kind,.int .i64 f.card,.int .i64 f.place,.int .i64 f.digit] 155));have Hba:=hid hba;have Hcon:=hid hcon;have Hco:=hid hco;have Hlk:=hid hlk;have Hsn:=hid hsn;clear hC hbk hzk hzo hzc hfk hfx hba hcon hcb hco hlk hsn hfo;go_wp2_with fail;with_reducible refine Hcon.out.mono ?_
    rintro e w5 ⟨rfl,hb5⟩;generalize chgF xs f=q at Hco Hsn;have HC5:=hid (HC.out.below hb5 (zA _));have Hb5:=hid (Hba.out.trans (hb5.mono Hba.out.size));have hs5:w2.heap.size<=w5.heap.size:=Hb5.out.size;clear hb5 c0 c1 c2 c3 HC Hba Hcon;go_wp2_with (first | (at_builtin;refine yAB (E:=eReport) rfl _ _ 200 rfl Tryz.underlying200 hi hz0 hz1 hz2 rfl (by decide) rfl rfl (HC5.out.alloc _) (yAH (E:=eReport) (x:=q) Hco.out rfl) ?b1 ?b2 ?b3 ?_))
    case b1=>rw [Hlk.out];unfold maxLen;(try simp) <;> omega
    case b2=>rw [Hlk.out];(try simp) <;> omega
    case b3=>(try simp) <;> omega
    intro v6 w6 hC6 hg6;have hb6:=hg6.alloc.below Hb5.out hs5 (fun y hy=>(HC5.out.lt y hy).1);have HC6:=hid hC6;have Hb6:=hid hb6;clear hC6 hg6 hb6;go_wp2;go_roundw
    case rel=>exact ⟨k+1,by omega,by go_num,by rw [Hsn.out];exact HC6.out,Hb6.out⟩
    case measure=>simp [intOf];omega
  . obtain rfl:k=m:=by omega
    rw [zH (by rw [List.length_map];have:=Hm.out;omega)] at hC;obtain ⟨ca,cc,hcv⟩:=hC.shape;rw [List.length_map,<- Hm.out] at hcv;subst hcv;obtain ⟨w3,hw3⟩:∃ w3,w3=wr:=⟨_,rfl⟩;rw [<- hw3] at hC hbk |-;have HC:=hid hC;have Hz3:=hid (Hz.out.below hbk (zA _));have HQ3:=hid (HQ2.out.on hbk);have HR3:=hid (HR2.out.on hbk);have hB3:=(HB2.out.mono (show W1.heap.size<=w2.heap.size from hw12)).below hbk (zA _);have HB3:=hid (hB3.mono (show w2.heap.size<=w3.heap.size from hbk.size));have Hb3:=hid (Hb2.out.trans (hbk.mono (by have:=Hb2.out.size;have:=HN.out;omega)));have hs3:w2.heap.size<=w3.heap.size:=hbk.size;clear hC hbk hB3 hw3;go_wp2;go_loopw [48,7] (fun iv ov wr=>∃ i:Nat,i<=k/\iv=.int .i64 i/\BldG eFault 155 49 N N wr.heap.size wr ov ((sglK xs r i).map fun f=>[f])/\Within (N+1) (N+1+1) w3 wr/\(∀ y,ov.ownBlock=some y->y=N+1\/w3.heap.size<=y)) (fun iv _ _=>k - (intOf iv).toNat)
    case atStart=>exact ⟨0,zK _,rfl,HB3.out,Within.refl _ _ _,fun y hy=>.inl (zD hy).symm⟩
    case round =>
     obtain ⟨i,hi3,rfl,hO,hwi,hob⟩:=hrel;clear HB3;by_cases hik:i<k
     . have hsz:=hwi.size
       have hzi:=Hz3.out.wth hwi (show N+1+1<=W1.heap.size by omega);obtain ⟨zo,zcap,hsh,hzo⟩:=yAU hzi.rds;rw [<- Hm.out] at hsh hzo;injection hsh with h1 h2 h3;subst h1;clear h2 h3;obtain ⟨zb,zoff,rfl,hzl,hzc⟩:=hzo (by omega);obtain ⟨f,hfk,⟨c0,c1,c2,c3⟩,hfo⟩:=hzc i hik;have hCi:=HC.out.wth hwi (show N+1+1<=w2.heap.size by omega);obtain ⟨co,ccap,hsc,hco⟩:=eReport_open hCi.rds;rw [List.length_map,<- Hm.out] at hsc hco;injection hsc with h1 h2 h3;subst h1;clear h2 h3;obtain ⟨cb,coff,rfl,hcl,hcc⟩:=hco (by omega);obtain ⟨q,hqk,⟨q0,q1,q2⟩,hqo⟩:=hcc i hik;have hqf:q=chgF xs f:=by rw [List.getElem?_map,hfk] at hqk;exact (zD hqk).symm
       have hQi:=HQ3.out.wth hwi (by omega);have hRi:=HR3.out.wth hwi (by omega);have hms:missF xs r f=lessW (lessW r bs) q:=by rw [hqf,Hbs.out];rfl
       have hfok:okFault f:=hfo;have ik:(i:Int)<(k:Int):=by omega
       obtain ⟨T,hT⟩:∃ T,T=wr.alloc (.cells #[.int .i64 f.kind,.int .i64 f.card,.int .i64 f.place,.int .i64 f.digit] 155):=⟨_,rfl⟩;have hbT:Below wr.heap.size wr T:=by rw [hT];exact (zB _ _).alloc (zA _) _
       have hF:Box T wr.heap.size [.int .i64 f.kind,.int .i64 f.card,.int .i64 f.place,.int .i64 f.digit]:=by rw [hT];exact Box.new wr [.int .i64 f.kind,.int .i64 f.card,.int .i64 f.place,.int .i64 f.digit] _
       have hTs:T.heap.size=wr.heap.size+1:=by rw [hT];simp
       have HT:=hid hT;have HbT:=hid hbT;have HF:=hid hF;have HTs:=hid hTs;have HQi:=hid (hQi.on hbT);have HRi:=hid (hRi.on hbT);have HOi:=hid (hO.below hbT (zA _));have Hwi:=hid (wth_same hwi hbT);have Hob:=hid hob;have r0:=HRi.out.cell 0 _ rfl;have r1:=HRi.out.cell 1 _ rfl;have r2:=HRi.out.cell 2 _ rfl;have b0:=HQi.out.cell 0 _ rfl;have b1:=HQi.out.cell 1 _ rfl;have b2:=HQi.out.cell 2 _ rfl;have p0:=(hbT.cell (p:=⟨cb,coff+i * 3,none⟩) hcl.2).trans q0;have p1:=(hbT.cell (p:=⟨cb,coff+i * 3+1,none⟩) hcl.2).trans q1;have p2:=(hbT.cell (p:=⟨cb,coff+i * 3+2,none⟩) hcl.2).trans q2;have Hfk:=hid hfk;have Hms:=hid hms;have Hfok:=hid hfok;have hcbl:cb<T.heap.size:=by have:=hcl.2;omega
       clear hzi hzo hzc hfk hfo hCi hco hcc hqk hqo hqf hQi hRi hms hfok hbT hF hTs hT hO hwi hob q0 q1 q2;generalize hMS:missF xs r f=ms at Hms;have HMS:=hid hMS;clear hMS;go_upto_region 15 with fail;rw [<- HT.out];clear c0 c1 c2 c3;go_cut [15] (fun pv wx=>∃ X,pv=.pointer (some ⟨X,0,none⟩)/\Box wx X [.int .i64 ms.count,.int .i64 ms.sum,.int .i64 ms.digits]/\T.heap.size<=X/\Below T.heap.size T wx)
       case first =>
        have HZ0:Hid (Box (T.drew.alloc (.cells #[.int .i64 0,.int .i64 0,.int .i64 0] 53)) T.heap.size [.int .i64 0,.int .i64 0,.int .i64 0]):=hid (Box.new T.drew [.int .i64 0,.int .i64 0,.int .i64 0] 53);have nT:T.heap.size ≠ cb:=by omega
        have mB:B<T.heap.size:=HQi.out.lt;have mN:N<T.heap.size:=HRi.out.lt;have nB:T.heap.size ≠ B:=by omega
        have nN:T.heap.size ≠ N:=by omega
        have hTd:Below T.heap.size T T.drew:=(zB _ _).drew1;go_region_law (first
         | (go_simp;go_at_call 147;(with_reducible refine (less_a1 r bs _).mono ?_);rintro e w8 ⟨rfl,hb8⟩;have hT8:Below T.heap.size T w8:=(by first | exact hTd.trans hb8 | exact (hTd.alloc (zA _) _).trans (hb8.mono (by simp)));have m8:cb<w8.heap.size:=(by have:=hT8.size;omega);have n8:w8.heap.size ≠ cb:=(by omega);have g0:=(hT8.cell (p:=⟨cb,coff+i * 3,none⟩) hcbl).trans p0;have g1:=(hT8.cell (p:=⟨cb,coff+i * 3+1,none⟩) hcbl).trans p1;have g2:=(hT8.cell (p:=⟨cb,coff+i * 3+2,none⟩) hcbl).trans p2;(try (have HZ8:=HZ0.out.on hb8;have z0:=HZ8.cell 0 _ rfl;have z1:=HZ8.cell 1 _ rfl;have z2:=HZ8.cell 2 _ rfl;have y0:=HZ8.free 0;have y1:=HZ8.free 1;have y2:=HZ8.free 2)))
         | (go_simp;go_at_call 147;(with_reducible refine (less_a1 (lessW r bs) q _).mono ?_);rintro e w9 ⟨rfl,hb9⟩;have h89:Below w8.heap.size w8 w9:=(by first | exact hb9 | exact ((zB _ _).alloc (zA _) _).trans (hb9.mono (by simp)));(try (have HZ9:=HZ8.on h89;have x0:=HZ9.cell 0 _ rfl;have x1:=HZ9.cell 1 _ rfl;have x2:=HZ9.cell 2 _ rfl;have v0:=HZ9.free 0;have v1:=HZ9.free 1;have v2:=HZ9.free 2));(try (have HZ9:=(Box.new w8 [.int .i64 0,.int .i64 0,.int .i64 0] 53).on hb9;have x0:=HZ9.cell 0 _ rfl;have x1:=HZ9.cell 1 _ rfl;have x2:=HZ9.cell 2 _ rfl;have v0:=HZ9.free 0;have v1:=HZ9.free 1;have v2:=HZ9.free 2))))
        all_goals
         go_wp2_with fail;go_meet;rw [Hms.out];have hT9:=hT8.trans (h89.mono hT8.size);first
          | exact ⟨_,rfl,Box.new w9 [.int .i64 (lessW (lessW r bs) q).count,.int .i64 (lessW (lessW r bs) q).sum,.int .i64 (lessW (lessW r bs) q).digits] _,hT9.size,hT9.alloc hT9.size _⟩
          | exact ⟨_,rfl,((HZ9.set1 (j:=0) (by simp) _).set1 (j:=1) (by simp) _).set1 (j:=2) (by simp) _,hT8.size,((hT9.setCell (p:=⟨w8.heap.size,0,none⟩) hT8.size _).setCell (p:=⟨w8.heap.size,1,none⟩) hT8.size _).setCell (p:=⟨w8.heap.size,2,none⟩) hT8.size _⟩
          | exact ⟨_,rfl,((HZ9.set1 (j:=0) (by simp) _).set1 (j:=1) (by simp) _).set1 (j:=2) (by simp) _,zA _,((hT9.setCell (p:=⟨T.heap.size,0,none⟩) (zA _) _).setCell (p:=⟨T.heap.size,1,none⟩) (zA _) _).setCell (p:=⟨T.heap.size,2,none⟩) (zA _) _⟩
       case rest =>
        obtain ⟨X,rfl,hX,hXl,hTx⟩:=hcut;have hFw:=HF.out.on hTx;have hOw:=HOi.out.below hTx (show wr.heap.size<=T.heap.size by have:=HTs.out;omega);have hww:=wth_same Hwi.out hTx;have x0:=hX.cell 0 _ rfl;have x1:=hX.cell 1 _ rfl;have x2:=hX.cell 2 _ rfl;have f0:=hFw.cell 0 _ rfl;have f1:=hFw.cell 1 _ rfl;have f2:=hFw.cell 2 _ rfl;have f3:=hFw.cell 3 _ rfl;have hTs:=hTx.size;have hwT:wr.heap.size<=wc.heap.size:=by have:=HTs.out;omega
        have hws:w3.heap.size<=wc.heap.size:=hww.size;have Hww:=hid hww;have HOw:=hid (hOw.mono hwT);have hF2:=hFw;have hX2:=hX;have hOT:=hOw;clear hFw hOw hww hX hTx HF HOi Hwi HRi HQi p0 p1 p2 r0 r1 r2 b0 b1 b2 HT HbT Hms;clear hF2 hX2 hOT;have hss:=sglK_succ (r:=r) Hfk.out;rw [HMS.out] at hss;clear HMS;obtain ⟨m0,m1,m2⟩:=ms;by_cases hz:((⟨m0,m1,m2⟩:ReportT) == zReport)=true
        . rw [if_pos hz] at hss
          obtain ⟨rfl,rfl,rfl⟩:m0=0/\m1=0/\m2=0:=by
           have h:=beq_iff_eq.1 hz;unfold zReport at h;injection h with h1 h2 h3;exact ⟨h1,h2,h3⟩
          have Hss:=hid hss;have hR:=Own.lit (E:=eFault) (e:=155) (base:=wc.heap.size) (w:=wc) (xs:=[f]) (cs:=#[.int .i64 f.kind,.int .i64 f.card,.int .i64 f.place,.int .i64 f.digit]) (n:=1) (zA _) rfl rfl (by decide) (fun y hy=>by rw [List.mem_singleton] at hy;rw [hy];exact Hfok.out);have hBw:=HOw.out.below ((zB wc.heap.size wc).alloc (zA _) (.cells #[.int .i64 f.kind,.int .i64 f.card,.int .i64 f.place,.int .i64 f.digit] 155)) (zA _);obtain ⟨hs',xh,hval,hokx,hlen,hO,hfn⟩:=hBw.app hR (show N<=wc.heap.size by omega) (by simp);have hcells:(#[.slice (some ⟨wc.heap.size,0,none⟩) 1 1]:Array Value)=(eS.cells xh).toArray:=by rw [<- hval];rfl
          have hlen2:hs'.length<=504:=by
           rw [hlen,List.length_map];have h:=List.length_filter_le (fun f=>missF xs r f == zReport) ((allF xs).take i);rw [zI] at h;show (sglK xs r i).length<=504
           unfold sglK;omega
          have HO:=hid hO;have Hfn:=hid hfn;have Hcells:=hid hcells;have Hokx:=hid hokx;clear hR hBw hval hlen hO hfn hcells hss hz hokx HOw;go_wp2_with (first | (at_builtin;refine yAB (E:=eS) rfl _ _ 103 rfl Tryz.underlying103 hi1 hy0 hy1 hy2 rfl (by decide) rfl rfl (HO.out.alloc _) (rds_one' (E:=eS) (x:=xh) (H:=wc.heap.size+1) (by simp) Hokx.out Hcells.out) ?b1 ?b2 ?b3 ?_))
          case b1=>unfold maxLen;(try simp) <;> omega
          case b2=>(try simp) <;> omega
          case b3=>(try simp) <;> omega
          intro v6 w6 hO6 hg6;have hg6':=hg6.alloc;have HB6:=hid (Hfn.out w6 v6 hO6 hg6');have hwx:=wth_grown (wth_same Hww.out ((zB wc.heap.size wc).alloc (zA _) (.cells #[.int .i64 f.kind,.int .i64 f.card,.int .i64 f.place,.int .i64 f.digit] 155))) hg6'.1 (fun y hy=>by rcases Hob.out y hy with h | h <;> omega);have hox:∀ y,v6.ownBlock=some y->y=N+1\/w3.heap.size<=y:=by
           intro y hy;rcases hg6'.2 with h | ⟨y',h,hl'⟩
           . rw [h] at hy;exact Hob.out y hy
           . rw [h] at hy
             have h2:=zD hy;simp at hl';right;omega
          have Hwx:=hid hwx;have Hox:=hid hox;clear hO6 hg6 hg6' hwx hox x0 x1 x2 f0 f1 f2 f3 HO Hfn;go_wp2;go_roundw
          case rel=>exact ⟨i+1,by omega,by go_num,by rw [Hss.out,List.map_append];exact HB6.out,Hwx.out,Hox.out⟩
          case measure=>simp [intOf];omega
        . rw [if_neg hz,List.append_nil] at hss
          have hne:¬ (m0=0/\m1=0/\m2=0):=by
           rintro ⟨rfl,rfl,rfl⟩;exact hz rfl
          have Hss:=hid hss;clear hss hz;by_cases h0:m0=0
          . subst h0
            by_cases h1:m1=0
            . subst h1
              have h2:(m2 == 0)=false:=by simpa using hne
              have h2':¬ m2=0:=by simpa using hne
              clear hne;go_wp2;clear x0 x1 x2 f0 f1 f2 f3;go_roundw
              case rel=>exact ⟨i+1,by omega,by go_num,by rw [Hss.out];exact HOw.out,Hww.out,Hob.out⟩
              case measure=>simp [intOf];omega
            . have h1':(m1 == 0)=false:=by simpa using h1
              clear hne;go_wp2;clear x0 x1 x2 f0 f1 f2 f3;go_roundw
              case rel=>exact ⟨i+1,by omega,by go_num,by rw [Hss.out];exact HOw.out,Hww.out,Hob.out⟩
              case measure=>simp [intOf];omega
          . have h0':(m0 == 0)=false:=by simpa using h0
            clear hne;go_wp2;clear x0 x1 x2 f0 f1 f2 f3;go_roundw
            case rel=>exact ⟨i+1,by omega,by go_num,by rw [Hss.out];exact HOw.out,Hww.out,Hob.out⟩
            case measure=>simp [intOf];omega
     . obtain rfl:i=k:=by omega
       have hfin:((sglK xs r i).map fun f=>[f])=explF xs r 1:=by
        have h:=Hm.out;unfold sglK explF sglF;rw [if_neg (by decide),if_pos rfl,zH (by omega)]
       rw [hfin] at hO;have HO:=hid hO;have hbf:=Hb3.out.trans ((hwi.below (show N+1<=w3.heap.size by omega)).mono (show N<=N+1 by omega));have Hbf:=hid hbf;clear hO hwi hob hfin hbf;go_wp2;go_ret;exact ⟨_,rfl,HO.out,Hbf.out⟩
theorem rdsDrew {α:Type} {E:Elt α} {B:Nat} {w:World} {v:Value} {xs:List α} (h:Rds E B w v xs):Rds E B w.drew v xs:=h
theorem growDrew {w w':World} {o:Obj} {v v':Value} (h:Grew (w.alloc o).drew w' v v'):Grew w w' v v':=Grew.alloc (o:=o) ⟨⟨h.1.os,h.1.tape,h.1.output,h.1.size,h.1.block⟩,h.2⟩
theorem BldG.own {α:Type} {E:Elt α} {er e:TypeId} {base rb tp:Nat} {w:World} {v:Value} {xss:List (List α)} (h:BldG E er e base rb tp w v xss):∀ k,v.ownBlock=some k->k<tp:=by
 obtain ⟨hs,h1,_⟩:=h;exact h1.2
theorem less_a2 (r x:ReportT) (w:World) :
 Calls Tryz.prog 147 #[vReport r,vReport x] w fun e w'=>e=.returned (.agg #[.int .i64 (lessW r x).count,.int .i64 (lessW r x).sum,.int .i64 (lessW r x).digits])/\Below w.heap.size w w':=less_c r x w
theorem explan2_c {xs:List Int} {r:ReportT} {v:Value} {w:World} {A:Nat} (ha:RdI A w v xs) (hx:amtOk xs=true) (hr:okReport r) (ht:PowAt w) :
 Calls Tryz.prog 104 #[v,vReport r,.int .i64 2] w fun e w'=>∃ u,e=.returned u/\BldG eFault 155 49 w.heap.size w.heap.size w'.heap.size w' u (explF xs r 2)/\Below w.heap.size w w':=by
 obtain ⟨i0,hi,hz0,hz1,hz2⟩:=info_parts infoReportN;obtain ⟨i1,hi1,hy0,hy1,hy2⟩:=info_parts infoSlF;obtain ⟨hl,hxx⟩:=yAQ hx;obtain ⟨N,hN⟩:∃ N,N=w.heap.size:=⟨_,rfl⟩;obtain ⟨W0,hW0⟩:∃ W0,W0=(w.alloc (.cells #[.int .i64 r.count,.int .i64 r.sum,.int .i64 r.digits] 53)).alloc (.cells #[] 49):=⟨_,rfl⟩;have hs1:(w.alloc (.cells #[.int .i64 r.count,.int .i64 r.sum,.int .i64 r.digits] 53)).heap.size=N+1:=by rw [hN];simp
 have hs0:W0.heap.size=N+1+1:=by rw [hW0,hN];simp
 have hR0:Box W0 N [.int .i64 r.count,.int .i64 r.sum,.int .i64 r.digits]:=by rw [hW0,hN];exact (Box.new w [.int .i64 r.count,.int .i64 r.sum,.int .i64 r.digits] _).alloc _
 have hO0:Own eS 49 N W0 (.slice (some ⟨N+1,0,none⟩) 0 0) []:=by
  have h:=Own.lit (E:=eS) (e:=49) (base:=N) (w:=w.alloc (.cells #[.int .i64 r.count,.int .i64 r.sum,.int .i64 r.digits] 53)) (xs:=[]) (cs:=#[]) (n:=0) (by omega) rfl rfl (by decide) (fun x hx=>by cases hx);rw [hs1] at h;rw [hW0];exact h
 have hb0:Below N w W0:=by rw [hW0,hN];exact ((zB _ _).alloc (zA _) _).alloc (by simp) _
 have hB0:BldG eFault 155 49 N N W0.heap.size W0 (.slice (some ⟨N+1,0,none⟩) 0 0) ([]:List (List FaultT)):=BldG.empty rfl hO0 (by omega);have ha0:=Rds.onn ha (show Below w.heap.size w W0 by rw [<- hN];exact hb0);have ht0:=ht.below (show Below w.heap.size w W0 by rw [<- hN];exact hb0);have HW0:=hid hW0;have HN:=hid hN;have HR0:=hid hR0;have Hb0:=hid hb0;have HB0:=hid hB0;have Ha0:=hid ha0;have Ht0:=hid ht0;have Hx:=hid hx;have Hxx:=hid hxx;have Hl:=hid hl;have Hr:=hid hr;have Hs0:=hid hs0;obtain ⟨ao,cap,rfl⟩:=ha.shape;clear ha hx hr ht hl hxx hW0 hs1 hs0 hR0 hO0 hb0 hB0 ha0 ht0;rw [<- hN];clear hN;go_enter Tryz.func104,Tryz.ntmps104;go_wp2_with fail;rw [<- HN.out,<- HW0.out];with_reducible refine (reportOf_c Ha0.out Hxx.out (by have:=Hl.out;omega) Ht0.out).mono ?_
 rintro e w1 ⟨rfl,hb1⟩;obtain ⟨B,hB⟩:∃ B,B=w1.heap.size:=⟨_,rfl⟩;obtain ⟨bs,hbs⟩:∃ bs,bs=repOf xs:=⟨_,rfl⟩;rw [<- hbs];obtain ⟨W1,hW1⟩:∃ W1,W1=w1.alloc (.cells #[.int .i64 bs.count,.int .i64 bs.sum,.int .i64 bs.digits] 53):=⟨_,rfl⟩;have hbW:Below W0.heap.size W0 W1:=by rw [hW1];exact hb1.alloc hb1.size _
 have hQ1:Box W1 B [.int .i64 bs.count,.int .i64 bs.sum,.int .i64 bs.digits]:=by rw [hW1,hB];exact Box.new w1 [.int .i64 bs.count,.int .i64 bs.sum,.int .i64 bs.digits] _
 have HQ1:=hid hQ1;have HR1:=hid (HR0.out.on hbW);have Ha1:=hid (Ha0.out.onn hbW);have Ht1:=hid (Ht0.out.below hbW);have HB1:=hid (HB0.out.below hbW (zA _));have Hb1:=hid (Hb0.out.trans (hbW.mono (by have:=Hs0.out;omega)));have hBN:N+1+1<=B:=by have:=Hs0.out;have:=hb1.size;omega
 have HW1:=hid hW1;have HbW:=hid hbW;have Hbs:=hid hbs;have HBe:=hid hB;clear hb1 hbW hQ1 hbs hW1 hB;go_wp2_with fail;rw [<- HBe.out,<- HW1.out];with_reducible refine (allFaults_c Ha1.out Hx.out).mono ?_
 rintro e w2 ⟨z,rfl,hz,hb2⟩;have hfl:=allK_len xs xs.length;have hfm:∀ f∈allF xs,fOk xs f:=fun f hf=>mem_allF.1 hf;obtain ⟨m,hm⟩:∃ m,m=(allF xs).length:=⟨_,rfl⟩;have hm5:m<=504:=by rw [hm];have:=Hl.out;unfold allF;omega
 obtain ⟨za,zc,rfl⟩:=hz.shape;rw [<- hm] at hz |-;have Hz:=hid hz;have HQ2:=hid (HQ1.out.on hb2);have HR2:=hid (HR1.out.on hb2);have Ha2:=hid (Ha1.out.onn hb2);have Ht2:=hid (Ht1.out.below hb2);have HB2:=hid ((HB1.out.mono (show W0.heap.size<=W1.heap.size from HbW.out.size)).below hb2 (zA _));have Hb2:=hid (Hb1.out.trans (hb2.mono (by have:=Hb1.out.size;have:=HN.out;omega)));have hW1B:B<W1.heap.size:=HQ1.out.lt;have hw12:=hb2.size;have Hfm:=hid hfm;have Hm:=hid hm;have hC0:Own eReport 53 w2.heap.size (w2.alloc (.cells #[] 53)) (.slice (some ⟨w2.heap.size,0,none⟩) 0 0) []:=Own.lit (E:=eReport) (xs:=[]) (cs:=#[]) (zA _) rfl rfl (by decide) (fun x hx=>by cases hx);have hbC:Below w2.heap.size w2 (w2.alloc (.cells #[] 53)):=(zB _ _).alloc (zA _) _;have HC0:=hid hC0;have HbC:=hid hbC;clear hz hb2 hfl hfm hm hC0 hbC HQ1 HR1 Ha1 Ht1 HB1 Hb1 HbW;go_wp2;go_loopw [35,10] (fun iv cv wr=>∃ k:Nat,k<=m/\iv=.int .i64 k/\Own eReport 53 w2.heap.size wr cv (((allF xs).map (chgF xs)).take k)/\Below w2.heap.size w2 wr) (fun iv _ _=>m - (intOf iv).toNat)
 case atStart=>exact ⟨0,zK _,rfl,HC0.out,HbC.out⟩
 case round =>
  obtain ⟨k,hk,rfl,hC,hbk⟩:=hrel;clear HC0 HbC;by_cases hkm:k<m
  . have hzk:=Rds.below Hz.out.rds hbk (zA _)
    obtain ⟨zo,zcap,hsh,hzo⟩:=yAU hzk;rw [<- Hm.out] at hsh hzo;injection hsh with h1 h2 h3;subst h1;clear h2 h3;obtain ⟨zb,zoff,rfl,hzl,hzc⟩:=hzo (by omega);obtain ⟨f,hfk,⟨c0,c1,c2,c3⟩,hfo⟩:=hzc k hkm;have hfx:=Hfm.out f (zC hfk);have hsz:=hbk.size;have hba:=hbk.alloc hsz (.cells #[.int .i64 f.kind,.int .i64 f.card,.int .i64 f.place,.int .i64 f.digit] 155);have hcon:=change_c (f:=f) (Ha2.out.below hba (zA _)) Hx.out hfx (Ht2.out.below hba);have hcb:=yBF Hx.out hfx;have hco:okReport (chgF xs f):=by unfold okReport;omega
    have hlk:(((allF xs).map (chgF xs)).take k).length=k:=by rw [zI,List.length_map,<- Hm.out];omega
    have hsn:((allF xs).map (chgF xs)).take (k+1)=((allF xs).map (chgF xs)).take k++[chgF xs f]:=yAD (by rw [List.getElem?_map,hfk];rfl);have HC:=hid (hC.alloc (.cells #[.int .i64 f.kind,.int .i64 f.card,.int .i64 f.place,.int .i64 f.digit] 155));have Hba:=hid hba;have Hcon:=hid hcon;have Hco:=hid hco;have Hlk:=hid hlk;have Hsn:=hid hsn;clear hC hbk hzk hzo hzc hfk hfx hba hcon hcb hco hlk hsn hfo;go_wp2_with fail;with_reducible refine Hcon.out.mono ?_
    rintro e w5 ⟨rfl,hb5⟩;generalize chgF xs f=q at Hco Hsn;have HC5:=hid (HC.out.below hb5 (zA _));have Hb5:=hid (Hba.out.trans (hb5.mono Hba.out.size));have hs5:w2.heap.size<=w5.heap.size:=Hb5.out.size;clear hb5 c0 c1 c2 c3 HC Hba Hcon;go_wp2_with (first | (at_builtin;refine yAB (E:=eReport) rfl _ _ 200 rfl Tryz.underlying200 hi hz0 hz1 hz2 rfl (by decide) rfl rfl (HC5.out.alloc _) (yAH (E:=eReport) (x:=q) Hco.out rfl) ?b1 ?b2 ?b3 ?_))
    case b1=>rw [Hlk.out];unfold maxLen;(try simp) <;> omega
    case b2=>rw [Hlk.out];(try simp) <;> omega
    case b3=>(try simp) <;> omega
    intro v6 w6 hC6 hg6;have hb6:=hg6.alloc.below Hb5.out hs5 (fun y hy=>(HC5.out.lt y hy).1);have HC6:=hid hC6;have Hb6:=hid hb6;clear hC6 hg6 hb6;go_wp2;go_roundw
    case rel=>exact ⟨k+1,by omega,by go_num,by rw [Hsn.out];exact HC6.out,Hb6.out⟩
    case measure=>simp [intOf];omega
  . obtain rfl:k=m:=by omega
    rw [zH (by rw [List.length_map];have:=Hm.out;omega)] at hC;obtain ⟨ca,cc,hcv⟩:=hC.shape;rw [List.length_map,<- Hm.out] at hcv;subst hcv;obtain ⟨w3,hw3⟩:∃ w3,w3=wr:=⟨_,rfl⟩;rw [<- hw3] at hC hbk |-;have HC:=hid hC;have Hz3:=hid (Hz.out.below hbk (zA _));have HQ3:=hid (HQ2.out.on hbk);have HR3:=hid (HR2.out.on hbk);have hB3:=(HB2.out.mono (show W1.heap.size<=w2.heap.size from hw12)).below hbk (zA _);have HB3:=hid (hB3.mono (show w2.heap.size<=w3.heap.size from hbk.size));have Hb3:=hid (Hb2.out.trans (hbk.mono (by have:=Hb2.out.size;have:=HN.out;omega)));have hs3:w2.heap.size<=w3.heap.size:=hbk.size;clear hC hbk hB3 hw3;go_wp2;go_loopw [48,7] (fun iv ov wr=>∃ i:Nat,i<=k/\iv=.int .i64 i/\BldG eFault 155 49 N N wr.heap.size wr ov (pairsK xs r i)/\Within (N+1) (N+1+1) w3 wr/\(∀ y,ov.ownBlock=some y->y=N+1\/w3.heap.size<=y)) (fun iv _ _=>k - (intOf iv).toNat)
    case atStart=>exact ⟨0,zK _,rfl,HB3.out,Within.refl _ _ _,fun y hy=>.inl (zD hy).symm⟩
    case round =>
     obtain ⟨i,hi3,rfl,hO,hwi,hob⟩:=hrel;clear HB3;by_cases hik:i<k
     . have hsz:=hwi.size
       have hzi:=Hz3.out.wth hwi (show N+1+1<=W1.heap.size by omega);obtain ⟨zo,zcap,hsh,hzo⟩:=yAU hzi.rds;rw [<- Hm.out] at hsh hzo;injection hsh with h1 h2 h3;subst h1;clear h2 h3;obtain ⟨zb,zoff,rfl,hzl,hzc⟩:=hzo (by omega);obtain ⟨f,hfk,⟨c0,c1,c2,c3⟩,hfo⟩:=hzc i hik;have hCi:=HC.out.wth hwi (show N+1+1<=w2.heap.size by omega);obtain ⟨co,ccap,hsc,hco⟩:=eReport_open hCi.rds;rw [List.length_map,<- Hm.out] at hsc hco;injection hsc with h1 h2 h3;subst h1;clear h2 h3;obtain ⟨cb,coff,rfl,hcl,hcc⟩:=hco (by omega);obtain ⟨q,hqk,⟨q0,q1,q2⟩,hqo⟩:=hcc i hik;have hqf:q=chgF xs f:=by rw [List.getElem?_map,hfk] at hqk;exact (zD hqk).symm
       have hQi:=HQ3.out.wth hwi (by omega);have hRi:=HR3.out.wth hwi (by omega);have hms:missF xs r f=lessW (lessW r bs) q:=by rw [hqf,Hbs.out];rfl
       have hfok:okFault f:=hfo;have ik:(i:Int)<(k:Int):=by omega
       obtain ⟨T,hT⟩:∃ T,T=wr.alloc (.cells #[.int .i64 f.kind,.int .i64 f.card,.int .i64 f.place,.int .i64 f.digit] 155):=⟨_,rfl⟩;have hbT:Below wr.heap.size wr T:=by rw [hT];exact (zB _ _).alloc (zA _) _
       have hF:Box T wr.heap.size [.int .i64 f.kind,.int .i64 f.card,.int .i64 f.place,.int .i64 f.digit]:=by rw [hT];exact Box.new wr [.int .i64 f.kind,.int .i64 f.card,.int .i64 f.place,.int .i64 f.digit] _
       have hTs:T.heap.size=wr.heap.size+1:=by rw [hT];simp
       have HT:=hid hT;have HbT:=hid hbT;have HF:=hid hF;have HTs:=hid hTs;have HQi:=hid (hQi.on hbT);have HRi:=hid (hRi.on hbT);have HOi:=hid (hO.below hbT (zA _));have Hwi:=hid (wth_same hwi hbT);have Hob:=hid hob;have r0:=HRi.out.cell 0 _ rfl;have r1:=HRi.out.cell 1 _ rfl;have r2:=HRi.out.cell 2 _ rfl;have b0:=HQi.out.cell 0 _ rfl;have b1:=HQi.out.cell 1 _ rfl;have b2:=HQi.out.cell 2 _ rfl;have p0:=(hbT.cell (p:=⟨cb,coff+i * 3,none⟩) hcl.2).trans q0;have p1:=(hbT.cell (p:=⟨cb,coff+i * 3+1,none⟩) hcl.2).trans q1;have p2:=(hbT.cell (p:=⟨cb,coff+i * 3+2,none⟩) hcl.2).trans q2;have Hfk:=hid hfk;have Hms:=hid hms;have Hfok:=hid hfok;have hcbl:cb<T.heap.size:=by have:=hcl.2;omega
       clear hzi hzo hzc hfk hfo hCi hco hcc hqk hqo hqf hQi hRi hms hfok hbT hF hTs hT hO hwi hob q0 q1 q2;generalize hMS:missF xs r f=ms at Hms;have HMS:=hid hMS;clear hMS;go_upto_region 15 with fail;rw [<- HT.out];clear c0 c1 c2 c3;go_cut [15] (fun pv wx=>∃ X,pv=.pointer (some ⟨X,0,none⟩)/\Box wx X [.int .i64 ms.count,.int .i64 ms.sum,.int .i64 ms.digits]/\T.heap.size<=X/\Below T.heap.size T wx)
       case first =>
        have HZ0:Hid (Box (T.drew.alloc (.cells #[.int .i64 0,.int .i64 0,.int .i64 0] 53)) T.heap.size [.int .i64 0,.int .i64 0,.int .i64 0]):=hid (Box.new T.drew [.int .i64 0,.int .i64 0,.int .i64 0] 53);have nT:T.heap.size ≠ cb:=by omega
        have mB:B<T.heap.size:=HQi.out.lt;have mN:N<T.heap.size:=HRi.out.lt;have nB:T.heap.size ≠ B:=by omega
        have nN:T.heap.size ≠ N:=by omega
        have hTd:Below T.heap.size T T.drew:=(zB _ _).drew1;go_region_law (first
         | (go_simp;go_at_call 147;(with_reducible refine (less_a2 r bs _).mono ?_);rintro e w8 ⟨rfl,hb8⟩;have hT8:Below T.heap.size T w8:=(by first | exact hTd.trans hb8 | exact (hTd.alloc (zA _) _).trans (hb8.mono (by simp)));have m8:cb<w8.heap.size:=(by have:=hT8.size;omega);have n8:w8.heap.size ≠ cb:=(by omega);have g0:=(hT8.cell (p:=⟨cb,coff+i * 3,none⟩) hcbl).trans p0;have g1:=(hT8.cell (p:=⟨cb,coff+i * 3+1,none⟩) hcbl).trans p1;have g2:=(hT8.cell (p:=⟨cb,coff+i * 3+2,none⟩) hcbl).trans p2;(try (have HZ8:=HZ0.out.on hb8;have z0:=HZ8.cell 0 _ rfl;have z1:=HZ8.cell 1 _ rfl;have z2:=HZ8.cell 2 _ rfl;have y0:=HZ8.free 0;have y1:=HZ8.free 1;have y2:=HZ8.free 2)))
         | (go_simp;go_at_call 147;(with_reducible refine (less_a2 (lessW r bs) q _).mono ?_);rintro e w9 ⟨rfl,hb9⟩;have h89:Below w8.heap.size w8 w9:=(by first | exact hb9 | exact ((zB _ _).alloc (zA _) _).trans (hb9.mono (by simp)));(try (have HZ9:=HZ8.on h89;have x0:=HZ9.cell 0 _ rfl;have x1:=HZ9.cell 1 _ rfl;have x2:=HZ9.cell 2 _ rfl;have v0:=HZ9.free 0;have v1:=HZ9.free 1;have v2:=HZ9.free 2));(try (have HZ9:=(Box.new w8 [.int .i64 0,.int .i64 0,.int .i64 0] 53).on hb9;have x0:=HZ9.cell 0 _ rfl;have x1:=HZ9.cell 1 _ rfl;have x2:=HZ9.cell 2 _ rfl;have v0:=HZ9.free 0;have v1:=HZ9.free 1;have v2:=HZ9.free 2))))
        all_goals
         go_wp2_with fail;go_meet;rw [Hms.out];have hT9:=hT8.trans (h89.mono hT8.size);first
          | exact ⟨_,rfl,Box.new w9 [.int .i64 (lessW (lessW r bs) q).count,.int .i64 (lessW (lessW r bs) q).sum,.int .i64 (lessW (lessW r bs) q).digits] _,hT9.size,hT9.alloc hT9.size _⟩
          | exact ⟨_,rfl,((HZ9.set1 (j:=0) (by simp) _).set1 (j:=1) (by simp) _).set1 (j:=2) (by simp) _,hT8.size,((hT9.setCell (p:=⟨w8.heap.size,0,none⟩) hT8.size _).setCell (p:=⟨w8.heap.size,1,none⟩) hT8.size _).setCell (p:=⟨w8.heap.size,2,none⟩) hT8.size _⟩
          | exact ⟨_,rfl,((HZ9.set1 (j:=0) (by simp) _).set1 (j:=1) (by simp) _).set1 (j:=2) (by simp) _,zA _,((hT9.setCell (p:=⟨T.heap.size,0,none⟩) (zA _) _).setCell (p:=⟨T.heap.size,1,none⟩) (zA _) _).setCell (p:=⟨T.heap.size,2,none⟩) (zA _) _⟩
       case rest =>
        obtain ⟨X,rfl,hX,hXl,hTx⟩:=hcut;have hFw:=HF.out.on hTx;have hOw:=HOi.out.below hTx (show wr.heap.size<=T.heap.size by have:=HTs.out;omega);have hww:=wth_same Hwi.out hTx;have x0:=hX.cell 0 _ rfl;have x1:=hX.cell 1 _ rfl;have x2:=hX.cell 2 _ rfl;have f0:=hFw.cell 0 _ rfl;have f1:=hFw.cell 1 _ rfl;have f2:=hFw.cell 2 _ rfl;have f3:=hFw.cell 3 _ rfl;have hTs:=hTx.size;have hwT:wr.heap.size<=wc.heap.size:=by have:=HTs.out;omega
        have hws:w3.heap.size<=wc.heap.size:=hww.size;have Hww:=hid hww;have HOw:=hid (hOw.mono hwT);have hF2:=hFw;have hX2:=hX;have hOT:=hOw;clear hFw hOw hww hX hTx HF HOi Hwi HRi HQi p0 p1 p2 r0 r1 r2 b0 b1 b2 HT HbT Hms;obtain ⟨T0,hT0⟩:∃ T0,T0=wr.heap.size:=⟨_,rfl⟩;have hXc:X<wc.heap.size:=hX2.lt;have hT0c:wr.heap.size<wc.heap.size:=hF2.lt;rw [<- hT0] at hwT hT0c hF2 hOT |-;have hTX:T0<=X:=by have:=HTs.out;omega
        have hT3:w3.heap.size<=T0:=by rw [hT0];exact hsz
        have HF2:=hid hF2;have HX2:=hid hX2;have Hob2:Hid (∀ y,u7.ownBlock=some y->y=N+1\/(w3.heap.size<=y/\(y<T0\/wc.heap.size<=y))):=hid (fun y hy=>by
         rcases Hob.out y hy with h | h
         . exact .inl h
         . exact .inr ⟨h,.inl (hOT.own y hy)⟩)
        have hps:=pairsK_succ xs r i;have Hps:=hid hps;have hfi:fGo (allF xs) i=f:=by unfold fGo;rw [List.getD_eq_getElem?_getD,Hfk.out];rfl
        have Hfi:=hid hfi;clear hps hfi hT0 hF2 hX2 hOT Hob hsz HTs;go_wp2_with fail;clear x0 x1 x2 f0 f1 f2 f3;have hz16:(i:Int)+1=((i+1:Nat):Int):=rfl;go_loopw [16,7] (fun kv ov wz=>∃ kk:Nat,i+1<=kk/\kk<=k/\kv=.int .i64 kk/\BldG eFault 155 49 N N wz.heap.size wz ov (pairsK xs r i++pairK xs r i kk)/\Within (N+1) (N+1+1) w3 wz/\Box wz T0 [.int .i64 f.kind,.int .i64 f.card,.int .i64 f.place,.int .i64 f.digit]/\Box wz X [.int .i64 ms.count,.int .i64 ms.sum,.int .i64 ms.digits]/\wc.heap.size<=wz.heap.size/\(∀ y,ov.ownBlock=some y->y=N+1\/(w3.heap.size<=y/\(y<T0\/wc.heap.size<=y)))) (fun kv _ _=>k - (intOf kv).toNat)
        case atStart=>exact ⟨i+1,zA _,by omega,by first | rfl | go_num,by rw [pairK_start,List.append_nil];exact HOw.out,Hww.out,HF2.out,HX2.out,zA _,Hob2.out⟩
        case round =>
         obtain ⟨kk,hkk1,hkk,rfl,hOz,hwz,hFz,hXz,hcz,hoz⟩:=hrel;clear HOw Hww HF2 HX2 Hob2 hz16;by_cases hkkk:kk<k
         . have hzi:=Hz3.out.wth hwz (show N+1+1<=W1.heap.size by omega)
           obtain ⟨zo,zcap,hsh,hzo⟩:=yAU hzi.rds;rw [<- Hm.out] at hsh hzo;injection hsh with h1 h2 h3;subst h1;clear h2 h3;obtain ⟨zb',zoff',hzz,hzl',hzc⟩:=hzo (by omega);cases hzz;obtain ⟨g,hgk,⟨c0,c1,c2,c3⟩,hgo⟩:=hzc kk hkkk;have hCi:=HC.out.wth hwz (show N+1+1<=w2.heap.size by omega);obtain ⟨co,ccap,hsc,hco⟩:=eReport_open hCi.rds;rw [List.length_map,<- Hm.out] at hsc hco;injection hsc with h1 h2 h3;subst h1;clear h2 h3;obtain ⟨cb',coff',hcc',hcl',hcc⟩:=hco (by omega);cases hcc';obtain ⟨q',hqk,⟨q0,q1,q2⟩,hqo⟩:=hcc kk hkkk;have hqf:chgF xs g=q':=by rw [List.getElem?_map,hgk] at hqk;exact zD hqk
           have hfg:fGo (allF xs) kk=g:=by unfold fGo;rw [List.getD_eq_getElem?_getD,hgk];rfl
           have hsu:=pairK_succ xs r i kk (by omega);have hpt:pairT xs r f g=(decide (f.card<g.card) && (q' == ms)):=by unfold pairT;rw [hqf,HMS.out]
           rw [Hfi.out,hfg,hpt] at hsu;have hkki:(kk:Int)<(k:Int):=by omega
           have x0:=hXz.cell 0 _ rfl;have x1:=hXz.cell 1 _ rfl;have x2:=hXz.cell 2 _ rfl;have f0:=hFz.cell 0 _ rfl;have f1:=hFz.cell 1 _ rfl;have f2:=hFz.cell 2 _ rfl;have f3:=hFz.cell 3 _ rfl;have HOz:=hid hOz;have Hwz:=hid hwz;have HFz:=hid hFz;have HXz:=hid hXz;have Hoz:=hid hoz;have Hgo:Hid (okFault g):=hid hgo;have Hpl:=hid (pairsK_len xs r i);have Hpl2:=hid (pairK_len xs r i kk);clear hzi hzo hzc hgk hCi hco hcc hqk hqf hfg hpt hOz hwz hFz hXz hoz hgo hqo;cases hlt:decide (f.card<g.card) with
           | false =>
            rw [hlt,Bool.false_and] at hsu;have Hsu:Hid (pairK xs r i (kk+1)=pairK xs r i kk):=hid (by rw [hsu];simp);have hlt':¬ f.card<g.card:=of_decide_eq_false hlt;clear hsu;go_wp2;go_quiet (fail);have hbq:Below wr.heap.size wr (wr.drewN nq):=(zB _ _).drewNy _;have HO6:=hid (HOz.out.below hbq (zA _));have Hw6:=hid (wth_same Hwz.out hbq);have HF6:=hid (HFz.out.on hbq);have HX6:=hid (HXz.out.on hbq);clear hbq c0 c1 c2 c3 q0 q1 q2 x0 x1 x2 f0 f1 f2 f3 HOz Hwz HFz HXz hlt hlt';go_wp2;go_roundw
            case rel=>exact ⟨kk+1,by omega,by omega,by go_num,by rw [Hsu.out];exact HO6.out,Hw6.out,HF6.out,HX6.out,hcz,Hoz.out⟩
            case measure=>simp [intOf];omega
           | true =>
            rw [hlt,Bool.true_and] at hsu;have hlt':f.card<g.card:=of_decide_eq_true hlt;cases hqm:(q' == ms) with
            | false =>
             rw [hqm] at hsu;have Hsu:Hid (pairK xs r i (kk+1)=pairK xs r i kk):=hid (by rw [hsu];simp);have hr1:=fun w=>eql_run (x:=q') (y:=ms) (b:=false) hqm w;clear hsu;go_wp2;go_quiet (fail);have hbq:Below wr.heap.size wr (wr.drewN nq):=(zB _ _).drewNy _;have HO6:=hid (HOz.out.below hbq (zA _));have Hw6:=hid (wth_same Hwz.out hbq);have HF6:=hid (HFz.out.on hbq);have HX6:=hid (HXz.out.on hbq);clear hbq c0 c1 c2 c3 q0 q1 q2 x0 x1 x2 f0 f1 f2 f3 HOz Hwz HFz HXz hlt hlt' hr1 hqm;go_wp2;go_roundw
             case rel=>exact ⟨kk+1,by omega,by omega,by go_num,by rw [Hsu.out];exact HO6.out,Hw6.out,HF6.out,HX6.out,hcz,Hoz.out⟩
             case measure=>simp [intOf];omega
            | true =>
             rw [hqm] at hsu;have Hsu:Hid (pairK xs r i (kk+1)=pairK xs r i kk++[[f,g]]):=hid (by rw [hsu];simp);have hr1:=fun w=>eql_run (x:=q') (y:=ms) (b:=true) hqm w;clear hsu;go_wp2;go_quiet (fail);have hbq:Below wr.heap.size wr (wr.drewN nq):=(zB _ _).drewNy _;replace c0:=(hbq.cell (p:=⟨zb,zoff+kk * 4,none⟩) hzl'.2).trans c0;replace c1:=(hbq.cell (p:=⟨zb,zoff+kk * 4+1,none⟩) hzl'.2).trans c1;replace c2:=(hbq.cell (p:=⟨zb,zoff+kk * 4+2,none⟩) hzl'.2).trans c2;replace c3:=(hbq.cell (p:=⟨zb,zoff+kk * 4+3,none⟩) hzl'.2).trans c3;have HO6:=hid (HOz.out.below hbq (zA _));have Hw6:=hid (wth_same Hwz.out hbq);have HF6:=hid (HFz.out.on hbq);have HX6:=hid (HXz.out.on hbq);have hsq:(wr.drewN nq).heap.size=wr.heap.size:=rfl;have hzq:zb<(wr.drewN nq).heap.size:=hzl'.2;clear hbq q0 q1 q2 x0 x1 x2 f0 f1 f2 f3 HOz Hwz HFz HXz hlt hlt' hr1 hqm;generalize wr.drewN nq=wq at c0 c1 c2 c3 HO6 Hw6 HF6 HX6 hsq hzq |-;rw [<- hsq] at hcz HO6;clear hsq;have f0:=HF6.out.cell 0 _ rfl;have f1:=HF6.out.cell 1 _ rfl;have f2:=HF6.out.cell 2 _ rfl;have f3:=HF6.out.cell 3 _ rfl;have hR:=Own.lit (E:=eFault) (e:=155) (base:=wq.heap.size) (w:=wq) (xs:=[f,g]) (cs:=#[.int .i64 f.kind,.int .i64 f.card,.int .i64 f.place,.int .i64 f.digit,.int .i64 g.kind,.int .i64 g.card,.int .i64 g.place,.int .i64 g.digit]) (n:=2) (zA _) rfl rfl (by decide) (fun y hy=>by
              rcases List.mem_cons.1 hy with h | h
              . rw [h];exact Hfok.out
              . rw [List.mem_singleton] at h;rw [h];exact Hgo.out)
             have hbl:Below wq.heap.size wq (wq.alloc (.cells #[.int .i64 f.kind,.int .i64 f.card,.int .i64 f.place,.int .i64 f.digit,.int .i64 g.kind,.int .i64 g.card,.int .i64 g.place,.int .i64 g.digit] 155)):=(zB wq.heap.size wq).alloc (zA _) _;have hBw:=HO6.out.below hbl (zA _);have hNq:N<=wq.heap.size:=by omega
             obtain ⟨hs',xh,hval,hokx,hlen,hO,hfn⟩:=hBw.app hR hNq (by simp);have hcells:(#[.slice (some ⟨wq.heap.size,0,none⟩) 2 2]:Array Value)=(eS.cells xh).toArray:=by have h:xh.val=.slice (some ⟨wq.heap.size,0,none⟩) 2 2:=hval;rw [<- h];rfl
             have hlen2:hs'.length<=1000000:=by
              rw [hlen,zE];have h1:=Hpl.out;have h2:=Hpl2.out;have h3:(allF xs).length * i<=504 * 504:=Nat.mul_le_mul (by rw [<- Hm.out];exact hm5) (by omega);omega
             have HO:=hid hO;have Hfn:=hid hfn;have Hcells:=hid hcells;have Hokx:=hid hokx;clear hR hBw hval hlen hO hfn hcells hokx HO6;go_wp2;go_region_law (refine step_appS (E:=eS) rfl _ _ 103 (by rfl) Tryz.underlying103 hi1 hy0 hy1 hy2 rfl (by decide) (by rfl) (by rfl) (HO.out.alloc _).drew (rdsDrew (rds_one' (E:=eS) (x:=xh) (H:=wq.heap.size+1) (by simp) Hokx.out Hcells.out)) (by unfold maxLen;(try simp) <;> omega) (by (try simp) <;> omega) (by (try simp) <;> omega) ?_;intro v6 w6 hO6 hg6)
             all_goals
              have hg6':=growDrew hg6;have HB6:=hid (Hfn.out w6 v6 hO6 hg6');have hrow:∀ y,u7.ownBlock=some y->y ≠ T0/\y ≠ X/\((N+1<=y/\y<N+1+1)\/w3.heap.size<=y):=fun y hy=>by rcases Hoz.out y hy with h | h <;> omega
              have Hwx:=hid (wth_grown (wth_same Hw6.out hbl) hg6'.1 (fun y hy=>(hrow y hy).2.2));have HFx:=hid ((HF6.out.on hbl).keptW hg6'.1 (fun h=>(hrow _ h).1 rfl));have HXx:=hid ((HX6.out.on hbl).keptW hg6'.1 (fun h=>(hrow _ h).2.1 rfl));have hczx:wc.heap.size<=w6.heap.size:=zO hcz (zO hbl.size hg6'.1.size);have Hox:Hid (∀ y,v6.ownBlock=some y->y=N+1\/(w3.heap.size<=y/\(y<T0\/wc.heap.size<=y))):=hid (fun y hy=>by
               rcases hg6'.2 with h | ⟨y',h,hl'⟩
               . rw [h] at hy;exact Hoz.out y hy
               . rw [h] at hy
                 have h2:=zD hy;have h3:wq.heap.size+1<=y':=by simpa using hl'
                 right;omega)
              clear hg6' hO6 hg6 hrow hbl c0 c1 c2 c3 f0 f1 f2 f3 HO Hfn;go_wp2;go_roundw
              case rel=>exact ⟨kk+1,by omega,by omega,by go_num,by rw [Hsu.out,<- zN];exact HB6.out,Hwx.out,HFx.out,HXx.out,hczx,Hox.out⟩
              case measure=>simp [intOf];omega
         . obtain rfl:kk=k:=by omega
           have hpl:pairsK xs r (i+1)=pairsK xs r i++pairK xs r i kk:=by rw [Hps.out,Hm.out]
           have Hpl:=hid hpl;have HO6:=hid hOz;have Hw6:=hid hwz;have Ho6:Hid (∀ y,u7.ownBlock=some y->y=N+1\/w3.heap.size<=y):=hid (fun y hy=>by rcases hoz y hy with h | h;exact .inl h;exact .inr h.1);clear hOz hwz hFz hXz hoz hpl;go_wp2;go_roundw
           case rel=>exact ⟨i+1,by omega,by go_num,by rw [Hpl.out];exact HO6.out,Hw6.out,Ho6.out⟩
           case measure=>simp [intOf];omega
     . obtain rfl:i=k:=by omega
       have hfin:(pairsK xs r i)=explF xs r 2:=by
        have h:=Hm.out;unfold explF pairsF;rw [if_neg (by decide),if_neg (by decide),<- h]
       rw [hfin] at hO;have HO:=hid hO;have hbf:=Hb3.out.trans ((hwi.below (show N+1<=w3.heap.size by omega)).mono (show N<=N+1 by omega));have Hbf:=hid hbf;clear hO hwi hob hfin hbf;go_wp2;go_ret;exact ⟨_,rfl,HO.out,Hbf.out⟩
theorem sglF_len {xs:List Int} (h:amtOk xs=true) (r:ReportT):(sglF xs r).length<=504:=by
 have h1:=List.length_filter_le (fun f=>missF xs r f == zReport) (allF xs);have h2:=allK_len xs xs.length;have h3:=(yAQ h).1;unfold sglF;unfold allF at h1 |-;omega
theorem BldG.nil {α:Type} (E:Elt α) (er e:TypeId) (base rb tp:Nat) (w:World):BldG E er e base rb tp w (.slice none 0 0) ([]:List (List α)) :=
 ⟨[],⟨Own.nil _ _ _ _,fun k hk=>by cases hk⟩,rfl,fun i h xs e1=>by simp at e1,fun i h e1=>by simp at e1,fun i j h h' _ e1=>by simp at e1⟩
theorem explan0_c {xs:List Int} {r:ReportT} {v:Value} {w:World} {A:Nat} (ha:RdI A w v xs) (hx:amtOk xs=true) (hr:okReport r) (ht:PowAt w) :
 Calls Tryz.prog 104 #[v,vReport r,.int .i64 0] w fun e w'=>∃ u,e=.returned u/\BldG eFault 155 49 w.heap.size w.heap.size w'.heap.size w' u (explF xs r 0)/\Below w.heap.size w w':=by
 obtain ⟨i0,hi,hz0,hz1,hz2⟩:=info_parts infoReportN;obtain ⟨i1,hi1,hy0,hy1,hy2⟩:=info_parts infoSlF;obtain ⟨hl,hxx⟩:=yAQ hx;obtain ⟨N,hN⟩:∃ N,N=w.heap.size:=⟨_,rfl⟩;obtain ⟨W0,hW0⟩:∃ W0,W0=(w.alloc (.cells #[.int .i64 r.count,.int .i64 r.sum,.int .i64 r.digits] 53)).alloc (.cells #[] 49):=⟨_,rfl⟩;have hs1:(w.alloc (.cells #[.int .i64 r.count,.int .i64 r.sum,.int .i64 r.digits] 53)).heap.size=N+1:=by rw [hN];simp
 have hs0:W0.heap.size=N+1+1:=by rw [hW0,hN];simp
 have hR0:Box W0 N [.int .i64 r.count,.int .i64 r.sum,.int .i64 r.digits]:=by rw [hW0,hN];exact (Box.new w [.int .i64 r.count,.int .i64 r.sum,.int .i64 r.digits] _).alloc _
 have hO0:Own eS 49 N W0 (.slice (some ⟨N+1,0,none⟩) 0 0) []:=by
  have h:=Own.lit (E:=eS) (e:=49) (base:=N) (w:=w.alloc (.cells #[.int .i64 r.count,.int .i64 r.sum,.int .i64 r.digits] 53)) (xs:=[]) (cs:=#[]) (n:=0) (by omega) rfl rfl (by decide) (fun x hx=>by cases hx);rw [hs1] at h;rw [hW0];exact h
 have hb0:Below N w W0:=by rw [hW0,hN];exact ((zB _ _).alloc (zA _) _).alloc (by simp) _
 have hB0:BldG eFault 155 49 N N W0.heap.size W0 (.slice (some ⟨N+1,0,none⟩) 0 0) ([]:List (List FaultT)):=BldG.empty rfl hO0 (by omega);have ha0:=Rds.onn ha (show Below w.heap.size w W0 by rw [<- hN];exact hb0);have ht0:=ht.below (show Below w.heap.size w W0 by rw [<- hN];exact hb0);have HW0:=hid hW0;have HN:=hid hN;have HR0:=hid hR0;have Hb0:=hid hb0;have HB0:=hid hB0;have Ha0:=hid ha0;have Ht0:=hid ht0;have Hx:=hid hx;have Hxx:=hid hxx;have Hl:=hid hl;have Hr:=hid hr;have Hs0:=hid hs0;obtain ⟨ao,cap,rfl⟩:=ha.shape;clear ha hx hr ht hl hxx hW0 hs1 hs0 hR0 hO0 hb0 hB0 ha0 ht0;rw [<- hN];clear hN;go_enter Tryz.func104,Tryz.ntmps104;go_wp2_with fail;rw [<- HN.out,<- HW0.out];with_reducible refine (reportOf_c Ha0.out Hxx.out (by have:=Hl.out;omega) Ht0.out).mono ?_
 rintro e w1 ⟨rfl,hb1⟩;obtain ⟨B,hB⟩:∃ B,B=w1.heap.size:=⟨_,rfl⟩;obtain ⟨bs,hbs⟩:∃ bs,bs=repOf xs:=⟨_,rfl⟩;rw [<- hbs];obtain ⟨W1,hW1⟩:∃ W1,W1=w1.alloc (.cells #[.int .i64 bs.count,.int .i64 bs.sum,.int .i64 bs.digits] 53):=⟨_,rfl⟩;have hbW:Below W0.heap.size W0 W1:=by rw [hW1];exact hb1.alloc hb1.size _
 have hQ1:Box W1 B [.int .i64 bs.count,.int .i64 bs.sum,.int .i64 bs.digits]:=by rw [hW1,hB];exact Box.new w1 [.int .i64 bs.count,.int .i64 bs.sum,.int .i64 bs.digits] _
 have HQ1:=hid hQ1;have HR1:=hid (HR0.out.on hbW);have Ha1:=hid (Ha0.out.onn hbW);have Ht1:=hid (Ht0.out.below hbW);have HB1:=hid (HB0.out.below hbW (zA _));have Hb1:=hid (Hb0.out.trans (hbW.mono (by have:=Hs0.out;omega)));have hBN:N+1+1<=B:=by have:=Hs0.out;have:=hb1.size;omega
 have HW1:=hid hW1;have HbW:=hid hbW;have Hbs:=hid hbs;have HBe:=hid hB;clear hb1 hbW hQ1 hbs hW1 hB;have hW1s:W1.heap.size=B+1:=by rw [HW1.out,HBe.out];simp
 have HW1s:=hid hW1s;clear hW1s;go_upto_region 3 with fail;rw [<- HBe.out,<- HW1.out];by_cases hq:bs=r
 . have hex:explF xs r 0=[[]]:=by rw [expl0,<- Hbs.out,if_pos hq]
   subst hq;have Hex:=hid hex;have hbl:Below W1.heap.size W1 (W1.alloc (.cells #[] 155)):=(zB _ _).alloc (zA _) _;have hR:=Own.lit (E:=eFault) (e:=155) (base:=W1.heap.size) (w:=W1) (xs:=[]) (cs:=#[]) (n:=0) (zA _) rfl rfl (by decide) (fun y hy=>by cases hy);have hBw:=(HB1.out.mono (show W0.heap.size<=W1.heap.size from HbW.out.size)).below hbl (zA _);obtain ⟨hs',xh,hval,hokx,hlen,hO,hfn⟩:=hBw.app hR (show N<=W1.heap.size by have:=HW1s.out;omega) (by simp);have hcells:(#[.slice (some ⟨W1.heap.size,0,none⟩) 0 0]:Array Value)=(eS.cells xh).toArray:=by rw [<- hval];rfl
   have hlen2:hs'.length=0:=by rw [hlen];rfl
   have c0:=HQ1.out.cell 0 _ rfl;have c1:=HQ1.out.cell 1 _ rfl;have c2:=HQ1.out.cell 2 _ rfl;have d0:=HR1.out.cell 0 _ rfl;have d1:=HR1.out.cell 1 _ rfl;have d2:=HR1.out.cell 2 _ rfl;have hO2:=hO;have HO:=hid hO;have Hfn:=hid hfn;have Hcells:=hid hcells;have Hokx:=hid hokx;clear hR hBw hval hlen hO hfn hcells hex hokx;have hrun:=fun W=>eql_run (x:=bs) (y:=bs) (b:=true) (by simp) W;go_wp2_with (first | (at_builtin;refine yAB (E:=eS) rfl _ _ 103 rfl Tryz.underlying103 hi1 hy0 hy1 hy2 rfl (by decide) rfl rfl (HO.out.alloc _) (rds_one' (E:=eS) (x:=xh) (H:=W1.heap.size+1) (by simp) Hokx.out Hcells.out) ?b1 ?b2 ?b3 ?_))
   case b1=>unfold maxLen;(try simp) <;> omega
   case b2=>(try simp) <;> omega
   case b3=>have:=HW1s.out;(try simp) <;> omega
   intro v6 w6 hO6 hg6;have hg6':=hg6.alloc;have hB6:=Hfn.out w6 v6 hO6 hg6';have hb6:=hg6'.below (Hb1.out.trans (hbl.mono (by have:=HW1s.out;omega))) (by have:=HW1s.out;have:=hbl.size;omega) (fun y hy=>(hO2.lt y hy).1);have HB6:=hid hB6;have Hb6:=hid hb6;clear hO6 hg6 hg6' hB6 hb6 c0 c1 c2 d0 d1 d2 hbl hO2 HO Hfn;go_wp2;go_ret;rw [Hex.out];exact ⟨_,rfl,HB6.out,Hb6.out⟩
 . have hex:explF xs r 0=[]:=by rw [expl0,<- Hbs.out,if_neg hq]
   have Hex:=hid hex;have c0:=HQ1.out.cell 0 _ rfl;have c1:=HQ1.out.cell 1 _ rfl;have c2:=HQ1.out.cell 2 _ rfl;have d0:=HR1.out.cell 0 _ rfl;have d1:=HR1.out.cell 1 _ rfl;have d2:=HR1.out.cell 2 _ rfl;have hW0s:W0.heap.size<=W1.heap.size:=HbW.out.size;clear hex;have hqb:(bs == r)=false:=by simpa using hq
   have hrun:=fun W=>eql_run (x:=bs) (y:=r) (b:=false) hqb W;clear hqb hq;go_wp2;go_ret;rw [Hex.out];exact ⟨_,rfl,HB1.out.mono hW0s,Hb1.out⟩
theorem few_at {xs:List Int} {r:ReportT} {c:Nat} (h:isRep r=true) (hc:c<3) (h0:∀ j:Nat,j<c->explF xs r (j:Int)=[]) (hn:explF xs r (c:Int) ≠ []):fewF xs r=(explF xs r (c:Int),(c:Int)):=by
 unfold fewF;rw [if_neg (by rw [h];simp)];have e0:0<c->explF xs r 0=[]:=fun hj=>h0 0 hj;have e1:1<c->explF xs r 1=[]:=fun hj=>h0 1 hj;have:c=0\/c=1\/c=2:=by omega
 rcases this with rfl | rfl | rfl
 . rw [if_pos (show explF xs r 0 ≠ [] from hn)];rfl
 . rw [if_neg (by rw [e0 (by decide)];simp),if_pos (show explF xs r 1 ≠ [] from hn)];rfl
 . rw [if_neg (by rw [e0 (by decide)];simp),if_neg (by rw [e1 (by decide)];simp),if_pos (show explF xs r 2 ≠ [] from hn)];rfl
theorem few_none {xs:List Int} {r:ReportT} (h0:∀ j:Nat,j<3->explF xs r (j:Int)=[]):fewF xs r=([],0):=by
 unfold fewF;have e0:explF xs r 0=[]:=h0 0 (by decide);have e1:explF xs r 1=[]:=h0 1 (by decide);have e2:explF xs r 2=[]:=h0 2 (by decide);rw [e0,e1,e2];simp
theorem expl_len {xs:List Int} (h:amtOk xs=true) (r:ReportT) (c:Nat) (hc:c<3):(explF xs r (c:Int)).length<=300000:=by
 have h2:=allK_len xs xs.length;have h3:=(yAQ h).1;have hm:(allF xs).length<=504:=by unfold allF;omega
 have:c=0\/c=1\/c=2:=by omega
 rcases this with rfl | rfl | rfl
 . show (explF xs r 0).length<=_
   rw [expl0];split <;> simp
 . show (explF xs r 1).length<=_
   rw [expl1,List.length_map];have:=sglF_len h r;omega
 . show (explF xs r 2).length<=_
   rw [expl2];unfold pairsF;have h4:=pairsK_len xs r (allF xs).length;have h5:(allF xs).length * (allF xs).length<=504 * 504:=Nat.mul_le_mul hm hm;omega
theorem explan_c {xs:List Int} {r:ReportT} {v:Value} {w:World} {A:Nat} (c:Nat) (hc:c<3) (ha:RdI A w v xs) (hx:amtOk xs=true) (hr:okReport r) (ht:PowAt w) :
 Calls Tryz.prog 104 #[v,vReport r,.int .i64 (c:Int)] w fun e w'=>∃ u,e=.returned u/\BldG eFault 155 49 w.heap.size w.heap.size w'.heap.size w' u (explF xs r (c:Int))/\Below w.heap.size w w':=by
 have:c=0\/c=1\/c=2:=by omega
 rcases this with rfl | rfl | rfl
 . exact explan0_c ha hx hr ht
 . exact explan1_c ha hx hr ht
 . exact explan2_c ha hx hr ht
theorem fewest_c {xs:List Int} {r:ReportT} {v:Value} {w:World} {A:Nat} (ha:RdI A w v xs) (hx:amtOk xs=true) (hr:okReport r) (ht:PowAt w) :
 Calls Tryz.prog 55 #[v,vReport r] w fun e w'=>∃ u,e=.returned (.tuple #[u,.int .i64 (fewF xs r).2])/\BldG eFault 155 49 w.heap.size w.heap.size w'.heap.size w' u (fewF xs r).1/\Below w.heap.size w w':=by
 have hb0:Below w.heap.size w (w.alloc (.cells #[.int .i64 r.count,.int .i64 r.sum,.int .i64 r.digits] 53)):=(zB _ _).alloc (zA _) _;have hB0:Box (w.alloc (.cells #[.int .i64 r.count,.int .i64 r.sum,.int .i64 r.digits] 53)) w.heap.size [.int .i64 r.count,.int .i64 r.sum,.int .i64 r.digits]:=Box.new w [.int .i64 r.count,.int .i64 r.sum,.int .i64 r.digits] 53;have ha0:=Rds.onn ha hb0;have ht0:=ht.below hb0;obtain ⟨ao,cap,rfl⟩:=ha.shape;have Ha0:=hid ha0;have Ht0:=hid ht0;have Hb0:=hid hb0;have HB0:=hid hB0;have Hr:=hid hr;have Hx:=hid hx;obtain ⟨W0,hW0⟩:∃ W0,W0=w.alloc (.cells #[.int .i64 r.count,.int .i64 r.sum,.int .i64 r.digits] 53):=⟨_,rfl⟩;rw [<- hW0] at Ha0 Ht0 Hb0 HB0;have HW0:=hid hW0;clear ha ha0 ht ht0 hb0 hr hB0 hW0 hx;go_enter Tryz.func55,Tryz.ntmps55;go_wp2_with fail;rw [<- HW0.out];with_reducible refine (isReport_c r _).mono ?_
 rintro e w1 ⟨rfl,hb1⟩;have HB1:=hid (HB0.out.on hb1);have Ha1:=hid (Ha0.out.onn hb1);have Ht1:=hid (Ht0.out.below hb1);have Hb1:=hid (Hb0.out.trans (hb1.mono Hb0.out.size));clear hb1 HB0 Ha0 Ht0 Hb0 HW0;cases hir:isRep r with
 | false =>
  have E:=hid (few_big (xs:=xs) hir);clear hir;go_wp2;go_ret2;rw [E.out];exact ⟨_,rfl,BldG.nil _ _ _ _ _ _ _,Hb1.out⟩
 | true =>
  have Hir:=hid hir;clear hir;go_wp2;go_loopw [11] (fun cv wr=>∃ c:Nat,c<=3/\cv=.int .i64 c/\Hid (∀ j:Nat,j<c->explF xs r (j:Int)=[])/\Below w1.heap.size w1 wr) (fun cv _=>3 - (intOf cv).toNat)
  case atStart=>exact ⟨0,by decide,rfl,hid (fun j hj=>absurd hj (by omega)),zB _ _⟩
  case round =>
   obtain ⟨c,hc,rfl,hno,hb⟩:=hrel;by_cases hc3:c<3
   . have HBr:=HB1.out.on hb
     have q0:=HBr.cell 0 _ rfl;have q1:=HBr.cell 1 _ rfl;have q2:=HBr.cell 2 _ rfl;have hcon:=explan_c c hc3 (Rds.onn Ha1.out hb) Hx.out Hr.out (Ht1.out.below hb);have hel:=expl_len Hx.out r c hc3;have hfa:=fun h=>few_at (xs:=xs) (r:=r) Hir.out hc3 hno.out h;have hnx:explF xs r (c:Int)=[]->∀ j:Nat,j<c+1->explF xs r (j:Int)=[]:=fun h j hj=>by
      by_cases e:j<c
      . exact hno.out j e
      . obtain rfl:j=c:=by omega
        exact h
     have hci:(c:Int)<3:=by omega
     generalize explF xs r (c:Int)=X at hcon hel hfa hnx;have Hcon:=hid hcon;have Hfa:=hid hfa;have Hnx:=hid hnx;have Hel:=hid hel;have Hb:=hid hb;clear HBr hcon hfa hnx hb hel;go_wp2_with fail;with_reducible refine Hcon.out.mono ?_
     rintro e w2 ⟨u,rfl,hu,hb2⟩;clear q0 q1 q2 Hcon;obtain ⟨uo,uc,hue⟩:=hu.shape;obtain ⟨L,hL⟩:∃ L,L=X.length:=⟨_,rfl⟩;rw [<- hL] at hue;have hL3:L<=300000:=by rw [hL];exact Hel.out
     subst hue;have Hu:=hid hu;have Hb2:=hid (Hb.out.trans (hb2.mono Hb.out.size));have HL:=hid hL;have hwr:=Hb.out.size;have hw1:=Hb1.out.size;clear hu hb2 hL;by_cases h0:L=0
     . have hX:X=[]:=List.eq_nil_of_length_eq_zero (by have:=HL.out;omega)
       have HX:=hid hX;clear hX;go_wp2;go_roundw
       case rel=>exact ⟨c+1,by omega,by go_num,hid (Hnx.out HX.out),Hb2.out⟩
       case measure=>simp [intOf];omega
     . have hX:X ≠ []:=by intro h;rw [h] at HL;have:=HL.out;simp at this;omega
       have hLi:(0:Int)<(L:Int):=by omega
       have E:=hid (Hfa.out hX);clear hX;go_wp2;go_ret2;rw [E.out];exact ⟨_,rfl,by obtain ⟨hs,h1,h2,h3,h4⟩:=Hu.out;exact ⟨hs,⟨h1.1.mono (by omega),h1.2⟩,h2,fun i x xs e1 e2=>⟨(h3 i x xs e1 e2).1.mono (by omega),(h3 i x xs e1 e2).2⟩,h4⟩,Hb1.out.trans (Hb2.out.mono hw1)⟩
   . obtain rfl:c=3:=by omega
     have E:=hid (few_none hno.out);go_wp2;go_ret2;rw [E.out];exact ⟨_,rfl,BldG.nil _ _ _ _ _ _ _,Hb1.out.trans (hb.mono Hb1.out.size)⟩
theorem few_len_le {xs:List Int} (h:amtOk xs=true) (r:ReportT):(fewF xs r).1.length<=300000:=by
 unfold fewF;split
 . simp
 . split
   . exact expl_len h r 0 (by decide)
   . split
     . exact expl_len h r 1 (by decide)
     . split
       . exact expl_len h r 2 (by decide)
       . simp
theorem sizeFF_c {ao:Option Addr} {n cap:Nat} {w:World} (hn:n<=9223372036854775807) :
 Calls Tryz.prog 56 #[.slice ao n cap] w fun e w'=>e=.returned (.int .i64 n)/\w=w':=by
 go_enter Tryz.func56,Tryz.ntmps56;go_wp2;go_ret;exact ⟨rfl,rfl⟩
theorem Diagnose_c {xs:List Int} {r:ReportT} {v:Value} {w:World} {A:Nat} (ha:RdI A w v xs) (hr:okReport r) (ht:PowAt w) :
 Calls Tryz.prog 20 #[v,vReport r] w fun e w'=>∃ u0,e=.returned (.tuple #[u0,.int .i64 (dgN xs r),.int .i64 (ffC xs r)])/\OwnFaultS w.heap.size w' u0 (dgA xs r)/\Below w.heap.size w w':=by
 have hb0:Below w.heap.size w (w.alloc (.cells #[.int .i64 r.count,.int .i64 r.sum,.int .i64 r.digits] 53)):=(zB _ _).alloc (zA _) _;have ha0:=Rds.onn ha hb0;have ht0:=ht.below hb0;obtain ⟨ao,cap,rfl⟩:=ha.shape;have Ha0:=hid ha0;have Ht0:=hid ht0;have Hb0:=hid hb0;have Hr:=hid hr;clear ha ha0 ht ht0 hb0 hr;cases hx:amtOk xs with
 | false =>
  have e1:dgA xs r=[]:=by unfold dgA;rw [hx];rfl
  have e2:ffC xs r=1:=by unfold ffC;rw [hx];rfl
  have e3:dgN xs r=0:=by unfold dgN;rw [hx];rfl
  rw [e1,e2,e3];have Hx:=hid hx;clear hx e1 e2 e3;go_enter Tryz.func20,Tryz.ntmps20;go_wp2_with fail;with_reducible refine (ValidAmounts_c Ha0.out).mono ?_
  rw [Hx.out];rintro e w' ⟨rfl,rfl⟩;go_wp2;go_ret3;exact ⟨_,rfl,Own.nil _ _ _ _,Hb0.out⟩
 | true =>
  have E1:=hid (show dgA xs r=if fewB xs r=true then fewA xs r else [] by unfold dgA;rw [if_pos hx]);have E2:=hid (show ffC xs r=if fewB xs r=true then 0 else 3 by unfold ffC;rw [if_pos hx]);have E3:=hid (show dgN xs r=if fewB xs r=true then fewN xs r else 0 by unfold dgN;rw [if_pos hx]);have Hx:=hid hx;clear hx;have hll:=few_len_le Hx.out r;go_enter Tryz.func20,Tryz.ntmps20;go_wp2_with fail;with_reducible refine (ValidAmounts_c Ha0.out).mono ?_
  rw [Hx.out];rintro e w' ⟨rfl,rfl⟩;go_wp2_with fail;with_reducible refine (fewest_c Ha0.out Hx.out Hr.out Ht0.out).mono ?_
  rintro e w2 ⟨u,rfl,hu,hb2⟩;have hB:fewB xs r=!(fewF xs r).1.isEmpty:=rfl;have hNn:fewN xs r=(fewF xs r).1.length:=rfl;have hAa:fewA xs r=(fewF xs r).1.headD []:=rfl;generalize (fewF xs r).2=c;generalize hX0:(fewF xs r).1=X at hu hll hB hNn hAa;have HB:=hid hB;have HNn:=hid hNn;have HAa:=hid hAa;clear hX0 hB hNn hAa;have hws:=Hb0.out.size;have Hb2:=hid (Hb0.out.trans (hb2.mono Hb0.out.size));clear hb2;cases X with
  | nil =>
   obtain ⟨uo,uc,hue⟩:=hu.shape;subst hue;clear hu;go_wp2;go_ret3;rw [E1.out,E2.out,E3.out,HB.out];exact ⟨_,rfl,Own.nil _ _ _ _,Hb2.out⟩
  | cons f fs =>
   obtain ⟨g,off,cap2,ro,rc,hv,hcell,hrow⟩:=hu.at (k:=0) (xs:=f) rfl;obtain ⟨L,hL⟩:∃ L,L=(f :: fs).length:=⟨_,rfl⟩;rw [<- hL] at hv hll;subst hv;have hL0:0<L:=by rw [hL];simp
   have hLi:(0:Int)<(L:Int):=by omega
   have h0':((L:Int) == 0)=false:=by simp;omega
   have hrow2:=hrow.1.mono hws;have Hrow:=hid hrow2;have hcell0:w2.cell? ⟨g,off,none⟩=some (.slice ro f.length rc):=by simpa using hcell
   generalize hfl:f.length=fl at hcell0;have Hfl:=hid hfl;have HL:=hid hL;clear hu hcell hrow hrow2 hL hfl;go_wp2;go_quiet ((go_at_call 56;exact yBA (sizeFF_c (by omega))));go_wp2;go_ret3;rw [E1.out,E2.out,E3.out,HB.out,HNn.out,HAa.out,<- Hfl.out];exact ⟨_,by rw [HL.out];rfl,Hrow.out,Hb2.out.drewNy _⟩
end Go.Proofs.YtmindpfmgnnieaaGreatDoor
