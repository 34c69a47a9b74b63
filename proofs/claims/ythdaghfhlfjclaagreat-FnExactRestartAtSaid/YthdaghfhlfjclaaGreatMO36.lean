/- Lemmas on the way to the law that RestartAt returns what the reference's returns. No condition. -/
import Derived.Test.YthdaghfhlfjclaaGreatMO35
import Derived.Test.YthdaghfhlfjclaaGreatMO10
import Derived.Test.YthdaghfhlfjclaaGreatMO18
import Derived.Test.YthdaghfhlfjclaaGreatMO9
import Derived.Test.YthdaghfhlfjclaaGreatMO33
namespace Go.Proofs.YthdaghfhlfjclaaGreat
set_option linter.unusedSimpArgs false
open Lib (hid)
open Go.ChangeShapes Go.WideShapes Go.ChangeAt Go.RowKit Go.Sort Go.Deep
set_option linter.unusedVariables false
set_option maxRecDepth 100000
set_option maxHeartbeats 1000000
theorem RdOff.t {B:Nat} {w:World} {u v:Value} {o:OffT} (h:RdOff B w u v o):RdDs B w u o.trays:=h.1
theorem RdOff.l {B:Nat} {w:World} {u v:Value} {o:OffT} (h:RdOff B w u v o):RdTL B w v o.totals:=h.2
def szOffice (o:OffT):Int:=szCardSS o.trays+szTotalSS o.totals
theorem szOffice_nonneg (o:OffT):0≤szOffice o:=by unfold szOffice;have:=szCardSS_nonneg o.trays;have:=szTotalSS_nonneg o.totals;omega
def cntOffice (o:OffT):Nat:=cntCardSS o.trays+cntTotalSS o.totals
theorem cntOffice_le (o:OffT):(cntOffice o:Int)≤16 * szOffice o:=by unfold cntOffice szOffice;have:=cntCardSS_le o.trays;have:=cntTotalSS_le o.totals;push_cast;omega
def mkOffice (k:Int) (o:OffT):OffT:=⟨mkCardSS k o.trays,mkTotalSS (k+cntCardSS o.trays) o.totals⟩
theorem szOffice_c {w:World} {A:Nat} {o:OffT} {u v:Value} {left:Int} (ha:RdOff A w u v o) (h1:left≤1048576) (h2:szOffice o≤left) :
 Calls Tryz.prog 7 #[.agg #[u,v],.int .i64 left] w fun e w'=>e=.returned (.int .i64 (left - szOffice o))∧Below w.heap.size w w':=by
 have h3:=szCardSS_nonneg o.trays;have h4:=szTotalSS_nonneg o.totals;unfold szOffice at h2 ⊢;obtain ⟨W,hW⟩:∃ W,W=w.alloc (.cells #[u,v] 25):=⟨_,rfl⟩;have hb0:Below w.heap.size w W:=by rw [hW];exact (Below.refl _ _).alloc (Nat.le_refl _) _
 have hB:Box W w.heap.size [u,v]:=by rw [hW];exact Box.new w [u,v] _
 have ha0:=RdOff.onn ha hb0;obtain ⟨uo,uc,rfl⟩:=RdL.shape ha.1;obtain ⟨vo,vc,rfl⟩:=RdL.shape ha.2;have x0:=hB.cell 0 _ rfl;have x1:=hB.cell 1 _ rfl;have H2:=hid h2;have H1:=hid h1;have HW:=hid hW;have Hb0:=hid hb0;have HB:=hid hB;have Ha0:=hid ha0;have Hn:=hid (And.intro h3 h4);have i1:¬ left - szCardSS o.trays<0:=by omega
 have i2:¬ left - szCardSS o.trays - szTotalSS o.totals<0:=by omega
 clear ha hb0 hB ha0 h1 h2 h3 h4 hW;go_enter Tryz.func7,Tryz.ntmps7
 go_upto_region 1 with fail
 rw [← HW.out];go_wp2_with fail
 with_reducible refine (szCardSS_c (RdOff.t Ha0.out) H1.out (by have:=H2.out;have:=Hn.out;omega)).mono ?_
 rintro e w1 ⟨rfl,hb1⟩
 have x1':=(HB.out.on hb1).cell 1 _ rfl;have Ha1:=hid (RdOff.onn Ha0.out hb1);have Hb1:=hid (Hb0.out.trans (hb1.mono Hb0.out.size));clear x0 x1 hb1;go_wp2_with fail
 with_reducible refine (szTotalSS_c (RdOff.l Ha1.out) (by have:=H1.out;have:=Hn.out;omega) (by have:=H2.out;omega)).mono ?_
 rintro e w2 ⟨rfl,hb2⟩
 have Hb2:=hid (Hb1.out.trans (hb2.mono Hb1.out.size));clear x1' hb2;go_wp2
 go_ret
 exact ⟨ret_int (by omega),Hb2.out⟩
theorem szOffice_no {w:World} {A:Nat} {o:OffT} {u v:Value} {left:Int} (ha:RdOff A w u v o) (h0:0≤left∧left≤1048576) (h2:¬ szOffice o≤left) :
 Calls Tryz.prog 7 #[.agg #[u,v],.int .i64 left] w fun e w'=>e=.returned (.int .i64 (-1))∧Below w.heap.size w w':=by
 have h3:=szCardSS_nonneg o.trays;have h4:=szTotalSS_nonneg o.totals;unfold szOffice at h2;obtain ⟨W,hW⟩:∃ W,W=w.alloc (.cells #[u,v] 25):=⟨_,rfl⟩;have hb0:Below w.heap.size w W:=by rw [hW];exact (Below.refl _ _).alloc (Nat.le_refl _) _
 have hB:Box W w.heap.size [u,v]:=by rw [hW];exact Box.new w [u,v] _
 have ha0:=RdOff.onn ha hb0;obtain ⟨uo,uc,rfl⟩:=RdL.shape ha.1;obtain ⟨vo,vc,rfl⟩:=RdL.shape ha.2;have x0:=hB.cell 0 _ rfl;have x1:=hB.cell 1 _ rfl;have H2:=hid h2;have H0:=hid h0;have HW:=hid hW;have Hb0:=hid hb0;have HB:=hid hB;have Ha0:=hid ha0;have Hn:=hid (And.intro h3 h4);clear ha hb0 hB ha0 h0 h2 h3 h4 hW;by_cases hc:szCardSS o.trays≤left
 · have Hc:=hid hc
   have i1:¬ left - szCardSS o.trays<0:=by omega
   clear hc;go_enter Tryz.func7,Tryz.ntmps7
   go_upto_region 1 with fail
   rw [← HW.out];go_wp2_with fail
   with_reducible refine (szCardSS_c (RdOff.t Ha0.out) H0.out.2 Hc.out).mono ?_
   rintro e w1 ⟨rfl,hb1⟩
   have x1':=(HB.out.on hb1).cell 1 _ rfl;have Ha1:=hid (RdOff.onn Ha0.out hb1);have Hb1:=hid (Hb0.out.trans (hb1.mono Hb0.out.size));clear x0 x1 hb1;go_wp2_with fail
   with_reducible refine (szTotalSS_no (RdOff.l Ha1.out) ⟨by have:=Hc.out;omega,by have:=H0.out;have:=Hn.out;omega⟩ (by have:=H2.out;omega)).mono ?_
   rintro e w2 ⟨rfl,hb2⟩
   have Hb2:=hid (Hb1.out.trans (hb2.mono Hb1.out.size));clear x1' hb2;go_wp2
   go_ret
   exact ⟨rfl,Hb2.out⟩
 · have Hc:=hid hc
   clear hc;go_enter Tryz.func7,Tryz.ntmps7
   go_upto_region 1 with fail
   rw [← HW.out];go_wp2_with fail
   with_reducible refine (szCardSS_no (RdOff.t Ha0.out) H0.out (Int.not_le.2 Hc.out)).mono ?_
   rintro e w1 ⟨rfl,hb1⟩
   have Hb1:=hid (Hb0.out.trans (hb1.mono Hb0.out.size));clear x0 x1 hb1;go_wp2
   go_ret
   exact ⟨rfl,Hb1.out⟩
theorem eqOffice_c {w:World} {A B:Nat} {o:OffT} {u v u' v':Value} (ha:RdOff A w u v o) (hb:RdOff B w u' v' o) :
 Calls Tryz.prog 14 #[.agg #[u,v],.agg #[u',v']] w fun e w'=>e=.returned (.bool true)∧Below w.heap.size w w':=by
 obtain ⟨W,hW⟩:∃ W,W=(w.alloc (.cells #[u,v] 35)).alloc (.cells #[u',v'] 35):=⟨_,rfl⟩;have z1:(w.alloc (.cells #[u,v] 35)).heap.size=w.heap.size+1:=by simp
 have hb0:Below w.heap.size w W:=by rw [hW];exact ((Below.refl _ _).alloc (Nat.le_refl _) _).alloc (by simp) _
 have hB:Box W w.heap.size [u,v]:=by rw [hW];exact (Box.new w [u,v] _).alloc _
 have hB2:Box W (w.heap.size+1) [u',v']:=by
  have h:=Box.new (w.alloc (.cells #[u,v] 35)) [u',v'] 35;rw [z1,← hW] at h;exact h
 have ha0:=RdOff.onn ha hb0;have hb1:=RdOff.onn hb hb0;obtain ⟨uo,uc,rfl⟩:=RdL.shape ha.1;obtain ⟨vo,vc,rfl⟩:=RdL.shape ha.2;obtain ⟨uo',uc',rfl⟩:=RdL.shape hb.1;obtain ⟨vo',vc',rfl⟩:=RdL.shape hb.2;have x0:=hB.cell 0 _ rfl;have x1:=hB.cell 1 _ rfl;have y0:=hB2.cell 0 _ rfl;have y1:=hB2.cell 1 _ rfl;have HW:=hid hW;have Hb0:=hid hb0;have HB:=hid hB;have HB2:=hid hB2;have Ha0:=hid ha0;have Hc0:=hid hb1;clear ha hb hb0 hB hB2 ha0 hb1 hW z1;go_enter Tryz.func14,Tryz.ntmps14
 go_upto_region 1 with fail
 rw [← HW.out];go_wp2_with fail
 with_reducible refine (eqCardSS_c (RdOff.t Ha0.out) (RdOff.t Hc0.out)).mono ?_
 rintro e w1 ⟨rfl,hb1⟩
 have x1':=(HB.out.on hb1).cell 1 _ rfl;have y1':=(HB2.out.on hb1).cell 1 _ rfl;have Ha1:=hid (RdOff.onn Ha0.out hb1);have Hc1:=hid (RdOff.onn Hc0.out hb1);have Hb1:=hid (Hb0.out.trans (hb1.mono Hb0.out.size));clear x0 x1 y0 y1 hb1;go_wp2_with fail
 with_reducible refine (eqTotalSS_c (RdOff.l Ha1.out) (RdOff.l Hc1.out)).mono ?_
 rintro e w2 ⟨rfl,hb2⟩
 have Hb2:=hid (Hb1.out.trans (hb2.mono Hb1.out.size));clear x1' y1' hb2;go_wp2
 go_ret
 exact ⟨rfl,Hb2.out⟩
theorem toOffice_c {w:World} {A:Nat} {o:OffT} {u v:Value} (ha:RdOff A w u v o) (hl:szOffice o≤1048576) :
 Calls Tryz.prog 10 #[.agg #[u,v]] w fun e w'=>∃ u' v',e=.returned (.agg #[u',v'])∧OwnO (fun q=>w.heap.size≤q∧q<w'.heap.size) w' u' v' o∧Below w.heap.size w w':=by
 obtain ⟨ts,ls⟩:=o;have h3:=szCardSS_nonneg ts;have h4:=szTotalSS_nonneg ls;unfold szOffice at hl;simp only at hl
 obtain ⟨W,hW⟩:∃ W,W=((w.alloc (.cells #[u,v] 25)).alloc (.cells #[.slice none 0 0,.slice none 0 0] 35)).alloc (.cells #[.slice none 0 0,.slice none 0 0] 35):=⟨_,rfl⟩;have hs1:(w.alloc (.cells #[u,v] 25)).heap.size=w.heap.size+1:=by simp
 have hs2:((w.alloc (.cells #[u,v] 25)).alloc (.cells #[.slice none 0 0,.slice none 0 0] 35)).heap.size=w.heap.size+1+1:=by simp
 have hs3:W.heap.size=w.heap.size+3:=by rw [hW];simp
 have hb0:Below w.heap.size w W:=by rw [hW];exact (((Below.refl w.heap.size w).alloc (Nat.le_refl _) _).alloc (by simp) _).alloc (by simp;omega) _
 have hB0:Box W w.heap.size [u,v]:=by rw [hW];exact ((Box.new w [u,v] _).alloc _).alloc _
 have hB1:Box W (w.heap.size+1) [.slice none 0 0,.slice none 0 0]:=by
  have h:=(Box.new (w.alloc (.cells #[u,v] 25)) [.slice none 0 0,.slice none 0 0] 35).alloc (.cells #[.slice none 0 0,.slice none 0 0] 35);rw [hs1] at h;rw [hW];exact h
 have hB2:Box W (w.heap.size+1+1) [.slice none 0 0,.slice none 0 0]:=by
  have h:=Box.new ((w.alloc (.cells #[u,v] 25)).alloc (.cells #[.slice none 0 0,.slice none 0 0] 35)) [.slice none 0 0,.slice none 0 0] 35;rw [hs2] at h;rw [hW];exact h
 have ha0:=RdOff.onn ha hb0;obtain ⟨uo,uc,rfl⟩:=RdL.shape ha.1;obtain ⟨vo,vc,rfl⟩:=RdL.shape ha.2;have Hv:=hid (RdL.tight rowK_T ha.2);have Hat:Hid (RdDs W.heap.size W (.slice uo ts.length uc) ts):=hid ha0.1;have x0:=hB0.cell 0 _ rfl;have Hl:=hid hl;have Ha0:=hid ha0;have Hb0:=hid hb0;have HB0:=hid hB0;have HB1:=hid hB1;have HB2:=hid hB2;have HW:=hid hW;have Hs3:=hid hs3;have Hn:=hid (And.intro h3 h4);clear ha ha0 hb0 hB0 hB1 hB2 hW hs1 hs2 hs3 hl h3 h4;go_enter Tryz.func10,Tryz.ntmps10
 go_upto_region 2 with fail
 rw [← HW.out];go_wp2_with fail
 with_reducible refine (toCardSS_c Hat.out (by have:=Hl.out;have:=Hn.out;omega)).mono ?_
 rintro e w1 ⟨u1,rfl,hu,hb1⟩
 obtain ⟨u1o,u1c,rfl⟩:=OwnL.shape hu;obtain ⟨w1',hw1'⟩:∃ w1',w1'=w1.setCell ⟨w.heap.size+1+1,0,none⟩ (.slice u1o ts.length u1c):=⟨_,rfl⟩;have hz1:w1'.heap.size=w1.heap.size:=by rw [hw1'];simp
 have hA1:Agr (fun q=>q=w.heap.size+2) w1 w1':=by rw [hw1'];exact Agr.set _ _ _ rfl
 have e0:=HB2.out.on hb1;have e1:Box w1' (w.heap.size+1+1) [.slice u1o ts.length u1c,.slice none 0 0]:=by rw [hw1'];exact e0.set1 (j:=0) (by simp) _
 have e2:=boxAgr (HB0.out.on hb1) hA1 (by omega);have e3:=boxAgr (HB1.out.on hb1) hA1 (by omega);have hu2:=OwnL.agr rowO_D hu hA1 (fun k hk (e:k=w.heap.size+2)=>by have:=Hs3.out;have:=hk.1;omega);have hb2:Below w.heap.size W w1':=(hb1.mono (by have:=Hs3.out;omega)).trans (hA1.below (fun q (hq:q=w.heap.size+2)=>by omega) (by have:=hb1.size;have:=Hs3.out;omega));have hbw:Below w.heap.size w w1':=Hb0.out.trans hb2;have hv2:RdTL w.heap.size w1' (.slice vo ls.length vc) ls:=RdL.below rowK_T Hv.out hbw (Nat.le_refl _);have hzz:w.heap.size+3≤w1.heap.size:=by have:=hb1.size;have:=Hs3.out;omega
 have x1':=e2.cell 1 _ rfl;have c0':=e1.cell 0 _ rfl;have c1':=e1.cell 1 _ rfl;have f0:=e0.free 0;have d0:=e0.cell 0 _ rfl;have Hu2:=hid hu2;have Hbw:=hid hbw;have Hv2:=hid hv2;have E1:=hid e1;have E3:=hid e3;have Hz1:=hid hz1;have Hzz:=hid hzz;have Hw1:=hid hw1';clear hu hb1 hA1 e0 e1 e2 e3 hu2 hb2 hbw hv2 hzz hz1 hw1' x0;go_upto_region 3 with fail
 rw [← Hw1.out];go_wp2_with fail
 with_reducible refine (toTotalSS_c Hv2.out (by have:=Hl.out;have:=Hn.out;omega)).mono ?_
 rintro e w2 ⟨v1,rfl,hv,hb3⟩
 obtain ⟨v1o,v1c,rfl⟩:=OwnL.shape hv;obtain ⟨Wf,hWf⟩:∃ Wf,Wf=((w2.setCell ⟨w.heap.size+1+1,1,none⟩ (.slice v1o ls.length v1c)).setCell ⟨w.heap.size+1,0,none⟩ (.slice u1o ts.length u1c)).setCell ⟨w.heap.size+1,1,none⟩ (.slice v1o ls.length v1c):=⟨_,rfl⟩;have hzf:Wf.heap.size=w2.heap.size:=by rw [hWf];simp
 have hA3:Agr (fun q=>q=w.heap.size+2∨q=w.heap.size+1) w2 Wf:=by
  rw [hWf];exact (((Agr.set _ _ _ (.inl rfl)).trans (Agr.set (S:=fun q=>q=w.heap.size+2∨q=w.heap.size+1) _ _ _ (.inr rfl)) (fun k h _=>h)).trans (Agr.set (S:=fun q=>q=w.heap.size+2∨q=w.heap.size+1) _ _ _ (.inr rfl)) (fun k h _=>h))
 have e1:=E1.out.on hb3;have e3:=E3.out.on hb3;have hzz:=Hzz.out;have hz1:=Hz1.out;have hs3:=hb3.size;have hu3:=OwnL.agr rowO_D (OwnL.agr rowO_D Hu2.out (Agr.on (S:=fun _=>False) hb3) (fun _ _ h=>h)) hA3 (fun k hk (e:k=w.heap.size+2∨k=w.heap.size+1)=>by have:=hk.1;have:=Hs3.out;omega);have hv3:=OwnL.agr rowO_T hv hA3 (fun k hk (e:k=w.heap.size+2∨k=w.heap.size+1)=>by have:=hk.1;omega);have hown:OwnO (fun q=>w.heap.size≤q∧q<Wf.heap.size) Wf (.slice u1o ts.length u1c) (.slice v1o ls.length v1c) ⟨ts,ls⟩ :=
  ⟨_,_,hu3,hv3,fun k hk=>by have:=hk.1;have:=hk.2;have:=Hs3.out;omega,fun k hk=>by have:=hk.1;have:=hk.2;omega,fun k hk h2=>by have:=hk.2;have:=h2.1;omega⟩
 have hbf:Below w.heap.size w Wf:=(Hbw.out.trans (hb3.mono (by omega))).trans (hA3.below (fun q (hq:q=w.heap.size+2∨q=w.heap.size+1)=>by omega) (by omega));have g1:=e1.set1 (j:=1) (by simp) (.slice v1o ls.length v1c);have g2:=e3.other (p:=⟨w.heap.size+1+1,1,none⟩) (by show w.heap.size+1+1 ≠ w.heap.size+1;omega) (.slice v1o ls.length v1c);have g3:=(g2.set1 (j:=0) (by simp) (.slice u1o ts.length u1c)).set1 (j:=1) (by simp) (.slice v1o ls.length v1c);have d1:=e1.cell 1 _ rfl;have d0':=e1.cell 0 _ rfl;have f1:=e1.free 1;have r0:=e3.cell 0 _ rfl;have r1:=e3.cell 1 _ rfl;have rf0:=e3.free 0;have rf1:=e3.free 1;have q0:=g3.cell 0 _ rfl;have q1:=g3.cell 1 _ rfl;have Hown:=hid hown;have Hbf:=hid hbf;have HWf:=hid hWf;clear hv hb3 hzf hA3 e1 e3 hzz hz1 hs3 hu3 hv3 hown hbf g1 g2 g3 hWf c0' c1' x1' f0 d0;go_wp2
 exact bodyPost_ret (v:=.agg #[.slice u1o ts.length u1c,.slice v1o ls.length v1c]) (by simp [results,Tryz.results10,go_sem,q0,q1]) rfl ⟨_,_,rfl,by rw [← HWf.out];exact Hown.out,by rw [← HWf.out];exact Hbf.out⟩
theorem markOffice_c {w:World} {S:Nat→Prop} {o:OffT} {u v:Value} (k:Int) (ha:OwnO S w u v o) (hS:∀ q,S q→q<w.heap.size) (hk:0≤k) (hl:k+cntOffice o≤9223372036854775807) :
 Calls Tryz.prog 16 #[.agg #[u,v],.int .i64 k] w fun e w'=>e=.returned (.int .i64 (k+cntOffice o))∧OwnO S w' u v (mkOffice k o)∧Agr S w w':=by
 obtain ⟨ts,ls⟩:=o;unfold cntOffice at hl ⊢;push_cast at hl ⊢
 obtain ⟨Su,Sv,hu,hv,h1,h2,h3⟩:=ha;simp only at hu hv
 obtain ⟨uo,uc,rfl⟩:=OwnL.shape hu;obtain ⟨vo,vc,rfl⟩:=OwnL.shape hv;obtain ⟨W,hW⟩:∃ W,W=w.alloc (.cells #[.slice uo ts.length uc,.slice vo ls.length vc] 35):=⟨_,rfl⟩;have hb0:Below w.heap.size w W:=by rw [hW];exact (Below.refl _ _).alloc (Nat.le_refl _) _
 have hB:Box W w.heap.size [.slice uo ts.length uc,.slice vo ls.length vc]:=by rw [hW];exact Box.new w [.slice uo ts.length uc,.slice vo ls.length vc] _
 have hA0:Agr S w W:=Agr.on hb0;have hu0:=OwnL.agr rowO_D hu (Agr.on (S:=fun _=>False) hb0) (fun _ _ h=>h);have hv0:=OwnL.agr rowO_T hv (Agr.on (S:=fun _=>False) hb0) (fun _ _ h=>h);have x0:=hB.cell 0 _ rfl;have x1:=hB.cell 1 _ rfl;have HW:=hid hW;have HB:=hid hB;have HA0:=hid hA0;have Hu0:=hid hu0;have Hv0:=hid hv0;have HS:=hid hS;have Hl:=hid hl;have H123:=hid (And.intro h1 (And.intro h2 h3));clear hu hv h1 h2 h3 hb0 hB hA0 hu0 hv0 hS hl hW;go_enter Tryz.func16,Tryz.ntmps16
 go_upto_region 1 with fail
 rw [← HW.out];go_wp2_with fail
 with_reducible refine (markCardSS_c k Hu0.out hk (by have:=Hl.out;omega)).mono ?_
 rintro e w1 ⟨rfl,hu1,hA1⟩
 have hv1:=OwnL.agr rowO_T Hv0.out hA1 (fun q h h'=>H123.out.2.2 q h' h);have x1':=(boxAgr HB.out hA1 (fun h=>by have:=HS.out _ (H123.out.1 _ h);omega)).cell 1 _ rfl;have HA1:=hid (HA0.out.trans hA1 (fun q h _=>H123.out.1 q h));have Hu1:=hid hu1;have Hv1:=hid hv1;clear hu1 hv1 hA1 x0 x1;go_wp2_with fail
 with_reducible refine (markTotalSS_c (k+(cntCardSS ts:Int)) Hv1.out (by omega) (by have:=Hl.out;omega)).mono ?_
 rintro e w2 ⟨rfl,hv2,hA2⟩
 have hu2:=OwnL.agr rowO_D Hu1.out hA2 (fun q h h'=>H123.out.2.2 q h h');have HA2:=hid (HA1.out.trans hA2 (fun q h _=>H123.out.2.1 q h));have HO:=hid (show OwnO S w2 (.slice uo ts.length uc) (.slice vo ls.length vc) (mkOffice k ⟨ts,ls⟩) from ⟨Su,Sv,hu2,hv2,H123.out.1,H123.out.2.1,H123.out.2.2⟩);clear hu2 hv2 hA2 x1';go_wp2
 go_ret
 exact ⟨ret_int (by omega),HO.out,HA2.out⟩
theorem heldOffice_c {w:World} {A:Nat} {o:OffT} {u v:Value} (k:Int) (ha:RdOff A w u v (mkOffice k o)) (hk:0≤k) (hl:k+cntOffice o≤9223372036854775807) :
 Calls Tryz.prog 22 #[.agg #[u,v],.int .i64 k] w fun e w'=>e=.returned (.int .i64 (k+cntOffice o))∧Below w.heap.size w w':=by
 obtain ⟨ts,ls⟩:=o;unfold cntOffice at hl ⊢;push_cast at hl ⊢
 obtain ⟨W,hW⟩:∃ W,W=w.alloc (.cells #[u,v] 35):=⟨_,rfl⟩;have hb0:Below w.heap.size w W:=by rw [hW];exact (Below.refl _ _).alloc (Nat.le_refl _) _
 have hB:Box W w.heap.size [u,v]:=by rw [hW];exact Box.new w [u,v] _
 have ha0:=RdOff.onn ha hb0;obtain ⟨uo,uc,rfl⟩:=RdL.shape ha.1;obtain ⟨vo,vc,rfl⟩:=RdL.shape ha.2;generalize (mkOffice k ⟨ts,ls⟩).trays.length=n1 at *;generalize (mkOffice k ⟨ts,ls⟩).totals.length=n2 at *;have x0:=hB.cell 0 _ rfl;have x1:=hB.cell 1 _ rfl;have HW:=hid hW;have HB:=hid hB;have Hb0:=hid hb0;have Hat:Hid (RdDs W.heap.size W _ (mkCardSS k ts)):=hid ha0.1;have Hal:Hid (RdTL W.heap.size W _ (mkTotalSS (k+cntCardSS ts) ls)):=hid ha0.2;have Hl:=hid hl;have i1:¬ k+(cntCardSS ts:Int)<0:=by omega
 have i2:¬ k+(cntCardSS ts:Int)+(cntTotalSS ls:Int)<0:=by omega
 clear ha hb0 hB ha0 hl hW;go_enter Tryz.func22,Tryz.ntmps22
 go_upto_region 1 with fail
 rw [← HW.out];go_wp2_with fail
 with_reducible refine (heldCardSS_c k Hat.out hk (by have:=Hl.out;omega)).mono ?_
 rintro e w1 ⟨rfl,hb1⟩
 have x1':=(HB.out.on hb1).cell 1 _ rfl;have Hal1:=hid (RdL.onn rowK_T Hal.out hb1);have Hb1:=hid (Hb0.out.trans (hb1.mono Hb0.out.size));clear x0 x1 hb1;go_wp2_with fail
 with_reducible refine (heldTotalSS_c (k+(cntCardSS ts:Int)) Hal1.out (by omega) (by have:=Hl.out;omega)).mono ?_
 rintro e w2 ⟨rfl,hb2⟩
 have Hb2:=hid (Hb1.out.trans (hb2.mono Hb1.out.size));clear x1' hb2;go_wp2
 go_ret
 exact ⟨ret_int (by omega),Hb2.out⟩
section
variable {H:Type} {enc:TypeId × Value→H} {P:Program} {w:World}
def eRow {β:Type} (R:Value→List β→Prop):Elt (SlV × List β):={ sz:=1,cells:=fun p=>[p.1.val],ok:=fun p=>R p.1.val p.2,len:=fun _=>rfl,one:=fun x u hu=>by simp at hu;subst hu;rfl }
theorem eRow_all {β:Type} (R:Value→List β→Prop):∀ xs:List (SlV × List β),(eRow R).all xs=eS.all (xs.map (·.1))
 | []=>rfl
 | x :: xs=>by
  have h:=eRow_all R xs;unfold Elt.all at h ⊢;simp only [List.flatMap_cons,List.map_cons]
  rw [h];rfl
theorem open_rows {β:Type} {R:Nat→World→Value→List β→Prop} {t e:TypeId} {v:Value} {fuel:Nat} {y:DataW H × List MemPlace} (ht:P.underlying t=some (.slice e)) (hC:P.cellsOf e=1)
 (hin:∀ (n:Nat) (v:Value) (y:DataW H × List MemPlace),DataW.trod enc P w 0 (fun _=>true) true n e [v]=some y→∃ x,R w.heap.size w v x) (K:∀ {v:Value} {x:List β},R w.heap.size w v x→∃ ao cap,v=.slice ao x.length cap)
 (hf:DataW.trod enc P w 0 (fun _=>true) true fuel t [v]=some y):∃ xs,RdL R w.heap.size w v xs:=by
 obtain ⟨xs,h⟩:=open_rdF (E:=eRow (fun v x=>R w.heap.size w v x)) ht hC (fun n vs y hl hf=>by
  match vs,hl with
  | [u],_ =>
   obtain ⟨x,hx⟩:=hin n u y hf;obtain ⟨ao,cap,rfl⟩:=K hx;exact ⟨(⟨ao,x.length,cap⟩,x),rfl,hx⟩) Nat.zero_lt_one hf
 refine ⟨xs.map (·.2),xs.map (·.1),⟨?_,fun _ _=>trivial⟩,by simp,fun i h x e1 e2=>?_⟩
 · have h1:=h.1
   rw [eRow_all] at h1;rw [List.length_map];exact h1
 · rw [List.getElem?_map] at e1 e2
   cases hx:xs[i]? with
   | none=>rw [hx] at e1;cases e1
   | some p =>
    rw [hx] at e1 e2;cases e1;cases e2
    exact h.2 p (List.mem_of_getElem? hx)
end
theorem openFInts {H:Type} {enc:TypeId × Value→H} {w:World} {v:Value} {fuel:Nat} {y:DataW H × List MemPlace} (h:DataW.trod enc Tryz.prog w 0 (fun _=>true) true fuel 29 [v]=some y):∃ xs,RdI w.heap.size w v xs:=by
 refine open_rdF (E:=eI) (e:=2) Tryz.underlying29 (by kernel_rfl) (fun n cs y hl hf=>?_) (by decide) h
 match cs,hl with
 | [e0],_ =>
  obtain ⟨a0,ha0,b0⟩:=trodI (v:=e0) Tryz.underlying2 hf;subst ha0;exact ⟨a0,rfl,b0⟩
theorem openFDeck {H:Type} {enc:TypeId × Value→H} {w:World} {v:Value} {fuel:Nat} {y:DataW H × List MemPlace} (h:DataW.trod enc Tryz.prog w 0 (fun _=>true) true fuel 112 [v]=some y):∃ xs,RdInt64SS w.heap.size w v xs:=by
 refine open_rows (R:=fun B w v (x:List Int)=>RdI B w v x) (e:=152) Tryz.underlying112 (by kernel_rfl) (fun n u y hf=>?_) (fun h=>Rds.shape h) h
 obtain ⟨m,hq⟩:=trod_fields Tryz.underlying152 [(29,0,1)] (by kernel_rfl) hf;obtain ⟨z0,t0⟩:=hq 0 _ _ _ rfl;exact openFInts t0
theorem openFTotals {H:Type} {enc:TypeId × Value→H} {w:World} {v:Value} {fuel:Nat} {y:DataW H × List MemPlace} (h:DataW.trod enc Tryz.prog w 0 (fun _=>true) true fuel 114 [v]=some y):∃ xs,RdTs w.heap.size w v xs:=by
 refine open_rdF (E:=eTotal) (e:=154) Tryz.underlying114 (by kernel_rfl) (fun n cs y hl hf=>?_) (by decide) h
 match cs,hl with
 | [e0,e1],_ =>
  obtain ⟨n1,hq⟩:=trod_fields Tryz.underlying154 [(9,0,1),(2,1,1)] (by kernel_rfl) hf;obtain ⟨z0,t0⟩:=hq 0 _ _ _ rfl;obtain ⟨a0,ha0,b0⟩:=trodS (v:=e0) Tryz.underlying9 t0;subst ha0;obtain ⟨z1,t1⟩:=hq 1 _ _ _ rfl;obtain ⟨a1,ha1,b1⟩:=trodI (v:=e1) Tryz.underlying2 t1;subst ha1;exact ⟨⟨a0,a1⟩,rfl,b0,b1⟩
theorem openOffice {H:Type} {enc:TypeId × Value→H} {w:World} {r:Reach} {b0:Nat} {v:Value} {d:DataW H} {ps:List MemPlace} (hok:Value.okWide Tryz.prog w r b0 25 v)
 (h:DataW.Trod enc Tryz.prog w 0 (fun _=>true) true 25 v d ps):∃ (u1 u2:Value) (o:OffT),v=.agg #[u1,u2]∧RdOff w.heap.size w u1 u2 o:=by
 obtain ⟨cs,rfl,hsz⟩:=okWide_struct Tryz.underlying25 hok;obtain ⟨c0,c1,rfl⟩:=Go.Joins.array2 (hsz.trans (by kernel_rfl));obtain ⟨fuel,hf⟩:=h;obtain ⟨m,hq⟩:=trod_fields Tryz.underlying25 [(22,0,1),(23,1,1)] (by kernel_rfl) hf;obtain ⟨z0,t0⟩:=hq 0 _ _ _ rfl;obtain ⟨z1,t1⟩:=hq 1 _ _ _ rfl;have t0':DataW.trod enc Tryz.prog w 0 (fun _=>true) true m 22 [c0]=some z0:=t0;have t1':DataW.trod enc Tryz.prog w 0 (fun _=>true) true m 23 [c1]=some z1:=t1;obtain ⟨xs,hx⟩:=open_rows (R:=fun B w v (x:List (List Int))=>RdInt64SS B w v x) (e:=112) Tryz.underlying22 (by kernel_rfl) (fun n u y hf=>openFDeck hf) (fun h=>h.shape) t0';obtain ⟨ys,hy⟩:=open_rows (R:=RdTs) (e:=114) Tryz.underlying23 (by kernel_rfl) (fun n u y hf=>openFTotals hf) (fun h=>Rds.shape h) t1';exact ⟨c0,c1,⟨xs,ys⟩,rfl,hx,hy⟩
theorem Box.wthI {w w':World} {b lo hi:Nat} {cs:List Value} (h:Box w b cs) (hw:Within lo hi w w') (hb:b<lo∨hi≤b):Box w' b cs:=by
 have h2:=hw.block b h.lt hb;exact ⟨Nat.lt_of_lt_of_le h.lt hw.size,fun j v hj=>(World.cell?_of_block (w:=w) (a:=⟨b,j,none⟩) h2).trans (h.cell j v hj),fun j=>(World.frozen?_of_block (w:=w) (a:=⟨b,j,none⟩) h2).trans (h.free j)⟩
abbrev OwnIv (lo hi:Nat) (w:World) (u v:Value) (o:OffT):Prop:=OwnO (fun q=>lo≤q∧q<hi) w u v o
theorem OwnO.below {lo hi B:Nat} {w w':World} {u v:Value} {o:OffT} (h:OwnO (fun q=>lo≤q∧q<hi) w u v o) (hb:Below B w w') (hB:hi≤B):OwnIv lo hi w' u v o :=
 OwnO.agr h (Agr.of_below (S:=fun k=>B≤k) hb (fun k hk hn=>by omega)) (fun k hk (h2:B≤k)=>by have:=hk.2;omega)
theorem OwnO.within {lo hi l2 h2:Nat} {w w':World} {u v:Value} {o:OffT} (h:OwnO (fun q=>lo≤q∧q<hi) w u v o) (hw:Within l2 h2 w w') (hB:h2≤lo):OwnIv lo hi w' u v o :=
 OwnO.agr h (Within.agrT (S:=fun k=>l2≤k∧k<h2) hw (fun k a b=>⟨a,b⟩)) (fun k hk (hh:l2≤k∧k<h2)=>by have:=hk.1;have:=hh.2;omega)
theorem Agr.iv {lo hi:Nat} {w w':World} (h:Agr (fun q=>lo≤q∧q<hi) w w'):Within lo hi w w':=⟨h.os,h.tape,h.output,h.size,fun k hk hn=>h.block k hk (fun hh=>by rcases hn with a | a <;> omega)⟩
theorem lens_of_sz {o:OffT} (h:szOffice o≤1048576):LensOk o:=by
 intro l hl;obtain ⟨i,hi,rfl⟩:=List.mem_iff_getElem.1 hl;have h1:=szTotalSS_row (x:=o.totals) (k:=i) (List.getElem?_eq_getElem hi);have h2:=szTotalS_len o.totals[i];have h3:=szCardSS_nonneg o.trays;unfold szOffice at h;omega
theorem sumBy_mul {α:Type} {f:α→Int} {c:Int}:∀ xs:List α,(∀ x∈xs,f x≤c)→sumBy f xs≤c * xs.length
 | [],_=>by simp [sumBy]
 | x :: xs,h=>by
  have h1:=h x (List.mem_cons_self ..);have h2:=sumBy_mul xs (fun y hy=>h y (List.mem_cons_of_mem _ hy));simp only [sumBy,List.length_cons]
  push_cast
  rw [Int.mul_add,Int.mul_one];omega
theorem off_cnt {o:OffT} (hv:offB o=true) (hl:LensOk o):(cntOffice o:Int)≤1000000000:=by
 have hp:=offB_parts hv;have h1:∀ d∈o.trays,cICardSS d≤1000:=by
  intro d hd;have hk:=deckB_parts (hp.2.2 d hd).1;have h2:∀ c∈d,(c.length:Int)≤20:=fun c hc=>by have:=card_len (hk.2 c hc).1;omega
  have h3:=sumBy_mul (f:=fun r:List Int=>(r.length:Int)) d h2;have h4:=sumBy_nonneg (f:=fun r:List Int=>(r.length:Int)) (fun r=>by omega) d;have h5:=hk.1;show ((cntInt64SS d:Nat):Int)≤1000
  unfold cntInt64SS;omega
 have h2:∀ l∈o.totals,cITotalSS l≤4194304:=by
  intro l hm;have:=hl l hm;show ((cntTotalS l:Nat):Int)≤4194304
  unfold cntTotalS;omega
 have h3:=sumBy_mul o.trays h1;have h4:=sumBy_mul o.totals h2;have h5:=cntCardSS_eq o.trays;have h6:=cntTotalSS_eq o.totals;have h7:=hp.1;have h8:=hp.2.1;unfold cntOffice;push_cast
 omega
theorem nil_cnt:(cntOffice ⟨[],[]⟩:Int)≤1000000000:=by unfold cntOffice cntCardSS cntTotalSS;simp [sumBy]
theorem oaO_cnt {o:OffT} {xs:List StepT} {pc:Int} (hl:LensOk o):(cntOffice (oaO o xs pc):Int)≤1000000000:=by
 unfold oaO;by_cases h:oaC o xs pc=0
 · rw [if_pos h]
   have hv:offB o=true:=by
    cases hb:offB o with
    | true=>rfl
    | false=>unfold oaC at h;rw [if_pos hb] at h;cases h
   have h1:=runP_ok o (xs.take pc.toNat) hv hl;exact off_cnt h1.1 h1.2
 · rw [if_neg h];exact nil_cnt
theorem raO_cnt {o:OffT} {xs ys:List StepT} (hl:LensOk o):(cntOffice (raO o xs ys):Int)≤1000000000:=by
 unfold raO;by_cases h:raC o xs ys=0
 · rw [if_pos h]
   have hv:offB o=true:=by
    cases hb:offB o with
    | true=>rfl
    | false=>unfold raC at h;rw [if_pos hb] at h;cases h
   have h1:=runP_ok o (xs++ys) hv hl;exact off_cnt h1.1 h1.2
 · rw [if_neg h];exact nil_cnt
end Go.Proofs.YthdaghfhlfjclaaGreat
