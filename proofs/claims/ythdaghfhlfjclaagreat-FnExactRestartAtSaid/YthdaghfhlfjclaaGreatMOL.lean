/- The law 'the program's RestartAt returns what the reference's returns'. Printed by glo.py. No condition. -/
import Derived.Test.YthdaghfhlfjclaaGreatMO33
import Derived.Test.YthdaghfhlfjclaaGreatMO34
import Derived.Test.YthdaghfhlfjclaaGreatMO36
import Derived.Test.YthdaghfhlfjclaaGreatMO13
import Derived.Test.YthdaghfhlfjclaaGreatMO7
namespace Go.Proofs.YthdaghfhlfjclaaGreat
set_option linter.unusedSimpArgs false
open Lib (hid)
open Go.ChangeShapes Go.WideShapes Go.ChangeAt Go.RowKit Go.Sort
set_option linter.unusedVariables false
set_option maxRecDepth 100000
set_option maxHeartbeats 6000000 in
theorem walk_FnExactRestartAt (w:World) {o:OffT} {xs:List StepT} {ou ov sv:Value} {ys:List StepT} {tv:Value} (a0:RdOff w.heap.size w ou ov o) (a1:RdStepS w.heap.size w sv xs) (a2:RdStepS w.heap.size w tv ys) :
 Calls Tryz.prog 5 #[.agg #[ou,ov],sv,tv] w fun e w'=>e=.returned (.bool true)∧Below w.heap.size w w':=by
 obtain ⟨uo,uc,rfl⟩:=RdL.shape a0.1;obtain ⟨vo,vc,rfl⟩:=RdL.shape a0.2;obtain ⟨so,sc,rfl⟩:=a1.shape;obtain ⟨n9,hn9⟩:∃ n9,n9=o.trays.length:=⟨_,rfl⟩;obtain ⟨n8,hn8⟩:∃ n8,n8=o.totals.length:=⟨_,rfl⟩;obtain ⟨n7,hn7⟩:∃ n7,n7=xs.length:=⟨_,rfl⟩;rw [← hn9,← hn8] at a0 ⊢;rw [← hn7] at a1 ⊢;clear hn9 hn8 hn7;obtain ⟨tq,tcq,rfl⟩:=a2.shape;obtain ⟨n6,hn6⟩:∃ n6,n6=ys.length:=⟨_,rfl⟩;rw [← hn6] at a2 ⊢;clear hn6;obtain ⟨W,hW⟩:∃ W,W=w.alloc (.cells #[.slice uo n9 uc,.slice vo n8 vc] 25):=⟨_,rfl⟩;have hB0:Below w.heap.size w W:=by rw [hW];exact (Below.refl _ _).alloc (Nat.le_refl _) _
 have BA:Box W w.heap.size [.slice uo n9 uc,.slice vo n8 vc]:=by rw [hW];exact Box.new w [.slice uo n9 uc,.slice vo n8 vc] 25
 have hs0:w.heap.size<W.heap.size:=by rw [hW];simp
 replace a0:=a0.below hB0 (Nat.le_refl _);replace a1:=a1.below hB0 (Nat.le_refl _);replace a2:=a2.below hB0 (Nat.le_refl _);have HW:=hid hW;clear hW;have n0:=szOffice_nonneg o;have n1:=szStepS_nonneg xs;have n2:=szStepS_nonneg ys;have N0:=hid n0;have N1:=hid n1;have N2:=hid n2;clear n0 n1 n2;by_cases c0:szOffice o≤1048576
 case neg =>
  have C0:=hid c0;clear c0;go_enter Tryz.func5,Tryz.ntmps5
  go_upto_region 1 with fail
  rw [← HW.out];have BA_0:=BA.cell 0 _ rfl;have BA_1:=BA.cell 1 _ rfl;go_wp2_with fail
  with_reducible refine (szOffice_no a0 ⟨by have:=N0.out;have:=N1.out;have:=N2.out;have:=C0.out;omega,by have:=N0.out;have:=N1.out;have:=N2.out;have:=C0.out;omega⟩ (by have:=N0.out;have:=N1.out;have:=N2.out;have:=C0.out;omega)).mono ?_
  rintro e w1 ⟨rfl,hb1⟩
  clear BA_0 BA_1;have hs1:W.heap.size≤w1.heap.size:=hb1.size;have hB1:Below w.heap.size w w1:=hB0.trans (hb1.mono hB0.size);replace BA:=Box.below BA hb1 (by omega);replace a0:=a0.below hb1 (by omega);replace a1:=a1.below hb1 (by omega);replace a2:=a2.below hb1 (by omega);go_wp2
  go_ret
  exact ⟨rfl,hB1⟩
 have C0:=hid c0;clear c0;by_cases c1:szStepS xs≤1048576 - szOffice o
 case neg =>
  have C1:=hid c1;clear c1;go_enter Tryz.func5,Tryz.ntmps5
  go_upto_region 1 with fail
  rw [← HW.out];have BA_0:=BA.cell 0 _ rfl;have BA_1:=BA.cell 1 _ rfl;go_wp2_with fail
  with_reducible refine (szOffice_c a0 (by have:=N0.out;have:=N1.out;have:=N2.out;have:=C0.out;have:=C1.out;omega) C0.out).mono ?_
  rintro e w1 ⟨rfl,hb1⟩
  clear BA_0 BA_1;have hs1:W.heap.size≤w1.heap.size:=hb1.size;have hB1:Below w.heap.size w w1:=hB0.trans (hb1.mono hB0.size);replace BA:=Box.below BA hb1 (by omega);replace a0:=a0.below hb1 (by omega);replace a1:=a1.below hb1 (by omega);replace a2:=a2.below hb1 (by omega);have L0:¬ 1048576 - szOffice o<0:=by have:=N0.out;have:=N1.out;have:=N2.out;have:=C0.out;have:=C1.out;omega
  go_wp2_with fail
  with_reducible refine (szStepS_no a1 ⟨by have:=N0.out;have:=N1.out;have:=N2.out;have:=C0.out;have:=C1.out;omega,by have:=N0.out;have:=N1.out;have:=N2.out;have:=C0.out;have:=C1.out;omega⟩ (by have:=N0.out;have:=N1.out;have:=N2.out;have:=C0.out;have:=C1.out;omega)).mono ?_
  rintro e w2 ⟨rfl,hb2⟩
  have hs2:w1.heap.size≤w2.heap.size:=hb2.size;have hB2:Below w.heap.size w w2:=hB1.trans (hb2.mono hB1.size);replace BA:=Box.below BA hb2 (by omega);replace a0:=a0.below hb2 (by omega);replace a1:=a1.below hb2 (by omega);replace a2:=a2.below hb2 (by omega);go_wp2
  go_ret
  exact ⟨rfl,hB2⟩
 have C1:=hid c1;clear c1;by_cases c2:szStepS ys≤1048576 - szOffice o - szStepS xs
 case neg =>
  have C2:=hid c2;clear c2;go_enter Tryz.func5,Tryz.ntmps5
  go_upto_region 1 with fail
  rw [← HW.out];have BA_0:=BA.cell 0 _ rfl;have BA_1:=BA.cell 1 _ rfl;go_wp2_with fail
  with_reducible refine (szOffice_c a0 (by have:=N0.out;have:=N1.out;have:=N2.out;have:=C0.out;have:=C1.out;have:=C2.out;omega) C0.out).mono ?_
  rintro e w1 ⟨rfl,hb1⟩
  clear BA_0 BA_1;have hs1:W.heap.size≤w1.heap.size:=hb1.size;have hB1:Below w.heap.size w w1:=hB0.trans (hb1.mono hB0.size);replace BA:=Box.below BA hb1 (by omega);replace a0:=a0.below hb1 (by omega);replace a1:=a1.below hb1 (by omega);replace a2:=a2.below hb1 (by omega);have L0:¬ 1048576 - szOffice o<0:=by have:=N0.out;have:=N1.out;have:=N2.out;have:=C0.out;have:=C1.out;have:=C2.out;omega
  go_wp2_with fail
  with_reducible refine (szStepS_c a1 (by have:=N0.out;have:=N1.out;have:=N2.out;have:=C0.out;have:=C1.out;have:=C2.out;omega) C1.out).mono ?_
  rintro e w2 ⟨rfl,hb2⟩
  have hs2:w1.heap.size≤w2.heap.size:=hb2.size;have hB2:Below w.heap.size w w2:=hB1.trans (hb2.mono hB1.size);replace BA:=Box.below BA hb2 (by omega);replace a0:=a0.below hb2 (by omega);replace a1:=a1.below hb2 (by omega);replace a2:=a2.below hb2 (by omega);have L1:¬ 1048576 - szOffice o - szStepS xs<0:=by have:=N0.out;have:=N1.out;have:=N2.out;have:=C0.out;have:=C1.out;have:=C2.out;omega
  go_wp2_with fail
  with_reducible refine (szStepS_no a2 ⟨by have:=N0.out;have:=N1.out;have:=N2.out;have:=C0.out;have:=C1.out;have:=C2.out;omega,by have:=N0.out;have:=N1.out;have:=N2.out;have:=C0.out;have:=C1.out;have:=C2.out;omega⟩ (by have:=N0.out;have:=N1.out;have:=N2.out;have:=C0.out;have:=C1.out;have:=C2.out;omega)).mono ?_
  rintro e w3 ⟨rfl,hb3⟩
  have hs3:w2.heap.size≤w3.heap.size:=hb3.size;have hB3:Below w.heap.size w w3:=hB2.trans (hb3.mono hB2.size);replace BA:=Box.below BA hb3 (by omega);replace a0:=a0.below hb3 (by omega);replace a1:=a1.below hb3 (by omega);replace a2:=a2.below hb3 (by omega);go_wp2
  go_ret
  exact ⟨rfl,hB3⟩
 have C2:=hid c2;clear c2;have HLn:Hid (LensOk o):=hid (lens_of_sz (by have:=N0.out;have:=N1.out;have:=N2.out;have:=C0.out;have:=C1.out;have:=C2.out;omega));obtain ⟨O9,hO9⟩:∃ r,(raO o xs ys)=r:=⟨_,rfl⟩;obtain ⟨C9,hC9⟩:∃ r,(raC o xs ys)=r:=⟨_,rfl⟩;have CNT:Hid ((cntOffice O9:Int)≤1000000000):=hid (by rw [← hO9];exact raO_cnt HLn.out);have HS:Hid (∀ (w:World) (B A A2:Nat) (u v s t:Value),RdOff B w u v o→RdStepS A w s xs→RdStepS A2 w t ys→Calls Tryz.prog 23 #[.agg #[u,v],s,t] w fun e w'=>RefPost w O9 C9 e w'):=hid (fun w B A A2 u v s t h1 h2 h3=>by rw [← hO9,← hC9];exact sRestartAt_c h1 h2 h3 HLn.out (by have:=C0.out;have:=C1.out;have:=C2.out;have:=N0.out;have:=szStepS_len xs;have:=szStepS_len ys;omega));have HI:Hid (∀ (w:World) (B A A2:Nat) (u v s t:Value),RdOff B w u v o→RdStepS A w s xs→RdStepS A2 w t ys→Calls Tryz.prog 24 #[.agg #[u,v],s,t] w fun e w'=>OffPost w O9 C9 e w'):=hid (fun w B A A2 u v s t h1 h2 h3=>by rw [← hO9,← hC9];exact RestartAt_o h1 h2 h3 HLn.out (by have:=C0.out;have:=C1.out;have:=C2.out;have:=N0.out;have:=szStepS_len xs;have:=szStepS_len ys;omega));clear hO9 hC9;have L0:¬ 1048576 - szOffice o<0:=by have:=N0.out;have:=N1.out;have:=N2.out;have:=C0.out;have:=C1.out;have:=C2.out;omega
 have L1:¬ 1048576 - szOffice o - szStepS xs<0:=by have:=N0.out;have:=N1.out;have:=N2.out;have:=C0.out;have:=C1.out;have:=C2.out;omega
 have L2:¬ 1048576 - szOffice o - szStepS xs - szStepS ys<0:=by have:=N0.out;have:=N1.out;have:=N2.out;have:=C0.out;have:=C1.out;have:=C2.out;omega
 go_enter Tryz.func5,Tryz.ntmps5
 go_upto_region 1 with fail
 rw [← HW.out];have BA_0:=BA.cell 0 _ rfl;have BA_1:=BA.cell 1 _ rfl;go_wp2_with fail
 with_reducible refine (szOffice_c a0 (by have:=N0.out;have:=N1.out;have:=N2.out;have:=C0.out;have:=C1.out;have:=C2.out;omega) C0.out).mono ?_
 rintro e w1 ⟨rfl,hb1⟩
 clear BA_0 BA_1;have hs1:W.heap.size≤w1.heap.size:=hb1.size;have hB1:Below w.heap.size w w1:=hB0.trans (hb1.mono hB0.size);replace BA:=Box.below BA hb1 (by omega);replace a0:=a0.below hb1 (by omega);replace a1:=a1.below hb1 (by omega);replace a2:=a2.below hb1 (by omega);go_wp2_with fail
 with_reducible refine (szStepS_c a1 (by have:=N0.out;have:=N1.out;have:=N2.out;have:=C0.out;have:=C1.out;have:=C2.out;omega) C1.out).mono ?_
 rintro e w2 ⟨rfl,hb2⟩
 have hs2:w1.heap.size≤w2.heap.size:=hb2.size;have hB2:Below w.heap.size w w2:=hB1.trans (hb2.mono hB1.size);replace BA:=Box.below BA hb2 (by omega);replace a0:=a0.below hb2 (by omega);replace a1:=a1.below hb2 (by omega);replace a2:=a2.below hb2 (by omega);go_wp2_with fail
 with_reducible refine (szStepS_c a2 (by have:=N0.out;have:=N1.out;have:=N2.out;have:=C0.out;have:=C1.out;have:=C2.out;omega) C2.out).mono ?_
 rintro e w3 ⟨rfl,hb3⟩
 have hs3:w2.heap.size≤w3.heap.size:=hb3.size;have hB3:Below w.heap.size w w3:=hB2.trans (hb3.mono hB2.size);replace BA:=Box.below BA hb3 (by omega);replace a0:=a0.below hb3 (by omega);replace a1:=a1.below hb3 (by omega);replace a2:=a2.below hb3 (by omega);have BA_0:=BA.cell 0 _ rfl;have BA_1:=BA.cell 1 _ rfl;go_wp2_with fail
 with_reducible refine (toOffice_c a0 (by have:=N0.out;have:=N1.out;have:=N2.out;have:=C0.out;have:=C1.out;have:=C2.out;omega)).mono ?_
 rintro e w4 ⟨uq0,vq0,rfl,oq0,hb4⟩
 clear BA_0 BA_1;have hs4:w3.heap.size≤w4.heap.size:=hb4.size;have hB4:Below w.heap.size w w4:=hB3.trans (hb4.mono hB3.size);replace BA:=Box.below BA hb4 (by omega);replace a0:=a0.below hb4 (by omega);replace a1:=a1.below hb4 (by omega);replace a2:=a2.below hb4 (by omega);have rq0:=OwnO.rds oq0;obtain ⟨uq0o,uq0c,rfl⟩:=RdL.shape rq0.1;obtain ⟨vq0o,vq0c,rfl⟩:=RdL.shape rq0.2;clear oq0;go_wp2_with fail
 with_reducible refine (toStepS_c a1 (by have:=N0.out;have:=N1.out;have:=N2.out;have:=C0.out;have:=C1.out;have:=C2.out;omega)).mono ?_
 rintro e w5 ⟨xq1,rfl,oq1,hb5⟩
 have hs5:w4.heap.size≤w5.heap.size:=hb5.size;have hB5:Below w.heap.size w w5:=hB4.trans (hb5.mono hB4.size);replace BA:=Box.below BA hb5 (by omega);replace a0:=a0.below hb5 (by omega);replace a1:=a1.below hb5 (by omega);replace a2:=a2.below hb5 (by omega);replace rq0:=rq0.below hb5 (by omega);have rq1:=Own.rds oq1;clear oq1;go_wp2_with fail
 with_reducible refine (toStepS_c a2 (by have:=N0.out;have:=N1.out;have:=N2.out;have:=C0.out;have:=C1.out;have:=C2.out;omega)).mono ?_
 rintro e w6 ⟨xq2,rfl,oq2,hb6⟩
 have hs6:w5.heap.size≤w6.heap.size:=hb6.size;have hB6:Below w.heap.size w w6:=hB5.trans (hb6.mono hB5.size);replace BA:=Box.below BA hb6 (by omega);replace a0:=a0.below hb6 (by omega);replace a1:=a1.below hb6 (by omega);replace a2:=a2.below hb6 (by omega);replace rq0:=rq0.below hb6 (by omega);replace rq1:=rq1.below hb6 (by omega);have rq2:=Own.rds oq2;clear oq2;go_wp2_with fail
 with_reducible refine (HS.out _ _ _ _ _ _ _ _ rq0 rq1 rq2).mono ?_
 intro e w7 hpost;obtain ⟨⟨aw0_,cw0_,bw0_,dw0_,rfl,ow0_⟩,hb7⟩:=hpost.sh;clear hpost;obtain ⟨tw0__1,htw0__1⟩:∃ m,m=O9.trays.length:=⟨_,rfl⟩;obtain ⟨tw0__2,htw0__2⟩:∃ m,m=O9.totals.length:=⟨_,rfl⟩;rw [← htw0__1,← htw0__2] at ow0_ ⊢;clear htw0__1 htw0__2;have hs7:w6.heap.size≤w7.heap.size:=hb7.size;have hB7:Below w.heap.size w w7:=hB6.trans (hb7.mono hB6.size);replace BA:=Box.below BA hb7 (by omega);replace a0:=a0.below hb7 (by omega);replace a1:=a1.below hb7 (by omega);replace a2:=a2.below hb7 (by omega);replace rq0:=rq0.below hb7 (by omega);replace rq1:=rq1.below hb7 (by omega);replace rq2:=rq2.below hb7 (by omega);have rw0_:=OffN.rd ow0_;clear ow0_;clear rq0;clear rq1;clear rq2;clear L0 L1 L2;obtain ⟨w8,hW8⟩:∃ wy:World,wy=w7.alloc (.cells #[(.slice aw0_ tw0__1 cw0_),(.slice bw0_ tw0__2 dw0_)] 35):=⟨_,rfl⟩;have hb8:Below w7.heap.size w7 w8:=by rw [hW8];exact (Below.refl _ _).alloc (Nat.le_refl _) _
 have BW:Box w8 w7.heap.size [(.slice aw0_ tw0__1 cw0_),(.slice bw0_ tw0__2 dw0_)]:=by rw [hW8];exact Box.new w7 [(.slice aw0_ tw0__1 cw0_),(.slice bw0_ tw0__2 dw0_)] 35
 have hlBW:w7.heap.size<w8.heap.size:=BW.lt;have hs8:w7.heap.size≤w8.heap.size:=hb8.size;have hB8:Below w.heap.size w w8:=hB7.trans (hb8.mono hB7.size);replace BA:=Box.below BA hb8 (by omega);replace a0:=a0.below hb8 (by omega);replace a1:=a1.below hb8 (by omega);replace a2:=a2.below hb8 (by omega);replace rw0_:=rw0_.below hb8 (by omega);have HW8:=hid hW8;clear hW8;go_upto_region 12 with fail
 rw [← HW8.out];have BA_0:=BA.cell 0 _ rfl;have BA_1:=BA.cell 1 _ rfl;go_wp2_with fail
 with_reducible refine (toOffice_c a0 (by have:=N0.out;have:=N1.out;have:=N2.out;have:=C0.out;have:=C1.out;have:=C2.out;omega)).mono ?_
 rintro e w9 ⟨ux0,vx0,rfl,ox0,hb9⟩
 clear BA_0 BA_1;have hs9:w8.heap.size≤w9.heap.size:=hb9.size;have hB9:Below w.heap.size w w9:=hB8.trans (hb9.mono hB8.size);replace BA:=Box.below BA hb9 (by omega);replace a0:=a0.below hb9 (by omega);replace a1:=a1.below hb9 (by omega);replace a2:=a2.below hb9 (by omega);replace rw0_:=rw0_.below hb9 (by omega);replace BW:=Box.below BW hb9 (by omega);have rx0:=OwnO.rds ox0;obtain ⟨ux0o,ux0c,rfl⟩:=RdL.shape rx0.1;obtain ⟨vx0o,vx0c,rfl⟩:=RdL.shape rx0.2;have tx0:OwnIv w8.heap.size w9.heap.size w9 (.slice ux0o o.trays.length ux0c) (.slice vx0o o.totals.length vx0c) o:=ox0;clear ox0;obtain ⟨w10,hW10⟩:∃ wy:World,wy=w9.alloc (.cells #[(.slice ux0o o.trays.length ux0c),(.slice vx0o o.totals.length vx0c)] 35):=⟨_,rfl⟩;have hb10:Below w9.heap.size w9 w10:=by rw [hW10];exact (Below.refl _ _).alloc (Nat.le_refl _) _
 have BX:Box w10 w9.heap.size [(.slice ux0o o.trays.length ux0c),(.slice vx0o o.totals.length vx0c)]:=by rw [hW10];exact Box.new w9 [(.slice ux0o o.trays.length ux0c),(.slice vx0o o.totals.length vx0c)] 35
 have hlBX:w9.heap.size<w10.heap.size:=BX.lt;have hs10:w9.heap.size≤w10.heap.size:=hb10.size;have hB10:Below w.heap.size w w10:=hB9.trans (hb10.mono hB9.size);replace BA:=Box.below BA hb10 (by omega);replace a0:=a0.below hb10 (by omega);replace a1:=a1.below hb10 (by omega);replace a2:=a2.below hb10 (by omega);replace rw0_:=rw0_.below hb10 (by omega);replace BW:=Box.below BW hb10 (by omega);replace rx0:=rx0.below hb10 (by omega);replace tx0:=tx0.below hb10 (by omega);have HW10:=hid hW10;clear hW10;go_wp2_with fail
 rw [← HW10.out];with_reducible refine (toStepS_c a1 (by have:=N0.out;have:=N1.out;have:=N2.out;have:=C0.out;have:=C1.out;have:=C2.out;omega)).mono ?_
 rintro e w11 ⟨xx1,rfl,ox1,hb11⟩
 have hs11:w10.heap.size≤w11.heap.size:=hb11.size;have hB11:Below w.heap.size w w11:=hB10.trans (hb11.mono hB10.size);replace BA:=Box.below BA hb11 (by omega);replace a0:=a0.below hb11 (by omega);replace a1:=a1.below hb11 (by omega);replace a2:=a2.below hb11 (by omega);replace rw0_:=rw0_.below hb11 (by omega);replace BW:=Box.below BW hb11 (by omega);replace rx0:=rx0.below hb11 (by omega);replace tx0:=tx0.below hb11 (by omega);replace BX:=Box.below BX hb11 (by omega);have rx1:=Own.rds ox1;have tx1:=Own.top ox1;clear ox1;go_wp2_with fail
 with_reducible refine (toStepS_c a2 (by have:=N0.out;have:=N1.out;have:=N2.out;have:=C0.out;have:=C1.out;have:=C2.out;omega)).mono ?_
 rintro e w12 ⟨xx2,rfl,ox2,hb12⟩
 have hs12:w11.heap.size≤w12.heap.size:=hb12.size;have hB12:Below w.heap.size w w12:=hB11.trans (hb12.mono hB11.size);replace BA:=Box.below BA hb12 (by omega);replace a0:=a0.below hb12 (by omega);replace a1:=a1.below hb12 (by omega);replace a2:=a2.below hb12 (by omega);replace rw0_:=rw0_.below hb12 (by omega);replace BW:=Box.below BW hb12 (by omega);replace rx0:=rx0.below hb12 (by omega);replace tx0:=tx0.below hb12 (by omega);replace BX:=Box.below BX hb12 (by omega);replace rx1:=rx1.below hb12 (by omega);replace tx1:=tx1.below hb12 (by omega);have rx2:=Own.rds ox2;have tx2:=Own.top ox2;clear ox2;have BX_0:=BX.cell 0 _ rfl;have BX_1:=BX.cell 1 _ rfl;go_wp2_with fail
 with_reducible refine (HI.out _ _ _ _ _ _ _ _ rx0 rx1 rx2).mono ?_
 intro e w13 hpost;clear BX_0 BX_1;obtain ⟨⟨ag0,cg0,bg0,dg0,rfl,og0⟩,hb13⟩:=hpost.sh;clear hpost;obtain ⟨tg0_1,htg0_1⟩:∃ m,m=O9.trays.length:=⟨_,rfl⟩;obtain ⟨tg0_2,htg0_2⟩:∃ m,m=O9.totals.length:=⟨_,rfl⟩;rw [← htg0_1,← htg0_2] at og0 ⊢;clear htg0_1 htg0_2;have hs13:w12.heap.size≤w13.heap.size:=hb13.size;have hB13:Below w.heap.size w w13:=hB12.trans (hb13.mono hB12.size);replace BA:=Box.below BA hb13 (by omega);replace a0:=a0.below hb13 (by omega);replace a1:=a1.below hb13 (by omega);replace a2:=a2.below hb13 (by omega);replace rw0_:=rw0_.below hb13 (by omega);replace BW:=Box.below BW hb13 (by omega);replace rx0:=rx0.below hb13 (by omega);replace tx0:=tx0.below hb13 (by omega);replace BX:=Box.below BX hb13 (by omega);replace rx1:=rx1.below hb13 (by omega);replace tx1:=tx1.below hb13 (by omega);replace rx2:=rx2.below hb13 (by omega);replace tx2:=tx2.below hb13 (by omega);have tgg0:OwnIv w12.heap.size w13.heap.size w13 (.slice ag0 tg0_1 cg0) (.slice bg0 tg0_2 dg0) O9:=og0;have rg0:=OwnO.rds og0;clear og0;obtain ⟨w14,hW14⟩:∃ wy:World,wy=w13.alloc (.cells #[(.slice ag0 tg0_1 cg0),(.slice bg0 tg0_2 dg0)] 35):=⟨_,rfl⟩;have hb14:Below w13.heap.size w13 w14:=by rw [hW14];exact (Below.refl _ _).alloc (Nat.le_refl _) _
 have BG:Box w14 w13.heap.size [(.slice ag0 tg0_1 cg0),(.slice bg0 tg0_2 dg0)]:=by rw [hW14];exact Box.new w13 [(.slice ag0 tg0_1 cg0),(.slice bg0 tg0_2 dg0)] 35
 have hlBG:w13.heap.size<w14.heap.size:=BG.lt;have hs14:w13.heap.size≤w14.heap.size:=hb14.size;have hB14:Below w.heap.size w w14:=hB13.trans (hb14.mono hB13.size);replace BA:=Box.below BA hb14 (by omega);replace a0:=a0.below hb14 (by omega);replace a1:=a1.below hb14 (by omega);replace a2:=a2.below hb14 (by omega);replace rw0_:=rw0_.below hb14 (by omega);replace BW:=Box.below BW hb14 (by omega);replace rx0:=rx0.below hb14 (by omega);replace tx0:=tx0.below hb14 (by omega);replace BX:=Box.below BX hb14 (by omega);replace rx1:=rx1.below hb14 (by omega);replace tx1:=tx1.below hb14 (by omega);replace rx2:=rx2.below hb14 (by omega);replace tx2:=tx2.below hb14 (by omega);replace tgg0:=tgg0.below hb14 (by omega);replace rg0:=rg0.below hb14 (by omega);have HW14:=hid hW14;clear hW14;go_upto_region 16 with fail
 rw [← HW14.out];have BG_0:=BG.cell 0 _ rfl;have BG_1:=BG.cell 1 _ rfl;have BW_0:=BW.cell 0 _ rfl;have BW_1:=BW.cell 1 _ rfl;go_wp2_with fail
 with_reducible refine (eqOffice_c rg0 rw0_).mono ?_
 rintro e w15 ⟨rfl,hb15⟩
 clear BG_0 BG_1;clear BW_0 BW_1;have hs15:w14.heap.size≤w15.heap.size:=hb15.size;have hB15:Below w.heap.size w w15:=hB14.trans (hb15.mono hB14.size);replace BA:=Box.below BA hb15 (by omega);replace a0:=a0.below hb15 (by omega);replace a1:=a1.below hb15 (by omega);replace a2:=a2.below hb15 (by omega);replace rw0_:=rw0_.below hb15 (by omega);replace BW:=Box.below BW hb15 (by omega);replace rx0:=rx0.below hb15 (by omega);replace tx0:=tx0.below hb15 (by omega);replace BX:=Box.below BX hb15 (by omega);replace rx1:=rx1.below hb15 (by omega);replace tx1:=tx1.below hb15 (by omega);replace rx2:=rx2.below hb15 (by omega);replace tx2:=tx2.below hb15 (by omega);replace tgg0:=tgg0.below hb15 (by omega);replace rg0:=rg0.below hb15 (by omega);replace BG:=Box.below BG hb15 (by omega);have x0_:=BX.cell 0 _ rfl;have x1_:=BX.cell 1 _ rfl;have y0:=BA.cell 0 _ rfl;have y1:=BA.cell 1 _ rfl;have xl:=BX.lt;have yl:=BA.lt;go_upto_region 18 with fail
 refine wp_region_below (fun i v w=>match i with | 0=>v=.agg #[.slice ux0o o.trays.length ux0c,.slice vx0o o.totals.length vx0c] | 1=>v=.agg #[.slice uo n9 uc,.slice vo n8 vc] | 2=>∃ u1 u2,v=.agg #[u1,u2]∧RdOff w.heap.size w u1 u2 o | 3=>v=.bool true | 4=>v=.bool false | _=>True) (by kernel_rfl) (by kernel_rfl) (by kernel_rfl) ?_ ?_ ?_
 · intro i v w w' h hb
   match i,h with
   | 0,h=>exact h
   | 1,h=>exact h
   | 2,h=>obtain ⟨u1,u2,h1,h2⟩:=h;exact ⟨u1,u2,h1,RdOff.onn h2 hb⟩
   | 3,h=>exact h
   | 4,h=>exact h
   | (_+5),h=>exact h
 · intro vs hvs
   match vs,hvs with
   | [v0,v1,v2,v3,v4],_ =>
    refine ⟨?_,?_,?_,?_,?_,trivial⟩
    · intro wr hC hd
      clear hd;have e0:=(hC.cell (p:=⟨w9.heap.size,0,none⟩) xl).trans x0_;have e1:=(hC.cell (p:=⟨w9.heap.size,1,none⟩) xl).trans x1_;unfold relAt;simp only [putAll]
      go_simp
      simp only [relUpon]
      exact ⟨Below.refl _ _,by first | rfl | trivial⟩
    · intro wr hC hd
      clear hd;have e0:=(hC.cell (p:=⟨w.heap.size,0,none⟩) yl).trans y0;have e1:=(hC.cell (p:=⟨w.heap.size,1,none⟩) yl).trans y1;unfold relAt;simp only [putAll]
      go_simp
      simp only [relUpon]
      exact ⟨Below.refl _ _,by first | rfl | trivial⟩
    · intro wr hC hd
      have d1:v1=.agg #[.slice uo n9 uc,.slice vo n8 vc]:=dep_at 1 (by kernel_rfl) hd;subst d1;clear hd;unfold relAt;simp only [putAll]
      go_simp
      simp only [relUpon]
      with_reducible refine (toOffice_c (RdOff.onn a0 hC) (by have:=N0.out;have:=N1.out;have:=N2.out;have:=C0.out;have:=C1.out;have:=C2.out;omega)).mono ?_
      rintro e w99 ⟨u9,v9,rfl,o9,hb9⟩
      exact ⟨_,rfl,hb9,u9,v9,rfl,OwnO.rds o9⟩
    · intro wr hC hd
      have d0:v0=.agg #[.slice ux0o o.trays.length ux0c,.slice vx0o o.totals.length vx0c]:=dep_at 0 (by kernel_rfl) hd;subst d0;have d2:∃ u1 u2,v2=.agg #[u1,u2]∧RdOff wr.heap.size wr u1 u2 o:=dep_at 2 (by kernel_rfl) hd;clear hd;have h8:=d2.choose_spec.choose_spec.1;have h9:=d2.choose_spec.choose_spec.2;generalize d2.choose_spec.choose=v9 at h8 h9;generalize d2.choose=u9 at h8 h9;clear d2;subst h8;unfold relAt;simp only [putAll]
      go_simp
      simp only [relUpon]
      with_reducible refine (eqOffice_c (RdOff.onn rx0 hC) h9).mono ?_
      rintro e w99 ⟨rfl,hb9⟩
      exact ⟨_,rfl,hb9,rfl⟩
    · intro wr hC hd
      have d3:v3=.bool true:=dep_at 3 (by kernel_rfl) hd;subst d3;clear hd;unfold relAt;simp only [putAll]
      go_simp
      simp only [relUpon]
      exact ⟨Below.refl _ _,by first | rfl | trivial⟩
 · intro vs w16 hvs hC hI
   match vs,hvs,hI with
   | [v0,v1,v2,v3,v4],_,hI =>
    have d0:v0=.agg #[.slice ux0o o.trays.length ux0c,.slice vx0o o.totals.length vx0c]:=hI 0 (by decide);subst d0;have d1:v1=.agg #[.slice uo n9 uc,.slice vo n8 vc]:=hI 1 (by decide);subst d1;have d2:∃ u1 u2,v2=.agg #[u1,u2]∧RdOff w16.heap.size w16 u1 u2 o:=hI 2 (by decide);have d3:v3=.bool true:=hI 3 (by decide);subst d3;have d4:v4=.bool false:=hI 4 (by decide);subst d4;clear hI;simp only [putAll]
    go_simp
    have hs16:w15.heap.size≤w16.heap.size:=hC.size;have hB16:Below w.heap.size w w16:=hB15.trans (hC.mono hB15.size);replace BA:=Box.below BA hC (by omega);replace a0:=a0.below hC (by omega);replace a1:=a1.below hC (by omega);replace a2:=a2.below hC (by omega);replace rw0_:=rw0_.below hC (by omega);replace BW:=Box.below BW hC (by omega);replace rx0:=rx0.below hC (by omega);replace tx0:=tx0.below hC (by omega);replace BX:=Box.below BX hC (by omega);replace rx1:=rx1.below hC (by omega);replace tx1:=tx1.below hC (by omega);replace rx2:=rx2.below hC (by omega);replace tx2:=tx2.below hC (by omega);replace tgg0:=tgg0.below hC (by omega);replace rg0:=rg0.below hC (by omega);replace BG:=Box.below BG hC (by omega);clear hC;obtain ⟨u5,u6,rfl,_⟩:=d2;clear x0_ x1_ y0 y1 xl yl;go_wp2_with fail
    with_reducible refine (toStepS_c a1 (by have:=N0.out;have:=N1.out;have:=N2.out;have:=C0.out;have:=C1.out;have:=C2.out;omega)).mono ?_
    rintro e w17 ⟨xz1,rfl,oz1,hb17⟩
    have hs17:w16.heap.size≤w17.heap.size:=hb17.size;have hB17:Below w.heap.size w w17:=hB16.trans (hb17.mono hB16.size);replace BA:=Box.below BA hb17 (by omega);replace a0:=a0.below hb17 (by omega);replace a1:=a1.below hb17 (by omega);replace a2:=a2.below hb17 (by omega);replace rw0_:=rw0_.below hb17 (by omega);replace BW:=Box.below BW hb17 (by omega);replace rx0:=rx0.below hb17 (by omega);replace tx0:=tx0.below hb17 (by omega);replace BX:=Box.below BX hb17 (by omega);replace rx1:=rx1.below hb17 (by omega);replace tx1:=tx1.below hb17 (by omega);replace rx2:=rx2.below hb17 (by omega);replace tx2:=tx2.below hb17 (by omega);replace tgg0:=tgg0.below hb17 (by omega);replace rg0:=rg0.below hb17 (by omega);replace BG:=Box.below BG hb17 (by omega);have rz1:=Own.rds oz1;clear oz1;go_wp2_with fail
    with_reducible refine (eqStepS_c rx1 rz1).mono ?_
    rintro e w18 ⟨rfl,hb18⟩
    have hs18:w17.heap.size≤w18.heap.size:=hb18.size;have hB18:Below w.heap.size w w18:=hB17.trans (hb18.mono hB17.size);replace BA:=Box.below BA hb18 (by omega);replace a0:=a0.below hb18 (by omega);replace a1:=a1.below hb18 (by omega);replace a2:=a2.below hb18 (by omega);replace rw0_:=rw0_.below hb18 (by omega);replace BW:=Box.below BW hb18 (by omega);replace rx0:=rx0.below hb18 (by omega);replace tx0:=tx0.below hb18 (by omega);replace BX:=Box.below BX hb18 (by omega);replace rx1:=rx1.below hb18 (by omega);replace tx1:=tx1.below hb18 (by omega);replace rx2:=rx2.below hb18 (by omega);replace tx2:=tx2.below hb18 (by omega);replace tgg0:=tgg0.below hb18 (by omega);replace rg0:=rg0.below hb18 (by omega);replace BG:=Box.below BG hb18 (by omega);replace rz1:=rz1.below hb18 (by omega);clear rz1;go_wp2_with fail
    with_reducible refine (toStepS_c a2 (by have:=N0.out;have:=N1.out;have:=N2.out;have:=C0.out;have:=C1.out;have:=C2.out;omega)).mono ?_
    rintro e w19 ⟨xz2,rfl,oz2,hb19⟩
    have hs19:w18.heap.size≤w19.heap.size:=hb19.size;have hB19:Below w.heap.size w w19:=hB18.trans (hb19.mono hB18.size);replace BA:=Box.below BA hb19 (by omega);replace a0:=a0.below hb19 (by omega);replace a1:=a1.below hb19 (by omega);replace a2:=a2.below hb19 (by omega);replace rw0_:=rw0_.below hb19 (by omega);replace BW:=Box.below BW hb19 (by omega);replace rx0:=rx0.below hb19 (by omega);replace tx0:=tx0.below hb19 (by omega);replace BX:=Box.below BX hb19 (by omega);replace rx1:=rx1.below hb19 (by omega);replace tx1:=tx1.below hb19 (by omega);replace rx2:=rx2.below hb19 (by omega);replace tx2:=tx2.below hb19 (by omega);replace tgg0:=tgg0.below hb19 (by omega);replace rg0:=rg0.below hb19 (by omega);replace BG:=Box.below BG hb19 (by omega);have rz2:=Own.rds oz2;clear oz2;go_wp2_with fail
    with_reducible refine (eqStepS_c rx2 rz2).mono ?_
    rintro e w20 ⟨rfl,hb20⟩
    have hs20:w19.heap.size≤w20.heap.size:=hb20.size;have hB20:Below w.heap.size w w20:=hB19.trans (hb20.mono hB19.size);replace BA:=Box.below BA hb20 (by omega);replace a0:=a0.below hb20 (by omega);replace a1:=a1.below hb20 (by omega);replace a2:=a2.below hb20 (by omega);replace rw0_:=rw0_.below hb20 (by omega);replace BW:=Box.below BW hb20 (by omega);replace rx0:=rx0.below hb20 (by omega);replace tx0:=tx0.below hb20 (by omega);replace BX:=Box.below BX hb20 (by omega);replace rx1:=rx1.below hb20 (by omega);replace tx1:=tx1.below hb20 (by omega);replace rx2:=rx2.below hb20 (by omega);replace tx2:=tx2.below hb20 (by omega);replace tgg0:=tgg0.below hb20 (by omega);replace rg0:=rg0.below hb20 (by omega);replace BG:=Box.below BG hb20 (by omega);replace rz2:=rz2.below hb20 (by omega);clear rz2;clear rx0;clear rx1;clear rg0;clear rx2;have BX_0:=BX.cell 0 _ rfl;have BX_1:=BX.cell 1 _ rfl;go_wp2_with fail
    with_reducible refine (markOffice_c 1 tx0 (fun q hq=>Nat.lt_of_lt_of_le hq.2 (by omega)) (by omega) (by have:=cntOffice_le o;have:=cntStepS_le xs;have:=cntStepS_le ys;have:=N0.out;have:=N1.out;have:=N2.out;have:=C0.out;have:=C1.out;have:=C2.out;omega)).mono ?_
    rintro e w21 ⟨rfl,tx0,hA21⟩
    have hw21:=Agr.iv hA21;clear hA21;clear BX_0 BX_1;have hb21:=hw21.below (by omega);have hs21:w20.heap.size≤w21.heap.size:=hb21.size;have hB21:Below w.heap.size w w21:=hB20.trans (hb21.mono (by omega));replace BA:=Box.below BA hb21 (by omega);replace a0:=a0.below hb21 (by omega);replace a1:=a1.below hb21 (by omega);replace a2:=a2.below hb21 (by omega);replace rw0_:=rw0_.below hb21 (by omega);replace BW:=Box.below BW hb21 (by omega);replace BX:=Box.wthI BX hw21 (.inr (by omega));replace tx1:=tx1.within hw21 (by omega);replace tx2:=tx2.within hw21 (by omega);replace tgg0:=tgg0.within hw21 (by omega);replace BG:=Box.wthI BG hw21 (.inr (by omega));clear tx0;go_wp2_with fail
    with_reducible refine (markStepS_c _ tx1 (by omega) (by have:=cntOffice_le o;have:=cntStepS_le xs;have:=cntStepS_le ys;have:=N0.out;have:=N1.out;have:=N2.out;have:=C0.out;have:=C1.out;have:=C2.out;omega)).mono ?_
    rintro e w22 ⟨rfl,tx1,hw22,_⟩
    have hb22:=hw22.below (by omega);have hs22:w21.heap.size≤w22.heap.size:=hb22.size;have hB22:Below w.heap.size w w22:=hB21.trans (hb22.mono (by omega));replace BA:=Box.below BA hb22 (by omega);replace a0:=a0.below hb22 (by omega);replace a1:=a1.below hb22 (by omega);replace a2:=a2.below hb22 (by omega);replace rw0_:=rw0_.below hb22 (by omega);replace BW:=Box.below BW hb22 (by omega);replace BX:=Box.below BX hb22 (by omega);replace tx2:=tx2.within hw22 (by omega);replace tgg0:=tgg0.within hw22 (by omega);replace BG:=Box.wthI BG hw22 (.inr (by omega));clear tx1 BX;go_wp2_with fail
    with_reducible refine (markStepS_c _ tx2 (by omega) (by have:=cntOffice_le o;have:=cntStepS_le xs;have:=cntStepS_le ys;have:=N0.out;have:=N1.out;have:=N2.out;have:=C0.out;have:=C1.out;have:=C2.out;omega)).mono ?_
    rintro e w23 ⟨rfl,tx2,hw23,_⟩
    have hb23:=hw23.below (by omega);have hs23:w22.heap.size≤w23.heap.size:=hb23.size;have hB23:Below w.heap.size w w23:=hB22.trans (hb23.mono (by omega));replace BA:=Box.below BA hb23 (by omega);replace a0:=a0.below hb23 (by omega);replace a1:=a1.below hb23 (by omega);replace a2:=a2.below hb23 (by omega);replace rw0_:=rw0_.below hb23 (by omega);replace BW:=Box.below BW hb23 (by omega);replace tgg0:=tgg0.within hw23 (by omega);replace BG:=Box.wthI BG hw23 (.inr (by omega));clear tx2;have rg0:=tgg0.rds;have LK:¬ (1+(cntOffice o:Int)+(cntStepS xs:Int)+(cntStepS ys:Int))<0:=by omega
    have BG_0:=BG.cell 0 _ rfl;have BG_1:=BG.cell 1 _ rfl;have BW_0:=BW.cell 0 _ rfl;have BW_1:=BW.cell 1 _ rfl;go_wp2_with fail
    with_reducible refine (eqOffice_c rg0 rw0_).mono ?_
    rintro e w24 ⟨rfl,hb24⟩
    clear BG_0 BG_1;clear BW_0 BW_1;have hs24:w23.heap.size≤w24.heap.size:=hb24.size;have hB24:Below w.heap.size w w24:=hB23.trans (hb24.mono hB23.size);replace BA:=Box.below BA hb24 (by omega);replace a0:=a0.below hb24 (by omega);replace a1:=a1.below hb24 (by omega);replace a2:=a2.below hb24 (by omega);replace rw0_:=rw0_.below hb24 (by omega);replace BW:=Box.below BW hb24 (by omega);replace tgg0:=tgg0.below hb24 (by omega);replace BG:=Box.below BG hb24 (by omega);replace rg0:=rg0.below hb24 (by omega);clear LK;clear rg0;have BG_0:=BG.cell 0 _ rfl;have BG_1:=BG.cell 1 _ rfl;go_wp2_with fail
    with_reducible refine (markOffice_c 1 tgg0 (fun q hq=>Nat.lt_of_lt_of_le hq.2 (by omega)) (by omega) (by have:=CNT.out;omega)).mono ?_
    rintro e w25 ⟨rfl,tgg0,hA25⟩
    have hw25:=Agr.iv hA25;clear hA25;clear BG_0 BG_1;have hb25:=hw25.below (by omega);have hs25:w24.heap.size≤w25.heap.size:=hb25.size;have hB25:Below w.heap.size w w25:=hB24.trans (hb25.mono (by omega));replace BA:=Box.below BA hb25 (by omega);replace a0:=a0.below hb25 (by omega);replace a1:=a1.below hb25 (by omega);replace a2:=a2.below hb25 (by omega);replace rw0_:=rw0_.below hb25 (by omega);replace BW:=Box.below BW hb25 (by omega);replace BG:=Box.wthI BG hw25 (.inr (by omega));have rg0:=tgg0.rds;clear tgg0;have LM:¬ (1+(cntOffice O9:Int))<0:=by omega
    have BG_0:=BG.cell 0 _ rfl;have BG_1:=BG.cell 1 _ rfl;go_wp2_with fail
    with_reducible refine (heldOffice_c 1 rg0 (by omega) (by have:=CNT.out;omega)).mono ?_
    rintro e w26 ⟨rfl,hb26⟩
    clear BG_0 BG_1;have hs26:w25.heap.size≤w26.heap.size:=hb26.size;have hB26:Below w.heap.size w w26:=hB25.trans (hb26.mono hB25.size);replace BA:=Box.below BA hb26 (by omega);replace a0:=a0.below hb26 (by omega);replace a1:=a1.below hb26 (by omega);replace a2:=a2.below hb26 (by omega);replace rw0_:=rw0_.below hb26 (by omega);replace BW:=Box.below BW hb26 (by omega);replace BG:=Box.below BG hb26 (by omega);replace rg0:=rg0.below hb26 (by omega);have BA_0:=BA.cell 0 _ rfl;have BA_1:=BA.cell 1 _ rfl;go_wp2_with fail
    with_reducible refine (toOffice_c a0 (by have:=N0.out;have:=N1.out;have:=N2.out;have:=C0.out;have:=C1.out;have:=C2.out;omega)).mono ?_
    rintro e w27 ⟨uh0,vh0,rfl,oh0,hb27⟩
    clear BA_0 BA_1;have hs27:w26.heap.size≤w27.heap.size:=hb27.size;have hB27:Below w.heap.size w w27:=hB26.trans (hb27.mono hB26.size);replace BA:=Box.below BA hb27 (by omega);replace a0:=a0.below hb27 (by omega);replace a1:=a1.below hb27 (by omega);replace a2:=a2.below hb27 (by omega);replace rw0_:=rw0_.below hb27 (by omega);replace BW:=Box.below BW hb27 (by omega);replace BG:=Box.below BG hb27 (by omega);replace rg0:=rg0.below hb27 (by omega);have rh0:=OwnO.rds oh0;obtain ⟨uh0o,uh0c,rfl⟩:=RdL.shape rh0.1;obtain ⟨vh0o,vh0c,rfl⟩:=RdL.shape rh0.2;clear oh0;go_wp2_with fail
    with_reducible refine (toStepS_c a1 (by have:=N0.out;have:=N1.out;have:=N2.out;have:=C0.out;have:=C1.out;have:=C2.out;omega)).mono ?_
    rintro e w28 ⟨xh1,rfl,oh1,hb28⟩
    have hs28:w27.heap.size≤w28.heap.size:=hb28.size;have hB28:Below w.heap.size w w28:=hB27.trans (hb28.mono hB27.size);replace BA:=Box.below BA hb28 (by omega);replace a0:=a0.below hb28 (by omega);replace a1:=a1.below hb28 (by omega);replace a2:=a2.below hb28 (by omega);replace rw0_:=rw0_.below hb28 (by omega);replace BW:=Box.below BW hb28 (by omega);replace BG:=Box.below BG hb28 (by omega);replace rg0:=rg0.below hb28 (by omega);replace rh0:=rh0.below hb28 (by omega);have rh1:=Own.rds oh1;clear oh1;go_wp2_with fail
    with_reducible refine (toStepS_c a2 (by have:=N0.out;have:=N1.out;have:=N2.out;have:=C0.out;have:=C1.out;have:=C2.out;omega)).mono ?_
    rintro e w29 ⟨xh2,rfl,oh2,hb29⟩
    have hs29:w28.heap.size≤w29.heap.size:=hb29.size;have hB29:Below w.heap.size w w29:=hB28.trans (hb29.mono hB28.size);replace BA:=Box.below BA hb29 (by omega);replace a0:=a0.below hb29 (by omega);replace a1:=a1.below hb29 (by omega);replace a2:=a2.below hb29 (by omega);replace rw0_:=rw0_.below hb29 (by omega);replace BW:=Box.below BW hb29 (by omega);replace BG:=Box.below BG hb29 (by omega);replace rg0:=rg0.below hb29 (by omega);replace rh0:=rh0.below hb29 (by omega);replace rh1:=rh1.below hb29 (by omega);have rh2:=Own.rds oh2;clear oh2;go_wp2_with fail
    with_reducible refine (HI.out _ _ _ _ _ _ _ _ rh0 rh1 rh2).mono ?_
    intro e w30 hpost;obtain ⟨⟨ahh,chh,bhh,dhh,rfl,ohh⟩,hb30⟩:=hpost.sh;clear hpost;obtain ⟨thh_1,hthh_1⟩:∃ m,m=O9.trays.length:=⟨_,rfl⟩;obtain ⟨thh_2,hthh_2⟩:∃ m,m=O9.totals.length:=⟨_,rfl⟩;rw [← hthh_1,← hthh_2] at ohh ⊢;clear hthh_1 hthh_2;have hs30:w29.heap.size≤w30.heap.size:=hb30.size;have hB30:Below w.heap.size w w30:=hB29.trans (hb30.mono hB29.size);replace BA:=Box.below BA hb30 (by omega);replace a0:=a0.below hb30 (by omega);replace a1:=a1.below hb30 (by omega);replace a2:=a2.below hb30 (by omega);replace rw0_:=rw0_.below hb30 (by omega);replace BW:=Box.below BW hb30 (by omega);replace BG:=Box.below BG hb30 (by omega);replace rg0:=rg0.below hb30 (by omega);replace rh0:=rh0.below hb30 (by omega);replace rh1:=rh1.below hb30 (by omega);replace rh2:=rh2.below hb30 (by omega);have tghh:OwnIv w29.heap.size w30.heap.size w30 (.slice ahh thh_1 chh) (.slice bhh thh_2 dhh) O9:=ohh;have rhh:=OwnO.rds ohh;clear ohh;clear tghh;clear rh0;clear rh1;clear rh2;obtain ⟨w31,hW31⟩:∃ wy:World,wy=w30.alloc (.cells #[(.slice ahh thh_1 chh),(.slice bhh thh_2 dhh)] 35):=⟨_,rfl⟩;have hb31:Below w30.heap.size w30 w31:=by rw [hW31];exact (Below.refl _ _).alloc (Nat.le_refl _) _
    have BH:Box w31 w30.heap.size [(.slice ahh thh_1 chh),(.slice bhh thh_2 dhh)]:=by rw [hW31];exact Box.new w30 [(.slice ahh thh_1 chh),(.slice bhh thh_2 dhh)] 35
    have hlBH:w30.heap.size<w31.heap.size:=BH.lt;have hs31:w30.heap.size≤w31.heap.size:=hb31.size;have hB31:Below w.heap.size w w31:=hB30.trans (hb31.mono hB30.size);replace BA:=Box.below BA hb31 (by omega);replace a0:=a0.below hb31 (by omega);replace a1:=a1.below hb31 (by omega);replace a2:=a2.below hb31 (by omega);replace rw0_:=rw0_.below hb31 (by omega);replace BW:=Box.below BW hb31 (by omega);replace BG:=Box.below BG hb31 (by omega);replace rg0:=rg0.below hb31 (by omega);replace rhh:=rhh.below hb31 (by omega);have HW31:=hid hW31;clear hW31;go_upto_region 39 with fail
    rw [← HW31.out];have BH_0:=BH.cell 0 _ rfl;have BH_1:=BH.cell 1 _ rfl;have BW_0:=BW.cell 0 _ rfl;have BW_1:=BW.cell 1 _ rfl;go_wp2_with fail
    with_reducible refine (eqOffice_c rhh rw0_).mono ?_
    rintro e w32 ⟨rfl,hb32⟩
    clear BH_0 BH_1;clear BW_0 BW_1;have hs32:w31.heap.size≤w32.heap.size:=hb32.size;have hB32:Below w.heap.size w w32:=hB31.trans (hb32.mono hB31.size);replace BA:=Box.below BA hb32 (by omega);replace a0:=a0.below hb32 (by omega);replace a1:=a1.below hb32 (by omega);replace a2:=a2.below hb32 (by omega);replace rw0_:=rw0_.below hb32 (by omega);replace BW:=Box.below BW hb32 (by omega);replace BG:=Box.below BG hb32 (by omega);replace rg0:=rg0.below hb32 (by omega);replace rhh:=rhh.below hb32 (by omega);replace BH:=Box.below BH hb32 (by omega);have BG_0:=BG.cell 0 _ rfl;have BG_1:=BG.cell 1 _ rfl;go_wp2_with fail
    with_reducible refine (heldOffice_c 1 rg0 (by omega) (by have:=CNT.out;omega)).mono ?_
    rintro e w33 ⟨rfl,hb33⟩
    clear BG_0 BG_1;have hs33:w32.heap.size≤w33.heap.size:=hb33.size;have hB33:Below w.heap.size w w33:=hB32.trans (hb33.mono hB32.size);replace BA:=Box.below BA hb33 (by omega);replace a0:=a0.below hb33 (by omega);replace a1:=a1.below hb33 (by omega);replace a2:=a2.below hb33 (by omega);replace rw0_:=rw0_.below hb33 (by omega);replace BW:=Box.below BW hb33 (by omega);replace BG:=Box.below BG hb33 (by omega);replace rg0:=rg0.below hb33 (by omega);replace rhh:=rhh.below hb33 (by omega);replace BH:=Box.below BH hb33 (by omega);go_wp2
    go_ret
    exact ⟨rfl,hB33⟩
namespace fnExactRestartAt
theorem own:ownKnob Tryz.prog.godebug=none:=by kernel_rfl
set_option maxRecDepth 100000 in
theorem lifted (os:Os) (started:os.Started) (H:Type) (enc:TypeId × Value→H) :
 ReturnsInHanded {} Tryz.checked os 5 .any (Rows.fnExactRestartAtSpec.pre6 enc Tryz.prog Tryz.f5 Rows.fnExactRestartAtRow.domain false) (Rows.fnExactRestartAtSpec.post enc Tryz.prog Tryz.f5 false true false false):=by
 refine returnsInHanded_of_change_sized (C:=Tryz.checked) own started (by kernel_rfl) Tryz.func5
  (ChangeSpec.witness6 (enc:=enc) (C:=Tryz.checked) false ⟨#[],#[.agg #[.slice none 0 0,.slice none 0 0],.slice none 0 0,.slice none 0 0],[]⟩ 8 (by kernel_rfl) (by kernel_rfl) (by kernel_rfl) (by kernel_rfl)) ?_
 intro W base args ds gs before hval0 hW hcnd hsz _;have hval:∀ (j:Nat) t v,Tryz.f5.params[j]?=some t→args[j]?=some v→Value.okWide Tryz.prog W .any base t v:=hval0;have hW':=hW;obtain ⟨p,q,hA0,hV,rfl,hfz,hnd⟩:=hW;have hA:DataW.TrodAll enc Tryz.prog W 0 (fun _=>true) true Tryz.f5.params.toList args.toList ds p:=hA0;rw [Tryz.params5] at hA hval;obtain ⟨v0,vs0,d0,ds0,p0,s0,hargs,rfl,rfl,h0,q0⟩:=trodAll_cons hA;obtain ⟨v1,vs1,d1,ds1,p1,s1,rfl,rfl,rfl,h1,q1⟩:=trodAll_cons q0;obtain ⟨v2,vs2,d2,ds2,p2,s2,rfl,rfl,rfl,h2,q2⟩:=trodAll_cons q1;obtain ⟨rfl,rfl,rfl⟩:=trodAll_nil q2;obtain rfl:args=#[v0,v1,v2]:=by cases args;simp_all
 obtain ⟨ou0,ov0,x0,rfl,r0⟩:=openOffice (hval 0 25 v0 rfl rfl) h0;obtain ⟨x1,r1⟩:=openStepS (hval 1 26 v1 rfl rfl) h1;obtain ⟨x2,r2⟩:=openStepS (hval 2 26 v2 rfl rfl) h2;exact (walk_FnExactRestartAt W r0 r1 r2).mono fun e W' hh=>⟨_,hh.1,law_post (f:=Tryz.f5) (s:=Rows.fnExactRestartAtSpec) (T:=4) (by kernel_rfl) (of_decide_eq_true (by kernel_rfl)) rfl rfl Tryz.underlying4 rfl hW' hh.2⟩
theorem proved:Rows.FnExactRestartAtSaid :=
 OpenClaim.holds_of_wide 5 Tryz.f5 rfl rfl rfl rfl rfl rfl rfl ⟨rfl,rfl,rfl,rfl,rfl⟩ rfl rfl rfl rfl rfl (by kernel_rfl) Tryz.func5 (by kernel_rfl)
  (of_decide_eq_true (by kernel_rfl)) (by unfold Func.isWrapper;first | (rw [if_pos (by decide +kernel)];kernel_rfl) | (rw [if_neg (by decide +kernel)];exact ⟨rfl,rfl⟩))
  (fun os started H enc _=>lifted os started H enc)
end fnExactRestartAt
#print axioms fnExactRestartAt.proved
end Go.Proofs.YthdaghfhlfjclaaGreat
