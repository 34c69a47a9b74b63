/- Lemmas on the way to the law that OfficeAt returns what the reference's returns. No condition. -/
import Derived.Test.YthdaghfhlfjclaaGreatMO10
import Derived.Test.YthdaghfhlfjclaaGreatMO19
import Derived.Lib.QuietBelow
import Derived.Test.YthdaghfhlfjclaaGreatMO5
namespace Go.Proofs.YthdaghfhlfjclaaGreat
set_option linter.unusedSimpArgs false
open Lib (hid)
open Go.ChangeShapes Go.WideShapes Go.ChangeAt Go.RowKit
set_option linter.unusedVariables false
set_option maxRecDepth 100000
abbrev trayP (n:Int):Prop:=0≤n∧n≤5
abbrev twoP (n:Int):Prop:=2≤n∧n≤4
structure StOk (x:StepT) (w:Int):Prop where
 kd:1≤x.kd∧x.kd≤7
 ta:trayP x.ta
 tb:trayP x.tb
 tc:trayP x.tc
 b0:x.tb=0∨twoP x.kd
 c0:x.tc=0∨¬ x.kd=7
 ff:fieldP x.ff x.ft w
 sum:x.kd=7→fieldP x.sf x.st w∧x.st - x.sf≤12
 nosum:¬ x.kd=7→x.sf=0∧x.st=0
 tx:x.kd=5→chS x.tx=true∧(x.tx.size:Int)=x.ft - x.ff
 notx:¬ x.kd=5→x.tx.size=0
instance (x:StepT) (w:Int):Decidable (StOk x w) :=
 decidable_of_iff ((1≤x.kd∧x.kd≤7)∧trayP x.ta∧trayP x.tb∧trayP x.tc∧(x.tb=0∨twoP x.kd)∧(x.tc=0∨¬ x.kd=7)∧fieldP x.ff x.ft w∧(x.kd=7→fieldP x.sf x.st w∧x.st - x.sf≤12)∧(¬ x.kd=7→x.sf=0∧x.st=0)∧(x.kd=5→chS x.tx=true∧(x.tx.size:Int)=x.ft - x.ff)∧(¬ x.kd=5→x.tx.size=0))
  ⟨fun ⟨a,b,c,d,e,f,g,h,i,j,k⟩=>⟨a,b,c,d,e,f,g,h,i,j,k⟩,fun ⟨a,b,c,d,e,f,g,h,i,j,k⟩=>⟨a,b,c,d,e,f,g,h,i,j,k⟩⟩
def stB (x:StepT) (w:Int):Bool:=decide (StOk x w)
theorem stB_no {x:StepT} {w:Int} (h:StOk x w→False):stB x w=false:=decide_eq_false h
theorem stB_yes {x:StepT} {w:Int} (h:StOk x w):stB x w=true:=decide_eq_true h
theorem isTray_yes (n:Int) (w:World) (h:trayP n):Calls Tryz.prog 133 #[.int .i64 n] w fun e w'=>e=.returned (.bool true)∧w=w':=by
 go_enter Tryz.func133,Tryz.ntmps133
 go_wp2_with (go_at_call 49;refine (inside_yes _ _ _ _ h.1 h.2).mono ?_;rintro e w' ⟨rfl,rfl⟩)
 go_ret
 exact ⟨rfl,rfl⟩
theorem isTray_no (n:Int) (w:World) (h:¬ trayP n):Calls Tryz.prog 133 #[.int .i64 n] w fun e w'=>e=.returned (.bool false)∧w=w':=by
 have h2:n<0∨5<n:=by unfold trayP at h;omega
 have H:=hid h2;clear h h2;go_enter Tryz.func133,Tryz.ntmps133
 go_wp2_with (go_at_call 49;refine (inside_no _ _ _ _ H.out).mono ?_;rintro e w' ⟨rfl,rfl⟩)
 go_ret
 exact ⟨rfl,rfl⟩
theorem takesTwo_yes (n:Int) (w:World) (h:twoP n):Calls Tryz.prog 52 #[.int .i64 n] w fun e w'=>e=.returned (.bool true)∧w=w':=by
 go_enter Tryz.func52,Tryz.ntmps52
 go_wp2_with (go_at_call 49;refine (inside_yes _ _ _ _ h.1 h.2).mono ?_;rintro e w' ⟨rfl,rfl⟩)
 go_ret
 exact ⟨rfl,rfl⟩
theorem takesTwo_no (n:Int) (w:World) (h:¬ twoP n):Calls Tryz.prog 52 #[.int .i64 n] w fun e w'=>e=.returned (.bool false)∧w=w':=by
 have h2:n<2∨4<n:=by unfold twoP at h;omega
 have H:=hid h2;clear h h2;go_enter Tryz.func52,Tryz.ntmps52
 go_wp2_with (go_at_call 49;refine (inside_no _ _ _ _ H.out).mono ?_;rintro e w' ⟨rfl,rfl⟩)
 go_ret
 exact ⟨rfl,rfl⟩
theorem l15Tray_yes (n:Int) (w:World) (h:trayP n):Calls Tryz.prog 81 #[.int .i64 n] w fun e w'=>e=.returned (.bool true)∧w=w':=by
 go_enter Tryz.func81,Tryz.ntmps81
 go_wp2_with (go_at_call 39;refine (l00In_yes _ _ _ _ h.1 h.2).mono ?_;rintro e w' ⟨rfl,rfl⟩)
 go_ret
 exact ⟨rfl,rfl⟩
theorem l15Tray_no (n:Int) (w:World) (h:¬ trayP n):Calls Tryz.prog 81 #[.int .i64 n] w fun e w'=>e=.returned (.bool false)∧w=w':=by
 have h2:n<0∨5<n:=by unfold trayP at h;omega
 have H:=hid h2;clear h h2;go_enter Tryz.func81,Tryz.ntmps81
 go_wp2_with (go_at_call 39;refine (l00In_no _ _ _ _ H.out).mono ?_;rintro e w' ⟨rfl,rfl⟩)
 go_ret
 exact ⟨rfl,rfl⟩
theorem l15Both_yes (n:Int) (w:World) (h:twoP n):Calls Tryz.prog 43 #[.int .i64 n] w fun e w'=>e=.returned (.bool true)∧w=w':=by
 go_enter Tryz.func43,Tryz.ntmps43
 go_wp2_with (go_at_call 39;refine (l00In_yes _ _ _ _ h.1 h.2).mono ?_;rintro e w' ⟨rfl,rfl⟩)
 go_ret
 exact ⟨rfl,rfl⟩
theorem l15Both_no (n:Int) (w:World) (h:¬ twoP n):Calls Tryz.prog 43 #[.int .i64 n] w fun e w'=>e=.returned (.bool false)∧w=w':=by
 have h2:n<2∨4<n:=by unfold twoP at h;omega
 have H:=hid h2;clear h h2;go_enter Tryz.func43,Tryz.ntmps43
 go_wp2_with (go_at_call 39;refine (l00In_no _ _ _ _ H.out).mono ?_;rintro e w' ⟨rfl,rfl⟩)
 go_ret
 exact ⟨rfl,rfl⟩
theorem isNumberField_c (f t c:Int) (w:World) (hc:0≤c∧c≤1000):Calls Tryz.prog 135 #[.agg #[.int .i64 f,.int .i64 t],.int .i64 c] w fun e w'=>e=.returned (.bool (decide (fieldP f t c∧t - f≤12)))∧Below w.heap.size w w':=by
 obtain ⟨p,hp⟩:∃ p,p=decide (fieldP f t c∧t - f≤12):=⟨_,rfl⟩;rw [← hp];have Hp:=hid hp;have Hc:=hid hc;clear hp;go_enter Tryz.func135,Tryz.ntmps135
 go_wp2_with fail
 with_reducible refine (isField_c f t c _ Hc.out).mono ?_
 by_cases h1:fieldP f t c
 · have H1:=hid h1
   have hb1:0≤f∧f<t∧t≤1000:=by unfold fieldP at h1;omega
   have hb2:=hb1.1;have hb3:=hb1.2.1;have hb4:=hb1.2.2;rw [decide_eq_true h1];clear h1 hb1;rintro e w1 ⟨rfl,hb⟩
   have hb9:=((Below.refl w.heap.size w).alloc (Nat.le_refl _) _).trans (hb.mono (by simp));have Hb:=hid hb9;have hz:w.heap.size<w1.heap.size:=by have:=hb.size;simp at this;omega
   obtain ⟨hcc,hcf⟩:=bcell hb;clear hb hb9;by_cases h2:t - f≤12
   · go_wp2
     go_ret
     exact ⟨ret_bool (by rw [Hp.out];exact (decide_eq_true ⟨H1.out,h2⟩).symm),Hb.out⟩
   · go_wp2
     go_ret
     exact ⟨ret_bool (by rw [Hp.out];exact decide_eq_decide.2 ⟨fun q=>⟨H1.out,q⟩,fun q=>q.2⟩),Hb.out⟩
 · have H1:=hid h1
   rw [decide_eq_false h1];clear h1;rintro e w1 ⟨rfl,hb⟩
   have hb9:=((Below.refl w.heap.size w).alloc (Nat.le_refl _) _).trans (hb.mono (by simp));have Hb:=hid hb9;clear hb hb9;go_wp2
   go_ret
   exact ⟨ret_bool (by rw [Hp.out];exact (decide_eq_false fun h=>H1.out h.1).symm),Hb.out⟩
set_option maxHeartbeats 1000000 in
theorem ValidStep_c (x:StepT) (c9:Int) (w:World) (a:okStep x) (hc:1≤c9∧c9≤20) :
 Calls Tryz.prog 92 #[vStep x,.int .i64 c9] w fun e w'=>e=.returned (.bool (stB x c9))∧Below w.heap.size w w':=by
 have Hc:=hid hc;have Ha:=hid a;have hW:Box (w.alloc (.cells #[.int .i64 x.kd,.int .i64 x.ta,.int .i64 x.tb,.int .i64 x.tc,.int .i64 x.ff,.int .i64 x.ft,.int .i64 x.sf,.int .i64 x.st,.string x.tx] 75)) w.heap.size [.int .i64 x.kd,.int .i64 x.ta,.int .i64 x.tb,.int .i64 x.tc,.int .i64 x.ff,.int .i64 x.ft,.int .i64 x.sf,.int .i64 x.st,.string x.tx]:=Box.new w _ _;have hbW:Below w.heap.size w (w.alloc (.cells #[.int .i64 x.kd,.int .i64 x.ta,.int .i64 x.tb,.int .i64 x.tc,.int .i64 x.ff,.int .i64 x.ft,.int .i64 x.sf,.int .i64 x.st,.string x.tx] 75)):=(Below.refl _ _).alloc (Nat.le_refl _) _;have HW:=hid hW;have HbW:=hid hbW;clear a hc hW hbW;go_enter Tryz.func92,Tryz.ntmps92
 go_wp2_with fail
 with_reducible refine (inside_yes _ _ _ _ Hc.out.1 Hc.out.2).mono ?_
 rintro e w1 ⟨rfl,rfl⟩
 by_cases k_kd:1≤x.kd∧x.kd≤7
 case neg =>
  have K:=hid k_kd;have k2:x.kd<1∨7<x.kd:=by omega
  have K2:=hid k2;clear k2;clear k_kd;go_wp2_with fail
  with_reducible refine (inside_no _ _ _ _ K2.out).mono ?_
  rintro e w1 ⟨rfl,rfl⟩
  go_wp2
  go_ret
  exact ⟨ret_bool (stB_no fun h=>K.out h.kd).symm,HbW.out⟩
 have K_kd:=hid k_kd;clear k_kd;go_wp2_with fail
 with_reducible refine (inside_yes _ _ _ _ K_kd.out.1 K_kd.out.2).mono ?_
 rintro e w1 ⟨rfl,rfl⟩
 by_cases k_ta:trayP x.ta
 case neg =>
  have K:=hid k_ta;clear k_ta;go_wp2_with fail
  with_reducible refine (isTray_no _ _ K.out).mono ?_
  rintro e w1 ⟨rfl,rfl⟩
  go_wp2
  go_ret
  exact ⟨ret_bool (stB_no fun h=>K.out h.ta).symm,HbW.out⟩
 have K_ta:=hid k_ta;clear k_ta;go_wp2_with fail
 with_reducible refine (isTray_yes _ _ K_ta.out).mono ?_
 rintro e w1 ⟨rfl,rfl⟩
 by_cases k_tb:trayP x.tb
 case neg =>
  have K:=hid k_tb;clear k_tb;go_wp2_with fail
  with_reducible refine (isTray_no _ _ K.out).mono ?_
  rintro e w1 ⟨rfl,rfl⟩
  go_wp2
  go_ret
  exact ⟨ret_bool (stB_no fun h=>K.out h.tb).symm,HbW.out⟩
 have K_tb:=hid k_tb;clear k_tb;go_wp2_with fail
 with_reducible refine (isTray_yes _ _ K_tb.out).mono ?_
 rintro e w1 ⟨rfl,rfl⟩
 by_cases k_tc:trayP x.tc
 case neg =>
  have K:=hid k_tc;clear k_tc;go_wp2_with fail
  with_reducible refine (isTray_no _ _ K.out).mono ?_
  rintro e w1 ⟨rfl,rfl⟩
  go_wp2
  go_ret
  exact ⟨ret_bool (stB_no fun h=>K.out h.tc).symm,HbW.out⟩
 have K_tc:=hid k_tc;clear k_tc;go_wp2_with fail
 with_reducible refine (isTray_yes _ _ K_tc.out).mono ?_
 rintro e w1 ⟨rfl,rfl⟩
 go_upto_region 3 with fail
 generalize w.alloc (.cells #[.int .i64 x.kd,.int .i64 x.ta,.int .i64 x.tb,.int .i64 x.tc,.int .i64 x.ff,.int .i64 x.ft,.int .i64 x.sf,.int .i64 x.st,.string x.tx] 75)=W at HW HbW ⊢;have c0:=HW.out.cell 0 _ rfl;have c2:=HW.out.cell 2 _ rfl;have c3:=HW.out.cell 3 _ rfl;have c4:=HW.out.cell 4 _ rfl;have c5:=HW.out.cell 5 _ rfl;go_cut [33] (fun c wx=>∃ q:Bool,c=.bool q∧Hid (q=false→(x.tb=0∨twoP x.kd)∧(x.tc=0∨¬ x.kd=7)∧fieldP x.ff x.ft c9)∧Hid (q=true→stB x c9=false)∧Below W.heap.size W wx)
 case first =>
  by_cases k2:x.tb=0
  · have q2:(x.tb != 0)=false:=by simpa using k2
    have K2:=hid k2;clear k2;by_cases k3:x.tc=0
    · have q3:(x.tc != 0)=false:=by simpa using k3
      have K3:=hid k3;clear k3;go_wp2_with fail
      with_reducible refine (isField_c x.ff x.ft c9 _ (by have:=Hc.out;omega)).mono ?_
      by_cases kf:fieldP x.ff x.ft c9
      · have Kf:=hid kf
        rw [decide_eq_true kf];clear kf;rintro e w1 ⟨rfl,hb⟩
        clear c0 c2 c3 c4 c5;go_wp2_with fail
        go_meet
        exact ⟨false,rfl,fun _=>⟨.inl K2.out,.inl K3.out,Kf.out⟩,fun h=>(by cases h),hb⟩
      · have Kf:=hid kf
        rw [decide_eq_false kf];clear kf;rintro e w1 ⟨rfl,hb⟩
        clear c0 c2 c3 c4 c5;go_wp2_with fail
        go_meet
        exact ⟨true,rfl,fun h=>(by cases h),fun _=>stB_no fun h=>Kf.out h.ff,hb⟩
    · have q3:(x.tc != 0)=true:=by simpa using k3
      have K3:=hid k3;clear k3;by_cases k7:x.kd=7
      · have q7:(x.kd == 7)=true:=by simpa using k7
        have K7:=hid k7;clear k7;go_wp2_with fail
        go_meet
        exact ⟨true,rfl,fun h=>(by cases h),fun _=>stB_no fun h=>h.c0.elim (fun e=>K3.out e) (fun e=>e K7.out),Below.refl _ _⟩
      · have q7:(x.kd == 7)=false:=by simpa using k7
        have K7:=hid k7;clear k7;go_wp2_with fail
        with_reducible refine (isField_c x.ff x.ft c9 _ (by have:=Hc.out;omega)).mono ?_
        by_cases kf:fieldP x.ff x.ft c9
        · have Kf:=hid kf
          rw [decide_eq_true kf];clear kf;rintro e w1 ⟨rfl,hb⟩
          clear c0 c2 c3 c4 c5;go_wp2_with fail
          go_meet
          exact ⟨false,rfl,fun _=>⟨.inl K2.out,.inr K7.out,Kf.out⟩,fun h=>(by cases h),hb⟩
        · have Kf:=hid kf
          rw [decide_eq_false kf];clear kf;rintro e w1 ⟨rfl,hb⟩
          clear c0 c2 c3 c4 c5;go_wp2_with fail
          go_meet
          exact ⟨true,rfl,fun h=>(by cases h),fun _=>stB_no fun h=>Kf.out h.ff,hb⟩
  · have q2:(x.tb != 0)=true:=by simpa using k2
    have K0:=hid k2;clear k2;by_cases k2:twoP x.kd
    · have K2:=hid k2
      clear k2;go_wp2_with fail
      with_reducible refine (takesTwo_yes _ _ K2.out).mono ?_
      rintro e w1 ⟨rfl,rfl⟩
      by_cases k3:x.tc=0
      · have q3:(x.tc != 0)=false:=by simpa using k3
        have K3:=hid k3;clear k3;go_wp2_with fail
        with_reducible refine (isField_c x.ff x.ft c9 _ (by have:=Hc.out;omega)).mono ?_
        by_cases kf:fieldP x.ff x.ft c9
        · have Kf:=hid kf
          rw [decide_eq_true kf];clear kf;rintro e w1 ⟨rfl,hb⟩
          clear c0 c2 c3 c4 c5;go_wp2_with fail
          go_meet
          exact ⟨false,rfl,fun _=>⟨.inr K2.out,.inl K3.out,Kf.out⟩,fun h=>(by cases h),hb⟩
        · have Kf:=hid kf
          rw [decide_eq_false kf];clear kf;rintro e w1 ⟨rfl,hb⟩
          clear c0 c2 c3 c4 c5;go_wp2_with fail
          go_meet
          exact ⟨true,rfl,fun h=>(by cases h),fun _=>stB_no fun h=>Kf.out h.ff,hb⟩
      · have q3:(x.tc != 0)=true:=by simpa using k3
        have K3:=hid k3;clear k3;have k7:¬ x.kd=7:=by have:=K2.out;unfold twoP at this;omega
        have q7:(x.kd == 7)=false:=by simpa using k7
        have K7:=hid k7;clear k7;go_wp2_with fail
        with_reducible refine (isField_c x.ff x.ft c9 _ (by have:=Hc.out;omega)).mono ?_
        by_cases kf:fieldP x.ff x.ft c9
        · have Kf:=hid kf
          rw [decide_eq_true kf];clear kf;rintro e w1 ⟨rfl,hb⟩
          clear c0 c2 c3 c4 c5;go_wp2_with fail
          go_meet
          exact ⟨false,rfl,fun _=>⟨.inr K2.out,.inr K7.out,Kf.out⟩,fun h=>(by cases h),hb⟩
        · have Kf:=hid kf
          rw [decide_eq_false kf];clear kf;rintro e w1 ⟨rfl,hb⟩
          clear c0 c2 c3 c4 c5;go_wp2_with fail
          go_meet
          exact ⟨true,rfl,fun h=>(by cases h),fun _=>stB_no fun h=>Kf.out h.ff,hb⟩
    · have K2:=hid k2
      clear k2;go_wp2_with fail
      with_reducible refine (takesTwo_no _ _ K2.out).mono ?_
      rintro e w1 ⟨rfl,rfl⟩
      go_wp2_with fail
      go_meet
      exact ⟨true,rfl,fun h=>(by cases h),fun _=>stB_no fun h=>h.b0.elim (fun e=>K0.out e) (fun e=>K2.out e),Below.refl _ _⟩
 case rest =>
  obtain ⟨q,rfl,HP,HN,hbx⟩:=hcut;have HX:=hid (HW.out.on hbx);have HbX:=hid (HbW.out.trans (hbx.mono (by have:=HW.out.lt;omega)));clear c0 c2 c3 c4 c5 hbx HbW HW;have c0:=HX.out.cell 0 _ rfl;have c4:=HX.out.cell 4 _ rfl;have c5:=HX.out.cell 5 _ rfl;have c6:=HX.out.cell 6 _ rfl;have c7:=HX.out.cell 7 _ rfl;have c8:=HX.out.cell 8 _ rfl;cases q with
  | true =>
   have HN1:=hid (HN.out rfl);clear HN HP;go_wp2
   go_ret
   exact ⟨ret_bool HN1.out.symm,HbX.out⟩
  | false =>
   obtain ⟨f1,f2,f3⟩:=HP.out rfl;have F1:=hid f1;have F2:=hid f2;have F3:=hid f3;have f4:0≤x.ff∧x.ff<x.ft∧x.ft≤20:=by have:=Hc.out;unfold fieldP at f3;omega
   obtain ⟨f5,f6,f7⟩:=f4;clear f1 f2 f3 HP HN;have hsz:=Ha.out.2.2.2.2.2.2.2.2;by_cases k7:x.kd=7
   · have q7:(x.kd == 7)=true:=by simpa using k7
     have q7n:(x.kd != 7)=false:=by simpa using k7
     have q5:(x.kd == 5)=false:=by simpa using (show ¬ x.kd=5 by omega)
     have K7:=hid k7;have K5:Hid (¬ x.kd=5):=hid (by omega);clear k7;go_wp2_with fail
     with_reducible refine (isNumberField_c x.sf x.st c9 _ (by have:=Hc.out;omega)).mono ?_
     by_cases ks:fieldP x.sf x.st c9∧x.st - x.sf≤12
     · have Ks:=hid ks
       rw [decide_eq_true ks];clear ks;rintro e w1 ⟨rfl,hb⟩
       have HY:=hid (HX.out.on hb);have HbY:=hid (HbX.out.trans (hb.mono HbX.out.size));clear hb HX HbX c0 c4 c5 c6 c7 c8;have c0:=HY.out.cell 0 _ rfl;have c8:=HY.out.cell 8 _ rfl;by_cases k8:x.tx.size=0
       · have q8:=txt_empty k8
         have K8:=hid k8;clear k8;go_wp2
         go_ret
         exact ⟨ret_bool (stB_yes ⟨K_kd.out,K_ta.out,K_tb.out,K_tc.out,F1.out,F2.out,F3.out,fun _=>Ks.out,fun e=>absurd K7.out e,fun e=>absurd e K5.out,fun _=>K8.out⟩).symm,HbY.out⟩
       · have q8:=txt_full k8
         have K8:=hid k8;clear k8;go_wp2
         go_ret
         exact ⟨ret_bool (stB_no fun h=>K8.out (h.notx K5.out)).symm,HbY.out⟩
     · have Ks:=hid ks
       rw [decide_eq_false ks];clear ks;rintro e w1 ⟨rfl,hb⟩
       have HbY:=hid (HbX.out.trans (hb.mono HbX.out.size));clear hb HX HbX c0 c4 c5 c6 c7 c8;go_wp2
       go_ret
       exact ⟨ret_bool (stB_no fun h=>Ks.out (h.sum K7.out)).symm,HbY.out⟩
   · have q7:(x.kd == 7)=false:=by simpa using k7
     have q7n:(x.kd != 7)=true:=by simpa using k7
     have K7:=hid k7;clear k7;by_cases s1:x.sf=0
     case neg =>
      have r1:(x.sf == 0)=false:=by simpa using s1
      have S1:=hid s1;clear s1;go_wp2
      go_ret
      exact ⟨ret_bool (stB_no fun h=>S1.out (h.nosum K7.out).1).symm,HbX.out⟩
     by_cases s2:x.st=0
     case neg =>
      have r1:(x.sf == 0)=true:=by simpa using s1
      have r2:(x.st == 0)=false:=by simpa using s2
      have S2:=hid s2;clear s1 s2;go_wp2
      go_ret
      exact ⟨ret_bool (stB_no fun h=>S2.out (h.nosum K7.out).2).symm,HbX.out⟩
     have r1:(x.sf == 0)=true:=by simpa using s1
     have r2:(x.st == 0)=true:=by simpa using s2
     have S1:=hid s1;have S2:=hid s2;clear s1 s2;by_cases k5:x.kd=5
     · have q5:(x.kd == 5)=true:=by simpa using k5
       have K5:=hid k5;clear k5;go_wp2_with fail
       with_reducible refine (areCharacters_c x.tx _ hsz).mono ?_
       cases kc:chS x.tx with
       | false =>
        have Kc:=hid kc;clear kc;rintro e w1 ⟨rfl,rfl⟩
        go_wp2
        go_ret
        exact ⟨ret_bool (stB_no fun h=>by have h9:=(h.tx K5.out).1;rw [Kc.out] at h9;cases h9).symm,HbX.out⟩
       | true =>
        have Kc:=hid kc;clear kc;rintro e w1 ⟨rfl,rfl⟩
        by_cases ke:(x.tx.size:Int)=x.ft - x.ff
        · have qe:((x.tx.size:Int) == x.ft - x.ff)=true:=by simpa using ke
          have Ke:=hid ke;clear ke;go_wp2
          go_ret
          exact ⟨ret_bool (stB_yes ⟨K_kd.out,K_ta.out,K_tb.out,K_tc.out,F1.out,F2.out,F3.out,fun e=>absurd e K7.out,fun _=>⟨S1.out,S2.out⟩,fun _=>⟨Kc.out,Ke.out⟩,fun e=>absurd K5.out e⟩).symm,HbX.out⟩
        · have qe:((x.tx.size:Int) == x.ft - x.ff)=false:=by simpa using ke
          have Ke:=hid ke;clear ke;go_wp2
          go_ret
          exact ⟨ret_bool (stB_no fun h=>Ke.out (h.tx K5.out).2).symm,HbX.out⟩
     · have q5:(x.kd == 5)=false:=by simpa using k5
       have K5:=hid k5;clear k5;by_cases k8:x.tx.size=0
       · have q8:=txt_empty k8
         have K8:=hid k8;clear k8;go_wp2
         go_ret
         exact ⟨ret_bool (stB_yes ⟨K_kd.out,K_ta.out,K_tb.out,K_tc.out,F1.out,F2.out,F3.out,fun e=>absurd e K7.out,fun _=>⟨S1.out,S2.out⟩,fun e=>absurd e K5.out,fun _=>K8.out⟩).symm,HbX.out⟩
       · have q8:=txt_full k8
         have K8:=hid k8;clear k8;go_wp2
         go_ret
         exact ⟨ret_bool (stB_no fun h=>K8.out (h.notx K5.out)).symm,HbX.out⟩
abbrev C9 (c:Int):Prop:=1≤c∧c≤20
open Go.Sort
structure StAt (w:World) (b off:Nat) (x:StepT):Prop where
 lt:b<w.heap.size
 c0:w.cell? ⟨b,off,none⟩=some (.int .i64 x.kd)
 c1:w.cell? ⟨b,off+1,none⟩=some (.int .i64 x.ta)
 c2:w.cell? ⟨b,off+2,none⟩=some (.int .i64 x.tb)
 c3:w.cell? ⟨b,off+3,none⟩=some (.int .i64 x.tc)
 c4:w.cell? ⟨b,off+4,none⟩=some (.int .i64 x.ff)
 c5:w.cell? ⟨b,off+5,none⟩=some (.int .i64 x.ft)
 c6:w.cell? ⟨b,off+6,none⟩=some (.int .i64 x.sf)
 c7:w.cell? ⟨b,off+7,none⟩=some (.int .i64 x.st)
 c8:w.cell? ⟨b,off+8,none⟩=some (.string x.tx)
theorem txt_empty2 {s:ByteArray} (h:s.size=0):(s.toList == [])=true:=by
 have:=txt_empty h;simpa using this
theorem txt_full2 {s:ByteArray} (h:¬ s.size=0):(s.toList == [])=false:=by
 have:=txt_full h;cases hd:s.toList with
 | nil=>rw [hd] at this;cases this
 | cons a b=>rfl
theorem StAt.on {w w':World} {b off:Nat} {x:StepT} (h:StAt w b off x) (hb:Below w.heap.size w w'):StAt w' b off x :=
 ⟨Nat.lt_of_lt_of_le h.lt hb.size,(hb.cell (p:=⟨b,off,none⟩) h.lt).trans h.c0,(hb.cell (p:=⟨b,off+1,none⟩) h.lt).trans h.c1,(hb.cell (p:=⟨b,off+2,none⟩) h.lt).trans h.c2,(hb.cell (p:=⟨b,off+3,none⟩) h.lt).trans h.c3,(hb.cell (p:=⟨b,off+4,none⟩) h.lt).trans h.c4,(hb.cell (p:=⟨b,off+5,none⟩) h.lt).trans h.c5,(hb.cell (p:=⟨b,off+6,none⟩) h.lt).trans h.c6,(hb.cell (p:=⟨b,off+7,none⟩) h.lt).trans h.c7,(hb.cell (p:=⟨b,off+8,none⟩) h.lt).trans h.c8⟩
set_option maxHeartbeats 2000000 in
theorem l15Step_c (x:StepT) (c9:Int) (b off:Nat) (w:World) (a:okStep x) (hc:1≤c9∧c9≤20) (hA:StAt w b off x) :
 Calls Tryz.prog 41 #[.pointer (some ⟨b,off,none⟩),.int .i64 c9] w fun e w'=>e=.returned (.bool (stB x c9))∧Below w.heap.size w w':=by
 have Hc:=hid hc;have Ha:=hid a;have HA:=hid hA;have a0:=hA.c0;have a1:=hA.c1;have a2:=hA.c2;have a3:=hA.c3;have a4:=hA.c4;have a5:=hA.c5;clear a hc hA;go_enter Tryz.func41,Tryz.ntmps41
 by_cases k_kd:1≤x.kd∧x.kd≤7
 case neg =>
  have K:=hid k_kd;have k2:x.kd<1∨7<x.kd:=by omega
  have K2:=hid k2;clear k2;clear k_kd;go_wp2_with fail
  with_reducible refine (l00In_no _ _ _ _ K2.out).mono ?_
  rintro e w1 ⟨rfl,rfl⟩
  go_wp2
  go_ret
  exact ⟨ret_bool (stB_no fun h=>K.out h.kd).symm,Below.refl _ _⟩
 have K_kd:=hid k_kd;clear k_kd;go_wp2_with fail
 with_reducible refine (l00In_yes _ _ _ _ K_kd.out.1 K_kd.out.2).mono ?_
 rintro e w1 ⟨rfl,rfl⟩
 by_cases k_ta:trayP x.ta
 case neg =>
  have K:=hid k_ta;clear k_ta;go_wp2_with fail
  with_reducible refine (l15Tray_no _ _ K.out).mono ?_
  rintro e w1 ⟨rfl,rfl⟩
  go_wp2
  go_ret
  exact ⟨ret_bool (stB_no fun h=>K.out h.ta).symm,Below.refl _ _⟩
 have K_ta:=hid k_ta;clear k_ta;go_wp2_with fail
 with_reducible refine (l15Tray_yes _ _ K_ta.out).mono ?_
 rintro e w1 ⟨rfl,rfl⟩
 by_cases k_tb:trayP x.tb
 case neg =>
  have K:=hid k_tb;clear k_tb;go_wp2_with fail
  with_reducible refine (l15Tray_no _ _ K.out).mono ?_
  rintro e w1 ⟨rfl,rfl⟩
  go_wp2
  go_ret
  exact ⟨ret_bool (stB_no fun h=>K.out h.tb).symm,Below.refl _ _⟩
 have K_tb:=hid k_tb;clear k_tb;go_wp2_with fail
 with_reducible refine (l15Tray_yes _ _ K_tb.out).mono ?_
 rintro e w1 ⟨rfl,rfl⟩
 by_cases k_tc:trayP x.tc
 case neg =>
  have K:=hid k_tc;clear k_tc;go_wp2_with fail
  with_reducible refine (l15Tray_no _ _ K.out).mono ?_
  rintro e w1 ⟨rfl,rfl⟩
  go_wp2
  go_ret
  exact ⟨ret_bool (stB_no fun h=>K.out h.tc).symm,Below.refl _ _⟩
 have K_tc:=hid k_tc;clear k_tc;go_wp2_with fail
 with_reducible refine (l15Tray_yes _ _ K_tc.out).mono ?_
 rintro e w1 ⟨rfl,rfl⟩
 go_wp2_with fail
 with_reducible refine (l02Field_c x.ff x.ft c9 _ (by have:=Hc.out;omega)).mono ?_
 by_cases kf:fieldP x.ff x.ft c9
 case neg =>
  have K:=hid kf;rw [decide_eq_false kf];clear kf;rintro e w1 ⟨rfl,hb⟩
  clear a0 a1 a2 a3 a4 a5;go_wp2
  go_ret
  exact ⟨ret_bool (stB_no fun h=>K.out h.ff).symm,hb⟩
 have Kf:=hid kf;rw [decide_eq_true kf];clear kf;rintro e w1 ⟨rfl,hb⟩
 have HA1:=hid (HA.out.on hb);have HB1:=hid hb;clear a0 a1 a2 a3 a4 a5 HA hb;have a0:=HA1.out.c0;have a2:=HA1.out.c2;go_upto_region 3 with fail
 go_cut [56] (fun c wx=>c=.bool (decide (¬ (x.tb=0∨twoP x.kd)))∧wx=w1)
 case first =>
  by_cases k2:x.tb=0
  · have q2:(x.tb != 0)=false:=by simpa using k2
    have K2:=hid k2;clear k2;go_wp2_with fail
    go_meet
    exact ⟨congrArg Value.bool (decide_eq_false (fun h=>h (.inl K2.out))).symm,rfl⟩
  · have q2:(x.tb != 0)=true:=by simpa using k2
    have K0:=hid k2;clear k2;by_cases k2:twoP x.kd
    · have K2:=hid k2
      clear k2;go_wp2_with fail
      with_reducible refine (l15Both_yes _ _ K2.out).mono ?_
      rintro e w1 ⟨rfl,rfl⟩
      go_wp2_with fail
      go_meet
      exact ⟨congrArg Value.bool (decide_eq_false (fun h=>h (.inr K2.out))).symm,rfl⟩
    · have K2:=hid k2
      clear k2;go_wp2_with fail
      with_reducible refine (l15Both_no _ _ K2.out).mono ?_
      rintro e w1 ⟨rfl,rfl⟩
      go_wp2_with fail
      go_meet
      exact ⟨congrArg Value.bool (decide_eq_true (p:=¬ (x.tb=0∨twoP x.kd)) (fun h=>h.elim K0.out K2.out)).symm,rfl⟩
 case rest =>
  obtain ⟨rfl,hwc⟩:=hcut;subst hwc;by_cases k2:x.tb=0∨twoP x.kd
  case neg =>
   have K:=hid k2;rw [decide_eq_true (p:=¬ (x.tb=0∨twoP x.kd)) k2];clear k2;go_wp2
   go_ret
   exact ⟨ret_bool (stB_no fun h=>K.out h.b0).symm,HB1.out⟩
  rw [decide_eq_false (p:=¬ (x.tb=0∨twoP x.kd)) (fun h=>h k2)];have K2:=hid k2;clear k2;have hsz:=Ha.out.2.2.2.2.2.2.2.2;have a3:=HA1.out.c3;have a4:=HA1.out.c4;have a5:=HA1.out.c5;have a6:=HA1.out.c6;have a7:=HA1.out.c7;have a8:=HA1.out.c8;by_cases k7:x.kd=7
  case pos =>
   have q7:(x.kd == 7)=true:=by simpa using k7
   have q5:¬ x.kd=5:=by omega
   have K7:=hid k7;have K5:=hid q5;clear k7 q5;go_upto_region 6 with fail
   have g0:=cell_regrown HA1.out.c0;have g1:=cell_regrown HA1.out.c1;have g2:=cell_regrown HA1.out.c2;have g3:=cell_regrown HA1.out.c3;have g4:=cell_regrown HA1.out.c4;have g5:=cell_regrown HA1.out.c5;have g6:=cell_regrown HA1.out.c6;have g7:=cell_regrown HA1.out.c7;have g8:=cell_regrown HA1.out.c8;clear a0 a2 a3 a4 a5 a6 a7 a8;by_cases k3:x.tc=0
   case neg =>
    have q3:(x.tc == 0)=false:=by simpa using k3
    have K3:=hid k3;clear k3;refine wp_region_quiet_below (by kernel_rfl) (by kernel_rfl) ?_
    repeat ((with_reducible refine wpQuiet_step (fun K hK=>?_));go_simp;first | ((with_reducible refine hK _ ?_);clear hK K) | ((with_reducible rw [if_neg]);rotate_left;(intro hgd;cases hgd);(with_reducible refine hK _ ?_);clear hK K) | (apply Exists.intro;refine ⟨fun _=>?_,hK _ ?_⟩;((fail));clear hK K))
    refine wpQuiet_nil ?_
    intro _ hw';obtain ⟨⟨dq,osq⟩,hw''⟩:=hw';subst hw'';have hbq:=below_regrown wc dq osq;generalize grow (redrawn wc dq) osq=wq at hbq ⊢;have HQ:=hid (HB1.out.trans (hbq.mono HB1.out.size));clear hbq g0 g1 g2 g3 g4 g5 g6 g7 g8;go_wp2
    go_ret
    exact ⟨ret_bool (stB_no fun h=>h.c0.elim K3.out (fun e=>e K7.out)).symm,HQ.out⟩
   have q3:(x.tc == 0)=true:=by simpa using k3
   have K3:=hid k3;clear k3;by_cases ks:fieldP x.sf x.st c9
   case neg =>
    have hfd:∀ d os,Calls Tryz.prog 82 #[.agg #[.int .i64 x.sf,.int .i64 x.st],.int .i64 c9] (grow (redrawn wc d) os) fun e w'=>e=.returned (.bool false)∧Below (grow (redrawn wc d) os).heap.size (grow (redrawn wc d) os) w':=fun d os=>by have h:=l02Field_c x.sf x.st c9 (grow (redrawn wc d) os) (by have:=Hc.out;omega);rw [decide_eq_false ks] at h;exact h
    have Hfd:=hid hfd;have Ks:=hid ks;clear ks hfd;refine wp_region_quiet_below (by kernel_rfl) (by kernel_rfl) ?_
    repeat ((with_reducible refine wpQuiet_step (fun K hK=>?_));go_simp;first | ((with_reducible refine hK _ ?_);clear hK K) | ((with_reducible rw [if_neg]);rotate_left;(intro hgd;cases hgd);(with_reducible refine hK _ ?_);clear hK K) | (apply Exists.intro;refine ⟨fun _=>?_,hK _ ?_⟩;((first | (go_at_call 82;with_reducible exact qb_below (Hfd.out _ _))));clear hK K))
    refine wpQuiet_nil ?_
    intro _ hw';obtain ⟨⟨dq,osq⟩,hw''⟩:=hw';subst hw'';have hbq:=below_regrown wc dq osq;generalize grow (redrawn wc dq) osq=wq at hbq ⊢;have HQ:=hid (HB1.out.trans (hbq.mono HB1.out.size));clear hbq g0 g1 g2 g3 g4 g5 g6 g7 g8;go_wp2
    go_ret
    exact ⟨ret_bool (stB_no fun h=>Ks.out (h.sum K7.out).1).symm,HQ.out⟩
   have hfd:∀ d os,Calls Tryz.prog 82 #[.agg #[.int .i64 x.sf,.int .i64 x.st],.int .i64 c9] (grow (redrawn wc d) os) fun e w'=>e=.returned (.bool true)∧Below (grow (redrawn wc d) os).heap.size (grow (redrawn wc d) os) w':=fun d os=>by have h:=l02Field_c x.sf x.st c9 (grow (redrawn wc d) os) (by have:=Hc.out;omega);rw [decide_eq_true ks] at h;exact h
   have Hfd:=hid hfd;have hwr:IntKind.i64.wrap (x.st - x.sf)=x.st - x.sf:=IntWalk.i64_in _ (by have:=Hc.out;unfold fieldP at ks;omega);have Ks:=hid ks;clear ks hfd;by_cases kl:x.st - x.sf≤12
   case neg =>
    have ql:decide (x.st - x.sf≤12)=false:=decide_eq_false kl;have Kl:=hid kl;clear kl;refine wp_region_quiet_below (by kernel_rfl) (by kernel_rfl) ?_
    repeat ((with_reducible refine wpQuiet_step (fun K hK=>?_));go_simp;first | ((with_reducible refine hK _ ?_);clear hK K) | ((with_reducible rw [if_neg]);rotate_left;(intro hgd;cases hgd);(with_reducible refine hK _ ?_);clear hK K) | (apply Exists.intro;refine ⟨fun _=>?_,hK _ ?_⟩;((first | (go_at_call 82;with_reducible exact qb_below (Hfd.out _ _))));clear hK K))
    refine wpQuiet_nil ?_
    intro _ hw';obtain ⟨⟨dq,osq⟩,hw''⟩:=hw';subst hw'';have hbq:=below_regrown wc dq osq;generalize grow (redrawn wc dq) osq=wq at hbq ⊢;have HQ:=hid (HB1.out.trans (hbq.mono HB1.out.size));clear hbq g0 g1 g2 g3 g4 g5 g6 g7 g8;go_wp2
    go_ret
    exact ⟨ret_bool (stB_no fun h=>(by have h1:=Kl.out;have h2:=(h.sum K7.out).2;omega)).symm,HQ.out⟩
   have ql:decide (x.st - x.sf≤12)=true:=decide_eq_true kl;have Kl:=hid kl;clear kl;by_cases k8:x.tx.size=0
   case neg =>
    have q8:=txt_full k8;have q9:=txt_full2 k8;have K8:=hid k8;clear k8;refine wp_region_quiet_below (by kernel_rfl) (by kernel_rfl) ?_
    repeat ((with_reducible refine wpQuiet_step (fun K hK=>?_));go_simp;first | ((with_reducible refine hK _ ?_);clear hK K) | ((with_reducible rw [if_neg]);rotate_left;(intro hgd;cases hgd);(with_reducible refine hK _ ?_);clear hK K) | (apply Exists.intro;refine ⟨fun _=>?_,hK _ ?_⟩;((first | (go_at_call 82;with_reducible exact qb_below (Hfd.out _ _))));clear hK K))
    refine wpQuiet_nil ?_
    intro _ hw';obtain ⟨⟨dq,osq⟩,hw''⟩:=hw';subst hw'';have hbq:=below_regrown wc dq osq;generalize grow (redrawn wc dq) osq=wq at hbq ⊢;have HQ:=hid (HB1.out.trans (hbq.mono HB1.out.size));clear hbq g0 g1 g2 g3 g4 g5 g6 g7 g8;go_wp2
    go_ret
    exact ⟨ret_bool (stB_no fun h=>K8.out (h.notx K5.out)).symm,HQ.out⟩
   have q8:=txt_empty k8;have q9:=txt_empty2 k8;have K8:=hid k8;clear k8;refine wp_region_quiet_below (by kernel_rfl) (by kernel_rfl) ?_
   repeat ((with_reducible refine wpQuiet_step (fun K hK=>?_));go_simp;first | ((with_reducible refine hK _ ?_);clear hK K) | ((with_reducible rw [if_neg]);rotate_left;(intro hgd;cases hgd);(with_reducible refine hK _ ?_);clear hK K) | (apply Exists.intro;refine ⟨fun _=>?_,hK _ ?_⟩;((first | (go_at_call 82;with_reducible exact qb_below (Hfd.out _ _))));clear hK K))
   refine wpQuiet_nil ?_
   intro _ hw';obtain ⟨⟨dq,osq⟩,hw''⟩:=hw';subst hw'';have hbq:=below_regrown wc dq osq;generalize grow (redrawn wc dq) osq=wq at hbq ⊢;have HQ:=hid (HB1.out.trans (hbq.mono HB1.out.size));clear hbq g0 g1 g2 g3 g4 g5 g6 g7 g8;go_wp2
   go_ret
   exact ⟨ret_bool (stB_yes ⟨K_kd.out,K_ta.out,K_tb.out,K_tc.out,K2.out,.inl K3.out,Kf.out,fun _=>⟨Ks.out,Kl.out⟩,fun e=>absurd K7.out e,fun e=>absurd e K5.out,fun _=>K8.out⟩).symm,HQ.out⟩
  have q7:(x.kd == 7)=false:=by simpa using k7
  have K7:=hid k7;clear k7;by_cases s1:x.sf=0
  case neg =>
   have r1:(x.sf == 0)=false:=by simpa using s1
   have S1:=hid s1;clear s1;go_wp2
   go_ret
   exact ⟨ret_bool (stB_no fun h=>S1.out (h.nosum K7.out).1).symm,HB1.out⟩
  by_cases s2:x.st=0
  case neg =>
   have r1:(x.sf == 0)=true:=by simpa using s1
   have r2:(x.st == 0)=false:=by simpa using s2
   have S2:=hid s2;clear s1 s2;go_wp2
   go_ret
   exact ⟨ret_bool (stB_no fun h=>S2.out (h.nosum K7.out).2).symm,HB1.out⟩
  have r1:(x.sf == 0)=true:=by simpa using s1
  have r2:(x.st == 0)=true:=by simpa using s2
  have S1:=hid s1;have S2:=hid s2;clear s1 s2;by_cases k5:x.kd=5
  case pos =>
   have q5:(x.kd == 5)=true:=by simpa using k5
   have K5:=hid k5;clear k5;obtain ⟨t,ht⟩:∃ t,t=txC x.tx x.ff x.ft:=⟨_,rfl⟩;have htx:∀ d os,Calls Tryz.prog 83 #[.string x.tx,.agg #[.int .i64 x.ff,.int .i64 x.ft]] (grow (redrawn wc d) os) fun e w'=>e=.returned (.int .i64 t)∧Below (grow (redrawn wc d) os).heap.size (grow (redrawn wc d) os) w':=fun d os=>by have h:=l09Text_c x.tx x.ff x.ft (grow (redrawn wc d) os) hsz (by have:=Kf.out;have:=Hc.out;unfold fieldP at *;omega);rw [← ht] at h;exact h
   have Htx:=hid htx;have Ht:=hid ht;clear ht htx;go_upto_region 10 with fail
   have g0:=cell_regrown HA1.out.c0;have g1:=cell_regrown HA1.out.c1;have g2:=cell_regrown HA1.out.c2;have g3:=cell_regrown HA1.out.c3;have g4:=cell_regrown HA1.out.c4;have g5:=cell_regrown HA1.out.c5;have g6:=cell_regrown HA1.out.c6;have g7:=cell_regrown HA1.out.c7;have g8:=cell_regrown HA1.out.c8;clear a0 a2 a3 a4 a5 a6 a7 a8;refine wp_region_quiet_below (by kernel_rfl) (by kernel_rfl) ?_
   repeat ((with_reducible refine wpQuiet_step (fun K hK=>?_));go_simp;first | ((with_reducible refine hK _ ?_);clear hK K) | ((with_reducible rw [if_neg]);rotate_left;(intro hgd;cases hgd);(with_reducible refine hK _ ?_);clear hK K) | (apply Exists.intro;refine ⟨fun _=>?_,hK _ ?_⟩;((first | (go_at_call 83;with_reducible exact qb_below (Htx.out _ _))));clear hK K))
   refine wpQuiet_nil ?_
   intro _ hw';obtain ⟨⟨dq,osq⟩,hw''⟩:=hw';subst hw'';have hbq:=below_regrown wc dq osq;generalize grow (redrawn wc dq) osq=wq at hbq ⊢;have HQ:=hid (HB1.out.trans (hbq.mono HB1.out.size));clear hbq g0 g1 g2 g3 g4 g5 g6 g7 g8;go_wp2
   go_ret
   refine ⟨ret_bool ?_,HQ.out⟩
   rw [Ht.out];unfold txC;by_cases he:(x.tx.size:Int)=x.ft - x.ff
   · rw [if_pos he]
     cases hq:chS x.tx with
     | true=>exact (stB_yes ⟨K_kd.out,K_ta.out,K_tb.out,K_tc.out,K2.out,.inr K7.out,Kf.out,fun e=>absurd e K7.out,fun _=>⟨S1.out,S2.out⟩,fun _=>⟨hq,he⟩,fun e=>absurd K5.out e⟩).symm
     | false=>exact (stB_no fun h=>by have h9:=(h.tx K5.out).1;rw [hq] at h9;cases h9).symm
   · rw [if_neg he]
     exact (stB_no fun h=>he (h.tx K5.out).2).symm
  have q5:(x.kd == 5)=false:=by simpa using k5
  have K5:=hid k5;clear k5;by_cases k8:x.tx.size=0
  · have q8:=txt_empty k8
    have K8:=hid k8;clear k8;go_wp2
    go_ret
    exact ⟨ret_bool (stB_yes ⟨K_kd.out,K_ta.out,K_tb.out,K_tc.out,K2.out,.inr K7.out,Kf.out,fun e=>absurd e K7.out,fun _=>⟨S1.out,S2.out⟩,fun e=>absurd e K5.out,fun _=>K8.out⟩).symm,HB1.out⟩
  · have q8:=txt_full k8
    have K8:=hid k8;clear k8;go_wp2
    go_ret
    exact ⟨ret_bool (stB_no fun h=>K8.out (h.notx K5.out)).symm,HB1.out⟩
end Go.Proofs.YthdaghfhlfjclaaGreat
