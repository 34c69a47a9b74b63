/- Lemmas on the way to the law FnRestarts. No condition. -/
import Derived.Test.YthdaghfhlfjclaaGreatMR12
import Derived.Test.YthdaghfhlfjclaaGreatMR19
import Derived.Lib.QuietBelow
import Derived.Test.YthdaghfhlfjclaaGreatMR5
namespace Go.Proofs.YthdaghfhlfjclaaGreat
set_option maxHeartbeats 2000000
set_option linter.unusedSimpArgs false
open Lib (hid)
open Go.ChangeShapes Go.WideShapes Go.ChangeAt Go.RowKit
set_option linter.unusedVariables false
set_option maxRecDepth 100000
abbrev trayP (n:Int):Prop:=0<=n/\n<=5
abbrev twoP (n:Int):Prop:=2<=n/\n<=4
structure StOk (x:StepT) (w:Int):Prop where
 kd:1<=x.kd/\x.kd<=7
 ta:trayP x.ta
 tb:trayP x.tb
 tc:trayP x.tc
 b0:x.tb=0\/twoP x.kd
 c0:x.tc=0\/¬ x.kd=7
 ff:fieldP x.ff x.ft w
 sum:x.kd=7->fieldP x.sf x.st w/\x.st - x.sf<=12
 nosum:¬ x.kd=7->x.sf=0/\x.st=0
 tx:x.kd=5->chS x.tx=true/\(x.tx.size:Int)=x.ft - x.ff
 notx:¬ x.kd=5->x.tx.size=0
instance (x:StepT) (w:Int):Decidable (StOk x w) :=
 decidable_of_iff ((1<=x.kd/\x.kd<=7)/\trayP x.ta/\trayP x.tb/\trayP x.tc/\(x.tb=0\/twoP x.kd)/\(x.tc=0\/¬ x.kd=7)/\fieldP x.ff x.ft w/\(x.kd=7->fieldP x.sf x.st w/\x.st - x.sf<=12)/\(¬ x.kd=7->x.sf=0/\x.st=0)/\(x.kd=5->chS x.tx=true/\(x.tx.size:Int)=x.ft - x.ff)/\(¬ x.kd=5->x.tx.size=0))
  ⟨fun ⟨a,b,c,d,e,f,g,h,i,j,k⟩=>⟨a,b,c,d,e,f,g,h,i,j,k⟩,fun ⟨a,b,c,d,e,f,g,h,i,j,k⟩=>⟨a,b,c,d,e,f,g,h,i,j,k⟩⟩
def stB (x:StepT) (w:Int):Bool:=decide (StOk x w)
theorem yBA {x:StepT} {w:Int} (h:StOk x w->False):stB x w=false:=decide_eq_false h
theorem stB_yes {x:StepT} {w:Int} (h:StOk x w):stB x w=true:=decide_eq_true h
theorem isTray_yes (n:Int) (w:World) (h:trayP n):Calls Tryz.prog 133 #[.int .i64 n] w fun e w'=>e=.returned (.bool true)/\w=w':=by
 go_enter Tryz.func133,Tryz.ntmps133;go_wp2_with (go_at_call 49;refine (yBC _ _ _ _ h.1 h.2).mono ?_;rintro e w' ⟨rfl,rfl⟩);go_ret;exact ⟨rfl,rfl⟩
theorem isTray_no (n:Int) (w:World) (h:¬ trayP n):Calls Tryz.prog 133 #[.int .i64 n] w fun e w'=>e=.returned (.bool false)/\w=w':=by
 have h2:n<0\/5<n:=by unfold trayP at h;omega
 have H:=hid h2;clear h h2;go_enter Tryz.func133,Tryz.ntmps133;go_wp2_with (go_at_call 49;refine (inside_no _ _ _ _ H.out).mono ?_;rintro e w' ⟨rfl,rfl⟩);go_ret;exact ⟨rfl,rfl⟩
theorem takesTwo_yes (n:Int) (w:World) (h:twoP n):Calls Tryz.prog 52 #[.int .i64 n] w fun e w'=>e=.returned (.bool true)/\w=w':=by
 go_enter Tryz.func52,Tryz.ntmps52;go_wp2_with (go_at_call 49;refine (yBC _ _ _ _ h.1 h.2).mono ?_;rintro e w' ⟨rfl,rfl⟩);go_ret;exact ⟨rfl,rfl⟩
theorem takesTwo_no (n:Int) (w:World) (h:¬ twoP n):Calls Tryz.prog 52 #[.int .i64 n] w fun e w'=>e=.returned (.bool false)/\w=w':=by
 have h2:n<2\/4<n:=by unfold twoP at h;omega
 have H:=hid h2;clear h h2;go_enter Tryz.func52,Tryz.ntmps52;go_wp2_with (go_at_call 49;refine (inside_no _ _ _ _ H.out).mono ?_;rintro e w' ⟨rfl,rfl⟩);go_ret;exact ⟨rfl,rfl⟩
theorem l15Tray_yes (n:Int) (w:World) (h:trayP n):Calls Tryz.prog 81 #[.int .i64 n] w fun e w'=>e=.returned (.bool true)/\w=w':=by
 go_enter Tryz.func81,Tryz.ntmps81;go_wp2_with (go_at_call 39;refine (yBI _ _ _ _ h.1 h.2).mono ?_;rintro e w' ⟨rfl,rfl⟩);go_ret;exact ⟨rfl,rfl⟩
theorem l15Tray_no (n:Int) (w:World) (h:¬ trayP n):Calls Tryz.prog 81 #[.int .i64 n] w fun e w'=>e=.returned (.bool false)/\w=w':=by
 have h2:n<0\/5<n:=by unfold trayP at h;omega
 have H:=hid h2;clear h h2;go_enter Tryz.func81,Tryz.ntmps81;go_wp2_with (go_at_call 39;refine (l00In_no _ _ _ _ H.out).mono ?_;rintro e w' ⟨rfl,rfl⟩);go_ret;exact ⟨rfl,rfl⟩
theorem l15Both_yes (n:Int) (w:World) (h:twoP n):Calls Tryz.prog 43 #[.int .i64 n] w fun e w'=>e=.returned (.bool true)/\w=w':=by
 go_enter Tryz.func43,Tryz.ntmps43;go_wp2_with (go_at_call 39;refine (yBI _ _ _ _ h.1 h.2).mono ?_;rintro e w' ⟨rfl,rfl⟩);go_ret;exact ⟨rfl,rfl⟩
theorem l15Both_no (n:Int) (w:World) (h:¬ twoP n):Calls Tryz.prog 43 #[.int .i64 n] w fun e w'=>e=.returned (.bool false)/\w=w':=by
 have h2:n<2\/4<n:=by unfold twoP at h;omega
 have H:=hid h2;clear h h2;go_enter Tryz.func43,Tryz.ntmps43;go_wp2_with (go_at_call 39;refine (l00In_no _ _ _ _ H.out).mono ?_;rintro e w' ⟨rfl,rfl⟩);go_ret;exact ⟨rfl,rfl⟩
theorem isNumberField_c (f t c:Int) (w:World) (hc:0<=c/\c<=1000):Calls Tryz.prog 135 #[.agg #[.int .i64 f,.int .i64 t],.int .i64 c] w fun e w'=>e=.returned (.bool (decide (fieldP f t c/\t - f<=12)))/\Below w.heap.size w w':=by
 obtain ⟨p,hp⟩:∃ p,p=decide (fieldP f t c/\t - f<=12):=⟨_,rfl⟩;rw [<- hp];have Hp:=hid hp;have Hc:=hid hc;clear hp;go_enter Tryz.func135,Tryz.ntmps135;go_wp2_with fail;with_reducible refine (isField_c f t c _ Hc.out).mono ?_
 by_cases h1:fieldP f t c
 . have H1:=hid h1
   have hb1:0<=f/\f<t/\t<=1000:=by unfold fieldP at h1;omega
   have hb2:=hb1.1;have hb3:=hb1.2.1;have hb4:=hb1.2.2;rw [decide_eq_true h1];clear h1 hb1;rintro e w1 ⟨rfl,hb⟩;have hb9:=((zB w.heap.size w).alloc (zA _) _).trans (hb.mono (by simp));have Hb:=hid hb9;have hz:w.heap.size<w1.heap.size:=by have:=hb.size;simp at this;omega
   obtain ⟨hcc,hcf⟩:=bcell hb;clear hb hb9;by_cases h2:t - f<=12
   . go_wp2
     go_ret;exact ⟨yAD (by rw [Hp.out];exact (decide_eq_true ⟨H1.out,h2⟩).symm),Hb.out⟩
   . go_wp2
     go_ret;exact ⟨yAD (by rw [Hp.out];exact decide_eq_decide.2 ⟨fun q=>⟨H1.out,q⟩,fun q=>q.2⟩),Hb.out⟩
 . have H1:=hid h1
   rw [decide_eq_false h1];clear h1;rintro e w1 ⟨rfl,hb⟩;have hb9:=((zB w.heap.size w).alloc (zA _) _).trans (hb.mono (by simp));have Hb:=hid hb9;clear hb hb9;go_wp2;go_ret;exact ⟨yAD (by rw [Hp.out];exact (decide_eq_false fun h=>H1.out h.1).symm),Hb.out⟩
theorem ValidStep_c (x:StepT) (c9:Int) (w:World) (a:okStep x) (hc:1<=c9/\c9<=20) :
 Calls Tryz.prog 92 #[vStep x,.int .i64 c9] w fun e w'=>e=.returned (.bool (stB x c9))/\Below w.heap.size w w':=by
 have Hc:=hid hc;have Ha:=hid a;have hW:Box (w.alloc (.cells #[.int .i64 x.kd,.int .i64 x.ta,.int .i64 x.tb,.int .i64 x.tc,.int .i64 x.ff,.int .i64 x.ft,.int .i64 x.sf,.int .i64 x.st,.string x.tx] 75)) w.heap.size [.int .i64 x.kd,.int .i64 x.ta,.int .i64 x.tb,.int .i64 x.tc,.int .i64 x.ff,.int .i64 x.ft,.int .i64 x.sf,.int .i64 x.st,.string x.tx]:=Box.new w _ _;have hbW:Below w.heap.size w (w.alloc (.cells #[.int .i64 x.kd,.int .i64 x.ta,.int .i64 x.tb,.int .i64 x.tc,.int .i64 x.ff,.int .i64 x.ft,.int .i64 x.sf,.int .i64 x.st,.string x.tx] 75)):=(zB _ _).alloc (zA _) _;have HW:=hid hW;have HbW:=hid hbW;clear a hc hW hbW;go_enter Tryz.func92,Tryz.ntmps92;go_wp2_with fail;with_reducible refine (yBC _ _ _ _ Hc.out.1 Hc.out.2).mono ?_
 rintro e w1 ⟨rfl,rfl⟩;by_cases k_kd:1<=x.kd/\x.kd<=7
 case neg =>
  have K:=hid k_kd;have k2:x.kd<1\/7<x.kd:=by omega
  have K2:=hid k2;clear k2;clear k_kd;go_wp2_with fail;with_reducible refine (inside_no _ _ _ _ K2.out).mono ?_
  rintro e w1 ⟨rfl,rfl⟩;go_wp2;go_ret;exact ⟨yAD (yBA fun h=>K.out h.kd).symm,HbW.out⟩
 have K_kd:=hid k_kd;clear k_kd;go_wp2_with fail;with_reducible refine (yBC _ _ _ _ K_kd.out.1 K_kd.out.2).mono ?_
 rintro e w1 ⟨rfl,rfl⟩;by_cases k_ta:trayP x.ta
 case neg =>
  have K:=hid k_ta;clear k_ta;go_wp2_with fail;with_reducible refine (isTray_no _ _ K.out).mono ?_
  rintro e w1 ⟨rfl,rfl⟩;go_wp2;go_ret;exact ⟨yAD (yBA fun h=>K.out h.ta).symm,HbW.out⟩
 have K_ta:=hid k_ta;clear k_ta;go_wp2_with fail;with_reducible refine (isTray_yes _ _ K_ta.out).mono ?_
 rintro e w1 ⟨rfl,rfl⟩;by_cases k_tb:trayP x.tb
 case neg =>
  have K:=hid k_tb;clear k_tb;go_wp2_with fail;with_reducible refine (isTray_no _ _ K.out).mono ?_
  rintro e w1 ⟨rfl,rfl⟩;go_wp2;go_ret;exact ⟨yAD (yBA fun h=>K.out h.tb).symm,HbW.out⟩
 have K_tb:=hid k_tb;clear k_tb;go_wp2_with fail;with_reducible refine (isTray_yes _ _ K_tb.out).mono ?_
 rintro e w1 ⟨rfl,rfl⟩;by_cases k_tc:trayP x.tc
 case neg =>
  have K:=hid k_tc;clear k_tc;go_wp2_with fail;with_reducible refine (isTray_no _ _ K.out).mono ?_
  rintro e w1 ⟨rfl,rfl⟩;go_wp2;go_ret;exact ⟨yAD (yBA fun h=>K.out h.tc).symm,HbW.out⟩
 have K_tc:=hid k_tc;clear k_tc;go_wp2_with fail;with_reducible refine (isTray_yes _ _ K_tc.out).mono ?_
 rintro e w1 ⟨rfl,rfl⟩;go_upto_region 3 with fail;generalize w.alloc (.cells #[.int .i64 x.kd,.int .i64 x.ta,.int .i64 x.tb,.int .i64 x.tc,.int .i64 x.ff,.int .i64 x.ft,.int .i64 x.sf,.int .i64 x.st,.string x.tx] 75)=W at HW HbW |-;have c0:=HW.out.cell 0 _ rfl;have c2:=HW.out.cell 2 _ rfl;have c3:=HW.out.cell 3 _ rfl;have c4:=HW.out.cell 4 _ rfl;have c5:=HW.out.cell 5 _ rfl;go_cut [33] (fun c wx=>∃ q:Bool,c=.bool q/\Hid (q=false->(x.tb=0\/twoP x.kd)/\(x.tc=0\/¬ x.kd=7)/\fieldP x.ff x.ft c9)/\Hid (q=true->stB x c9=false)/\Below W.heap.size W wx)
 case first =>
  by_cases k2:x.tb=0
  . have q2:(x.tb != 0)=false:=by simpa using k2
    have K2:=hid k2;clear k2;by_cases k3:x.tc=0
    . have q3:(x.tc != 0)=false:=by simpa using k3
      have K3:=hid k3;clear k3;go_wp2_with fail;with_reducible refine (isField_c x.ff x.ft c9 _ (by have:=Hc.out;omega)).mono ?_
      by_cases kf:fieldP x.ff x.ft c9
      . have Kf:=hid kf
        rw [decide_eq_true kf];clear kf;rintro e w1 ⟨rfl,hb⟩;clear c0 c2 c3 c4 c5;go_wp2_with fail;go_meet;exact ⟨false,rfl,fun _=>⟨.inl K2.out,.inl K3.out,Kf.out⟩,fun h=>(by cases h),hb⟩
      . have Kf:=hid kf
        rw [decide_eq_false kf];clear kf;rintro e w1 ⟨rfl,hb⟩;clear c0 c2 c3 c4 c5;go_wp2_with fail;go_meet;exact ⟨true,rfl,fun h=>(by cases h),fun _=>yBA fun h=>Kf.out h.ff,hb⟩
    . have q3:(x.tc != 0)=true:=by simpa using k3
      have K3:=hid k3;clear k3;by_cases k7:x.kd=7
      . have q7:(x.kd == 7)=true:=by simpa using k7
        have K7:=hid k7;clear k7;go_wp2_with fail;go_meet;exact ⟨true,rfl,fun h=>(by cases h),fun _=>yBA fun h=>h.c0.elim (fun e=>K3.out e) (fun e=>e K7.out),zB _ _⟩
      . have q7:(x.kd == 7)=false:=by simpa using k7
        have K7:=hid k7;clear k7;go_wp2_with fail;with_reducible refine (isField_c x.ff x.ft c9 _ (by have:=Hc.out;omega)).mono ?_
        by_cases kf:fieldP x.ff x.ft c9
        . have Kf:=hid kf
          rw [decide_eq_true kf];clear kf;rintro e w1 ⟨rfl,hb⟩;clear c0 c2 c3 c4 c5;go_wp2_with fail;go_meet;exact ⟨false,rfl,fun _=>⟨.inl K2.out,.inr K7.out,Kf.out⟩,fun h=>(by cases h),hb⟩
        . have Kf:=hid kf
          rw [decide_eq_false kf];clear kf;rintro e w1 ⟨rfl,hb⟩;clear c0 c2 c3 c4 c5;go_wp2_with fail;go_meet;exact ⟨true,rfl,fun h=>(by cases h),fun _=>yBA fun h=>Kf.out h.ff,hb⟩
  . have q2:(x.tb != 0)=true:=by simpa using k2
    have K0:=hid k2;clear k2;by_cases k2:twoP x.kd
    . have K2:=hid k2
      clear k2;go_wp2_with fail;with_reducible refine (takesTwo_yes _ _ K2.out).mono ?_
      rintro e w1 ⟨rfl,rfl⟩;by_cases k3:x.tc=0
      . have q3:(x.tc != 0)=false:=by simpa using k3
        have K3:=hid k3;clear k3;go_wp2_with fail;with_reducible refine (isField_c x.ff x.ft c9 _ (by have:=Hc.out;omega)).mono ?_
        by_cases kf:fieldP x.ff x.ft c9
        . have Kf:=hid kf
          rw [decide_eq_true kf];clear kf;rintro e w1 ⟨rfl,hb⟩;clear c0 c2 c3 c4 c5;go_wp2_with fail;go_meet;exact ⟨false,rfl,fun _=>⟨.inr K2.out,.inl K3.out,Kf.out⟩,fun h=>(by cases h),hb⟩
        . have Kf:=hid kf
          rw [decide_eq_false kf];clear kf;rintro e w1 ⟨rfl,hb⟩;clear c0 c2 c3 c4 c5;go_wp2_with fail;go_meet;exact ⟨true,rfl,fun h=>(by cases h),fun _=>yBA fun h=>Kf.out h.ff,hb⟩
      . have q3:(x.tc != 0)=true:=by simpa using k3
        have K3:=hid k3;clear k3;have k7:¬ x.kd=7:=by have:=K2.out;unfold twoP at this;omega
        have q7:(x.kd == 7)=false:=by simpa using k7
        have K7:=hid k7;clear k7;go_wp2_with fail;with_reducible refine (isField_c x.ff x.ft c9 _ (by have:=Hc.out;omega)).mono ?_
        by_cases kf:fieldP x.ff x.ft c9
        . have Kf:=hid kf
          rw [decide_eq_true kf];clear kf;rintro e w1 ⟨rfl,hb⟩;clear c0 c2 c3 c4 c5;go_wp2_with fail;go_meet;exact ⟨false,rfl,fun _=>⟨.inr K2.out,.inr K7.out,Kf.out⟩,fun h=>(by cases h),hb⟩
        . have Kf:=hid kf
          rw [decide_eq_false kf];clear kf;rintro e w1 ⟨rfl,hb⟩;clear c0 c2 c3 c4 c5;go_wp2_with fail;go_meet;exact ⟨true,rfl,fun h=>(by cases h),fun _=>yBA fun h=>Kf.out h.ff,hb⟩
    . have K2:=hid k2
      clear k2;go_wp2_with fail;with_reducible refine (takesTwo_no _ _ K2.out).mono ?_
      rintro e w1 ⟨rfl,rfl⟩;go_wp2_with fail;go_meet;exact ⟨true,rfl,fun h=>(by cases h),fun _=>yBA fun h=>h.b0.elim (fun e=>K0.out e) (fun e=>K2.out e),zB _ _⟩
 case rest =>
  obtain ⟨q,rfl,HP,HN,hbx⟩:=hcut;have HX:=hid (HW.out.on hbx);have HbX:=hid (HbW.out.trans (hbx.mono (by have:=HW.out.lt;omega)));clear c0 c2 c3 c4 c5 hbx HbW HW;have c0:=HX.out.cell 0 _ rfl;have c4:=HX.out.cell 4 _ rfl;have c5:=HX.out.cell 5 _ rfl;have c6:=HX.out.cell 6 _ rfl;have c7:=HX.out.cell 7 _ rfl;have c8:=HX.out.cell 8 _ rfl;cases q with
  | true =>
   have HN1:=hid (HN.out rfl);clear HN HP;go_wp2;go_ret;exact ⟨yAD HN1.out.symm,HbX.out⟩
  | false =>
   obtain ⟨f1,f2,f3⟩:=HP.out rfl;have F1:=hid f1;have F2:=hid f2;have F3:=hid f3;have f4:0<=x.ff/\x.ff<x.ft/\x.ft<=20:=by have:=Hc.out;unfold fieldP at f3;omega
   obtain ⟨f5,f6,f7⟩:=f4;clear f1 f2 f3 HP HN;have hsz:=Ha.out.2.2.2.2.2.2.2.2;by_cases k7:x.kd=7
   . have q7:(x.kd == 7)=true:=by simpa using k7
     have q7n:(x.kd != 7)=false:=by simpa using k7
     have q5:(x.kd == 5)=false:=by simpa using (show ¬ x.kd=5 by omega)
     have K7:=hid k7;have K5:Hid (¬ x.kd=5):=hid (by omega);clear k7;go_wp2_with fail;with_reducible refine (isNumberField_c x.sf x.st c9 _ (by have:=Hc.out;omega)).mono ?_
     by_cases ks:fieldP x.sf x.st c9/\x.st - x.sf<=12
     . have Ks:=hid ks
       rw [decide_eq_true ks];clear ks;rintro e w1 ⟨rfl,hb⟩;have HY:=hid (HX.out.on hb);have HbY:=hid (HbX.out.trans (hb.mono HbX.out.size));clear hb HX HbX c0 c4 c5 c6 c7 c8;have c0:=HY.out.cell 0 _ rfl;have c8:=HY.out.cell 8 _ rfl;by_cases k8:x.tx.size=0
       . have q8:=txt_empty k8
         have K8:=hid k8;clear k8;go_wp2;go_ret;exact ⟨yAD (stB_yes ⟨K_kd.out,K_ta.out,K_tb.out,K_tc.out,F1.out,F2.out,F3.out,fun _=>Ks.out,fun e=>absurd K7.out e,fun e=>absurd e K5.out,fun _=>K8.out⟩).symm,HbY.out⟩
       . have q8:=txt_full k8
         have K8:=hid k8;clear k8;go_wp2;go_ret;exact ⟨yAD (yBA fun h=>K8.out (h.notx K5.out)).symm,HbY.out⟩
     . have Ks:=hid ks
       rw [decide_eq_false ks];clear ks;rintro e w1 ⟨rfl,hb⟩;have HbY:=hid (HbX.out.trans (hb.mono HbX.out.size));clear hb HX HbX c0 c4 c5 c6 c7 c8;go_wp2;go_ret;exact ⟨yAD (yBA fun h=>Ks.out (h.sum K7.out)).symm,HbY.out⟩
   . have q7:(x.kd == 7)=false:=by simpa using k7
     have q7n:(x.kd != 7)=true:=by simpa using k7
     have K7:=hid k7;clear k7;by_cases s1:x.sf=0
     case neg =>
      have r1:(x.sf == 0)=false:=by simpa using s1
      have S1:=hid s1;clear s1;go_wp2;go_ret;exact ⟨yAD (yBA fun h=>S1.out (h.nosum K7.out).1).symm,HbX.out⟩
     by_cases s2:x.st=0
     case neg =>
      have r1:(x.sf == 0)=true:=by simpa using s1
      have r2:(x.st == 0)=false:=by simpa using s2
      have S2:=hid s2;clear s1 s2;go_wp2;go_ret;exact ⟨yAD (yBA fun h=>S2.out (h.nosum K7.out).2).symm,HbX.out⟩
     have r1:(x.sf == 0)=true:=by simpa using s1
     have r2:(x.st == 0)=true:=by simpa using s2
     have S1:=hid s1;have S2:=hid s2;clear s1 s2;by_cases k5:x.kd=5
     . have q5:(x.kd == 5)=true:=by simpa using k5
       have K5:=hid k5;clear k5;go_wp2_with fail;with_reducible refine (areCharacters_c x.tx _ hsz).mono ?_
       cases kc:chS x.tx with
       | false =>
        have Kc:=hid kc;clear kc;rintro e w1 ⟨rfl,rfl⟩;go_wp2;go_ret;exact ⟨yAD (yBA fun h=>by have h9:=(h.tx K5.out).1;rw [Kc.out] at h9;cases h9).symm,HbX.out⟩
       | true =>
        have Kc:=hid kc;clear kc;rintro e w1 ⟨rfl,rfl⟩;by_cases ke:(x.tx.size:Int)=x.ft - x.ff
        . have qe:((x.tx.size:Int) == x.ft - x.ff)=true:=by simpa using ke
          have Ke:=hid ke;clear ke;go_wp2;go_ret;exact ⟨yAD (stB_yes ⟨K_kd.out,K_ta.out,K_tb.out,K_tc.out,F1.out,F2.out,F3.out,fun e=>absurd e K7.out,fun _=>⟨S1.out,S2.out⟩,fun _=>⟨Kc.out,Ke.out⟩,fun e=>absurd K5.out e⟩).symm,HbX.out⟩
        . have qe:((x.tx.size:Int) == x.ft - x.ff)=false:=by simpa using ke
          have Ke:=hid ke;clear ke;go_wp2;go_ret;exact ⟨yAD (yBA fun h=>Ke.out (h.tx K5.out).2).symm,HbX.out⟩
     . have q5:(x.kd == 5)=false:=by simpa using k5
       have K5:=hid k5;clear k5;by_cases k8:x.tx.size=0
       . have q8:=txt_empty k8
         have K8:=hid k8;clear k8;go_wp2;go_ret;exact ⟨yAD (stB_yes ⟨K_kd.out,K_ta.out,K_tb.out,K_tc.out,F1.out,F2.out,F3.out,fun e=>absurd e K7.out,fun _=>⟨S1.out,S2.out⟩,fun e=>absurd e K5.out,fun _=>K8.out⟩).symm,HbX.out⟩
       . have q8:=txt_full k8
         have K8:=hid k8;clear k8;go_wp2;go_ret;exact ⟨yAD (yBA fun h=>K8.out (h.notx K5.out)).symm,HbX.out⟩
abbrev C9 (c:Int):Prop:=1<=c/\c<=20
def badS (c:Int) (x:StepT):Bool:=!stB x c
def flB (xs:List StepT) (c:Int):Bool:=!(xs.any (badS c)) && decide (xs.length<=20)
theorem flB_long {xs:List StepT} {c:Int} (h:¬ xs.length<=20):flB xs c=false:=by unfold flB;rw [decide_eq_false h,Bool.and_false]
theorem flB_short {xs:List StepT} {c:Int} (h:xs.length<=20):flB xs c=!(xs.any (badS c)):=by unfold flB;rw [decide_eq_true h,Bool.and_true]
theorem flB_bad {xs:List StepT} {c:Int} {k:Nat} {x:StepT} (hx:xs[k]?=some x) (h:stB x c=false):flB xs c=false:=by
 unfold flB;have:xs.any (badS c)=true:=List.any_eq_true.2 ⟨x,zC hx,by unfold badS;rw [h];rfl⟩;rw [this];rfl
theorem flB_all {xs:List StepT} {c:Int} (h:xs.any (badS c)=false):flB xs c=decide (xs.length<=20):=by unfold flB;rw [h];rfl
theorem flB_parts {xs:List StepT} {c:Int} (h:flB xs c=true):xs.length<=20/\∀ x∈xs,StOk x c:=by
 unfold flB at h;rw [Bool.and_eq_true,decide_eq_true_eq] at h;refine ⟨h.2,fun x hx=>?_⟩;have h1:xs.any (badS c)=false:=by simpa using h.1
 have h2:=List.any_eq_false.1 h1 x hx;unfold badS at h2;exact of_decide_eq_true (by unfold stB at h2;simpa using h2)
theorem clo_Step (c9:Int) (y:StepT) (w:World) (hc:C9 c9) (hy:okStep y) {c:Nat} (hcc:w.cell? ⟨c,0,none⟩=some (.int .i64 c9)) (hlt:c<w.heap.size) :
 Calls Tryz.prog 110 #[vStep y,.pointer (some ⟨c,0,none⟩)] w fun e w'=>e=.returned (.bool (badS c9 y))/\Below w.heap.size w w':=by
 have hne:c ≠ w.heap.size:=by omega
 have Hc:=hid hc;have Hy:=hid hy;clear hc hy;go_enter Tryz.func110,Tryz.ntmps110;go_wp2_with fail;with_reducible refine (ValidStep_c y c9 _ Hy.out Hc.out).mono ?_
 rintro e w1 ⟨rfl,hb⟩;have hb9:=((zB w.heap.size w).alloc (zA _) _).trans (hb.mono (by simp));clear hb;go_wp2;go_ret;exact ⟨rfl,hb9⟩
theorem indexStep_c {xs:List StepT} {v:Value} {w:World} {A:Nat} (c9:Int) (h9:Hid (C9 c9)) {c:Nat} (hcc:w.cell? ⟨c,0,none⟩=some (.int .i64 c9)) (hlc:c<w.heap.size) (ha:RdStepS A w v xs) :
 Calls Tryz.prog 154 #[v,.func (.func 110) #[] #[.pointer (some ⟨c,0,none⟩)]] w fun e w'=>(∃ r:Int,e=.returned (.int .i64 r)/\-1<=r/\(0<=r ↔ xs.any (badS c9)=true))/\Below w.heap.size w w':=by
 have hle:=ha.le;obtain ⟨ao,cap,rfl,ho⟩:=yBG ha;obtain ⟨n,hn⟩:∃ n,n=xs.length:=⟨_,rfl⟩;rw [<- hn];have Hn:=hid hn;have Ho:=hid ho;have Hcc:=hid hcc;clear hcc;have hle':n<=9223372036854775807:=by omega
 clear ho hn hle ha;go_enter Tryz.func154,Tryz.ntmps154;go_wp2;go_loopw [8] (fun i wr=>∃ k:Nat,k<=n/\i=.int .i64 k/\Hid ((xs.take k).any (badS c9)=false)/\Below w.heap.size w wr) (fun i _=>n - (intOf i).toNat)
 case atStart=>exact ⟨0,zK _,rfl,rfl,zB _ _⟩
 case round =>
  obtain ⟨k,hk,rfl,hp,hbb⟩:=hrel;by_cases hkn:k<n
  . obtain ⟨b,off,rfl,hlt,hc⟩:=Ho.out (by have:=Hn.out;omega)
    obtain ⟨y,hy,⟨c0,c1,c2,c3,c4,c5,c6,c7,c8⟩,bx⟩:=hc k (by have:=Hn.out;omega);have Hy:=hid hy;have Hbx:=hid bx;have d0:=(hbb.cell (p:=⟨b,off+k * 9,none⟩) hlt.2).trans c0;have d1:=(hbb.cell (p:=⟨b,off+k * 9+1,none⟩) hlt.2).trans c1;have d2:=(hbb.cell (p:=⟨b,off+k * 9+2,none⟩) hlt.2).trans c2;have d3:=(hbb.cell (p:=⟨b,off+k * 9+3,none⟩) hlt.2).trans c3;have d4:=(hbb.cell (p:=⟨b,off+k * 9+4,none⟩) hlt.2).trans c4;have d5:=(hbb.cell (p:=⟨b,off+k * 9+5,none⟩) hlt.2).trans c5;have d6:=(hbb.cell (p:=⟨b,off+k * 9+6,none⟩) hlt.2).trans c6;have d7:=(hbb.cell (p:=⟨b,off+k * 9+7,none⟩) hlt.2).trans c7;have d8:=(hbb.cell (p:=⟨b,off+k * 9+8,none⟩) hlt.2).trans c8;have hcw:=(hbb.cell (p:=⟨c,0,none⟩) hlc).trans Hcc.out;have hlw:c<wr.heap.size:=by have:=hbb.size;omega
    have Hcw:=hid hcw;clear hcw;clear hy hc bx c0 c1 c2 c3 c4 c5 c6 c7 c8;go_wp2_with fail;with_reducible refine (clo_Step c9 y wr h9.out Hbx.out Hcw.out hlw).mono ?_
    cases hq:(badS c9) y with
    | true =>
     have Hq:=hid hq;clear hq;rintro e w1 ⟨rfl,hb1⟩;have hb2:=hbb.trans (hb1.mono hbb.size);go_wp2;go_ret;refine ⟨⟨_,rfl,by omega,?_⟩,hb2⟩;have:xs.any (badS c9)=true:=List.any_eq_true.2 ⟨y,zC Hy.out,Hq.out⟩;simp [this]
    | false =>
     have Hq:=hid hq;clear hq;rintro e w1 ⟨rfl,hb1⟩;have hb2:=hbb.trans (hb1.mono hbb.size);clear d0 d1 d2 d3 d4 d5 d6 d7 d8 hb1 hbb;go_wp2;go_roundw
     case rel=>exact ⟨k+1,by omega,by go_num,by show _=false;rw [yAE Hy.out,List.any_append,hp.out];simp [Hq.out],hb2⟩
     case measure=>simp [intOf];omega
  . go_wp2
    go_ret;refine ⟨⟨_,rfl,by omega,?_⟩,hbb⟩;have hq:=hp.out;rw [zH (by have:=Hn.out;omega)] at hq;exact any_endT hq
theorem containsStep_c {xs:List StepT} {v:Value} {w:World} {A:Nat} (c9:Int) (h9:Hid (C9 c9)) {c:Nat} (hcc:w.cell? ⟨c,0,none⟩=some (.int .i64 c9)) (hlc:c<w.heap.size) (ha:RdStepS A w v xs) :
 Calls Tryz.prog 109 #[v,.func (.func 110) #[] #[.pointer (some ⟨c,0,none⟩)]] w fun e w'=>e=.returned (.bool (xs.any (badS c9)))/\Below w.heap.size w w':=by
 have Ha:=hid ha;have Hcc:=hid hcc;clear hcc;obtain ⟨ao,cap,rfl⟩:=ha.shape;clear ha;go_enter Tryz.func109,Tryz.ntmps109;go_wp2_with fail;with_reducible refine (indexStep_c c9 h9 Hcc.out hlc Ha.out).mono ?_
 rintro e w' ⟨⟨r,rfl,hr,hi⟩,hb⟩;have Hi:=hid hi;clear hi;go_wp2;go_ret;refine ⟨yAD ?_,hb⟩;rw [Bool.eq_iff_iff,decide_eq_true_iff];exact Hi.out
theorem yBP {xs:List StepT} {v:Value} {w:World} {A:Nat} (c9:Int) (hc:C9 c9) (ha:RdStepS A w v xs) :
 Calls Tryz.prog 70 #[v,.int .i64 c9] w fun e w'=>e=.returned (.bool (flB xs c9))/\Below w.heap.size w w':=by
 have hle:=ha.le;have Hc:=hid hc;have hb1:Below w.heap.size w (w.alloc (.cells #[.int .i64 c9] 2)):=(zB _ _).alloc (zA _) _;have Hb1:=hid hb1;have HR:=hid (Rds.onn ha hb1);have HB:=hid (Box.new w [.int .i64 c9] 2);obtain ⟨ao,cap,rfl⟩:=ha.shape;obtain ⟨n,hn⟩:∃ n,n=xs.length:=⟨_,rfl⟩;rw [<- hn] at hle HR |-;have Hn:=hid hn;clear ha hc hb1 hn;go_enter Tryz.func70,Tryz.ntmps70;go_wp2_with fail;with_reducible refine (yBC _ _ _ _ Hc.out.1 Hc.out.2).mono ?_
 rintro e w1 ⟨rfl,rfl⟩;by_cases h20:n<=20
 . have e1:=flB_short (c:=c9) (show xs.length<=20 by have:=Hn.out;omega)
   have E1:=hid e1;clear e1;go_wp2_with fail;with_reducible refine (containsStep_c c9 (hid Hc.out) (HB.out.cell 0 _ rfl) HB.out.lt HR.out).mono ?_
   rintro e w2 ⟨rfl,hb2⟩;have hb3:=Hb1.out.trans (hb2.mono Hb1.out.size);clear hb2;go_wp2;go_ret;exact ⟨yAD E1.out.symm,hb3⟩
 . have e1:=flB_long (c:=c9) (show ¬ xs.length<=20 by have:=Hn.out;omega)
   have E1:=hid e1;clear e1;go_wp2;go_ret;exact ⟨yAD E1.out.symm,Hb1.out⟩
open Go.Sort
structure StAt (w:World) (b off:Nat) (x:StepT):Prop where
 lt:b<w.heap.size
 c0:w.cell? ⟨b,off,none⟩=some (.int .i64 x.kd)
 c1:w.cell? ⟨b,off+1,none⟩=some (.int .i64 x.ta)
 c2:w.cell? ⟨b,off+2,none⟩=some (.int .i64 x.tb)
 c3:w.cell? ⟨b,off+3,none⟩=some (.int .i64 x.tc)
 c4:w.cell? ⟨b,off+4,none⟩=some (.int .i64 x.ff)
 c5:w.cell? ⟨b,off+5,none⟩=some (.int .i64 x.ft)
 c6:w.cell? ⟨b,off+6,none⟩=some (.int .i64 x.sf)
 c7:w.cell? ⟨b,off+7,none⟩=some (.int .i64 x.st)
 c8:w.cell? ⟨b,off+8,none⟩=some (.string x.tx)
theorem StAt.below {w w':World} {b off:Nat} {x:StepT} {B:Nat} (h:StAt w b off x) (hb:Below B w w') (hB:b<B:=by omega):StAt w' b off x :=
 ⟨zM h.lt hb.size,(hb.cell (p:=⟨b,off,none⟩) hB).trans h.c0,(hb.cell (p:=⟨b,off+1,none⟩) hB).trans h.c1,(hb.cell (p:=⟨b,off+2,none⟩) hB).trans h.c2,(hb.cell (p:=⟨b,off+3,none⟩) hB).trans h.c3,(hb.cell (p:=⟨b,off+4,none⟩) hB).trans h.c4,(hb.cell (p:=⟨b,off+5,none⟩) hB).trans h.c5,(hb.cell (p:=⟨b,off+6,none⟩) hB).trans h.c6,(hb.cell (p:=⟨b,off+7,none⟩) hB).trans h.c7,(hb.cell (p:=⟨b,off+8,none⟩) hB).trans h.c8⟩
theorem txt_empty2 {s:ByteArray} (h:s.size=0):(s.toList == [])=true:=by
 have:=txt_empty h;simpa using this
theorem txt_full2 {s:ByteArray} (h:¬ s.size=0):(s.toList == [])=false:=by
 have:=txt_full h;cases hd:s.toList with
 | nil=>rw [hd] at this;cases this
 | cons a b=>rfl
theorem StAt.on {w w':World} {b off:Nat} {x:StepT} (h:StAt w b off x) (hb:Below w.heap.size w w'):StAt w' b off x :=
 ⟨zM h.lt hb.size,(hb.cell (p:=⟨b,off,none⟩) h.lt).trans h.c0,(hb.cell (p:=⟨b,off+1,none⟩) h.lt).trans h.c1,(hb.cell (p:=⟨b,off+2,none⟩) h.lt).trans h.c2,(hb.cell (p:=⟨b,off+3,none⟩) h.lt).trans h.c3,(hb.cell (p:=⟨b,off+4,none⟩) h.lt).trans h.c4,(hb.cell (p:=⟨b,off+5,none⟩) h.lt).trans h.c5,(hb.cell (p:=⟨b,off+6,none⟩) h.lt).trans h.c6,(hb.cell (p:=⟨b,off+7,none⟩) h.lt).trans h.c7,(hb.cell (p:=⟨b,off+8,none⟩) h.lt).trans h.c8⟩
theorem l15Step_c (x:StepT) (c9:Int) (b off:Nat) (w:World) (a:okStep x) (hc:1<=c9/\c9<=20) (hA:StAt w b off x) :
 Calls Tryz.prog 41 #[.pointer (some ⟨b,off,none⟩),.int .i64 c9] w fun e w'=>e=.returned (.bool (stB x c9))/\Below w.heap.size w w':=by
 have Hc:=hid hc;have Ha:=hid a;have HA:=hid hA;have a0:=hA.c0;have a1:=hA.c1;have a2:=hA.c2;have a3:=hA.c3;have a4:=hA.c4;have a5:=hA.c5;clear a hc hA;go_enter Tryz.func41,Tryz.ntmps41;by_cases k_kd:1<=x.kd/\x.kd<=7
 case neg =>
  have K:=hid k_kd;have k2:x.kd<1\/7<x.kd:=by omega
  have K2:=hid k2;clear k2;clear k_kd;go_wp2_with fail;with_reducible refine (l00In_no _ _ _ _ K2.out).mono ?_
  rintro e w1 ⟨rfl,rfl⟩;go_wp2;go_ret;exact ⟨yAD (yBA fun h=>K.out h.kd).symm,zB _ _⟩
 have K_kd:=hid k_kd;clear k_kd;go_wp2_with fail;with_reducible refine (yBI _ _ _ _ K_kd.out.1 K_kd.out.2).mono ?_
 rintro e w1 ⟨rfl,rfl⟩;by_cases k_ta:trayP x.ta
 case neg =>
  have K:=hid k_ta;clear k_ta;go_wp2_with fail;with_reducible refine (l15Tray_no _ _ K.out).mono ?_
  rintro e w1 ⟨rfl,rfl⟩;go_wp2;go_ret;exact ⟨yAD (yBA fun h=>K.out h.ta).symm,zB _ _⟩
 have K_ta:=hid k_ta;clear k_ta;go_wp2_with fail;with_reducible refine (l15Tray_yes _ _ K_ta.out).mono ?_
 rintro e w1 ⟨rfl,rfl⟩;by_cases k_tb:trayP x.tb
 case neg =>
  have K:=hid k_tb;clear k_tb;go_wp2_with fail;with_reducible refine (l15Tray_no _ _ K.out).mono ?_
  rintro e w1 ⟨rfl,rfl⟩;go_wp2;go_ret;exact ⟨yAD (yBA fun h=>K.out h.tb).symm,zB _ _⟩
 have K_tb:=hid k_tb;clear k_tb;go_wp2_with fail;with_reducible refine (l15Tray_yes _ _ K_tb.out).mono ?_
 rintro e w1 ⟨rfl,rfl⟩;by_cases k_tc:trayP x.tc
 case neg =>
  have K:=hid k_tc;clear k_tc;go_wp2_with fail;with_reducible refine (l15Tray_no _ _ K.out).mono ?_
  rintro e w1 ⟨rfl,rfl⟩;go_wp2;go_ret;exact ⟨yAD (yBA fun h=>K.out h.tc).symm,zB _ _⟩
 have K_tc:=hid k_tc;clear k_tc;go_wp2_with fail;with_reducible refine (l15Tray_yes _ _ K_tc.out).mono ?_
 rintro e w1 ⟨rfl,rfl⟩;go_wp2_with fail;with_reducible refine (yBR x.ff x.ft c9 _ (by have:=Hc.out;omega)).mono ?_
 by_cases kf:fieldP x.ff x.ft c9
 case neg =>
  have K:=hid kf;rw [decide_eq_false kf];clear kf;rintro e w1 ⟨rfl,hb⟩;clear a0 a1 a2 a3 a4 a5;go_wp2;go_ret;exact ⟨yAD (yBA fun h=>K.out h.ff).symm,hb⟩
 have Kf:=hid kf;rw [decide_eq_true kf];clear kf;rintro e w1 ⟨rfl,hb⟩;have HA1:=hid (HA.out.on hb);have HB1:=hid hb;clear a0 a1 a2 a3 a4 a5 HA hb;have a0:=HA1.out.c0;have a2:=HA1.out.c2;go_upto_region 3 with fail;go_cut [56] (fun c wx=>c=.bool (decide (¬ (x.tb=0\/twoP x.kd)))/\wx=w1)
 case first =>
  by_cases k2:x.tb=0
  . have q2:(x.tb != 0)=false:=by simpa using k2
    have K2:=hid k2;clear k2;go_wp2_with fail;go_meet;exact ⟨congrArg Value.bool (decide_eq_false (fun h=>h (.inl K2.out))).symm,rfl⟩
  . have q2:(x.tb != 0)=true:=by simpa using k2
    have K0:=hid k2;clear k2;by_cases k2:twoP x.kd
    . have K2:=hid k2
      clear k2;go_wp2_with fail;with_reducible refine (l15Both_yes _ _ K2.out).mono ?_
      rintro e w1 ⟨rfl,rfl⟩;go_wp2_with fail;go_meet;exact ⟨congrArg Value.bool (decide_eq_false (fun h=>h (.inr K2.out))).symm,rfl⟩
    . have K2:=hid k2
      clear k2;go_wp2_with fail;with_reducible refine (l15Both_no _ _ K2.out).mono ?_
      rintro e w1 ⟨rfl,rfl⟩;go_wp2_with fail;go_meet;exact ⟨congrArg Value.bool (decide_eq_true (p:=¬ (x.tb=0\/twoP x.kd)) (fun h=>h.elim K0.out K2.out)).symm,rfl⟩
 case rest =>
  obtain ⟨rfl,hwc⟩:=hcut;subst hwc;by_cases k2:x.tb=0\/twoP x.kd
  case neg =>
   have K:=hid k2;rw [decide_eq_true (p:=¬ (x.tb=0\/twoP x.kd)) k2];clear k2;go_wp2;go_ret;exact ⟨yAD (yBA fun h=>K.out h.b0).symm,HB1.out⟩
  rw [decide_eq_false (p:=¬ (x.tb=0\/twoP x.kd)) (fun h=>h k2)];have K2:=hid k2;clear k2;have hsz:=Ha.out.2.2.2.2.2.2.2.2;have a3:=HA1.out.c3;have a4:=HA1.out.c4;have a5:=HA1.out.c5;have a6:=HA1.out.c6;have a7:=HA1.out.c7;have a8:=HA1.out.c8;by_cases k7:x.kd=7
  case pos =>
   have q7:(x.kd == 7)=true:=by simpa using k7
   have q5:¬ x.kd=5:=by omega
   have K7:=hid k7;have K5:=hid q5;clear k7 q5;go_upto_region 6 with fail;have g0:=cell_regrown HA1.out.c0;have g1:=cell_regrown HA1.out.c1;have g2:=cell_regrown HA1.out.c2;have g3:=cell_regrown HA1.out.c3;have g4:=cell_regrown HA1.out.c4;have g5:=cell_regrown HA1.out.c5;have g6:=cell_regrown HA1.out.c6;have g7:=cell_regrown HA1.out.c7;have g8:=cell_regrown HA1.out.c8;clear a0 a2 a3 a4 a5 a6 a7 a8;by_cases k3:x.tc=0
   case neg =>
    have q3:(x.tc == 0)=false:=by simpa using k3
    have K3:=hid k3;clear k3;refine wp_region_quiet_below (by kernel_rfl) (by kernel_rfl) ?_;repeat ((with_reducible refine wpQuiet_step (fun K hK=>?_));go_simp;first | ((with_reducible refine hK _ ?_);clear hK K) | ((with_reducible rw [if_neg]);rotate_left;(intro hgd;cases hgd);(with_reducible refine hK _ ?_);clear hK K) | (apply Exists.intro;refine ⟨fun _=>?_,hK _ ?_⟩;((fail));clear hK K))
    refine wpQuiet_nil ?_;intro _ hw';obtain ⟨⟨dq,osq⟩,hw''⟩:=hw';subst hw'';have hbq:=below_regrown wc dq osq;generalize grow (redrawn wc dq) osq=wq at hbq |-;have HQ:=hid (HB1.out.trans (hbq.mono HB1.out.size));clear hbq g0 g1 g2 g3 g4 g5 g6 g7 g8;go_wp2;go_ret;exact ⟨yAD (yBA fun h=>h.c0.elim K3.out (fun e=>e K7.out)).symm,HQ.out⟩
   have q3:(x.tc == 0)=true:=by simpa using k3
   have K3:=hid k3;clear k3;by_cases ks:fieldP x.sf x.st c9
   case neg =>
    have hfd:∀ d os,Calls Tryz.prog 82 #[.agg #[.int .i64 x.sf,.int .i64 x.st],.int .i64 c9] (grow (redrawn wc d) os) fun e w'=>e=.returned (.bool false)/\Below (grow (redrawn wc d) os).heap.size (grow (redrawn wc d) os) w':=fun d os=>by have h:=yBR x.sf x.st c9 (grow (redrawn wc d) os) (by have:=Hc.out;omega);rw [decide_eq_false ks] at h;exact h
    have Hfd:=hid hfd;have Ks:=hid ks;clear ks hfd;refine wp_region_quiet_below (by kernel_rfl) (by kernel_rfl) ?_;repeat ((with_reducible refine wpQuiet_step (fun K hK=>?_));go_simp;first | ((with_reducible refine hK _ ?_);clear hK K) | ((with_reducible rw [if_neg]);rotate_left;(intro hgd;cases hgd);(with_reducible refine hK _ ?_);clear hK K) | (apply Exists.intro;refine ⟨fun _=>?_,hK _ ?_⟩;((first | (go_at_call 82;with_reducible exact yAI (Hfd.out _ _))));clear hK K))
    refine wpQuiet_nil ?_;intro _ hw';obtain ⟨⟨dq,osq⟩,hw''⟩:=hw';subst hw'';have hbq:=below_regrown wc dq osq;generalize grow (redrawn wc dq) osq=wq at hbq |-;have HQ:=hid (HB1.out.trans (hbq.mono HB1.out.size));clear hbq g0 g1 g2 g3 g4 g5 g6 g7 g8;go_wp2;go_ret;exact ⟨yAD (yBA fun h=>Ks.out (h.sum K7.out).1).symm,HQ.out⟩
   have hfd:∀ d os,Calls Tryz.prog 82 #[.agg #[.int .i64 x.sf,.int .i64 x.st],.int .i64 c9] (grow (redrawn wc d) os) fun e w'=>e=.returned (.bool true)/\Below (grow (redrawn wc d) os).heap.size (grow (redrawn wc d) os) w':=fun d os=>by have h:=yBR x.sf x.st c9 (grow (redrawn wc d) os) (by have:=Hc.out;omega);rw [decide_eq_true ks] at h;exact h
   have Hfd:=hid hfd;have hwr:IntKind.i64.wrap (x.st - x.sf)=x.st - x.sf:=IntWalk.i64_in _ (by have:=Hc.out;unfold fieldP at ks;omega);have Ks:=hid ks;clear ks hfd;by_cases kl:x.st - x.sf<=12
   case neg =>
    have ql:decide (x.st - x.sf<=12)=false:=decide_eq_false kl;have Kl:=hid kl;clear kl;refine wp_region_quiet_below (by kernel_rfl) (by kernel_rfl) ?_;repeat ((with_reducible refine wpQuiet_step (fun K hK=>?_));go_simp;first | ((with_reducible refine hK _ ?_);clear hK K) | ((with_reducible rw [if_neg]);rotate_left;(intro hgd;cases hgd);(with_reducible refine hK _ ?_);clear hK K) | (apply Exists.intro;refine ⟨fun _=>?_,hK _ ?_⟩;((first | (go_at_call 82;with_reducible exact yAI (Hfd.out _ _))));clear hK K))
    refine wpQuiet_nil ?_;intro _ hw';obtain ⟨⟨dq,osq⟩,hw''⟩:=hw';subst hw'';have hbq:=below_regrown wc dq osq;generalize grow (redrawn wc dq) osq=wq at hbq |-;have HQ:=hid (HB1.out.trans (hbq.mono HB1.out.size));clear hbq g0 g1 g2 g3 g4 g5 g6 g7 g8;go_wp2;go_ret;exact ⟨yAD (yBA fun h=>(by have h1:=Kl.out;have h2:=(h.sum K7.out).2;omega)).symm,HQ.out⟩
   have ql:decide (x.st - x.sf<=12)=true:=decide_eq_true kl;have Kl:=hid kl;clear kl;by_cases k8:x.tx.size=0
   case neg =>
    have q8:=txt_full k8;have q9:=txt_full2 k8;have K8:=hid k8;clear k8;refine wp_region_quiet_below (by kernel_rfl) (by kernel_rfl) ?_;repeat ((with_reducible refine wpQuiet_step (fun K hK=>?_));go_simp;first | ((with_reducible refine hK _ ?_);clear hK K) | ((with_reducible rw [if_neg]);rotate_left;(intro hgd;cases hgd);(with_reducible refine hK _ ?_);clear hK K) | (apply Exists.intro;refine ⟨fun _=>?_,hK _ ?_⟩;((first | (go_at_call 82;with_reducible exact yAI (Hfd.out _ _))));clear hK K))
    refine wpQuiet_nil ?_;intro _ hw';obtain ⟨⟨dq,osq⟩,hw''⟩:=hw';subst hw'';have hbq:=below_regrown wc dq osq;generalize grow (redrawn wc dq) osq=wq at hbq |-;have HQ:=hid (HB1.out.trans (hbq.mono HB1.out.size));clear hbq g0 g1 g2 g3 g4 g5 g6 g7 g8;go_wp2;go_ret;exact ⟨yAD (yBA fun h=>K8.out (h.notx K5.out)).symm,HQ.out⟩
   have q8:=txt_empty k8;have q9:=txt_empty2 k8;have K8:=hid k8;clear k8;refine wp_region_quiet_below (by kernel_rfl) (by kernel_rfl) ?_;repeat ((with_reducible refine wpQuiet_step (fun K hK=>?_));go_simp;first | ((with_reducible refine hK _ ?_);clear hK K) | ((with_reducible rw [if_neg]);rotate_left;(intro hgd;cases hgd);(with_reducible refine hK _ ?_);clear hK K) | (apply Exists.intro;refine ⟨fun _=>?_,hK _ ?_⟩;((first | (go_at_call 82;with_reducible exact yAI (Hfd.out _ _))));clear hK K))
   refine wpQuiet_nil ?_;intro _ hw';obtain ⟨⟨dq,osq⟩,hw''⟩:=hw';subst hw'';have hbq:=below_regrown wc dq osq;generalize grow (redrawn wc dq) osq=wq at hbq |-;have HQ:=hid (HB1.out.trans (hbq.mono HB1.out.size));clear hbq g0 g1 g2 g3 g4 g5 g6 g7 g8;go_wp2;go_ret;exact ⟨yAD (stB_yes ⟨K_kd.out,K_ta.out,K_tb.out,K_tc.out,K2.out,.inl K3.out,Kf.out,fun _=>⟨Ks.out,Kl.out⟩,fun e=>absurd K7.out e,fun e=>absurd e K5.out,fun _=>K8.out⟩).symm,HQ.out⟩
  have q7:(x.kd == 7)=false:=by simpa using k7
  have K7:=hid k7;clear k7;by_cases s1:x.sf=0
  case neg =>
   have r1:(x.sf == 0)=false:=by simpa using s1
   have S1:=hid s1;clear s1;go_wp2;go_ret;exact ⟨yAD (yBA fun h=>S1.out (h.nosum K7.out).1).symm,HB1.out⟩
  by_cases s2:x.st=0
  case neg =>
   have r1:(x.sf == 0)=true:=by simpa using s1
   have r2:(x.st == 0)=false:=by simpa using s2
   have S2:=hid s2;clear s1 s2;go_wp2;go_ret;exact ⟨yAD (yBA fun h=>S2.out (h.nosum K7.out).2).symm,HB1.out⟩
  have r1:(x.sf == 0)=true:=by simpa using s1
  have r2:(x.st == 0)=true:=by simpa using s2
  have S1:=hid s1;have S2:=hid s2;clear s1 s2;by_cases k5:x.kd=5
  case pos =>
   have q5:(x.kd == 5)=true:=by simpa using k5
   have K5:=hid k5;clear k5;obtain ⟨t,ht⟩:∃ t,t=txC x.tx x.ff x.ft:=⟨_,rfl⟩;have htx:∀ d os,Calls Tryz.prog 83 #[.string x.tx,.agg #[.int .i64 x.ff,.int .i64 x.ft]] (grow (redrawn wc d) os) fun e w'=>e=.returned (.int .i64 t)/\Below (grow (redrawn wc d) os).heap.size (grow (redrawn wc d) os) w':=fun d os=>by have h:=l09Text_c x.tx x.ff x.ft (grow (redrawn wc d) os) hsz (by have:=Kf.out;have:=Hc.out;unfold fieldP at *;omega);rw [<- ht] at h;exact h
   have Htx:=hid htx;have Ht:=hid ht;clear ht htx;go_upto_region 10 with fail;have g0:=cell_regrown HA1.out.c0;have g1:=cell_regrown HA1.out.c1;have g2:=cell_regrown HA1.out.c2;have g3:=cell_regrown HA1.out.c3;have g4:=cell_regrown HA1.out.c4;have g5:=cell_regrown HA1.out.c5;have g6:=cell_regrown HA1.out.c6;have g7:=cell_regrown HA1.out.c7;have g8:=cell_regrown HA1.out.c8;clear a0 a2 a3 a4 a5 a6 a7 a8;refine wp_region_quiet_below (by kernel_rfl) (by kernel_rfl) ?_;repeat ((with_reducible refine wpQuiet_step (fun K hK=>?_));go_simp;first | ((with_reducible refine hK _ ?_);clear hK K) | ((with_reducible rw [if_neg]);rotate_left;(intro hgd;cases hgd);(with_reducible refine hK _ ?_);clear hK K) | (apply Exists.intro;refine ⟨fun _=>?_,hK _ ?_⟩;((first | (go_at_call 83;with_reducible exact yAI (Htx.out _ _))));clear hK K))
   refine wpQuiet_nil ?_;intro _ hw';obtain ⟨⟨dq,osq⟩,hw''⟩:=hw';subst hw'';have hbq:=below_regrown wc dq osq;generalize grow (redrawn wc dq) osq=wq at hbq |-;have HQ:=hid (HB1.out.trans (hbq.mono HB1.out.size));clear hbq g0 g1 g2 g3 g4 g5 g6 g7 g8;go_wp2;go_ret;refine ⟨yAD ?_,HQ.out⟩;rw [Ht.out];unfold txC;by_cases he:(x.tx.size:Int)=x.ft - x.ff
   . rw [if_pos he]
     cases hq:chS x.tx with
     | true=>exact (stB_yes ⟨K_kd.out,K_ta.out,K_tb.out,K_tc.out,K2.out,.inr K7.out,Kf.out,fun e=>absurd e K7.out,fun _=>⟨S1.out,S2.out⟩,fun _=>⟨hq,he⟩,fun e=>absurd K5.out e⟩).symm
     | false=>exact (yBA fun h=>by have h9:=(h.tx K5.out).1;rw [hq] at h9;cases h9).symm
   . rw [if_neg he]
     exact (yBA fun h=>he (h.tx K5.out).2).symm
  have q5:(x.kd == 5)=false:=by simpa using k5
  have K5:=hid k5;clear k5;by_cases k8:x.tx.size=0
  . have q8:=txt_empty k8
    have K8:=hid k8;clear k8;go_wp2;go_ret;exact ⟨yAD (stB_yes ⟨K_kd.out,K_ta.out,K_tb.out,K_tc.out,K2.out,.inr K7.out,Kf.out,fun e=>absurd e K7.out,fun _=>⟨S1.out,S2.out⟩,fun e=>absurd e K5.out,fun _=>K8.out⟩).symm,HB1.out⟩
  . have q8:=txt_full k8
    have K8:=hid k8;clear k8;go_wp2;go_ret;exact ⟨yAD (yBA fun h=>K8.out (h.notx K5.out)).symm,HB1.out⟩
theorem l15Flow_c {xs:List StepT} {v:Value} {w:World} {A:Nat} (c9:Int) (hc:C9 c9) (ha:RdStepS A w v xs) :
 Calls Tryz.prog 72 #[v,.int .i64 c9] w fun e w'=>e=.returned (.bool (flB xs c9))/\Below w.heap.size w w':=by
 have hle:=ha.le;have Hc:=hid hc;obtain ⟨ao,cap,rfl,ho⟩:=yBG ha;obtain ⟨n,hn⟩:∃ n,n=xs.length:=⟨_,rfl⟩;rw [<- hn] at hle ho |-;have Hn:=hid hn;have Ho:=hid ho;clear ho hn ha hc;go_enter Tryz.func72,Tryz.ntmps72;go_wp2;go_loopw [5] (fun i wr=>∃ k:Nat,k<=n/\i=.int .i64 k/\Hid ((xs.take k).any (badS c9)=false)/\Below w.heap.size w wr) (fun i _=>n - (intOf i).toNat)
 case atStart=>exact ⟨0,zK _,rfl,rfl,zB _ _⟩
 case round =>
  obtain ⟨k,hk,rfl,hp,hbb⟩:=hrel;by_cases hkn:k<n
  . obtain ⟨b,off,rfl,hlt,hcc⟩:=Ho.out (by omega)
    obtain ⟨x,hx,⟨c0,c1,c2,c3,c4,c5,c6,c7,c8⟩,bx⟩:=hcc k hkn;have hA:StAt w b (off+k * 9) x:=⟨hlt.2,c0,c1,c2,c3,c4,c5,c6,c7,c8⟩;have HA:=hid (hA.below hbb hlt.2);have Hx:=hid hx;have Hbx:=hid bx;have Hb:=hid hbb;clear hx hcc bx c0 c1 c2 c3 c4 c5 c6 c7 c8 hA hbb;go_wp2_with fail;with_reducible refine (l15Step_c x c9 b (off+k * 9) wr Hbx.out Hc.out HA.out).mono ?_
    cases hq:stB x c9 with
    | true =>
     have Hq:=hid hq;clear hq;rintro e w1 ⟨rfl,hb1⟩;have hb2:=Hb.out.trans (hb1.mono Hb.out.size);clear hb1 Hb HA;go_wp2;go_roundw
     case rel=>exact ⟨k+1,by omega,by go_num,by show _=false;rw [yAE Hx.out,List.any_append,hp.out];simp [badS,Hq.out],hb2⟩
     case measure=>simp [intOf];omega
    | false =>
     have Hq:=hid hq;clear hq;rintro e w1 ⟨rfl,hb1⟩;have hb2:=Hb.out.trans (hb1.mono Hb.out.size);clear hb1 Hb HA;go_wp2;go_ret;exact ⟨yAD (flB_bad Hx.out Hq.out).symm,hb2⟩
  . have e1:flB xs c9=decide (n<=20):=by
     have h1:=hp.out;rw [zH (by have:=Hn.out;omega)] at h1;rw [flB_all h1,Hn.out]
    have E1:=hid e1;clear e1;go_wp2;go_ret;exact ⟨yAD (by rw [E1.out];exact decide_eq_decide.2 (by omega)),hbb⟩
abbrev UM:=(Int->Bool) × (Int->Bool)
def addT (U:Int->Bool) (t:Int) (b:Bool):Int->Bool:=fun n=>U n || (b && n == t)
def step1 (s:UM) (x:StepT):UM:=(addT s.1 x.ta (!s.2 x.ta),s.2)
def step2 (s:UM) (x:StepT):UM:=if twoP x.kd then (addT s.1 x.tb (!s.2 x.tb),s.2) else s
def step3 (s:UM) (x:StepT):UM:=if x.kd=7 then s else (s.1,addT s.2 x.tc true)
def stepU (s:UM) (x:StepT):UM:=step3 (step2 (step1 s x) x) x
def usesF (xs:List StepT):UM:=xs.foldl stepU (fun _=>false,fun _=>false)
theorem usesF_snoc {xs:List StepT} {k:Nat} {x:StepT} (h:xs[k]?=some x):usesF (xs.take (k+1))=stepU (usesF (xs.take k)) x:=by
 unfold usesF;rw [yAE h,List.foldl_append];rfl
def tray6 (U:Int->Bool):List Value:=[.bool (U 0),.bool (U 1),.bool (U 2),.bool (U 3),.bool (U 4),.bool (U 5)]
theorem tray6_at (U:Int->Bool) {t:Int} (h:trayP t):(tray6 U)[t.toNat]?=some (.bool (U t)):=by
 have hh:t=0\/t=1\/t=2\/t=3\/t=4\/t=5:=by unfold trayP at h;omega
 rcases hh with rfl | rfl | rfl | rfl | rfl | rfl <;> rfl
theorem tray6_set (U:Int->Bool) {t:Int} (b:Bool) (h:trayP t):(tray6 U).set t.toNat (.bool (U t || b))=tray6 (addT U t b):=by
 have hh:t=0\/t=1\/t=2\/t=3\/t=4\/t=5:=by unfold trayP at h;omega
 rcases hh with rfl | rfl | rfl | rfl | rfl | rfl <;> simp [tray6,addT]
def tab6 (b0 b1 b2 b3 b4 b5:Bool):Int->Bool:=fun n=>if n=0 then b0 else if n=1 then b1 else if n=2 then b2 else if n=3 then b3 else if n=4 then b4 else if n=5 then b5 else false
theorem selI_congr {p q:Int->Bool}:∀ {k:Nat},(∀ i:Nat,i<k->p (i:Int)=q (i:Int))->selI p k=selI q k:=by
 intro k;induction k with
 | zero=>intro _;rfl
 | succ k ih=>intro h;rw [yAX,yAX,ih (fun i hi=>h i (by omega)),h k (by omega)]
theorem sel6 (U:Int->Bool):selI U 6=selI (tab6 (U 0) (U 1) (U 2) (U 3) (U 4) (U 5)) 6:=by
 refine selI_congr fun i hi=>?_;have hh:i=0\/i=1\/i=2\/i=3\/i=4\/i=5:=by omega
 rcases hh with rfl | rfl | rfl | rfl | rfl | rfl <;> rfl
theorem put_tab:∀ (b0 b1 b2 b3 b4 b5:Bool) (a:Fin 6),putL (selI (tab6 b0 b1 b2 b3 b4 b5) 6) (a.val:Int)=selI (addT (tab6 b0 b1 b2 b3 b4 b5) (a.val:Int) true) 6:=by decide +kernel
theorem put_sel (U:Int->Bool) {t:Int} (h:trayP t):putL (selI U 6) t=selI (addT U t true) 6:=by
 obtain ⟨n,rfl⟩:=zG h.1;have hn:n<6:=by have:=h.2;omega
 rw [sel6 U,put_tab _ _ _ _ _ _ ⟨n,hn⟩];refine selI_congr fun i hi=>?_;unfold addT;have hh:i=0\/i=1\/i=2\/i=3\/i=4\/i=5:=by omega
 rcases hh with rfl | rfl | rfl | rfl | rfl | rfl <;> rfl
theorem add_false (U:Int->Bool) (t:Int):addT U t false=U:=by funext n;unfold addT;simp
theorem has_snoc (xs:List Int) (t n:Int):hasI (xs++[t]) n=(hasI xs n || n == t):=by
 unfold hasI;rw [List.contains_eq_any_beq,List.any_append,<- List.contains_eq_any_beq];simp
theorem yBD (s:UM) (x:StepT):stepU s x=(if x.kd=7 then step2 (step1 s x) x else ((step2 (step1 s x) x).1,addT (step2 (step1 s x) x).2 x.tc true)):=rfl
theorem yBN {s:UM} {x:StepT} (h:twoP x.kd):step2 s x=(addT s.1 x.tb (!s.2 x.tb),s.2):=if_pos h
theorem step2_one {s:UM} {x:StepT} (h:¬ twoP x.kd):step2 s x=s:=if_neg h
def UseC (xs:List StepT):Int:=if flB xs 20=true then 0 else 2
def UseR (xs:List StepT):List Int:=if flB xs 20=true then selI (usesF xs).1 6 else []
def ApartU (v u:Value):Prop:=v.ownBlock=none\/v.ownBlock ≠ u.ownBlock
theorem ApartU.new {v u:Value} {B:Nat} (h1:∀ k,v.ownBlock=some k->B<=k) (h2:∀ k,u.ownBlock=some k->k<B):ApartU v u:=by
 unfold ApartU;cases hv:v.ownBlock with
 | none=>exact .inl rfl
 | some g =>
  refine .inr fun e=>?_;have a:=h1 g hv;have b:=h2 g e.symm;omega
theorem ApartU.grew {v u u':Value} {w w':World} (h:ApartU v u) (hv:∀ k,v.ownBlock=some k->k<w.heap.size) (hg:Grew w w' u u'):ApartU v u':=by
 rcases h with h | h
 . exact .inl h
 . cases hq:v.ownBlock with
   | none=>exact .inl hq
   | some g =>
    refine .inr fun e=>?_;rcases hg.2 with h2 | ⟨k,h2,h3⟩
    . exact h (by rw [e,h2])
    . rw [hq] at e
      rw [h2] at e;have:=hv g hq;have h4:g=k:=by injection e
      omega
theorem step1_put {s:UM} {x:StepT} (h:s.2 x.ta=false):(step1 s x).1=addT s.1 x.ta true:=by unfold step1;rw [h];rfl
theorem step1_skip {s:UM} {x:StepT} (h:s.2 x.ta=true):(step1 s x).1=s.1:=by unfold step1;rw [h];exact add_false _ _
theorem sFlowUses_c {xs:List StepT} {v:Value} {w:World} {A:Nat} (ha:RdStepS A w v xs) :
 Calls Tryz.prog 73 #[v] w fun e w'=>∃ u,e=.returned (.tuple #[u,.int .i64 (UseC xs)])/\OwnInt64S w.heap.size w' u (UseR xs)/\Below w.heap.size w w':=by
 obtain ⟨i0,hi,hz0,hz1,hz2⟩:=info_parts Tryz.infoInt64;have hle:=ha.le;have Ha:=hid ha;obtain ⟨ao,cap,rfl,ho⟩:=yBG ha;obtain ⟨n,hn⟩:∃ n,n=xs.length:=⟨_,rfl⟩;rw [<- hn] at Ha hle ho |-;have Hn:=hid hn;have Ho:=hid ho;clear ho hn ha;cases hf:flB xs 20 with
 | false =>
  have e1:UseC xs=2:=by unfold UseC;rw [hf];rfl
  have e2:UseR xs=[]:=by unfold UseR;rw [hf];rfl
  rw [e1,e2];have Hf:=hid hf;clear e1 e2 hf;go_enter Tryz.func73,Tryz.ntmps73;go_wp2_with fail;with_reducible refine (l15Flow_c 20 ⟨by decide,by decide⟩ Ha.out).mono ?_
  rw [Hf.out];rintro e w1 ⟨rfl,hb⟩;go_wp2;go_ret2;exact ⟨_,rfl,Own.nil _ _ _ _,hb⟩
 | true =>
  have e1:UseC xs=0:=by unfold UseC;rw [hf];rfl
  have e2:UseR xs=selI (usesF xs).1 6:=by unfold UseR;rw [hf];rfl
  rw [e1,e2];have Hfp:=hid (flB_parts hf);have hn20:n<=20:=by have:=Hfp.out.1;have:=Hn.out;omega
  have Hf:=hid hf;clear e1 e2 hf;go_enter Tryz.func73,Tryz.ntmps73;go_wp2_with fail;with_reducible refine (l15Flow_c 20 ⟨by decide,by decide⟩ Ha.out).mono ?_
  rw [Hf.out];rintro e w1 ⟨rfl,hb⟩;have h0:OwnInt64S w.heap.size ((w1.alloc (.cells #[] 2)).alloc (.cells #[] 2)) (.slice (some ⟨w1.heap.size,0,none⟩) 0 0) []:=(Own.lit (E:=eI) (xs:=[]) (cs:=#[]) hb.size rfl rfl (by decide) (fun x hx=>by cases hx)).alloc _;have h1:OwnInt64S w.heap.size ((w1.alloc (.cells #[] 2)).alloc (.cells #[] 2)) (.slice (some ⟨w1.heap.size+1,0,none⟩) 0 0) []:=by
   have h:=Own.lit (E:=eI) (e:=2) (w:=w1.alloc (.cells #[] 2)) (xs:=[]) (cs:=#[]) (n:=0) (base:=w.heap.size) (by have:=hb.size;simp;omega) rfl rfl (by decide) (fun x hx=>by cases hx);simpa using h
  have hb0:Below w.heap.size w ((w1.alloc (.cells #[] 2)).alloc (.cells #[] 2)):=(hb.alloc hb.size _).alloc (by have:=hb.size;simp;omega) _;have H0:=hid h0;have H1:=hid h1;have Hb0:=hid hb0;clear h0 h1 hb0 hb;go_wp2_with fail;go_loopw [4,5,6] (fun v f i wr=>∃ (k:Nat) (F:List Int),k<=n/\i=.int .i64 k/\Hid (∀ t,hasI F t=(usesF (xs.take k)).2 t)/\F.length<=k/\OwnInt64S w.heap.size wr v (selI (usesF (xs.take k)).1 6)/\OwnInt64S w.heap.size wr f F/\ApartU v f/\Below w.heap.size w wr) (fun _ _ i _=>n - (intOf i).toNat)
  case atStart=>exact ⟨0,[],zK _,rfl,(fun t=>rfl),zA _,H0.out,H1.out,.inr (by intro h;simp [Value.ownBlock] at h),Hb0.out⟩
  case round =>
   obtain ⟨k,F,hk,rfl,hF,hFl,hown,hfil,hap,hbb⟩:=hrel;clear H0 H1 Hb0;by_cases hkn:k<n
   . obtain ⟨b,off,rfl,hlt,hcc⟩:=Ho.out (by omega)
     obtain ⟨x,hx,⟨c0,c1,c2,c3,c4,c5,c6,c7,c8⟩,bx⟩:=hcc k hkn;have hA:StAt w b (off+k * 9) x:=⟨hlt.2,c0,c1,c2,c3,c4,c5,c6,c7,c8⟩;have HA:=hid (hA.below hbb hlt.2);have Hx:=hid hx;have Hok:=hid (Hfp.out.2 x (zC hx));have Hbx:=hid bx;have Hqa:Hid (eI.ok x.ta):=hid (by have:=bx;unfold okStep at this;exact this.2.1);have Hqb:Hid (eI.ok x.tb):=hid (by have:=bx;unfold okStep at this;exact this.2.2.1);have Hs:=hid (usesF_snoc hx);obtain ⟨s,hs⟩:∃ s,usesF (xs.take k)=s:=⟨_,rfl⟩;rw [hs] at hF hown;have Hse:=hid hs;have hF1:=hF.out;have Hb:=hid hbb;have Hown:=hid hown;have Hfil:=hid hfil;have Hap:=hid hap;have a0:=HA.out.c0;have a1:=HA.out.c1;have a2:=HA.out.c2;have a3:=HA.out.c3;clear hx hcc bx c0 c1 c2 c3 c4 c5 c6 c7 c8 hA hs hbb hown hfil hap;go_wp2_with fail;with_reducible refine (l00Has_c x.ta Hfil.out.rds).mono ?_
     cases hm:s.2 x.ta with
     | true =>
      have hm2:hasI F x.ta=true:=by rw [hF1,hm]
      rw [hm2];have Hm:=hid hm;clear hm hm2 hF1;rintro e w2 ⟨rfl,rfl⟩;have Hown1:Hid (OwnInt64S w.heap.size wr _ (selI (step1 s x).1 6)):=hid (by rw [step1_skip Hm.out];exact Hown.out);have Hb1:=Hb;have Hfil1:=Hfil;have Hap1:=Hap;clear Hown Hb Hfil Hap;have hF1:∀ t,hasI F t=(step1 s x).2 t:=hF.out;generalize hs1:step1 s x=s1 at hF1 Hown1;have Hs1:=hid hs1;clear hs1;by_cases h2:twoP x.kd
      . have H2:=hid h2
        clear h2;go_wp2_with fail;with_reducible refine (l15Both_yes _ _ H2.out).mono ?_
        rintro e w9 ⟨rfl,rfl⟩;go_wp2_with fail;with_reducible refine (l00Has_c x.tb Hfil1.out.rds).mono ?_
        cases hm:s1.2 x.tb with
        | true =>
         have hm2:hasI F x.tb=true:=by rw [hF1,hm]
         rw [hm2];have Hm2:=hid hm;have HF1:=hid hF1;clear hm hm2 hF1;rintro e w9 ⟨rfl,rfl⟩;have Hown2:Hid (OwnInt64S w.heap.size wr _ (selI (step2 s1 x).1 6)):=hid (by rw [yBN H2.out];dsimp only;rw [Hm2.out];rw [show (!true)=false from rfl,add_false];exact Hown1.out);have Hb2:=Hb1;have Hfil2:=Hfil1;have Hap2:=Hap1;have HF2:Hid (∀ t,hasI F t=(step2 s1 x).2 t):=hid (by rw [yBN H2.out];exact HF1.out);clear Hown1 Hb1 Hfil1 Hap1;by_cases h7:x.kd=7
         . have q7:(x.kd != 7)=false:=by simpa using h7
           have Hst:Hid (usesF (xs.take (k+1))=step2 s1 x):=hid (by rw [Hs.out,Hse.out,yBD,if_pos h7,Hs1.out]);clear h7;go_wp2;go_roundw
           case rel=>exact ⟨k+1,F,by omega,by go_num,(by rw [Hst.out];exact HF2.out),by omega,(by rw [Hst.out];exact Hown2.out),Hfil2.out,Hap2.out,Hb2.out⟩
           case measure=>simp [intOf];omega
         . have q7:(x.kd != 7)=true:=by simpa using h7
           have Hst:Hid (usesF (xs.take (k+1))=((step2 s1 x).1,addT (step2 s1 x).2 x.tc true)):=hid (by rw [Hs.out,Hse.out,yBD,if_neg h7,Hs1.out]);have Hqp:eI.ok x.tc:=by have:=Hbx.out;unfold okStep at this;exact this.2.2.2.1
           have hsz:=Hb2.out.size;clear h7;go_wp2_with (first | (at_builtin;refine yAB (E:=eI) rfl _ _ 29 rfl Tryz.underlying29 hi hz0 hz1 hz2 rfl (by decide) rfl rfl (Hfil2.out.alloc _) (yAJ (E:=eI) (x:=x.tc) Hqp rfl) ?b1 ?b2 ?b3 ?_))
           case b1=>unfold maxLen;(try simp);omega
           case b2=>(try simp);omega
           case b3=>(try simp);omega
           intro v' w7 hown3 hg3;have hb3:Below w.heap.size w w7:=hg3.alloc.below Hb2.out Hb2.out.size (fun j hj=>(Hfil2.out.lt j hj).1);have Hown3:=hid (Hown2.out.kept hg3.alloc.1 Hap2.out);have Hap3:=hid (Hap2.out.grew (fun q hq=>(Hown2.out.lt q hq).2) hg3.alloc);have Hfil3:=hid hown3;clear hg3 hown3 Hb2 Hfil2 Hap2 Hown2 a0 a1 a2 a3 HA;go_wp2;go_roundw
           case rel=>exact ⟨k+1,F++[x.tc],by omega,by go_num,(by rw [Hst.out];intro t;rw [has_snoc,HF2.out t];unfold addT;simp),by simp;omega,(by rw [Hst.out];exact Hown3.out),Hfil3.out,Hap3.out,hb3⟩
           case measure=>simp [intOf];omega
        | false =>
         have hm2:hasI F x.tb=false:=by rw [hF1,hm]
         rw [hm2];have Hm2:=hid hm;have HF1:=hid hF1;clear hm hm2 hF1;rintro e w9 ⟨rfl,rfl⟩;go_wp2_with fail;with_reducible refine (l00Put_c x.tb Hqb.out Hown1.out.rds (by have:=yBE s1.1 6;omega)).mono ?_
         rintro e w3 ⟨u3,rfl,hu,hb3⟩;have Hown2:Hid (OwnInt64S w.heap.size w3 u3 (selI (step2 s1 x).1 6)):=hid (by rw [yBN H2.out];dsimp only;rw [Hm2.out,show (!false)=true from rfl,<- put_sel s1.1 Hok.out.tb];exact hu.mono Hb1.out.size);have Hb2:=hid (Hb1.out.trans (hb3.mono Hb1.out.size));have Hfil2:=hid (Hfil1.out.below hb3 (zA _));have Hap2:Hid (ApartU u3 _):=hid (ApartU.new (B:=wr.heap.size) (fun q hq=>(hu.lt q hq).1) (fun q hq=>(Hfil1.out.lt q hq).2));have HA1:=hid (HA.out.on hb3);have HF2:Hid (∀ t,hasI F t=(step2 s1 x).2 t):=hid (by rw [yBN H2.out];exact HF1.out);clear hu hb3 Hown1 Hb1 Hfil1 Hap1 a0 a1 a2 a3 HA;have a0:=HA1.out.c0;have a1:=HA1.out.c1;have a2:=HA1.out.c2;have a3:=HA1.out.c3;have HA:=HA1;clear HA1;by_cases h7:x.kd=7
         . have q7:(x.kd != 7)=false:=by simpa using h7
           have Hst:Hid (usesF (xs.take (k+1))=step2 s1 x):=hid (by rw [Hs.out,Hse.out,yBD,if_pos h7,Hs1.out]);clear h7;go_wp2;go_roundw
           case rel=>exact ⟨k+1,F,by omega,by go_num,(by rw [Hst.out];exact HF2.out),by omega,(by rw [Hst.out];exact Hown2.out),Hfil2.out,Hap2.out,Hb2.out⟩
           case measure=>simp [intOf];omega
         . have q7:(x.kd != 7)=true:=by simpa using h7
           have Hst:Hid (usesF (xs.take (k+1))=((step2 s1 x).1,addT (step2 s1 x).2 x.tc true)):=hid (by rw [Hs.out,Hse.out,yBD,if_neg h7,Hs1.out]);have Hqp:eI.ok x.tc:=by have:=Hbx.out;unfold okStep at this;exact this.2.2.2.1
           have hsz:=Hb2.out.size;clear h7;go_wp2_with (first | (at_builtin;refine yAB (E:=eI) rfl _ _ 29 rfl Tryz.underlying29 hi hz0 hz1 hz2 rfl (by decide) rfl rfl (Hfil2.out.alloc _) (yAJ (E:=eI) (x:=x.tc) Hqp rfl) ?b1 ?b2 ?b3 ?_))
           case b1=>unfold maxLen;(try simp);omega
           case b2=>(try simp);omega
           case b3=>(try simp);omega
           intro v' w7 hown3 hg3;have hb3:Below w.heap.size w w7:=hg3.alloc.below Hb2.out Hb2.out.size (fun j hj=>(Hfil2.out.lt j hj).1);have Hown3:=hid (Hown2.out.kept hg3.alloc.1 Hap2.out);have Hap3:=hid (Hap2.out.grew (fun q hq=>(Hown2.out.lt q hq).2) hg3.alloc);have Hfil3:=hid hown3;clear hg3 hown3 Hb2 Hfil2 Hap2 Hown2 a0 a1 a2 a3 HA;go_wp2;go_roundw
           case rel=>exact ⟨k+1,F++[x.tc],by omega,by go_num,(by rw [Hst.out];intro t;rw [has_snoc,HF2.out t];unfold addT;simp),by simp;omega,(by rw [Hst.out];exact Hown3.out),Hfil3.out,Hap3.out,hb3⟩
           case measure=>simp [intOf];omega
      . have H2:=hid h2
        clear h2;go_wp2_with fail;with_reducible refine (l15Both_no _ _ H2.out).mono ?_
        rintro e w9 ⟨rfl,rfl⟩;have Hown2:Hid (OwnInt64S w.heap.size wr _ (selI (step2 s1 x).1 6)):=hid (by rw [step2_one H2.out];exact Hown1.out);have Hb2:=Hb1;have Hfil2:=Hfil1;have Hap2:=Hap1;have HF2:Hid (∀ t,hasI F t=(step2 s1 x).2 t):=hid (by rw [step2_one H2.out];exact hF1);clear Hown1 Hb1 Hfil1 Hap1 hF1;by_cases h7:x.kd=7
        . have q7:(x.kd != 7)=false:=by simpa using h7
          have Hst:Hid (usesF (xs.take (k+1))=step2 s1 x):=hid (by rw [Hs.out,Hse.out,yBD,if_pos h7,Hs1.out]);clear h7;go_wp2;go_roundw
          case rel=>exact ⟨k+1,F,by omega,by go_num,(by rw [Hst.out];exact HF2.out),by omega,(by rw [Hst.out];exact Hown2.out),Hfil2.out,Hap2.out,Hb2.out⟩
          case measure=>simp [intOf];omega
        . have q7:(x.kd != 7)=true:=by simpa using h7
          have Hst:Hid (usesF (xs.take (k+1))=((step2 s1 x).1,addT (step2 s1 x).2 x.tc true)):=hid (by rw [Hs.out,Hse.out,yBD,if_neg h7,Hs1.out]);have Hqp:eI.ok x.tc:=by have:=Hbx.out;unfold okStep at this;exact this.2.2.2.1
          have hsz:=Hb2.out.size;clear h7;go_wp2_with (first | (at_builtin;refine yAB (E:=eI) rfl _ _ 29 rfl Tryz.underlying29 hi hz0 hz1 hz2 rfl (by decide) rfl rfl (Hfil2.out.alloc _) (yAJ (E:=eI) (x:=x.tc) Hqp rfl) ?b1 ?b2 ?b3 ?_))
          case b1=>unfold maxLen;(try simp);omega
          case b2=>(try simp);omega
          case b3=>(try simp);omega
          intro v' w7 hown3 hg3;have hb3:Below w.heap.size w w7:=hg3.alloc.below Hb2.out Hb2.out.size (fun j hj=>(Hfil2.out.lt j hj).1);have Hown3:=hid (Hown2.out.kept hg3.alloc.1 Hap2.out);have Hap3:=hid (Hap2.out.grew (fun q hq=>(Hown2.out.lt q hq).2) hg3.alloc);have Hfil3:=hid hown3;clear hg3 hown3 Hb2 Hfil2 Hap2 Hown2 a0 a1 a2 a3 HA;go_wp2;go_roundw
          case rel=>exact ⟨k+1,F++[x.tc],by omega,by go_num,(by rw [Hst.out];intro t;rw [has_snoc,HF2.out t];unfold addT;simp),by simp;omega,(by rw [Hst.out];exact Hown3.out),Hfil3.out,Hap3.out,hb3⟩
          case measure=>simp [intOf];omega
     | false =>
      have hm2:hasI F x.ta=false:=by rw [hF1,hm]
      rw [hm2];have Hm:=hid hm;clear hm hm2 hF1;rintro e w2 ⟨rfl,rfl⟩;go_wp2_with fail;with_reducible refine (l00Put_c x.ta Hqa.out Hown.out.rds (by have:=yBE s.1 6;omega)).mono ?_
      rintro e w2 ⟨u,rfl,hu,hb2⟩;have Hown1:Hid (OwnInt64S w.heap.size w2 u (selI (step1 s x).1 6)):=hid (by rw [step1_put Hm.out,<- put_sel s.1 Hok.out.ta];exact hu.mono Hb.out.size);have Hb1:=hid (Hb.out.trans (hb2.mono Hb.out.size));have Hfil1:=hid (Hfil.out.below hb2 (zA _));have Hap1:Hid (ApartU u _):=hid (ApartU.new (B:=wr.heap.size) (fun q hq=>(hu.lt q hq).1) (fun q hq=>(Hfil.out.lt q hq).2));have HA1:=hid (HA.out.on hb2);clear hu hb2 Hown Hb Hfil Hap a0 a1 a2 a3 HA;have a0:=HA1.out.c0;have a1:=HA1.out.c1;have a2:=HA1.out.c2;have a3:=HA1.out.c3;have HA:=HA1;clear HA1;have hF1:∀ t,hasI F t=(step1 s x).2 t:=hF.out;generalize hs1:step1 s x=s1 at hF1 Hown1;have Hs1:=hid hs1;clear hs1;by_cases h2:twoP x.kd
      . have H2:=hid h2
        clear h2;go_wp2_with fail;with_reducible refine (l15Both_yes _ _ H2.out).mono ?_
        rintro e w9 ⟨rfl,rfl⟩;go_wp2_with fail;with_reducible refine (l00Has_c x.tb Hfil1.out.rds).mono ?_
        cases hm:s1.2 x.tb with
        | true =>
         have hm2:hasI F x.tb=true:=by rw [hF1,hm]
         rw [hm2];have Hm2:=hid hm;have HF1:=hid hF1;clear hm hm2 hF1;rintro e w9 ⟨rfl,rfl⟩;have Hown2:Hid (OwnInt64S w.heap.size w2 _ (selI (step2 s1 x).1 6)):=hid (by rw [yBN H2.out];dsimp only;rw [Hm2.out];rw [show (!true)=false from rfl,add_false];exact Hown1.out);have Hb2:=Hb1;have Hfil2:=Hfil1;have Hap2:=Hap1;have HF2:Hid (∀ t,hasI F t=(step2 s1 x).2 t):=hid (by rw [yBN H2.out];exact HF1.out);clear Hown1 Hb1 Hfil1 Hap1;by_cases h7:x.kd=7
         . have q7:(x.kd != 7)=false:=by simpa using h7
           have Hst:Hid (usesF (xs.take (k+1))=step2 s1 x):=hid (by rw [Hs.out,Hse.out,yBD,if_pos h7,Hs1.out]);clear h7;go_wp2;go_roundw
           case rel=>exact ⟨k+1,F,by omega,by go_num,(by rw [Hst.out];exact HF2.out),by omega,(by rw [Hst.out];exact Hown2.out),Hfil2.out,Hap2.out,Hb2.out⟩
           case measure=>simp [intOf];omega
         . have q7:(x.kd != 7)=true:=by simpa using h7
           have Hst:Hid (usesF (xs.take (k+1))=((step2 s1 x).1,addT (step2 s1 x).2 x.tc true)):=hid (by rw [Hs.out,Hse.out,yBD,if_neg h7,Hs1.out]);have Hqp:eI.ok x.tc:=by have:=Hbx.out;unfold okStep at this;exact this.2.2.2.1
           have hsz:=Hb2.out.size;clear h7;go_wp2_with (first | (at_builtin;refine yAB (E:=eI) rfl _ _ 29 rfl Tryz.underlying29 hi hz0 hz1 hz2 rfl (by decide) rfl rfl (Hfil2.out.alloc _) (yAJ (E:=eI) (x:=x.tc) Hqp rfl) ?b1 ?b2 ?b3 ?_))
           case b1=>unfold maxLen;(try simp);omega
           case b2=>(try simp);omega
           case b3=>(try simp);omega
           intro v' w7 hown3 hg3;have hb3:Below w.heap.size w w7:=hg3.alloc.below Hb2.out Hb2.out.size (fun j hj=>(Hfil2.out.lt j hj).1);have Hown3:=hid (Hown2.out.kept hg3.alloc.1 Hap2.out);have Hap3:=hid (Hap2.out.grew (fun q hq=>(Hown2.out.lt q hq).2) hg3.alloc);have Hfil3:=hid hown3;clear hg3 hown3 Hb2 Hfil2 Hap2 Hown2 a0 a1 a2 a3 HA;go_wp2;go_roundw
           case rel=>exact ⟨k+1,F++[x.tc],by omega,by go_num,(by rw [Hst.out];intro t;rw [has_snoc,HF2.out t];unfold addT;simp),by simp;omega,(by rw [Hst.out];exact Hown3.out),Hfil3.out,Hap3.out,hb3⟩
           case measure=>simp [intOf];omega
        | false =>
         have hm2:hasI F x.tb=false:=by rw [hF1,hm]
         rw [hm2];have Hm2:=hid hm;have HF1:=hid hF1;clear hm hm2 hF1;rintro e w9 ⟨rfl,rfl⟩;go_wp2_with fail;with_reducible refine (l00Put_c x.tb Hqb.out Hown1.out.rds (by have:=yBE s1.1 6;omega)).mono ?_
         rintro e w3 ⟨u3,rfl,hu,hb3⟩;have Hown2:Hid (OwnInt64S w.heap.size w3 u3 (selI (step2 s1 x).1 6)):=hid (by rw [yBN H2.out];dsimp only;rw [Hm2.out,show (!false)=true from rfl,<- put_sel s1.1 Hok.out.tb];exact hu.mono Hb1.out.size);have Hb2:=hid (Hb1.out.trans (hb3.mono Hb1.out.size));have Hfil2:=hid (Hfil1.out.below hb3 (zA _));have Hap2:Hid (ApartU u3 _):=hid (ApartU.new (B:=w2.heap.size) (fun q hq=>(hu.lt q hq).1) (fun q hq=>(Hfil1.out.lt q hq).2));have HA1:=hid (HA.out.on hb3);have HF2:Hid (∀ t,hasI F t=(step2 s1 x).2 t):=hid (by rw [yBN H2.out];exact HF1.out);clear hu hb3 Hown1 Hb1 Hfil1 Hap1 a0 a1 a2 a3 HA;have a0:=HA1.out.c0;have a1:=HA1.out.c1;have a2:=HA1.out.c2;have a3:=HA1.out.c3;have HA:=HA1;clear HA1;by_cases h7:x.kd=7
         . have q7:(x.kd != 7)=false:=by simpa using h7
           have Hst:Hid (usesF (xs.take (k+1))=step2 s1 x):=hid (by rw [Hs.out,Hse.out,yBD,if_pos h7,Hs1.out]);clear h7;go_wp2;go_roundw
           case rel=>exact ⟨k+1,F,by omega,by go_num,(by rw [Hst.out];exact HF2.out),by omega,(by rw [Hst.out];exact Hown2.out),Hfil2.out,Hap2.out,Hb2.out⟩
           case measure=>simp [intOf];omega
         . have q7:(x.kd != 7)=true:=by simpa using h7
           have Hst:Hid (usesF (xs.take (k+1))=((step2 s1 x).1,addT (step2 s1 x).2 x.tc true)):=hid (by rw [Hs.out,Hse.out,yBD,if_neg h7,Hs1.out]);have Hqp:eI.ok x.tc:=by have:=Hbx.out;unfold okStep at this;exact this.2.2.2.1
           have hsz:=Hb2.out.size;clear h7;go_wp2_with (first | (at_builtin;refine yAB (E:=eI) rfl _ _ 29 rfl Tryz.underlying29 hi hz0 hz1 hz2 rfl (by decide) rfl rfl (Hfil2.out.alloc _) (yAJ (E:=eI) (x:=x.tc) Hqp rfl) ?b1 ?b2 ?b3 ?_))
           case b1=>unfold maxLen;(try simp);omega
           case b2=>(try simp);omega
           case b3=>(try simp);omega
           intro v' w7 hown3 hg3;have hb3:Below w.heap.size w w7:=hg3.alloc.below Hb2.out Hb2.out.size (fun j hj=>(Hfil2.out.lt j hj).1);have Hown3:=hid (Hown2.out.kept hg3.alloc.1 Hap2.out);have Hap3:=hid (Hap2.out.grew (fun q hq=>(Hown2.out.lt q hq).2) hg3.alloc);have Hfil3:=hid hown3;clear hg3 hown3 Hb2 Hfil2 Hap2 Hown2 a0 a1 a2 a3 HA;go_wp2;go_roundw
           case rel=>exact ⟨k+1,F++[x.tc],by omega,by go_num,(by rw [Hst.out];intro t;rw [has_snoc,HF2.out t];unfold addT;simp),by simp;omega,(by rw [Hst.out];exact Hown3.out),Hfil3.out,Hap3.out,hb3⟩
           case measure=>simp [intOf];omega
      . have H2:=hid h2
        clear h2;go_wp2_with fail;with_reducible refine (l15Both_no _ _ H2.out).mono ?_
        rintro e w9 ⟨rfl,rfl⟩;have Hown2:Hid (OwnInt64S w.heap.size w2 _ (selI (step2 s1 x).1 6)):=hid (by rw [step2_one H2.out];exact Hown1.out);have Hb2:=Hb1;have Hfil2:=Hfil1;have Hap2:=Hap1;have HF2:Hid (∀ t,hasI F t=(step2 s1 x).2 t):=hid (by rw [step2_one H2.out];exact hF1);clear Hown1 Hb1 Hfil1 Hap1 hF1;by_cases h7:x.kd=7
        . have q7:(x.kd != 7)=false:=by simpa using h7
          have Hst:Hid (usesF (xs.take (k+1))=step2 s1 x):=hid (by rw [Hs.out,Hse.out,yBD,if_pos h7,Hs1.out]);clear h7;go_wp2;go_roundw
          case rel=>exact ⟨k+1,F,by omega,by go_num,(by rw [Hst.out];exact HF2.out),by omega,(by rw [Hst.out];exact Hown2.out),Hfil2.out,Hap2.out,Hb2.out⟩
          case measure=>simp [intOf];omega
        . have q7:(x.kd != 7)=true:=by simpa using h7
          have Hst:Hid (usesF (xs.take (k+1))=((step2 s1 x).1,addT (step2 s1 x).2 x.tc true)):=hid (by rw [Hs.out,Hse.out,yBD,if_neg h7,Hs1.out]);have Hqp:eI.ok x.tc:=by have:=Hbx.out;unfold okStep at this;exact this.2.2.2.1
          have hsz:=Hb2.out.size;clear h7;go_wp2_with (first | (at_builtin;refine yAB (E:=eI) rfl _ _ 29 rfl Tryz.underlying29 hi hz0 hz1 hz2 rfl (by decide) rfl rfl (Hfil2.out.alloc _) (yAJ (E:=eI) (x:=x.tc) Hqp rfl) ?b1 ?b2 ?b3 ?_))
          case b1=>unfold maxLen;(try simp);omega
          case b2=>(try simp);omega
          case b3=>(try simp);omega
          intro v' w7 hown3 hg3;have hb3:Below w.heap.size w w7:=hg3.alloc.below Hb2.out Hb2.out.size (fun j hj=>(Hfil2.out.lt j hj).1);have Hown3:=hid (Hown2.out.kept hg3.alloc.1 Hap2.out);have Hap3:=hid (Hap2.out.grew (fun q hq=>(Hown2.out.lt q hq).2) hg3.alloc);have Hfil3:=hid hown3;clear hg3 hown3 Hb2 Hfil2 Hap2 Hown2 a0 a1 a2 a3 HA;go_wp2;go_roundw
          case rel=>exact ⟨k+1,F++[x.tc],by omega,by go_num,(by rw [Hst.out];intro t;rw [has_snoc,HF2.out t];unfold addT;simp),by simp;omega,(by rw [Hst.out];exact Hown3.out),Hfil3.out,Hap3.out,hb3⟩
          case measure=>simp [intOf];omega
   . obtain rfl:k=n:=by omega
     go_wp2;go_ret2;have hN:=Hn.out;rw [zH (by omega)] at hown;exact ⟨_,rfl,hown,hbb⟩
theorem clo_U (B i:Nat) (b:Bool) (w:World) (hi:i<6) (hc:w.cell? ⟨B,i,none⟩=some (.bool b)) :
 Calls Tryz.prog 112 #[.int .i64 (i:Int),.pointer (some ⟨B,0,none⟩)] w fun e w'=>e=.returned (.bool b)/\Below w.heap.size w w':=by
 go_enter Tryz.func112,Tryz.ntmps112;go_wp2;go_ret;exact ⟨rfl,zB _ _⟩
theorem cols_U {w:World} {n:Nat} {p:Int->Bool} {B:Nat} (hn:n<=1000)
 (hclo:∀ (i:Nat) (W:World),i<n->Below w.heap.size w W->Calls Tryz.prog 112 #[.int .i64 (i:Int),.pointer (some ⟨B,0,none⟩)] W fun e w'=>e=.returned (.bool (p i))/\Below W.heap.size W w') :
 Calls Tryz.prog 111 #[.int .i64 (n:Int),.func (.func 112) #[] #[.pointer (some ⟨B,0,none⟩)]] w fun e w'=>∃ u,e=.returned u/\Own eI 2 w.heap.size w' u (selI p n)/\Below w.heap.size w w':=by
 obtain ⟨i0,hi,hz0,hz1,hz2⟩:=info_parts Tryz.infoInt64;have Hclo:=hid hclo;have ho0:Own eI 2 w.heap.size (w.alloc (.cells #[] 2)) (.slice (some ⟨w.heap.size,0,none⟩) 0 0) (selI p 0) :=
  Own.lit (E:=eI) (xs:=[]) (cs:=#[]) (zA _) rfl rfl (by decide) (fun x hx=>by cases hx)
 have hb0:Below w.heap.size w (w.alloc (.cells #[] 2)):=(zB _ _).alloc (zA _) _;clear hclo;go_enter Tryz.func111,Tryz.ntmps111;go_wp2;go_loopw [5,9] (fun v i wr=>∃ k:Nat,k<=n/\i=.int .i64 k/\Own eI 2 w.heap.size wr v (selI p k)/\Below w.heap.size w wr) (fun _ i _=>n - (intOf i).toNat)
 case atStart=>exact ⟨0,zK _,rfl,ho0,hb0⟩
 case round =>
  obtain ⟨k,hk,rfl,hown,hb⟩:=hrel;clear ho0 hb0;by_cases hkn:k<n
  . have hc:=Hclo.out k _ hkn hb
    have Hc:=hid hc;have hsl:=yBE p k;have hss:=yAX p k;have Hss:=hid hss;have Hb:=hid hb;have Hown:=hid hown;clear hc hss hb hown;go_wp2_with fail;with_reducible refine Hc.out.mono ?_
    cases hp:p (k:Int) with
    | true =>
     have Hp:=hid hp;clear hp;rintro e w1 ⟨rfl,hb1⟩;have hb2:=Hb.out.trans (hb1.mono Hb.out.size);have hown1:=Hown.out.below hb1 (zA _);have Hqp:eI.ok (k:Int):=by show -9223372036854775808<=(k:Int)/\(k:Int)<=9223372036854775807;omega
     have hsz:=hb2.size;clear hb1 Hb Hown;go_wp2_with (first | (at_builtin;refine yAB (E:=eI) rfl _ _ 29 rfl Tryz.underlying29 hi hz0 hz1 hz2 rfl (by decide) rfl rfl (hown1.alloc _) (yAJ (E:=eI) (x:=(k:Int)) Hqp rfl) ?b1 ?b2 ?b3 ?_))
     case b1=>unfold maxLen;simp;omega
     case b2=>simp;omega
     case b3=>simp;omega
     intro v' w3 hown3 hg3;have hb3:Below w.heap.size w w3:=hg3.alloc.below hb2 hb2.size (fun j hj=>(hown1.lt j hj).1);clear hg3 hb2 hown1 Hqp;go_wp2;go_roundw
     case rel=>exact ⟨k+1,by omega,by go_num,by rw [Hss.out,Hp.out];exact hown3,hb3⟩
     case measure=>simp [intOf];omega
    | false =>
     have Hp:=hid hp;clear hp;rintro e w1 ⟨rfl,hb1⟩;have hb2:=Hb.out.trans (hb1.mono Hb.out.size);have hown1:=Hown.out.below hb1 (zA _);clear hb1 Hb Hown;go_wp2;go_roundw
     case rel=>exact ⟨k+1,by omega,by go_num,by rw [Hss.out,Hp.out];simpa using hown1,hb2⟩
     case measure=>simp [intOf];omega
  . obtain rfl:k=n:=by omega
    go_wp2;go_ret;exact ⟨_,rfl,hown,hb⟩
theorem tray6_nat (U:Int->Bool) {i:Nat} (h:i<6):(tray6 U)[i]?=some (.bool (U (i:Int))):=by
 have:=tray6_at U (t:=(i:Int)) ⟨by omega,by omega⟩;simpa using this
theorem tray6_setN (U:Int->Bool) {i:Nat} (b:Bool) (h:i<6):(tray6 U).set i (.bool (U (i:Int) || b))=tray6 (addT U (i:Int) b):=by
 have:=tray6_set U (t:=(i:Int)) b ⟨by omega,by omega⟩;simpa using this
theorem FlowUses_c {xs:List StepT} {v:Value} {w:World} {A:Nat} (ha:RdStepS A w v xs) :
 Calls Tryz.prog 71 #[v] w fun e w'=>∃ u,e=.returned (.tuple #[u,.int .i64 (UseC xs)])/\OwnInt64S w.heap.size w' u (UseR xs)/\Below w.heap.size w w':=by
 have hle:=ha.le;have Ha:=hid ha;obtain ⟨ao,cap,rfl,ho⟩:=yBG ha;obtain ⟨n,hn⟩:∃ n,n=xs.length:=⟨_,rfl⟩;rw [<- hn] at Ha hle ho |-;have Hn:=hid hn;have Ho:=hid ho;clear ho hn ha;cases hf:flB xs 20 with
 | false =>
  have e1:UseC xs=2:=by unfold UseC;rw [hf];rfl
  have e2:UseR xs=[]:=by unfold UseR;rw [hf];rfl
  rw [e1,e2];have Hf:=hid hf;clear e1 e2 hf;go_enter Tryz.func71,Tryz.ntmps71;go_wp2_with fail;with_reducible refine (yBP 20 ⟨by decide,by decide⟩ Ha.out).mono ?_
  rw [Hf.out];rintro e w1 ⟨rfl,hb⟩;go_wp2;go_ret2;exact ⟨_,rfl,Own.nil _ _ _ _,hb⟩
 | true =>
  have e1:UseC xs=0:=by unfold UseC;rw [hf];rfl
  have e2:UseR xs=selI (usesF xs).1 6:=by unfold UseR;rw [hf];rfl
  rw [e1,e2];have Hfp:=hid (flB_parts hf);have hn20:n<=20:=by have:=Hfp.out.1;have:=Hn.out;omega
  have Hf:=hid hf;clear e1 e2 hf;go_enter Tryz.func71,Tryz.ntmps71;go_wp2_with fail;with_reducible refine (yBP 20 ⟨by decide,by decide⟩ Ha.out).mono ?_
  rw [Hf.out];rintro e w1 ⟨rfl,hb⟩;obtain ⟨W1,hW1⟩:∃ W,W=(w1.alloc (.cells #[.bool false,.bool false,.bool false,.bool false,.bool false,.bool false] 145)).alloc (.cells #[.bool false,.bool false,.bool false,.bool false,.bool false,.bool false] 145):=⟨_,rfl⟩;have hU:Box W1 w1.heap.size (tray6 fun _=>false):=by
   rw [hW1];exact (Box.new w1 (tray6 fun _=>false) 145).alloc _
  have hM:Box W1 (w1.heap.size+1) (tray6 fun _=>false):=by
   rw [hW1];have h:=Box.new (w1.alloc (.cells #[.bool false,.bool false,.bool false,.bool false,.bool false,.bool false] 145)) (tray6 fun _=>false) 145;rw [show (tray6 fun _=>false).toArray=#[.bool false,.bool false,.bool false,.bool false,.bool false,.bool false] from rfl] at h;simpa using h
  have hb0:Below w.heap.size w W1:=by rw [hW1];exact (hb.alloc hb.size _).alloc (by have:=hb.size;simp;omega) _
  have hsw:=hb.size;have HU:=hid hU;have HM:=hid hM;have Hb0:=hid hb0;have HW1:=hid hW1;clear hU hM hb0 hb hW1;go_wp2_with fail;rw [<- HW1.out];go_loopw [15] (fun i wr=>∃ k:Nat,k<=n/\i=.int .i64 k/\Box wr w1.heap.size (tray6 (usesF (xs.take k)).1)/\Box wr (w1.heap.size+1) (tray6 (usesF (xs.take k)).2)/\Below w.heap.size w wr) (fun i _=>n - (intOf i).toNat)
  case atStart=>exact ⟨0,zK _,rfl,HU.out,HM.out,Hb0.out⟩
  case round =>
   obtain ⟨k,hk,rfl,hU,hM,hbb⟩:=hrel;clear HU HM Hb0 HW1;by_cases hkn:k<n
   . obtain ⟨b,off,rfl,hlt,hcc⟩:=Ho.out (by omega)
     obtain ⟨x,hx,⟨c0,c1,c2,c3,c4,c5,c6,c7,c8⟩,bx⟩:=hcc k hkn;have hA:StAt w b (off+k * 9) x:=⟨hlt.2,c0,c1,c2,c3,c4,c5,c6,c7,c8⟩;have HA:=hid (hA.below hbb hlt.2);have Hok:=hid (Hfp.out.2 x (zC hx));have Hs:=hid (usesF_snoc hx);obtain ⟨s,hs⟩:∃ s,usesF (xs.take k)=s:=⟨_,rfl⟩;rw [hs] at hU hM;have Hse:=hid hs;have d0:=HA.out.c0;have d1:=HA.out.c1;have d2:=HA.out.c2;have d3:=HA.out.c3;have d4:=HA.out.c4;have d5:=HA.out.c5;have d6:=HA.out.c6;have d7:=HA.out.c7;have d8:=HA.out.c8;have hX:=Box.new wr [.int .i64 x.kd,.int .i64 x.ta,.int .i64 x.tb,.int .i64 x.tc,.int .i64 x.ff,.int .i64 x.ft,.int .i64 x.sf,.int .i64 x.st,.string x.tx] 75;have hU1:=hU.alloc (.cells #[.int .i64 x.kd,.int .i64 x.ta,.int .i64 x.tb,.int .i64 x.tc,.int .i64 x.ff,.int .i64 x.ft,.int .i64 x.sf,.int .i64 x.st,.string x.tx] 75);have hM1:=hM.alloc (.cells #[.int .i64 x.kd,.int .i64 x.ta,.int .i64 x.tb,.int .i64 x.tc,.int .i64 x.ff,.int .i64 x.ft,.int .i64 x.sf,.int .i64 x.st,.string x.tx] 75);have hb1:=hbb.alloc hbb.size (.cells #[.int .i64 x.kd,.int .i64 x.ta,.int .i64 x.tb,.int .i64 x.tc,.int .i64 x.ff,.int .i64 x.ft,.int .i64 x.sf,.int .i64 x.st,.string x.tx] 75);have hBX:w1.heap.size+1<wr.heap.size:=hM.lt;have HX:=hid hX;have HU:=hid hU1;have HM:=hid hM1;have Hb:=hid hb1;clear hx hcc c0 c1 c2 c3 c4 c5 c6 c7 c8 hA hs bx hU hM hbb hX hU1 hM1 hb1;go_upto_region 7 with fail;clear d0 d1 d2 d3 d4 d5 d6 d7 d8 HA;generalize wr.alloc (.cells #[.int .i64 x.kd,.int .i64 x.ta,.int .i64 x.tb,.int .i64 x.tc,.int .i64 x.ff,.int .i64 x.ft,.int .i64 x.sf,.int .i64 x.st,.string x.tx] 75)=W at HX HU HM Hb |-;go_cut [] (fun wx=>Box wx wr.heap.size [.int .i64 x.kd,.int .i64 x.ta,.int .i64 x.tb,.int .i64 x.tc,.int .i64 x.ff,.int .i64 x.ft,.int .i64 x.sf,.int .i64 x.st,.string x.tx]/\Box wx w1.heap.size (tray6 (addT s.1 x.ta (!s.2 x.ta)))/\Box wx (w1.heap.size+1) (tray6 s.2)/\Below w.heap.size w wx)
     case first =>
      obtain ⟨a,ha⟩:=zG Hok.out.ta.1;have ha6:a<6:=by have:=Hok.out.ta.2;omega
      have ha7:(a:Int)<6:=by omega
      have x1:=HX.out.cell 1 _ rfl;rw [ha] at x1;try rw [ha]
      have Ha1:=hid ha;have HUs:=hid (tray6_setN s.1 (i:=a) (!s.2 (a:Int)) ha6);have u1:=HU.out.cell a _ (tray6_nat _ ha6);have m1:=HM.out.cell a _ (tray6_nat _ ha6);have f1:=HU.out.free a;clear ha;cases hp:s.1 (a:Int) with
      | true =>
       rw [hp] at u1 HUs;rw [Bool.true_or] at HUs;have Hp:=hid hp;clear hp;go_still_tail 13,(by kernel_rfl);change wpList _ _ _ _ _ (World.drew _);have HXd:=hid HX.out.drew1;have HUd:=hid HU.out.drew1;have HMd:=hid HM.out.drew1;have Hbd:=hid Hb.out.drew1;go_wp2_with fail;go_meet;refine ⟨HXd.out.other (by show w1.heap.size ≠ wr.heap.size;omega) _,?_,HMd.out.other (by show w1.heap.size ≠ w1.heap.size+1;omega) _,Hbd.out.setCell (by show w.heap.size<=w1.heap.size;omega) _⟩;have h:=HUd.out.set1 (j:=a) (by simp [tray6];omega) (.bool true);rw [HUs.out] at h;rw [Ha1.out];first | exact h | (rw [Hm.out];exact h)
      | false =>
       rw [hp] at u1 HUs;rw [Bool.false_or] at HUs;have Hp:=hid hp;clear hp;cases hm:s.2 (a:Int) with
       | true =>
        rw [hm] at m1 HUs;rw [show (!true)=false from rfl] at HUs;have Hm:=hid hm;clear hm;go_still_tail 13,(by kernel_rfl);change wpList _ _ _ _ _ (World.drew _);have HXd:=hid HX.out.drew1;have HUd:=hid HU.out.drew1;have HMd:=hid HM.out.drew1;have Hbd:=hid Hb.out.drew1;go_wp2_with fail;go_meet;refine ⟨HXd.out.other (by show w1.heap.size ≠ wr.heap.size;omega) _,?_,HMd.out.other (by show w1.heap.size ≠ w1.heap.size+1;omega) _,Hbd.out.setCell (by show w.heap.size<=w1.heap.size;omega) _⟩;have h:=HUd.out.set1 (j:=a) (by simp [tray6];omega) (.bool false);rw [HUs.out] at h;rw [Ha1.out];first | exact h | (rw [Hm.out];exact h)
       | false =>
        rw [hm] at m1 HUs;rw [show (!false)=true from rfl] at HUs;have Hm:=hid hm;clear hm;go_still_tail 13,(by kernel_rfl);change wpList _ _ _ _ _ (World.drew _);have HXd:=hid HX.out.drew1;have HUd:=hid HU.out.drew1;have HMd:=hid HM.out.drew1;have Hbd:=hid Hb.out.drew1;go_wp2_with fail;go_meet;refine ⟨HXd.out.other (by show w1.heap.size ≠ wr.heap.size;omega) _,?_,HMd.out.other (by show w1.heap.size ≠ w1.heap.size+1;omega) _,Hbd.out.setCell (by show w.heap.size<=w1.heap.size;omega) _⟩;have h:=HUd.out.set1 (j:=a) (by simp [tray6];omega) (.bool true);rw [HUs.out] at h;rw [Ha1.out];first | exact h | (rw [Hm.out];exact h)
     case rest =>
     obtain ⟨hX,hU,hM,hb⟩:=hcut;clear HX HU HM Hb;have h1:tray6 (addT s.1 x.ta (!s.2 x.ta))=tray6 (step1 s x).1:=rfl;rw [h1] at hU;have h2:tray6 s.2=tray6 (step1 s x).2:=rfl;rw [h2] at hM;clear h1 h2;generalize hs1:step1 s x=s1 at hU hM;have Hs1:=hid hs1;have HX:=hid hX;have HU:=hid hU;have HM:=hid hM;have Hb:=hid hb;clear hs1 hX hU hM hb;have x0:=HX.out.cell 0 _ rfl;have x3:=HX.out.cell 3 _ rfl;by_cases h2:twoP x.kd
     . have H2:=hid h2
       clear h2;go_wp2_with fail;with_reducible refine (takesTwo_yes _ _ H2.out).mono ?_
       rintro e w9 ⟨rfl,rfl⟩;go_upto_region 9 with fail;clear x0 x3;go_cut [] (fun wx=>Box wx wr.heap.size [.int .i64 x.kd,.int .i64 x.ta,.int .i64 x.tb,.int .i64 x.tc,.int .i64 x.ff,.int .i64 x.ft,.int .i64 x.sf,.int .i64 x.st,.string x.tx]/\Box wx w1.heap.size (tray6 (addT s1.1 x.tb (!s1.2 x.tb)))/\Box wx (w1.heap.size+1) (tray6 s1.2)/\Below w.heap.size w wx)
       case first =>
        obtain ⟨a,ha⟩:=zG Hok.out.tb.1;have ha6:a<6:=by have:=Hok.out.tb.2;omega
        have ha7:(a:Int)<6:=by omega
        have x1:=HX.out.cell 2 _ rfl;rw [ha] at x1;try rw [ha]
        have Ha1:=hid ha;have HUs:=hid (tray6_setN s1.1 (i:=a) (!s1.2 (a:Int)) ha6);have u1:=HU.out.cell a _ (tray6_nat _ ha6);have m1:=HM.out.cell a _ (tray6_nat _ ha6);have f1:=HU.out.free a;clear ha;cases hp:s1.1 (a:Int) with
        | true =>
         rw [hp] at u1 HUs;rw [Bool.true_or] at HUs;have Hp:=hid hp;clear hp;go_still_tail 13,(by kernel_rfl);change wpList _ _ _ _ _ (World.drew _);have HXd:=hid HX.out.drew1;have HUd:=hid HU.out.drew1;have HMd:=hid HM.out.drew1;have Hbd:=hid Hb.out.drew1;go_wp2_with fail;go_meet;refine ⟨HXd.out.other (by show w1.heap.size ≠ wr.heap.size;omega) _,?_,HMd.out.other (by show w1.heap.size ≠ w1.heap.size+1;omega) _,Hbd.out.setCell (by show w.heap.size<=w1.heap.size;omega) _⟩;have h:=HUd.out.set1 (j:=a) (by simp [tray6];omega) (.bool true);rw [HUs.out] at h;rw [Ha1.out];first | exact h | (rw [Hm.out];exact h)
        | false =>
         rw [hp] at u1 HUs;rw [Bool.false_or] at HUs;have Hp:=hid hp;clear hp;cases hm:s1.2 (a:Int) with
         | true =>
          rw [hm] at m1 HUs;rw [show (!true)=false from rfl] at HUs;have Hm:=hid hm;clear hm;go_still_tail 13,(by kernel_rfl);change wpList _ _ _ _ _ (World.drew _);have HXd:=hid HX.out.drew1;have HUd:=hid HU.out.drew1;have HMd:=hid HM.out.drew1;have Hbd:=hid Hb.out.drew1;go_wp2_with fail;go_meet;refine ⟨HXd.out.other (by show w1.heap.size ≠ wr.heap.size;omega) _,?_,HMd.out.other (by show w1.heap.size ≠ w1.heap.size+1;omega) _,Hbd.out.setCell (by show w.heap.size<=w1.heap.size;omega) _⟩;have h:=HUd.out.set1 (j:=a) (by simp [tray6];omega) (.bool false);rw [HUs.out] at h;rw [Ha1.out];first | exact h | (rw [Hm.out];exact h)
         | false =>
          rw [hm] at m1 HUs;rw [show (!false)=true from rfl] at HUs;have Hm:=hid hm;clear hm;go_still_tail 13,(by kernel_rfl);change wpList _ _ _ _ _ (World.drew _);have HXd:=hid HX.out.drew1;have HUd:=hid HU.out.drew1;have HMd:=hid HM.out.drew1;have Hbd:=hid Hb.out.drew1;go_wp2_with fail;go_meet;refine ⟨HXd.out.other (by show w1.heap.size ≠ wr.heap.size;omega) _,?_,HMd.out.other (by show w1.heap.size ≠ w1.heap.size+1;omega) _,Hbd.out.setCell (by show w.heap.size<=w1.heap.size;omega) _⟩;have h:=HUd.out.set1 (j:=a) (by simp [tray6];omega) (.bool true);rw [HUs.out] at h;rw [Ha1.out];first | exact h | (rw [Hm.out];exact h)
       case rest =>
       obtain ⟨hX,hU,hM,hb⟩:=hcut;clear HX HU HM Hb;have e1:addT s1.1 x.tb (!s1.2 x.tb)=(step2 s1 x).1:=by rw [yBN H2.out]
       have e2:s1.2=(step2 s1 x).2:=by rw [yBN H2.out]
       rw [e1] at hU;rw [e2] at hM;have HX:=hid hX;have HU2:=hid hU;have HM2:=hid hM;have Hb2:=hid hb;clear e1 e2 hX hU hM hb;have x0:=HX.out.cell 0 _ rfl;have x3:=HX.out.cell 3 _ rfl;by_cases h7:x.kd=7
       . have q7:(x.kd != 7)=false:=by simpa using h7
         have Hst:Hid (usesF (xs.take (k+1))=step2 s1 x):=hid (by rw [Hs.out,Hse.out,yBD,if_pos h7,Hs1.out]);clear h7;go_wp2;go_roundw
         case rel=>exact ⟨k+1,by omega,by go_num,by rw [Hst.out];exact HU2.out,by rw [Hst.out];exact HM2.out,Hb2.out⟩
         case measure=>simp [intOf];omega
       . have q7:(x.kd != 7)=true:=by simpa using h7
         have Hst:Hid (usesF (xs.take (k+1))=((step2 s1 x).1,addT (step2 s1 x).2 x.tc true)):=hid (by rw [Hs.out,Hse.out,yBD,if_neg h7,Hs1.out]);obtain ⟨a,ha⟩:=zG Hok.out.tc.1;have ha6:a<6:=by have:=Hok.out.tc.2;omega
         have ha7:(a:Int)<6:=by omega
         rw [ha] at x3;have Ha1:=hid ha;have m1:=HM2.out.cell a _ (tray6_nat _ ha6);have f1:=HM2.out.free a;have hset:=HM2.out.set1 (j:=a) (by simp [tray6];omega) (.bool ((step2 s1 x).2 (a:Int) || true));rw [tray6_setN _ true ha6,<- ha,Bool.or_true] at hset;have Hset:=hid hset;have hoth:=HU2.out.other (p:=⟨w1.heap.size+1,a,none⟩) (by show w1.heap.size+1 ≠ w1.heap.size;omega) (.bool true);have Hoth:=hid hoth;have hb3:=Hb2.out.setCell (p:=⟨w1.heap.size+1,a,none⟩) (by show w.heap.size<=w1.heap.size+1;omega) (.bool true);have Hb3:=hid hb3;clear h7 ha hset hoth hb3;go_wp2;go_roundw
         case rel=>exact ⟨k+1,by omega,by go_num,by rw [Hst.out];exact Hoth.out,by rw [Hst.out];exact Hset.out,Hb3.out⟩
         case measure=>simp [intOf];omega
     . have H2:=hid h2
       clear h2;go_wp2_with fail;with_reducible refine (takesTwo_no _ _ H2.out).mono ?_
       rintro e w9 ⟨rfl,rfl⟩;have e1:s1=step2 s1 x:=by rw [step2_one H2.out]
       have HU2:Hid (Box _ w1.heap.size (tray6 (step2 s1 x).1)):=hid (by rw [<- e1];exact HU.out);have HM2:Hid (Box _ (w1.heap.size+1) (tray6 (step2 s1 x).2)):=hid (by rw [<- e1];exact HM.out);have Hb2:=Hb;clear e1;by_cases h7:x.kd=7
       . have q7:(x.kd != 7)=false:=by simpa using h7
         have Hst:Hid (usesF (xs.take (k+1))=step2 s1 x):=hid (by rw [Hs.out,Hse.out,yBD,if_pos h7,Hs1.out]);clear h7;go_wp2;go_roundw
         case rel=>exact ⟨k+1,by omega,by go_num,by rw [Hst.out];exact HU2.out,by rw [Hst.out];exact HM2.out,Hb2.out⟩
         case measure=>simp [intOf];omega
       . have q7:(x.kd != 7)=true:=by simpa using h7
         have Hst:Hid (usesF (xs.take (k+1))=((step2 s1 x).1,addT (step2 s1 x).2 x.tc true)):=hid (by rw [Hs.out,Hse.out,yBD,if_neg h7,Hs1.out]);obtain ⟨a,ha⟩:=zG Hok.out.tc.1;have ha6:a<6:=by have:=Hok.out.tc.2;omega
         have ha7:(a:Int)<6:=by omega
         rw [ha] at x3;have Ha1:=hid ha;have m1:=HM2.out.cell a _ (tray6_nat _ ha6);have f1:=HM2.out.free a;have hset:=HM2.out.set1 (j:=a) (by simp [tray6];omega) (.bool ((step2 s1 x).2 (a:Int) || true));rw [tray6_setN _ true ha6,<- ha,Bool.or_true] at hset;have Hset:=hid hset;have hoth:=HU2.out.other (p:=⟨w1.heap.size+1,a,none⟩) (by show w1.heap.size+1 ≠ w1.heap.size;omega) (.bool true);have Hoth:=hid hoth;have hb3:=Hb2.out.setCell (p:=⟨w1.heap.size+1,a,none⟩) (by show w.heap.size<=w1.heap.size+1;omega) (.bool true);have Hb3:=hid hb3;clear h7 ha hset hoth hb3;go_wp2;go_roundw
         case rel=>exact ⟨k+1,by omega,by go_num,by rw [Hst.out];exact Hoth.out,by rw [Hst.out];exact Hset.out,Hb3.out⟩
         case measure=>simp [intOf];omega
   . obtain rfl:k=n:=by omega
     have hN:=Hn.out;rw [zH (by omega)] at hU;have HU:=hid hU;have Hbf:=hid hbb;clear hU hM hbb hN;have hcols:=cols_U (B:=w1.heap.size) (w:=wr) (n:=6) (p:=(usesF xs).1) (by decide) (fun i W' hi6 hb'=>clo_U w1.heap.size i _ W' hi6 ((HU.out.on hb').cell i _ (tray6_nat _ hi6)));rw [show ((6:Nat):Int)=6 from rfl] at hcols;have Hcols:=hid hcols;clear hcols;go_wp2_with fail;with_reducible refine Hcols.out.mono ?_
     rintro e w9 ⟨u,rfl,hu,hb9⟩;have hb10:=Hbf.out.trans (hb9.mono Hbf.out.size);have Hu:=hid (hu.mono Hbf.out.size);clear hu hb9;go_wp2;go_ret2;exact ⟨_,rfl,Hu.out,hb10⟩
def NTok (xs:List StepT) (a:Int):Prop:=flB xs 20=true/\0<=a/\a<=xs.length
instance (xs:List StepT) (a:Int):Decidable (NTok xs a):=inferInstanceAs (Decidable (_/\_))
def NTC (xs:List StepT) (a:Int):Int:=if NTok xs a then UseC (xs.drop a.toNat) else 2
def NTR (xs:List StepT) (a:Int):List Int:=if NTok xs a then UseR (xs.drop a.toNat) else []
theorem Rds.dropE {α:Type} {E:Elt α} {w:World} {B b off n cap k:Nat} {xs:List α} (h:Rds E B w (.slice (some ⟨b,off,none⟩) n cap) xs) (hk:k<n) :
 Rds E B w (.slice (some ⟨b,off+k * E.sz,none⟩) (n - k) (cap - k)) (xs.drop k):=by
 have hc:=Rds.cap h;have hcap:=hc.2.2 (by omega);have h1:=Rds.sub (lo:=k) (hi:=n) (cap':=cap - k) h (by omega) hk ⟨by omega,by omega⟩;rw [zH (by omega)] at h1;exact h1
theorem Rds.dropN {α:Type} {E:Elt α} {w:World} {B n c k:Nat} {v:Value} {ao:Option Addr} {xs:List α} (h:Rds E B w v xs) (hk:xs.length<=k) (ha:ao=none->c=0) :
 Rds E B w (.slice ao 0 c) (xs.drop k):=by
 have hd:xs.drop k=[]:=List.drop_of_length_le hk;rw [hd];exact ⟨⟨by simp [Elt.all],by simp,.inl ⟨rfl,ao,c,rfl,ha⟩⟩,fun x hx=>by cases hx⟩
theorem sizeStep_c {ao:Option Addr} {n cap:Nat} (w:World) (hn:n<=9223372036854775807) :
 Calls Tryz.prog 60 #[.slice ao n cap] w fun e w'=>e=.returned (.int .i64 n)/\w=w':=by
 go_enter Tryz.func60,Tryz.ntmps60;go_wp2;go_ret;exact ⟨rfl,rfl⟩
theorem NeededTrays_c {xs:List StepT} {v:Value} {w:World} {A:Nat} (a:Int) (hai:-9223372036854775808<=a/\a<=9223372036854775807) (ha:RdStepS A w v xs) :
 Calls Tryz.prog 30 #[v,.int .i64 a] w fun e w'=>∃ u,e=.returned (.tuple #[u,.int .i64 (NTC xs a)])/\OwnInt64S w.heap.size w' u (NTR xs a)/\Below w.heap.size w w':=by
 have hle:=ha.le;have ht:=ha.tight;obtain ⟨ao,cap,rfl⟩:=ha.shape;have hcap:=ht.cap;obtain ⟨n,hn⟩:∃ n,n=xs.length:=⟨_,rfl⟩;rw [<- hn] at ht hle hcap |-;have Ha:=hid ht;have Hn:=hid hn;have hcp:n<=cap:=by omega
 have hnil:ao=none->cap=0:=by
  intro h;subst h;rcases ht.1.2.2 with ⟨_,ao2,c2,e,h2⟩ | ⟨b2,o2,c2,e,_⟩
  . injection e with e1 e2 e3
    rw [e3];exact h2 e1.symm
  . injection e with e1 e2 e3
    cases e1
 have Hnil:=hid hnil;clear hnil;have Hcap:=hid hcap;clear hn ht ha hcap;cases hf:flB xs 20 with
 | false =>
  have hno:¬ NTok xs a:=fun h=>by have h1:=h.1;rw [hf] at h1;cases h1
  have e1:NTC xs a=2:=if_neg hno;have e2:NTR xs a=[]:=if_neg hno;rw [e1,e2];have Hf:=hid hf;clear e1 e2 hf hno;go_enter Tryz.func30,Tryz.ntmps30;go_wp2_with fail;with_reducible refine (yBP 20 ⟨by decide,by decide⟩ Ha.out).mono ?_
  rw [Hf.out];rintro e w1 ⟨rfl,hb⟩;go_wp2;go_ret2;exact ⟨_,rfl,Own.nil _ _ _ _,hb⟩
 | true =>
  have Hf:=hid hf;clear hf;by_cases hin:0<=a/\a<=n
  . obtain ⟨k,rfl⟩:=zG hin.1
    have hkn:k<=n:=by omega
    have hok:NTok xs (k:Int):=⟨Hf.out,hin.1,by have:=Hn.out;omega⟩;have e1:NTC xs (k:Int)=UseC (xs.drop k):=if_pos hok;have e2:NTR xs (k:Int)=UseR (xs.drop k):=if_pos hok;rw [e1,e2];clear e1 e2 hok;have Hin:=hid hin;clear hin hai;by_cases hc:cap=k
    . obtain rfl:k=cap:=hc.symm
      have hdr:∀ W,Below w.heap.size w W->Rds eStep W.heap.size W (.slice ao 0 0) (xs.drop k):=fun W hW=>Rds.dropN (n:=0) ((Ha.out.below hW (zA _)).mono hW.size) (by have:=Hn.out;omega) (fun _=>rfl);have Hdr:=hid hdr;clear hdr;obtain rfl:n=k:=by omega
      go_enter Tryz.func30,Tryz.ntmps30;go_wp2_with fail;with_reducible refine (yBP 20 ⟨by decide,by decide⟩ Ha.out).mono ?_
      rw [Hf.out];rintro e w1 ⟨rfl,hb⟩;have Hb:=hid hb;clear hb;go_wp2_with fail;with_reducible refine (sizeStep_c _ (by omega)).mono ?_
      rintro e w9 ⟨rfl,rfl⟩;go_wp2_with fail;with_reducible refine (yBC _ _ _ _ (by omega) (by omega)).mono ?_
      rintro e w9 ⟨rfl,rfl⟩;go_wp2_with fail;with_reducible refine (FlowUses_c (Hdr.out _ Hb.out)).mono ?_
      rintro e w2 ⟨u,rfl,hu,hb2⟩;have Hu:=hid (hu.mono Hb.out.size);have hb3:=Hb.out.trans (hb2.mono Hb.out.size);clear hu hb2;go_wp2;go_ret2;exact ⟨_,rfl,Hu.out,hb3⟩
    . by_cases hkl:k<n
      . obtain ⟨b,off,rfl⟩:∃ b off,ao=some ⟨b,off,none⟩:=by
         obtain ⟨ao2,cap2,he,ho⟩:=yBG Ha.out;injection he with h1 h2 h3;subst h1;obtain ⟨b,off,h,_⟩:=ho (by have:=Hn.out;omega);exact ⟨b,off,h⟩
        have hdr:∀ W,Below w.heap.size w W->Rds eStep W.heap.size W (.slice (some ⟨b,off+k * 9,none⟩) (n - k) (cap - k)) (xs.drop k):=fun W hW=>Rds.dropE (E:=eStep) ((Ha.out.below hW (zA _)).mono hW.size) hkl;have Hdr:=hid hdr;clear hdr;go_enter Tryz.func30,Tryz.ntmps30;go_wp2_with fail;with_reducible refine (yBP 20 ⟨by decide,by decide⟩ Ha.out).mono ?_
        rw [Hf.out];rintro e w1 ⟨rfl,hb⟩;have Hb:=hid hb;clear hb;go_wp2_with fail;with_reducible refine (sizeStep_c _ (by omega)).mono ?_
        rintro e w9 ⟨rfl,rfl⟩;go_wp2_with fail;with_reducible refine (yBC _ _ _ _ (by omega) (by omega)).mono ?_
        rintro e w9 ⟨rfl,rfl⟩;go_wp2_with fail;with_reducible refine (FlowUses_c (Hdr.out _ Hb.out)).mono ?_
        rintro e w2 ⟨u,rfl,hu,hb2⟩;have Hu:=hid (hu.mono Hb.out.size);have hb3:=Hb.out.trans (hb2.mono Hb.out.size);clear hu hb2;go_wp2;go_ret2;exact ⟨_,rfl,Hu.out,hb3⟩
      . obtain rfl:k=n:=by omega
        have hdr:∀ W (ao':Option Addr),Below w.heap.size w W->(ao'=none->ao=none)->Rds eStep W.heap.size W (.slice ao' 0 (cap - k)) (xs.drop k):=fun W ao' hW h0=>Rds.dropN (n:=0) ((Ha.out.below hW (zA _)).mono hW.size) (by have:=Hn.out;omega) (fun hh=>by have h1:=Hnil.out (h0 hh);omega);have hmap:Option.map (fun x=>x.add (k * 9)) ao=none->ao=none:=by cases ao with | none=>exact fun h=>h | some a=>intro h;cases h
        have Hmap:=hid hmap;have Hdr:=hid hdr;clear hdr hmap;go_enter Tryz.func30,Tryz.ntmps30;go_wp2_with fail;with_reducible refine (yBP 20 ⟨by decide,by decide⟩ Ha.out).mono ?_
        rw [Hf.out];rintro e w1 ⟨rfl,hb⟩;have Hb:=hid hb;clear hb;go_wp2_with fail;with_reducible refine (sizeStep_c _ (by omega)).mono ?_
        rintro e w9 ⟨rfl,rfl⟩;go_wp2_with fail;with_reducible refine (yBC _ _ _ _ (by omega) (by omega)).mono ?_
        rintro e w9 ⟨rfl,rfl⟩;go_wp2_with fail;with_reducible refine (FlowUses_c (Hdr.out _ _ Hb.out Hmap.out)).mono ?_
        rintro e w2 ⟨u,rfl,hu,hb2⟩;have Hu:=hid (hu.mono Hb.out.size);have hb3:=Hb.out.trans (hb2.mono Hb.out.size);clear hu hb2;go_wp2;go_ret2;exact ⟨_,rfl,Hu.out,hb3⟩
  . have hno:¬ NTok xs a:=fun h=>hin ⟨h.2.1,by have:=Hn.out;have:=h.2.2;omega⟩
    have e1:NTC xs a=2:=if_neg hno;have e2:NTR xs a=[]:=if_neg hno;rw [e1,e2];have hin2:a<0\/(n:Int)<a:=by omega
    have Hin:=hid hin2;clear e1 e2 hno hin hin2;go_enter Tryz.func30,Tryz.ntmps30;go_wp2_with fail;with_reducible refine (yBP 20 ⟨by decide,by decide⟩ Ha.out).mono ?_
    rw [Hf.out];rintro e w1 ⟨rfl,hb⟩;go_wp2_with fail;with_reducible refine (sizeStep_c _ (by omega)).mono ?_
    rintro e w9 ⟨rfl,rfl⟩;go_wp2_with fail;with_reducible refine (inside_no _ _ _ _ Hin.out).mono ?_
    rintro e w9 ⟨rfl,rfl⟩;go_wp2;go_ret2;exact ⟨_,rfl,Own.nil _ _ _ _,hb⟩
theorem sNeededTrays_c {xs:List StepT} {v:Value} {w:World} {A:Nat} (a:Int) (hai:-9223372036854775808<=a/\a<=9223372036854775807) (ha:RdStepS A w v xs) :
 Calls Tryz.prog 31 #[v,.int .i64 a] w fun e w'=>∃ u,e=.returned (.tuple #[u,.int .i64 (NTC xs a)])/\OwnInt64S w.heap.size w' u (NTR xs a)/\Below w.heap.size w w':=by
 have hle:=ha.le;have ht:=ha.tight;obtain ⟨ao,cap,rfl⟩:=ha.shape;have hcap:=ht.cap;obtain ⟨n,hn⟩:∃ n,n=xs.length:=⟨_,rfl⟩;rw [<- hn] at ht hle hcap |-;have Ha:=hid ht;have Hn:=hid hn;have hcp:n<=cap:=by omega
 have hnil:ao=none->cap=0:=by
  intro h;subst h;rcases ht.1.2.2 with ⟨_,ao2,c2,e,h2⟩ | ⟨b2,o2,c2,e,_⟩
  . injection e with e1 e2 e3
    rw [e3];exact h2 e1.symm
  . injection e with e1 e2 e3
    cases e1
 have Hnil:=hid hnil;clear hnil;have Hcap:=hid hcap;clear hn ht ha hcap;cases hf:flB xs 20 with
 | false =>
  have hno:¬ NTok xs a:=fun h=>by have h1:=h.1;rw [hf] at h1;cases h1
  have e1:NTC xs a=2:=if_neg hno;have e2:NTR xs a=[]:=if_neg hno;rw [e1,e2];have Hf:=hid hf;clear e1 e2 hf hno;go_enter Tryz.func31,Tryz.ntmps31;go_wp2_with fail;with_reducible refine (l15Flow_c 20 ⟨by decide,by decide⟩ Ha.out).mono ?_
  rw [Hf.out];rintro e w1 ⟨rfl,hb⟩;go_wp2;go_ret2;exact ⟨_,rfl,Own.nil _ _ _ _,hb⟩
 | true =>
  have Hf:=hid hf;clear hf;by_cases hin:0<=a/\a<=n
  . obtain ⟨k,rfl⟩:=zG hin.1
    have hkn:k<=n:=by omega
    have hok:NTok xs (k:Int):=⟨Hf.out,hin.1,by have:=Hn.out;omega⟩;have e1:NTC xs (k:Int)=UseC (xs.drop k):=if_pos hok;have e2:NTR xs (k:Int)=UseR (xs.drop k):=if_pos hok;rw [e1,e2];clear e1 e2 hok;have Hin:=hid hin;clear hin hai;by_cases hc:cap=k
    . obtain rfl:k=cap:=hc.symm
      have hdr:∀ W,Below w.heap.size w W->Rds eStep W.heap.size W (.slice ao 0 0) (xs.drop k):=fun W hW=>Rds.dropN (n:=0) ((Ha.out.below hW (zA _)).mono hW.size) (by have:=Hn.out;omega) (fun _=>rfl);have Hdr:=hid hdr;clear hdr;obtain rfl:n=k:=by omega
      go_enter Tryz.func31,Tryz.ntmps31;go_wp2_with fail;with_reducible refine (l15Flow_c 20 ⟨by decide,by decide⟩ Ha.out).mono ?_
      rw [Hf.out];rintro e w1 ⟨rfl,hb⟩;have Hb:=hid hb;clear hb;go_wp2_with fail;with_reducible refine (yBI _ _ _ _ (by omega) (by omega)).mono ?_
      rintro e w9 ⟨rfl,rfl⟩;go_wp2_with fail;with_reducible refine (sFlowUses_c (Hdr.out _ Hb.out)).mono ?_
      rintro e w2 ⟨u,rfl,hu,hb2⟩;have Hu:=hid (hu.mono Hb.out.size);have hb3:=Hb.out.trans (hb2.mono Hb.out.size);clear hu hb2;go_wp2;go_ret2;exact ⟨_,rfl,Hu.out,hb3⟩
    . by_cases hkl:k<n
      . obtain ⟨b,off,rfl⟩:∃ b off,ao=some ⟨b,off,none⟩:=by
         obtain ⟨ao2,cap2,he,ho⟩:=yBG Ha.out;injection he with h1 h2 h3;subst h1;obtain ⟨b,off,h,_⟩:=ho (by have:=Hn.out;omega);exact ⟨b,off,h⟩
        have hdr:∀ W,Below w.heap.size w W->Rds eStep W.heap.size W (.slice (some ⟨b,off+k * 9,none⟩) (n - k) (cap - k)) (xs.drop k):=fun W hW=>Rds.dropE (E:=eStep) ((Ha.out.below hW (zA _)).mono hW.size) hkl;have Hdr:=hid hdr;clear hdr;go_enter Tryz.func31,Tryz.ntmps31;go_wp2_with fail;with_reducible refine (l15Flow_c 20 ⟨by decide,by decide⟩ Ha.out).mono ?_
        rw [Hf.out];rintro e w1 ⟨rfl,hb⟩;have Hb:=hid hb;clear hb;go_wp2_with fail;with_reducible refine (yBI _ _ _ _ (by omega) (by omega)).mono ?_
        rintro e w9 ⟨rfl,rfl⟩;go_wp2_with fail;with_reducible refine (sFlowUses_c (Hdr.out _ Hb.out)).mono ?_
        rintro e w2 ⟨u,rfl,hu,hb2⟩;have Hu:=hid (hu.mono Hb.out.size);have hb3:=Hb.out.trans (hb2.mono Hb.out.size);clear hu hb2;go_wp2;go_ret2;exact ⟨_,rfl,Hu.out,hb3⟩
      . obtain rfl:k=n:=by omega
        have hdr:∀ W (ao':Option Addr),Below w.heap.size w W->(ao'=none->ao=none)->Rds eStep W.heap.size W (.slice ao' 0 (cap - k)) (xs.drop k):=fun W ao' hW h0=>Rds.dropN (n:=0) ((Ha.out.below hW (zA _)).mono hW.size) (by have:=Hn.out;omega) (fun hh=>by have h1:=Hnil.out (h0 hh);omega);have hmap:Option.map (fun x=>x.add (k * 9)) ao=none->ao=none:=by cases ao with | none=>exact fun h=>h | some a=>intro h;cases h
        have Hmap:=hid hmap;have Hdr:=hid hdr;clear hdr hmap;go_enter Tryz.func31,Tryz.ntmps31;go_wp2_with fail;with_reducible refine (l15Flow_c 20 ⟨by decide,by decide⟩ Ha.out).mono ?_
        rw [Hf.out];rintro e w1 ⟨rfl,hb⟩;have Hb:=hid hb;clear hb;go_wp2_with fail;with_reducible refine (yBI _ _ _ _ (by omega) (by omega)).mono ?_
        rintro e w9 ⟨rfl,rfl⟩;go_wp2_with fail;with_reducible refine (sFlowUses_c (Hdr.out _ _ Hb.out Hmap.out)).mono ?_
        rintro e w2 ⟨u,rfl,hu,hb2⟩;have Hu:=hid (hu.mono Hb.out.size);have hb3:=Hb.out.trans (hb2.mono Hb.out.size);clear hu hb2;go_wp2;go_ret2;exact ⟨_,rfl,Hu.out,hb3⟩
  . have hno:¬ NTok xs a:=fun h=>hin ⟨h.2.1,by have:=Hn.out;have:=h.2.2;omega⟩
    have e1:NTC xs a=2:=if_neg hno;have e2:NTR xs a=[]:=if_neg hno;rw [e1,e2];have hin2:a<0\/(n:Int)<a:=by omega
    have Hin:=hid hin2;clear e1 e2 hno hin hin2;go_enter Tryz.func31,Tryz.ntmps31;go_wp2_with fail;with_reducible refine (l15Flow_c 20 ⟨by decide,by decide⟩ Ha.out).mono ?_
    rw [Hf.out];rintro e w1 ⟨rfl,hb⟩;go_wp2_with fail;with_reducible refine (l00In_no _ _ _ _ Hin.out).mono ?_
    rintro e w9 ⟨rfl,rfl⟩;go_wp2;go_ret2;exact ⟨_,rfl,Own.nil _ _ _ _,hb⟩
end Go.Proofs.YthdaghfhlfjclaaGreat
