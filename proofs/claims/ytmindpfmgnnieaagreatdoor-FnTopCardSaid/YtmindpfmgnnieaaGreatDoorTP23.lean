/- Lemmas on the way to the law FnTop. No condition. -/
import Derived.Test.YtmindpfmgnnieaaGreatDoorTP13
import Derived.Test.YtmindpfmgnnieaaGreatDoorTP22
import Derived.Lib.QuietBelow
import Derived.Test.YtmindpfmgnnieaaGreatDoorTP4
namespace Go.Proofs.YtmindpfmgnnieaaGreatDoor
set_option maxHeartbeats 1000000
set_option linter.unusedSimpArgs false
open Lib (hid)
open Go.ChangeShapes Go.WideShapes Go.ChangeAt Go.RowKit
set_option linter.unusedVariables false
set_option maxRecDepth 100000
abbrev trayP (n:Int):Prop:=0<=n/\n<=5
abbrev twoP (n:Int):Prop:=2<=n/\n<=4
structure StOk (x:StepT) (w:Int):Prop where
 kd:1<=x.kd/\x.kd<=7
 ta:trayP x.ta
 tb:trayP x.tb
 tc:trayP x.tc
 b0:x.tb=0\/twoP x.kd
 c0:x.tc=0\/¬ x.kd=7
 ff:fieldP x.ff x.ft w
 sum:x.kd=7->fieldP x.sf x.st w/\x.st - x.sf<=12
 nosum:¬ x.kd=7->x.sf=0/\x.st=0
 tx:x.kd=5->chS x.tx=true/\(x.tx.size:Int)=x.ft - x.ff
 notx:¬ x.kd=5->x.tx.size=0
instance (x:StepT) (w:Int):Decidable (StOk x w) :=
 decidable_of_iff ((1<=x.kd/\x.kd<=7)/\trayP x.ta/\trayP x.tb/\trayP x.tc/\(x.tb=0\/twoP x.kd)/\(x.tc=0\/¬ x.kd=7)/\fieldP x.ff x.ft w/\(x.kd=7->fieldP x.sf x.st w/\x.st - x.sf<=12)/\(¬ x.kd=7->x.sf=0/\x.st=0)/\(x.kd=5->chS x.tx=true/\(x.tx.size:Int)=x.ft - x.ff)/\(¬ x.kd=5->x.tx.size=0))
  ⟨fun ⟨a,b,c,d,e,f,g,h,i,j,k⟩=>⟨a,b,c,d,e,f,g,h,i,j,k⟩,fun ⟨a,b,c,d,e,f,g,h,i,j,k⟩=>⟨a,b,c,d,e,f,g,h,i,j,k⟩⟩
def stB (x:StepT) (w:Int):Bool:=decide (StOk x w)
theorem stB_no {x:StepT} {w:Int} (h:StOk x w->False):stB x w=false:=decide_eq_false h
theorem stB_yes {x:StepT} {w:Int} (h:StOk x w):stB x w=true:=decide_eq_true h
theorem isTray_yes (n:Int) (w:World) (h:trayP n):Calls Tryz.prog 134 #[.int .i64 n] w fun e w'=>e=.returned (.bool true)/\w=w':=by
 go_enter Tryz.func134,Tryz.ntmps134;go_wp2_with (go_at_call 82;refine (yBD _ _ _ _ h.1 h.2).mono ?_;rintro e w' ⟨rfl,rfl⟩);go_ret;exact ⟨rfl,rfl⟩
theorem isTray_no (n:Int) (w:World) (h:¬ trayP n):Calls Tryz.prog 134 #[.int .i64 n] w fun e w'=>e=.returned (.bool false)/\w=w':=by
 have h2:n<0\/5<n:=by unfold trayP at h;omega
 have H:=hid h2;clear h h2;go_enter Tryz.func134,Tryz.ntmps134;go_wp2_with (go_at_call 82;refine (inside_no _ _ _ _ H.out).mono ?_;rintro e w' ⟨rfl,rfl⟩);go_ret;exact ⟨rfl,rfl⟩
theorem takesTwo_yes (n:Int) (w:World) (h:twoP n):Calls Tryz.prog 135 #[.int .i64 n] w fun e w'=>e=.returned (.bool true)/\w=w':=by
 go_enter Tryz.func135,Tryz.ntmps135;go_wp2_with (go_at_call 82;refine (yBD _ _ _ _ h.1 h.2).mono ?_;rintro e w' ⟨rfl,rfl⟩);go_ret;exact ⟨rfl,rfl⟩
theorem takesTwo_no (n:Int) (w:World) (h:¬ twoP n):Calls Tryz.prog 135 #[.int .i64 n] w fun e w'=>e=.returned (.bool false)/\w=w':=by
 have h2:n<2\/4<n:=by unfold twoP at h;omega
 have H:=hid h2;clear h h2;go_enter Tryz.func135,Tryz.ntmps135;go_wp2_with (go_at_call 82;refine (inside_no _ _ _ _ H.out).mono ?_;rintro e w' ⟨rfl,rfl⟩);go_ret;exact ⟨rfl,rfl⟩
theorem isNumberField_c (f t c:Int) (w:World) (hc:0<=c/\c<=1000):Calls Tryz.prog 86 #[.agg #[.int .i64 f,.int .i64 t],.int .i64 c] w fun e w'=>e=.returned (.bool (decide (fieldP f t c/\t - f<=12)))/\Below w.heap.size w w':=by
 obtain ⟨p,hp⟩:∃ p,p=decide (fieldP f t c/\t - f<=12):=⟨_,rfl⟩;rw [<- hp];have Hp:=hid hp;have Hc:=hid hc;clear hp;go_enter Tryz.func86,Tryz.ntmps86;go_wp2_with fail;with_reducible refine (yBN f t c _ Hc.out).mono ?_
 by_cases h1:fieldP f t c
 . have H1:=hid h1
   have hb1:0<=f/\f<t/\t<=1000:=by unfold fieldP at h1;omega
   have hb2:=hb1.1;have hb3:=hb1.2.1;have hb4:=hb1.2.2;rw [decide_eq_true h1];clear h1 hb1;rintro e w1 ⟨rfl,hb⟩;have hb9:=((zB w.heap.size w).alloc (zA _) _).trans (hb.mono (by simp));have Hb:=hid hb9;have hz:w.heap.size<w1.heap.size:=by have:=hb.size;simp at this;omega
   obtain ⟨hcc,hcf⟩:=bcell hb;clear hb hb9;by_cases h2:t - f<=12
   . go_wp2
     go_ret;exact ⟨yAC (by rw [Hp.out];exact (decide_eq_true ⟨H1.out,h2⟩).symm),Hb.out⟩
   . go_wp2
     go_ret;exact ⟨yAC (by rw [Hp.out];exact decide_eq_decide.2 ⟨fun q=>⟨H1.out,q⟩,fun q=>q.2⟩),Hb.out⟩
 . have H1:=hid h1
   rw [decide_eq_false h1];clear h1;rintro e w1 ⟨rfl,hb⟩;have hb9:=((zB w.heap.size w).alloc (zA _) _).trans (hb.mono (by simp));have Hb:=hid hb9;clear hb hb9;go_wp2;go_ret;exact ⟨yAC (by rw [Hp.out];exact (decide_eq_false fun h=>H1.out h.1).symm),Hb.out⟩
theorem ValidStep_c (x:StepT) (c9:Int) (w:World) (a:okStep x) (hc:1<=c9/\c9<=20) :
 Calls Tryz.prog 92 #[vStep x,.int .i64 c9] w fun e w'=>e=.returned (.bool (stB x c9))/\Below w.heap.size w w':=by
 have Hc:=hid hc;have Ha:=hid a;have hW:Box (w.alloc (.cells #[.int .i64 x.kd,.int .i64 x.ta,.int .i64 x.tb,.int .i64 x.tc,.int .i64 x.ff,.int .i64 x.ft,.int .i64 x.sf,.int .i64 x.st,.string x.tx] 90)) w.heap.size [.int .i64 x.kd,.int .i64 x.ta,.int .i64 x.tb,.int .i64 x.tc,.int .i64 x.ff,.int .i64 x.ft,.int .i64 x.sf,.int .i64 x.st,.string x.tx]:=Box.new w _ _;have hbW:Below w.heap.size w (w.alloc (.cells #[.int .i64 x.kd,.int .i64 x.ta,.int .i64 x.tb,.int .i64 x.tc,.int .i64 x.ff,.int .i64 x.ft,.int .i64 x.sf,.int .i64 x.st,.string x.tx] 90)):=(zB _ _).alloc (zA _) _;have HW:=hid hW;have HbW:=hid hbW;clear a hc hW hbW;go_enter Tryz.func92,Tryz.ntmps92;go_wp2_with fail;with_reducible refine (yBD _ _ _ _ Hc.out.1 Hc.out.2).mono ?_
 rintro e w1 ⟨rfl,rfl⟩;by_cases k_kd:1<=x.kd/\x.kd<=7
 case neg =>
  have K:=hid k_kd;have k2:x.kd<1\/7<x.kd:=by omega
  have K2:=hid k2;clear k2;clear k_kd;go_wp2_with fail;with_reducible refine (inside_no _ _ _ _ K2.out).mono ?_
  rintro e w1 ⟨rfl,rfl⟩;go_wp2;go_ret;exact ⟨yAC (stB_no fun h=>K.out h.kd).symm,HbW.out⟩
 have K_kd:=hid k_kd;clear k_kd;go_wp2_with fail;with_reducible refine (yBD _ _ _ _ K_kd.out.1 K_kd.out.2).mono ?_
 rintro e w1 ⟨rfl,rfl⟩;by_cases k_ta:trayP x.ta
 case neg =>
  have K:=hid k_ta;clear k_ta;go_wp2_with fail;with_reducible refine (isTray_no _ _ K.out).mono ?_
  rintro e w1 ⟨rfl,rfl⟩;go_wp2;go_ret;exact ⟨yAC (stB_no fun h=>K.out h.ta).symm,HbW.out⟩
 have K_ta:=hid k_ta;clear k_ta;go_wp2_with fail;with_reducible refine (isTray_yes _ _ K_ta.out).mono ?_
 rintro e w1 ⟨rfl,rfl⟩;by_cases k_tb:trayP x.tb
 case neg =>
  have K:=hid k_tb;clear k_tb;go_wp2_with fail;with_reducible refine (isTray_no _ _ K.out).mono ?_
  rintro e w1 ⟨rfl,rfl⟩;go_wp2;go_ret;exact ⟨yAC (stB_no fun h=>K.out h.tb).symm,HbW.out⟩
 have K_tb:=hid k_tb;clear k_tb;go_wp2_with fail;with_reducible refine (isTray_yes _ _ K_tb.out).mono ?_
 rintro e w1 ⟨rfl,rfl⟩;by_cases k_tc:trayP x.tc
 case neg =>
  have K:=hid k_tc;clear k_tc;go_wp2_with fail;with_reducible refine (isTray_no _ _ K.out).mono ?_
  rintro e w1 ⟨rfl,rfl⟩;go_wp2;go_ret;exact ⟨yAC (stB_no fun h=>K.out h.tc).symm,HbW.out⟩
 have K_tc:=hid k_tc;clear k_tc;go_wp2_with fail;with_reducible refine (isTray_yes _ _ K_tc.out).mono ?_
 rintro e w1 ⟨rfl,rfl⟩;go_upto_region 3 with fail;generalize w.alloc (.cells #[.int .i64 x.kd,.int .i64 x.ta,.int .i64 x.tb,.int .i64 x.tc,.int .i64 x.ff,.int .i64 x.ft,.int .i64 x.sf,.int .i64 x.st,.string x.tx] 90)=W at HW HbW |-;have c0:=HW.out.cell 0 _ rfl;have c2:=HW.out.cell 2 _ rfl;have c3:=HW.out.cell 3 _ rfl;have c4:=HW.out.cell 4 _ rfl;have c5:=HW.out.cell 5 _ rfl;go_cut [33] (fun c wx=>∃ q:Bool,c=.bool q/\Hid (q=false->(x.tb=0\/twoP x.kd)/\(x.tc=0\/¬ x.kd=7)/\fieldP x.ff x.ft c9)/\Hid (q=true->stB x c9=false)/\Below W.heap.size W wx)
 case first =>
  by_cases k2:x.tb=0
  . have q2:(x.tb != 0)=false:=by simpa using k2
    have K2:=hid k2;clear k2;by_cases k3:x.tc=0
    . have q3:(x.tc != 0)=false:=by simpa using k3
      have K3:=hid k3;clear k3;go_wp2_with fail;with_reducible refine (yBN x.ff x.ft c9 _ (by have:=Hc.out;omega)).mono ?_
      by_cases kf:fieldP x.ff x.ft c9
      . have Kf:=hid kf
        rw [decide_eq_true kf];clear kf;rintro e w1 ⟨rfl,hb⟩;clear c0 c2 c3 c4 c5;go_wp2_with fail;go_meet;exact ⟨false,rfl,fun _=>⟨.inl K2.out,.inl K3.out,Kf.out⟩,fun h=>(by cases h),hb⟩
      . have Kf:=hid kf
        rw [decide_eq_false kf];clear kf;rintro e w1 ⟨rfl,hb⟩;clear c0 c2 c3 c4 c5;go_wp2_with fail;go_meet;exact ⟨true,rfl,fun h=>(by cases h),fun _=>stB_no fun h=>Kf.out h.ff,hb⟩
    . have q3:(x.tc != 0)=true:=by simpa using k3
      have K3:=hid k3;clear k3;by_cases k7:x.kd=7
      . have q7:(x.kd == 7)=true:=by simpa using k7
        have K7:=hid k7;clear k7;go_wp2_with fail;go_meet;exact ⟨true,rfl,fun h=>(by cases h),fun _=>stB_no fun h=>h.c0.elim (fun e=>K3.out e) (fun e=>e K7.out),zB _ _⟩
      . have q7:(x.kd == 7)=false:=by simpa using k7
        have K7:=hid k7;clear k7;go_wp2_with fail;with_reducible refine (yBN x.ff x.ft c9 _ (by have:=Hc.out;omega)).mono ?_
        by_cases kf:fieldP x.ff x.ft c9
        . have Kf:=hid kf
          rw [decide_eq_true kf];clear kf;rintro e w1 ⟨rfl,hb⟩;clear c0 c2 c3 c4 c5;go_wp2_with fail;go_meet;exact ⟨false,rfl,fun _=>⟨.inl K2.out,.inr K7.out,Kf.out⟩,fun h=>(by cases h),hb⟩
        . have Kf:=hid kf
          rw [decide_eq_false kf];clear kf;rintro e w1 ⟨rfl,hb⟩;clear c0 c2 c3 c4 c5;go_wp2_with fail;go_meet;exact ⟨true,rfl,fun h=>(by cases h),fun _=>stB_no fun h=>Kf.out h.ff,hb⟩
  . have q2:(x.tb != 0)=true:=by simpa using k2
    have K0:=hid k2;clear k2;by_cases k2:twoP x.kd
    . have K2:=hid k2
      clear k2;go_wp2_with fail;with_reducible refine (takesTwo_yes _ _ K2.out).mono ?_
      rintro e w1 ⟨rfl,rfl⟩;by_cases k3:x.tc=0
      . have q3:(x.tc != 0)=false:=by simpa using k3
        have K3:=hid k3;clear k3;go_wp2_with fail;with_reducible refine (yBN x.ff x.ft c9 _ (by have:=Hc.out;omega)).mono ?_
        by_cases kf:fieldP x.ff x.ft c9
        . have Kf:=hid kf
          rw [decide_eq_true kf];clear kf;rintro e w1 ⟨rfl,hb⟩;clear c0 c2 c3 c4 c5;go_wp2_with fail;go_meet;exact ⟨false,rfl,fun _=>⟨.inr K2.out,.inl K3.out,Kf.out⟩,fun h=>(by cases h),hb⟩
        . have Kf:=hid kf
          rw [decide_eq_false kf];clear kf;rintro e w1 ⟨rfl,hb⟩;clear c0 c2 c3 c4 c5;go_wp2_with fail;go_meet;exact ⟨true,rfl,fun h=>(by cases h),fun _=>stB_no fun h=>Kf.out h.ff,hb⟩
      . have q3:(x.tc != 0)=true:=by simpa using k3
        have K3:=hid k3;clear k3;have k7:¬ x.kd=7:=by have:=K2.out;unfold twoP at this;omega
        have q7:(x.kd == 7)=false:=by simpa using k7
        have K7:=hid k7;clear k7;go_wp2_with fail;with_reducible refine (yBN x.ff x.ft c9 _ (by have:=Hc.out;omega)).mono ?_
        by_cases kf:fieldP x.ff x.ft c9
        . have Kf:=hid kf
          rw [decide_eq_true kf];clear kf;rintro e w1 ⟨rfl,hb⟩;clear c0 c2 c3 c4 c5;go_wp2_with fail;go_meet;exact ⟨false,rfl,fun _=>⟨.inr K2.out,.inr K7.out,Kf.out⟩,fun h=>(by cases h),hb⟩
        . have Kf:=hid kf
          rw [decide_eq_false kf];clear kf;rintro e w1 ⟨rfl,hb⟩;clear c0 c2 c3 c4 c5;go_wp2_with fail;go_meet;exact ⟨true,rfl,fun h=>(by cases h),fun _=>stB_no fun h=>Kf.out h.ff,hb⟩
    . have K2:=hid k2
      clear k2;go_wp2_with fail;with_reducible refine (takesTwo_no _ _ K2.out).mono ?_
      rintro e w1 ⟨rfl,rfl⟩;go_wp2_with fail;go_meet;exact ⟨true,rfl,fun h=>(by cases h),fun _=>stB_no fun h=>h.b0.elim (fun e=>K0.out e) (fun e=>K2.out e),zB _ _⟩
 case rest =>
  obtain ⟨q,rfl,HP,HN,hbx⟩:=hcut;have HX:=hid (HW.out.on hbx);have HbX:=hid (HbW.out.trans (hbx.mono (by have:=HW.out.lt;omega)));clear c0 c2 c3 c4 c5 hbx HbW HW;have c0:=HX.out.cell 0 _ rfl;have c4:=HX.out.cell 4 _ rfl;have c5:=HX.out.cell 5 _ rfl;have c6:=HX.out.cell 6 _ rfl;have c7:=HX.out.cell 7 _ rfl;have c8:=HX.out.cell 8 _ rfl;cases q with
  | true =>
   have HN1:=hid (HN.out rfl);clear HN HP;go_wp2;go_ret;exact ⟨yAC HN1.out.symm,HbX.out⟩
  | false =>
   obtain ⟨f1,f2,f3⟩:=HP.out rfl;have F1:=hid f1;have F2:=hid f2;have F3:=hid f3;have f4:0<=x.ff/\x.ff<x.ft/\x.ft<=20:=by have:=Hc.out;unfold fieldP at f3;omega
   obtain ⟨f5,f6,f7⟩:=f4;clear f1 f2 f3 HP HN;have hsz:=Ha.out.2.2.2.2.2.2.2.2;by_cases k7:x.kd=7
   . have q7:(x.kd == 7)=true:=by simpa using k7
     have q7n:(x.kd != 7)=false:=by simpa using k7
     have q5:(x.kd == 5)=false:=by simpa using (show ¬ x.kd=5 by omega)
     have K7:=hid k7;have K5:Hid (¬ x.kd=5):=hid (by omega);clear k7;go_wp2_with fail;with_reducible refine (isNumberField_c x.sf x.st c9 _ (by have:=Hc.out;omega)).mono ?_
     by_cases ks:fieldP x.sf x.st c9/\x.st - x.sf<=12
     . have Ks:=hid ks
       rw [decide_eq_true ks];clear ks;rintro e w1 ⟨rfl,hb⟩;have HY:=hid (HX.out.on hb);have HbY:=hid (HbX.out.trans (hb.mono HbX.out.size));clear hb HX HbX c0 c4 c5 c6 c7 c8;have c0:=HY.out.cell 0 _ rfl;have c8:=HY.out.cell 8 _ rfl;by_cases k8:x.tx.size=0
       . have q8:=txt_empty k8
         have K8:=hid k8;clear k8;go_wp2;go_ret;exact ⟨yAC (stB_yes ⟨K_kd.out,K_ta.out,K_tb.out,K_tc.out,F1.out,F2.out,F3.out,fun _=>Ks.out,fun e=>absurd K7.out e,fun e=>absurd e K5.out,fun _=>K8.out⟩).symm,HbY.out⟩
       . have q8:=txt_full k8
         have K8:=hid k8;clear k8;go_wp2;go_ret;exact ⟨yAC (stB_no fun h=>K8.out (h.notx K5.out)).symm,HbY.out⟩
     . have Ks:=hid ks
       rw [decide_eq_false ks];clear ks;rintro e w1 ⟨rfl,hb⟩;have HbY:=hid (HbX.out.trans (hb.mono HbX.out.size));clear hb HX HbX c0 c4 c5 c6 c7 c8;go_wp2;go_ret;exact ⟨yAC (stB_no fun h=>Ks.out (h.sum K7.out)).symm,HbY.out⟩
   . have q7:(x.kd == 7)=false:=by simpa using k7
     have q7n:(x.kd != 7)=true:=by simpa using k7
     have K7:=hid k7;clear k7;by_cases s1:x.sf=0
     case neg =>
      have r1:(x.sf == 0)=false:=by simpa using s1
      have S1:=hid s1;clear s1;go_wp2;go_ret;exact ⟨yAC (stB_no fun h=>S1.out (h.nosum K7.out).1).symm,HbX.out⟩
     by_cases s2:x.st=0
     case neg =>
      have r1:(x.sf == 0)=true:=by simpa using s1
      have r2:(x.st == 0)=false:=by simpa using s2
      have S2:=hid s2;clear s1 s2;go_wp2;go_ret;exact ⟨yAC (stB_no fun h=>S2.out (h.nosum K7.out).2).symm,HbX.out⟩
     have r1:(x.sf == 0)=true:=by simpa using s1
     have r2:(x.st == 0)=true:=by simpa using s2
     have S1:=hid s1;have S2:=hid s2;clear s1 s2;by_cases k5:x.kd=5
     . have q5:(x.kd == 5)=true:=by simpa using k5
       have K5:=hid k5;clear k5;go_wp2_with fail;with_reducible refine (areCharacters_c x.tx _ hsz).mono ?_
       cases kc:chS x.tx with
       | false =>
        have Kc:=hid kc;clear kc;rintro e w1 ⟨rfl,rfl⟩;go_wp2;go_ret;exact ⟨yAC (stB_no fun h=>by have h9:=(h.tx K5.out).1;rw [Kc.out] at h9;cases h9).symm,HbX.out⟩
       | true =>
        have Kc:=hid kc;clear kc;rintro e w1 ⟨rfl,rfl⟩;by_cases ke:(x.tx.size:Int)=x.ft - x.ff
        . have qe:((x.tx.size:Int) == x.ft - x.ff)=true:=by simpa using ke
          have Ke:=hid ke;clear ke;go_wp2;go_ret;exact ⟨yAC (stB_yes ⟨K_kd.out,K_ta.out,K_tb.out,K_tc.out,F1.out,F2.out,F3.out,fun e=>absurd e K7.out,fun _=>⟨S1.out,S2.out⟩,fun _=>⟨Kc.out,Ke.out⟩,fun e=>absurd K5.out e⟩).symm,HbX.out⟩
        . have qe:((x.tx.size:Int) == x.ft - x.ff)=false:=by simpa using ke
          have Ke:=hid ke;clear ke;go_wp2;go_ret;exact ⟨yAC (stB_no fun h=>Ke.out (h.tx K5.out).2).symm,HbX.out⟩
     . have q5:(x.kd == 5)=false:=by simpa using k5
       have K5:=hid k5;clear k5;by_cases k8:x.tx.size=0
       . have q8:=txt_empty k8
         have K8:=hid k8;clear k8;go_wp2;go_ret;exact ⟨yAC (stB_yes ⟨K_kd.out,K_ta.out,K_tb.out,K_tc.out,F1.out,F2.out,F3.out,fun e=>absurd e K7.out,fun _=>⟨S1.out,S2.out⟩,fun e=>absurd e K5.out,fun _=>K8.out⟩).symm,HbX.out⟩
       . have q8:=txt_full k8
         have K8:=hid k8;clear k8;go_wp2;go_ret;exact ⟨yAC (stB_no fun h=>K8.out (h.notx K5.out)).symm,HbX.out⟩
abbrev C9 (c:Int):Prop:=1<=c/\c<=20
def badS (c:Int) (x:StepT):Bool:=!stB x c
def flB (xs:List StepT) (c:Int):Bool:=!(xs.any (badS c)) && decide (xs.length<=20)
theorem flB_long {xs:List StepT} {c:Int} (h:¬ xs.length<=20):flB xs c=false:=by unfold flB;rw [decide_eq_false h,Bool.and_false]
theorem flB_short {xs:List StepT} {c:Int} (h:xs.length<=20):flB xs c=!(xs.any (badS c)):=by unfold flB;rw [decide_eq_true h,Bool.and_true]
theorem clo_Step (c9:Int) (y:StepT) (w:World) (hc:C9 c9) (hy:okStep y) {c:Nat} (hcc:w.cell? ⟨c,0,none⟩=some (.int .i64 c9)) (hlt:c<w.heap.size) :
 Calls Tryz.prog 91 #[vStep y,.pointer (some ⟨c,0,none⟩)] w fun e w'=>e=.returned (.bool (badS c9 y))/\Below w.heap.size w w':=by
 have hne:c ≠ w.heap.size:=by omega
 have Hc:=hid hc;have Hy:=hid hy;clear hc hy;go_enter Tryz.func91,Tryz.ntmps91;go_wp2_with fail;with_reducible refine (ValidStep_c y c9 _ Hy.out Hc.out).mono ?_
 rintro e w1 ⟨rfl,hb⟩;have hb9:=((zB w.heap.size w).alloc (zA _) _).trans (hb.mono (by simp));clear hb;go_wp2;go_ret;exact ⟨rfl,hb9⟩
theorem indexStep_c {xs:List StepT} {v:Value} {w:World} {A:Nat} (c9:Int) (h9:Hid (C9 c9)) {c:Nat} (hcc:w.cell? ⟨c,0,none⟩=some (.int .i64 c9)) (hlc:c<w.heap.size) (ha:RdStepS A w v xs) :
 Calls Tryz.prog 133 #[v,.func (.func 91) #[] #[.pointer (some ⟨c,0,none⟩)]] w fun e w'=>(∃ r:Int,e=.returned (.int .i64 r)/\-1<=r/\(0<=r ↔ xs.any (badS c9)=true))/\Below w.heap.size w w':=by
 have hle:=ha.le;obtain ⟨ao,cap,rfl,ho⟩:=eStep_open ha;obtain ⟨n,hn⟩:∃ n,n=xs.length:=⟨_,rfl⟩;rw [<- hn];have Hn:=hid hn;have Ho:=hid ho;have Hcc:=hid hcc;clear hcc;have hle':n<=9223372036854775807:=by omega
 clear ho hn hle ha;go_enter Tryz.func133,Tryz.ntmps133;go_wp2;go_loopw [8] (fun i wr=>∃ k:Nat,k<=n/\i=.int .i64 k/\Hid ((xs.take k).any (badS c9)=false)/\Below w.heap.size w wr) (fun i _=>n - (intOf i).toNat)
 case atStart=>exact ⟨0,zK _,rfl,rfl,zB _ _⟩
 case round =>
  obtain ⟨k,hk,rfl,hp,hbb⟩:=hrel;by_cases hkn:k<n
  . obtain ⟨b,off,rfl,hlt,hc⟩:=Ho.out (by have:=Hn.out;omega)
    obtain ⟨y,hy,⟨c0,c1,c2,c3,c4,c5,c6,c7,c8⟩,bx⟩:=hc k (by have:=Hn.out;omega);have Hy:=hid hy;have Hbx:=hid bx;have d0:=(hbb.cell (p:=⟨b,off+k * 9,none⟩) hlt.2).trans c0;have d1:=(hbb.cell (p:=⟨b,off+k * 9+1,none⟩) hlt.2).trans c1;have d2:=(hbb.cell (p:=⟨b,off+k * 9+2,none⟩) hlt.2).trans c2;have d3:=(hbb.cell (p:=⟨b,off+k * 9+3,none⟩) hlt.2).trans c3;have d4:=(hbb.cell (p:=⟨b,off+k * 9+4,none⟩) hlt.2).trans c4;have d5:=(hbb.cell (p:=⟨b,off+k * 9+5,none⟩) hlt.2).trans c5;have d6:=(hbb.cell (p:=⟨b,off+k * 9+6,none⟩) hlt.2).trans c6;have d7:=(hbb.cell (p:=⟨b,off+k * 9+7,none⟩) hlt.2).trans c7;have d8:=(hbb.cell (p:=⟨b,off+k * 9+8,none⟩) hlt.2).trans c8;have hcw:=(hbb.cell (p:=⟨c,0,none⟩) hlc).trans Hcc.out;have hlw:c<wr.heap.size:=by have:=hbb.size;omega
    have Hcw:=hid hcw;clear hcw;clear hy hc bx c0 c1 c2 c3 c4 c5 c6 c7 c8;go_wp2_with fail;with_reducible refine (clo_Step c9 y wr h9.out Hbx.out Hcw.out hlw).mono ?_
    cases hq:(badS c9) y with
    | true =>
     have Hq:=hid hq;clear hq;rintro e w1 ⟨rfl,hb1⟩;have hb2:=hbb.trans (hb1.mono hbb.size);go_wp2;go_ret;refine ⟨⟨_,rfl,by omega,?_⟩,hb2⟩;have:xs.any (badS c9)=true:=List.any_eq_true.2 ⟨y,zC Hy.out,Hq.out⟩;simp [this]
    | false =>
     have Hq:=hid hq;clear hq;rintro e w1 ⟨rfl,hb1⟩;have hb2:=hbb.trans (hb1.mono hbb.size);clear d0 d1 d2 d3 d4 d5 d6 d7 d8 hb1 hbb;go_wp2;go_roundw
     case rel=>exact ⟨k+1,by omega,by go_num,by show _=false;rw [yAD Hy.out,List.any_append,hp.out];simp [Hq.out],hb2⟩
     case measure=>simp [intOf];omega
  . go_wp2
    go_ret;refine ⟨⟨_,rfl,by omega,?_⟩,hbb⟩;have hq:=hp.out;rw [zH (by have:=Hn.out;omega)] at hq;exact any_endT hq
theorem containsStep_c {xs:List StepT} {v:Value} {w:World} {A:Nat} (c9:Int) (h9:Hid (C9 c9)) {c:Nat} (hcc:w.cell? ⟨c,0,none⟩=some (.int .i64 c9)) (hlc:c<w.heap.size) (ha:RdStepS A w v xs) :
 Calls Tryz.prog 90 #[v,.func (.func 91) #[] #[.pointer (some ⟨c,0,none⟩)]] w fun e w'=>e=.returned (.bool (xs.any (badS c9)))/\Below w.heap.size w w':=by
 have Ha:=hid ha;have Hcc:=hid hcc;clear hcc;obtain ⟨ao,cap,rfl⟩:=ha.shape;clear ha;go_enter Tryz.func90,Tryz.ntmps90;go_wp2_with fail;with_reducible refine (indexStep_c c9 h9 Hcc.out hlc Ha.out).mono ?_
 rintro e w' ⟨⟨r,rfl,hr,hi⟩,hb⟩;have Hi:=hid hi;clear hi;go_wp2;go_ret;refine ⟨yAC ?_,hb⟩;rw [Bool.eq_iff_iff,decide_eq_true_iff];exact Hi.out
theorem ValidFlow_c {xs:List StepT} {v:Value} {w:World} {A:Nat} (c9:Int) (hc:C9 c9) (ha:RdStepS A w v xs) :
 Calls Tryz.prog 45 #[v,.int .i64 c9] w fun e w'=>e=.returned (.bool (flB xs c9))/\Below w.heap.size w w':=by
 have hle:=ha.le;have Hc:=hid hc;have hb1:Below w.heap.size w (w.alloc (.cells #[.int .i64 c9] 2)):=(zB _ _).alloc (zA _) _;have Hb1:=hid hb1;have HR:=hid (Rds.onn ha hb1);have HB:=hid (Box.new w [.int .i64 c9] 2);obtain ⟨ao,cap,rfl⟩:=ha.shape;obtain ⟨n,hn⟩:∃ n,n=xs.length:=⟨_,rfl⟩;rw [<- hn] at hle HR |-;have Hn:=hid hn;clear ha hc hb1 hn;go_enter Tryz.func45,Tryz.ntmps45;go_wp2_with fail;with_reducible refine (yBD _ _ _ _ Hc.out.1 Hc.out.2).mono ?_
 rintro e w1 ⟨rfl,rfl⟩;by_cases h20:n<=20
 . have e1:=flB_short (c:=c9) (show xs.length<=20 by have:=Hn.out;omega)
   have E1:=hid e1;clear e1;go_wp2_with fail;with_reducible refine (containsStep_c c9 (hid Hc.out) (HB.out.cell 0 _ rfl) HB.out.lt HR.out).mono ?_
   rintro e w2 ⟨rfl,hb2⟩;have hb3:=Hb1.out.trans (hb2.mono Hb1.out.size);clear hb2;go_wp2;go_ret;exact ⟨yAC E1.out.symm,hb3⟩
 . have e1:=flB_long (c:=c9) (show ¬ xs.length<=20 by have:=Hn.out;omega)
   have E1:=hid e1;clear e1;go_wp2;go_ret;exact ⟨yAC E1.out.symm,Hb1.out⟩
end Go.Proofs.YtmindpfmgnnieaaGreatDoor
