/- Lemmas on the way to the law FnTop. No condition. -/
import Derived.Test.YtmindpfmgnnieaaGreatDoorTP13
import Derived.Test.YtmindpfmgnnieaaGreatDoorTP24
import Derived.Test.YtmindpfmgnnieaaGreatDoorTP4
namespace Go.Proofs.YtmindpfmgnnieaaGreatDoor
set_option maxHeartbeats 2000000
set_option linter.unusedSimpArgs false
open Lib (hid)
open Go.ChangeShapes Go.WideShapes Go.ChangeAt Go.RowKit
set_option linter.unusedVariables false
set_option maxRecDepth 100000
theorem dec_len (u:Nat):(Lib.decDigits u).length=if u<10 then 1 else (Lib.decDigits (u / 10)).length+1:=by
 rw [Lib.decDigits];split <;> simp
theorem itoaB_len {n:Int} (h:0<=n):(itoaB n).size=(Lib.decDigits n.toNat).length:=by
 show (Lib.itoa n).toArray.size=_
 rw [List.size_toArray];unfold Lib.itoa;rw [if_neg (by omega)]
theorem digit_sum {n:Int} (h:0<=n/\n<=9999):sumI (wl n (itoaB n).size)=dsum n:=by
 rw [itoaB_len h.1,dec_len];have hu:(n.toNat:Int)=n:=by omega
 generalize n.toNat=u at hu;subst hu;split
 . simp [wl,List.range_succ,shr,sumI,dsum,digA,p10];omega
 . rw [dec_len]
   split
   . simp [wl,List.range_succ,shr,sumI,dsum,digA,p10];omega
   . rw [dec_len]
     split
     . simp [wl,List.range_succ,shr,sumI,dsum,digA,p10];omega
     . rw [dec_len]
       split
       . simp [wl,List.range_succ,shr,sumI,dsum,digA,p10];omega
       . omega
theorem wl_digit {n:Int} {p:Nat} (hp:p<4):(wl n 4)[p]?=some (digA n (p:Int)):=by
 have:p=0\/p=1\/p=2\/p=3:=by omega
 rcases this with rfl | rfl | rfl | rfl <;> simp [wl,List.range_succ,shr,digA,p10] <;> omega
def shownN (ds:List Int):Int:=ds.foldr (fun d a=>10 * a+d) 0
theorem shownN_le:∀ {ds:List Int},(∀ x∈ds,0<=x/\x<=9)->0<=shownN ds/\shownN ds<(10:Int) ^ ds.length
 | [],_=>by simp [shownN]
 | d :: ds,h=>by
  have ih:=shownN_le (ds:=ds) fun x hx=>h x (by simp [hx]);have hd:=h d (by simp);have e:shownN (d :: ds)=10 * shownN ds+d:=rfl;rw [e,List.length_cons,Int.pow_succ];omega
theorem shownN_bd {ds:List Int} (h:∀ x∈ds,0<=x/\x<=9) (hl:ds.length<=4):0<=shownN ds/\shownN ds<=9999:=by
 have h1:=shownN_le h;have h2:ds.length=0\/ds.length=1\/ds.length=2\/ds.length=3\/ds.length=4:=by omega
 rcases h2 with h2 | h2 | h2 | h2 | h2 <;> rw [h2] at h1 <;> omega
theorem shown_read {n:Int} {f:FaultT} (hn:0<=n/\n<=9999) {p:Nat} (hp:p<4) (hf:f.place=(p:Int)):shownN ((wl n 4).set p f.digit)=readF n f:=by
 unfold readF;rw [hf];have:p=0\/p=1\/p=2\/p=3:=by omega
 rcases this with rfl | rfl | rfl | rfl <;> simp [wl,List.range_succ,shr,digA,p10,shownN] <;> omega
theorem run_ctr (a:Option Addr) (n c:Nat) (W:World):(Instr.field 226 (.agg #[.slice a n c]) 0).run Tryz.prog W=.ok (.slice a n c) W:=by kernel_rfl
theorem absOf_c {n:Int} {w:World} (h:0<=n/\n<=9223372036854775807):Calls Tryz.prog 203 #[.int .i64 n] w fun e w'=>e=.returned (.int .i64 n)/\w=w':=by
 obtain ⟨h0,h1⟩:=h;have hz:IntKind.i64.wrap (-n)=-n:=IntWalk.i64_in _ (by omega);have hm:(if n < -n then -n else n)=n:=if_neg (by omega);go_enter Tryz.func203,Tryz.ntmps203;go_wp2;go_ret;exact ⟨yAJ (by first | exact hm | simp [hz];omega | omega),rfl⟩
theorem digitList_c {n:Int} {w:World} (h:0<=n/\n<=9999) (ht:PowAt w) :
 Calls Tryz.prog 183 #[.int .i64 n] w fun e w'=>∃ u,e=.returned u/\OwnInt64S w.heap.size w' u (wl n (itoaB n).size)/\Below w.heap.size w w':=by
 have hcon:=digitsOf_c (n:=n) (by omega) (by omega) ht;have hs:=itoaB_size (n:=n) (by omega) (by omega);have Hcon:=hid hcon;have H:=hid h;generalize (itoaB n).size=D at Hcon hs |-;clear hcon ht h;go_enter Tryz.func183,Tryz.ntmps183;go_wp2_with fail;with_reducible refine (absOf_c (by have:=H.out;omega)).mono ?_
 rintro e w1 ⟨rfl,rfl⟩;go_wp2_with fail;with_reducible refine Hcon.out.mono ?_
 rintro e w2 ⟨rfl,hb2⟩;have Hb2:=hid hb2;clear hb2;go_wp2_with fail;with_reducible refine (absOf_c (by have:=H.out;omega)).mono ?_
 rintro e w3 ⟨rfl,rfl⟩;go_wp2_with fail;with_reducible refine (wheelsShow_c (K:=D) hs (by have:=H.out;omega) (by have:=H.out;omega)).mono ?_
 rintro e w4 ⟨u,rfl,hu,hb⟩;obtain ⟨ua,uc,rfl⟩:=hu.shape;have hfd:=run_ctr ua (wl n D).length uc;have Hu:=hid (hu.mono Hb2.out.size);have Hb:=hid (Hb2.out.trans (hb.mono Hb2.out.size));clear hu hb;go_wp2;go_ret;exact ⟨_,rfl,Hu.out,Hb.out⟩
theorem digitSum_c {n:Int} {w:World} (h:0<=n/\n<=9999) (ht:PowAt w) :
 Calls Tryz.prog 165 #[.int .i64 n] w fun e w'=>e=.returned (.int .i64 (dsum n))/\Below w.heap.size w w':=by
 have hcon:=digitList_c h ht;have hd:=digit_sum h;have hs:=itoaB_size (n:=n) (by omega) (by omega);have hok:=wl_ok n (itoaB n).size;have hll:=wl_length n (itoaB n).size;generalize (itoaB n).size=D at hcon hs hd hok hll;generalize wl n D=ds at hcon hd hok hll;rw [<- hd];have Hcon:=hid hcon;have Hok:=hid hok;have Hll:=hid hll;clear hcon hd hok ht h hll;go_enter Tryz.func165,Tryz.ntmps165;go_wp2_with fail;with_reducible refine Hcon.out.mono ?_
 rintro e w1 ⟨u,rfl,hu,hb⟩;obtain ⟨ao,cap,rfl,ho⟩:=RdI.open hu.rds;rw [Hll.out] at ho |-;have Ho:=hid ho;have Hb:=hid hb;clear ho hu hb Hcon;go_wp2;go_loop [9,3] (fun i s=>∃ k:Nat,k<=D/\i=.int .i64 k/\∃ t:Int,s=.int .i64 t/\(0<=t/\t<=9 * k)/\Hid (t=sumI (ds.take k))) (fun i _=>D - (intOf i).toNat)
 case atStart=>exact ⟨0,zK _,rfl,0,rfl,by omega,rfl⟩
 case round =>
  obtain ⟨k,hk,rfl,t,rfl,⟨ht0,ht1⟩,ht⟩:=hrel;by_cases hkn:k<D
  . obtain ⟨b,off,rfl,hlt,hc⟩:=Ho.out (by omega)
    obtain ⟨x,hx,hcx,bx⟩:=hc k (by omega);obtain ⟨hx0,hx1⟩:=Hok.out x (zC hx);have Hx:=hid hx;clear hx hc bx;go_wp2;go_round
    case rel=>exact ⟨k+1,by omega,by go_num,t+x,by go_num,by omega,by show _=_;rw [yAD Hx.out,sumI_snoc,<- ht.out]⟩
    case measure=>simp [intOf];omega
  . obtain rfl:k=D:=by omega
    go_wp2;go_ret;refine ⟨yAJ ?_,Hb.out⟩;rw [ht.out,zH (by have:=Hll.out;omega)]
theorem digitAt_c {n:Int} {p:Nat} {w:World} (h:0<=n/\n<=9999) (hp:p<4) :
 Calls Tryz.prog 166 #[.int .i64 n,.int .i64 (p:Int)] w fun e w'=>e=.returned (.int .i64 (digA n (p:Int)))/\Below w.heap.size w w':=by
 have hcon:=wheelsShow_c (K:=4) (n:=n) (w:=w) (by decide) (by omega) (by omega);rw [show ((4:Nat):Int)=4 from rfl] at hcon;have hd:=wl_digit (n:=n) hp;have hll:=wl_length n 4;generalize wl n 4=ds at hcon hd hll;generalize digA n (p:Int)=d at hd |-;have Hcon:=hid hcon;have Hd:=hid hd;have Hll:=hid hll;clear hcon hd hll h;go_enter Tryz.func166,Tryz.ntmps166;go_wp2_with fail;with_reducible refine Hcon.out.mono ?_
 rintro e w1 ⟨u,rfl,hu,hb⟩;obtain ⟨ao,cap,rfl,ho⟩:=RdI.open hu.rds;rw [Hll.out] at ho |-;obtain ⟨b,off,rfl,hlt,hc⟩:=ho (by omega);obtain ⟨x,hx,hcx,bx⟩:=hc p (by omega);obtain rfl:x=d:=zD (hx.symm.trans Hd.out);have hp4:(p:Int)<4:=by omega
 have Hb:=hid hb;have hfd:=run_ctr (some ⟨b,off,none⟩) 4 cap;clear hc hx hu hb ho bx Hcon;go_wp2;go_ret;exact ⟨rfl,Hb.out⟩
theorem shown_c {ds:List Int} {u:Value} {w:World} {A:Nat} (ha:RdI A w u ds) (hok:∀ x∈ds,0<=x/\x<=9) (hl:ds.length=4) :
 Calls Tryz.prog 187 #[.agg #[u]] w fun e w'=>e=.returned (.int .i64 (shownN ds))/\Below w.heap.size w w':=by
 obtain ⟨ao,cap,rfl,ho⟩:=RdI.open ha;rw [hl] at ho |-;obtain ⟨b,off,rfl,hlt,hc⟩:=ho (by omega);have Hc:=hid hc;have Hok:=hid hok;have Hl:=hid hl;have hlt2:=hlt.2;have hne:w.heap.size ≠ b:=by omega
 clear hc ho ha hl hlt hok;go_enter Tryz.func187,Tryz.ntmps187;go_wp2;go_loop [4,3] (fun i s=>∃ (k:Nat) (t:Int),k<=4/\i=.int .i64 ((k:Int) - 1)/\s=.int .i64 t/\(0<=t/\t<=9999)/\Hid (t=shownN (ds.drop k))) (fun i _=>(intOf i+1).toNat)
 case atStart=>exact ⟨4,0,by omega,rfl,rfl,by omega,by show (0:Int)=_;rw [List.drop_of_length_le (by have:=Hl.out;omega)];rfl⟩
 case round =>
  obtain ⟨k,t,hk,rfl,rfl,⟨ht0,ht1⟩,Ht⟩:=hrel;rcases k with _ | k
  . have He:Hid (t=shownN ds):=hid (by rw [Ht.out];rfl)
    have hneg:¬ (0:Int)<=((0:Nat):Int) - 1:=by omega
    clear Ht;go_wp2;go_ret;exact ⟨yAJ He.out,(zB _ _).alloc (zA _) _⟩
  . obtain ⟨x,hx,hcx,_⟩:=Hc.out k (by omega)
    have hst:shownN (ds.drop k)=10 * t+x:=by
     have h2:ds.drop k=x :: ds.drop (k+1):=by
      have h3:=zS.1 hx;rw [List.drop_eq_getElem_cons h3.1,h3.2]
     rw [h2,Ht.out];rfl
    have hxb:=Hok.out x (zC hx);have hkz:((k+1:Nat):Int) - 1=(k:Int):=by omega
    have hk4:(k:Int)<4:=by omega
    have hbn:0<=10 * t+x/\10 * t+x<=9999:=by
     rw [<- hst];exact shownN_bd (fun z hz=>Hok.out z (List.mem_of_mem_drop hz)) (by rw [zQ];have:=Hl.out;omega)
    have Hst:=hid hst;obtain ⟨hx0,hx1⟩:=hxb;rw [hkz];clear hst hx hkz;go_wp2;go_round
    case rel=>exact ⟨k,10 * t+x,by omega,by go_num,by go_num,hbn,by show _=_;rw [Hst.out]⟩
    case measure=>simp [intOf] <;> omega
theorem infoFaultN:(Tryz.prog.info? 155).map (fun i=>(i.zero,i.size,i.bytes))=some (some (vFault zFault),4,32):=by kernel_rfl
theorem okF {a b c d:Int} (h1:0<=a/\a<=100) (h2:0<=b/\b<=100) (h3:0<=c/\c<=100) (h4:0<=d/\d<=100):okFault ⟨a,b,c,d⟩:=by unfold okFault;simp only;omega
def twoF (c:Int):List FaultT:=[⟨1,c,0,0⟩,⟨2,c,0,0⟩]
theorem two_faults {w:World} {c:Int} (hc:0<=c/\c<=100):RdFaultS (w.heap.size+1) (w.alloc (.cells #[.int .i64 1,.int .i64 c,.int .i64 0,.int .i64 0,.int .i64 2,.int .i64 c,.int .i64 0,.int .i64 0] 155)) (.slice (some ⟨w.heap.size,0,none⟩) 2 2) (twoF c):=by
 have h:=(Own.lit (E:=eFault) (e:=155) (base:=0) (w:=w) (xs:=twoF c) (cs:=#[.int .i64 1,.int .i64 c,.int .i64 0,.int .i64 0,.int .i64 2,.int .i64 c,.int .i64 0,.int .i64 0]) (n:=2) (zK _) rfl rfl (by decide) (fun z hz=>by
  simp [twoF] at hz;rcases hz with rfl | rfl
  . exact okF (by omega) hc (by omega) (by omega)
  . exact okF (by omega) hc (by omega) (by omega))).rds
 simpa using h
theorem allFaults_c {xs:List Int} {v:Value} {w:World} {A:Nat} (ha:RdI A w v xs) (hx:amtOk xs=true) :
 Calls Tryz.prog 145 #[v] w fun e w'=>∃ z,e=.returned z/\OwnFaultS w.heap.size w' z (allF xs)/\Below w.heap.size w w':=by
 obtain ⟨i0,hi,hz0,hz1,hz2⟩:=info_parts infoFaultN;obtain ⟨hl,hxx⟩:=yAQ hx;obtain ⟨ao,cap,rfl,ho⟩:=ha.open;obtain ⟨n,hn⟩:∃ n,n=xs.length:=⟨_,rfl⟩;have e1:allF xs=allK xs n:=by rw [hn];rfl
 rw [e1];rw [<- hn] at ho hl |-;have h0:OwnFaultS w.heap.size (w.alloc (.cells #[] 155)) (.slice (some ⟨w.heap.size,0,none⟩) 0 0) ([]:List FaultT):=Own.lit (E:=eFault) (xs:=[]) (cs:=#[]) (zA _) rfl rfl (by decide) (fun x hx=>by cases hx);have hb0:Below w.heap.size w (w.alloc (.cells #[] 155)):=(zB _ _).alloc (zA _) _;have Ho:=hid ho;have Hx:=hid hxx;have Hn:=hid hn;have H0:=hid h0;have Hb0:=hid hb0;clear ha ho hx hxx hn h0 hb0 e1;go_enter Tryz.func145,Tryz.ntmps145;go_wp2;go_loopw [12,3] (fun iv zv wr=>∃ k:Nat,k<=n/\iv=.int .i64 k/\OwnFaultS w.heap.size wr zv (allK xs k)/\Below w.heap.size w wr) (fun iv _ _=>n - (intOf iv).toNat)
 case atStart=>exact ⟨0,zK _,rfl,H0.out,Hb0.out⟩
 case round =>
  obtain ⟨k,hk,rfl,hZ,hb⟩:=hrel;clear H0 Hb0;by_cases hkn:k<n
  . obtain ⟨b,off,rfl,hlt,hc⟩:=Ho.out (by omega)
    obtain ⟨x,hxk,hcx,hxo⟩:=hc k hkn;have hxb:=Hx.out x (zC hxk);have hgd:xs.getD k 0=x:=by rw [List.getD_eq_getElem?_getD,hxk];rfl
    have hsu:=allK_succ xs k;have hal:=allK_len xs k;rw [hgd] at hsu;have c0:=(hb.cell (p:=⟨b,off+k,none⟩) hlt.2).trans hcx;have hsz:=hb.size;have HZ:=hid hZ;have Hb:=hid hb;have Hsu:=hid hsu;have Hal:=hid hal;have Hxb:=hid hxb;have hk12:k<=12:=by omega
    clear hZ hb hsu hal hxk hcx hxo hgd hc hxb;generalize hK:allK xs k=L0 at HZ Hsu Hal;clear hK;go_wp2_with (first | (at_builtin;refine yAB (E:=eFault) rfl _ _ 49 rfl Tryz.underlying49 hi hz0 hz1 hz2 rfl (by decide) rfl rfl (HZ.out.alloc _) (two_faults (w:=wr) (c:=(k:Int)) (by omega)) ?b1 ?b2 ?b3 ?_))
    case b1=>have:=Hal.out;have h2:(twoF (k:Int)).length=2:=rfl;unfold maxLen;omega
    case b2=>have:=Hal.out;have h2:(twoF (k:Int)).length=2:=rfl;omega
    case b3=>(try simp) <;> omega
    intro v5 w5 hO5 hg5;have hb5:=hg5.alloc.below Hb.out hsz (fun z hz=>(HZ.out.lt z hz).1);have HO5:=hid hO5;have Hb5:=hid hb5;clear hO5 hg5 hb5 c0;go_wp2;go_loopw [25,3] (fun pv zv wr=>∃ p:Nat,p<=4/\pv=.int .i64 p/\OwnFaultS w.heap.size wr zv (L0++(twoF (k:Int)++digP (k:Int) x p))/\Below w.heap.size w wr) (fun pv _ _=>4 - (intOf pv).toNat)
    case atStart=>exact ⟨0,zK _,rfl,by simpa [digP] using HO5.out,Hb5.out⟩
    case round =>
     obtain ⟨p,hp,rfl,hZp,hbp⟩:=hrel;clear HO5 Hb5;by_cases hp4:p<4
     . have hp4i:(p:Int)<4:=by omega
       have hps:=digP_succ (k:Int) x p;have hpl:=digP_len (k:Int) x p;have HZp:=hid hZp;have Hbp:=hid hbp;have Hps:=hid hps;have Hpl:=hid hpl;clear hZp hbp hps hpl;go_wp2;go_loopw [28,3] (fun dv zv wr=>∃ d:Nat,d<=10/\dv=.int .i64 d/\OwnFaultS w.heap.size wr zv (L0++(twoF (k:Int)++(digP (k:Int) x p++digD (k:Int) x (p:Int) d)))/\Below w.heap.size w wr) (fun dv _ _=>10 - (intOf dv).toNat)
       case atStart=>exact ⟨0,zK _,rfl,by simpa [digD] using HZp.out,Hbp.out⟩
       case round =>
        obtain ⟨d,hd,rfl,hZd,hbd⟩:=hrel;clear HZp Hbp;by_cases hd10:d<10
        . have hd10i:(d:Int)<10:=by omega
          have hds:=digD_succ (k:Int) x (p:Int) d;have hdl:=digD_len (k:Int) x (p:Int) d;have hszd:=hbd.size;have hcon:=digitAt_c (w:=wr) Hxb.out hp4;generalize hG:digA x (p:Int)=G at hds hcon;have hlen:(L0++(twoF (k:Int)++(digP (k:Int) x p++digD (k:Int) x (p:Int) d))).length<=1000:=by
           have h1:=Hal.out;have h2:=Hpl.out;simp only [zE,show (twoF (k:Int)).length=2 from rfl];omega
          have HZd:=hid hZd;have Hbd:=hid hbd;have Hcon:=hid hcon;have Hlen:=hid hlen;clear hZd hbd hcon hG hdl hlen;go_wp2_with fail;with_reducible refine Hcon.out.mono ?_
          rintro e w6 ⟨rfl,hb6⟩;have HZ6:=hid (HZd.out.below hb6 (zA _));have hb6x:=Hbd.out.trans (hb6.mono hszd);have Hb6:=hid hb6x;have hs6:w.heap.size<=w6.heap.size:=hb6x.size;clear hb6 hb6x HZd Hbd Hcon;by_cases hGd:G=(d:Int)
          . rw [if_pos hGd,List.append_nil] at hds
            have Hds:=hid hds;subst hGd;clear hds;go_wp2;go_roundw
            case rel=>exact ⟨d+1,by omega,by go_num,by rw [Hds.out];exact HZ6.out,Hb6.out⟩
            case measure=>simp [intOf];omega
          . rw [if_neg hGd] at hds
            have Hds:=hid hds;have t1:(G != (d:Int))=true:=by simpa using hGd
            have hfo:=okF (a:=3) (b:=(k:Int)) (c:=(p:Int)) (d:=(d:Int)) (by omega) (by omega) (by omega) (by omega);have Hfo:=hid hfo;clear hds hfo hGd;go_wp2_with (first | (at_builtin;refine yAB (E:=eFault) rfl _ _ 49 rfl Tryz.underlying49 hi hz0 hz1 hz2 rfl (by decide) rfl rfl (HZ6.out.alloc _) (yAH (E:=eFault) (x:=⟨3,(k:Int),(p:Int),(d:Int)⟩) Hfo.out rfl) ?b1 ?b2 ?b3 ?_))
            case b1=>have:=Hlen.out;unfold maxLen;simp only [List.length_cons,List.length_nil];omega
            case b2=>have:=Hlen.out;simp only [List.length_cons,List.length_nil];omega
            case b3=>(try simp) <;> omega
            intro v7 w7 hO7 hg7;have hb7:=hg7.alloc.below Hb6.out hs6 (fun z hz=>(HZ6.out.lt z hz).1);have HO7:=hid hO7;have Hb7:=hid hb7;clear hO7 hg7 hb7;go_wp2;go_roundw
            case rel=>exact ⟨d+1,by omega,by go_num,by rw [Hds.out];first | exact HO7.out | (have h:=HO7.out;simp only [zN] at h |-;exact h) | (have h:=HO7.out;simpa using h),Hb7.out⟩
            case measure=>simp [intOf];omega
        . obtain rfl:d=10:=by omega
          have HZ6:=hid hZd;have Hb6:=hid hbd;clear hZd hbd;go_wp2;go_roundw
          case rel=>exact ⟨p+1,by omega,by go_num,by rw [Hps.out];exact HZ6.out,Hb6.out⟩
          case measure=>simp [intOf];omega
     . obtain rfl:p=4:=by omega
       have HZ6:=hid hZp;have Hb6:=hid hbp;clear hZp hbp;go_wp2;go_roundw
       case rel=>exact ⟨k+1,by omega,by go_num,by rw [Hsu.out];exact HZ6.out,Hb6.out⟩
       case measure=>simp [intOf];omega
  . obtain rfl:k=n:=by omega
    have HZ:=hid hZ;have Hb:=hid hb;clear hZ hb;go_wp2;go_ret;exact ⟨_,rfl,HZ.out,Hb.out⟩
theorem p10_nat {p:Nat} (hp:p<4):p10 (p:Int)=10 ^ p:=by
 have:p=0\/p=1\/p=2\/p=3:=by omega
 rcases this with rfl | rfl | rfl | rfl <;> decide
theorem ten_pos (n:Nat):(1:Int)<=10 ^ n:=by
 induction n with
 | zero=>decide
 | succ n ih=>rw [Int.pow_succ];omega
theorem l19Power_c {p:Nat} {w:World} (hp:p<4):Calls Tryz.prog 141 #[.int .i64 (p:Int)] w fun e w'=>e=.returned (.int .i64 (p10 (p:Int)))/\w=w':=by
 obtain ⟨P,hP⟩:∃ P,P=p10 (p:Int):=⟨_,rfl⟩;rw [<- hP];have HP:=hid hP;clear hP;go_enter Tryz.func141,Tryz.ntmps141;go_wp2;go_loop [0,3] (fun nv ov=>∃ (n:Nat) (o:Int),n<=p/\nv=.int .i64 (n:Int)/\ov=.int .i64 o/\(1<=o/\o<=1000)/\Hid (o * 10 ^ n=P)) (fun nv _=>(intOf nv).toNat)
 case atStart=>exact ⟨p,1,zA _,rfl,rfl,by omega,by show 1 * 10 ^ p=P;rw [HP.out,p10_nat hp];omega⟩
 case round =>
  obtain ⟨n,o,hn,rfl,rfl,⟨ho0,ho1⟩,Ho⟩:=hrel;rcases n with _ | n
  . have e:o=P:=by have:=Ho.out;simpa using this
    subst e;clear Ho;go_wp2;go_ret;exact ⟨rfl,rfl⟩
  . have hb:o * 10<=1000:=by
     have h:=Ho.out;have hP:P<=1000:=by
      rw [HP.out,p10_nat hp];have:p=0\/p=1\/p=2\/p=3:=by omega
      rcases this with rfl | rfl | rfl | rfl <;> decide
     have h1:o * 10 ^ (n+1)=o * 10 * 10 ^ n:=by rw [Int.pow_succ,Int.mul_comm (10 ^ n) 10,Int.mul_assoc]
     have h2:(1:Int)<=10 ^ n:=ten_pos n;have h3:o * 10 * 1<=o * 10 * 10 ^ n:=Int.mul_le_mul_of_nonneg_left h2 (by omega);omega
    have hz:((n+1:Nat):Int)=(n:Int)+1:=rfl;have hpos:(0:Int)<((n+1:Nat):Int):=by omega
    go_wp2;go_round
    case rel=>exact ⟨n,o * 10,by omega,by go_num,by go_num,by omega,by show o * 10 * 10 ^ n=P;rw [<- Ho.out,Int.pow_succ,Int.mul_comm (10 ^ n) 10,Int.mul_assoc]⟩
    case measure=>simp [intOf] <;> omega
theorem l19Form_three {f:FaultT} {w:World} (hk:f.kind=3) (hc:0<=f.card/\f.card<=11) (hp:0<=f.place/\f.place<=3) (hd:0<=f.digit/\f.digit<=9) :
 Calls Tryz.prog 140 #[vFault f] w fun e w'=>e=.returned (.bool true)/\Below w.heap.size w w':=by
 obtain ⟨kd,cd,pl,dg⟩:=f;simp only at hk hc hp hd;subst hk;have Hc:=hid hc;have Hp:=hid hp;have Hd:=hid hd;clear hc hp hd;go_enter Tryz.func140,Tryz.ntmps140;go_wp2_with fail;with_reducible refine (yAM _ _ _ _).mono ?_
 rw [decide_eq_true (show (1:Int)<=3/\(3:Int)<=3 by omega)];rintro e w' ⟨rfl,rfl⟩;go_wp2_with fail;with_reducible refine (yAM _ _ _ _).mono ?_
 rw [decide_eq_true Hc.out];rintro e w' ⟨rfl,rfl⟩;go_wp2_with fail;with_reducible refine (yAM _ _ _ _).mono ?_
 rw [decide_eq_true Hp.out];rintro e w' ⟨rfl,rfl⟩;go_wp2_with fail;with_reducible refine (yAM _ _ _ _).mono ?_
 rw [decide_eq_true Hd.out];rintro e w' ⟨rfl,rfl⟩;go_wp2;go_ret;exact ⟨rfl,(zB _ _).alloc (zA _) _⟩
theorem l19Fault_three {xs:List Int} {c p d:Nat} {v:Value} {w:World} {A:Nat} (ha:RdI A w v xs) (hl:xs.length<=12) (hx:∀ n∈xs,0<=n/\n<=9999) (hc:c<xs.length) (hp:p<4) (hd:d<10) :
 Calls Tryz.prog 97 #[v,vFault ⟨3,(c:Int),(p:Int),(d:Int)⟩] w fun e w'=>e=.returned (.bool (!(digA (xs.getD c 0) (p:Int) == (d:Int))))/\Below w.heap.size w w':=by
 obtain ⟨ao,cap,rfl,ho⟩:=ha.open;obtain ⟨n,hn⟩:∃ n,n=xs.length:=⟨_,rfl⟩;rw [<- hn] at ho hl hc |-;obtain ⟨b,off,rfl,hlt,hcc⟩:=ho (by omega);obtain ⟨x,hxk,hcx,_⟩:=hcc c hc;have hxb:=hx x (zC hxk);have hgd:xs.getD c 0=x:=by rw [List.getD_eq_getElem?_getD,hxk];rfl
 rw [hgd];have hpw:=fun W=>l19Power_c (p:=p) (w:=W) hp;have hfm:=l19Form_three (f:=⟨3,(c:Int),(p:Int),(d:Int)⟩) (w:=w.alloc (.cells #[.int .i64 3,.int .i64 (c:Int),.int .i64 (p:Int),.int .i64 (d:Int)] 155)) rfl ⟨by simp,by simp only;omega⟩ ⟨by simp,by simp only;omega⟩ ⟨by simp,by simp only;omega⟩;have hP:p10 (p:Int)=1\/p10 (p:Int)=10\/p10 (p:Int)=100\/p10 (p:Int)=1000:=by
  rcases p10_cases (p:=(p:Int)) (by omega) with ⟨_,e⟩ | ⟨_,e⟩ | ⟨_,e⟩ | ⟨_,e⟩ <;> omega
 unfold digA;have hB0:Box (w.alloc (.cells #[.int .i64 3,.int .i64 (c:Int),.int .i64 (p:Int),.int .i64 (d:Int)] 155)) w.heap.size [.int .i64 3,.int .i64 (c:Int),.int .i64 (p:Int),.int .i64 (d:Int)]:=Box.new w [.int .i64 3,.int .i64 (c:Int),.int .i64 (p:Int),.int .i64 (d:Int)] _;have hb0:Below w.heap.size w (w.alloc (.cells #[.int .i64 3,.int .i64 (c:Int),.int .i64 (p:Int),.int .i64 (d:Int)] 155)):=(zB _ _).alloc (zA _) _;have Hfm:=hid hfm;have Hpw:=hid hpw;have HB0:=hid hB0;have Hb0:=hid hb0;have hci:(c:Int)<(n:Int):=by omega
 have hcn:¬ (n:Int)<=(c:Int):=by omega
 have hlt2:=hlt.2;obtain ⟨x0,x1⟩:=hxb;generalize p10 (p:Int)=P at Hpw hP |-;clear ha ho hx hn hcc hxk hgd hpw hfm hB0 hb0;go_enter Tryz.func97,Tryz.ntmps97;go_wp2_with fail;with_reducible refine Hfm.out.mono ?_
 rintro e w1 ⟨rfl,hb1⟩;have hB1:=HB0.out.on hb1;have hbx:=Hb0.out.trans (hb1.mono Hb0.out.size);have c0:=(hbx.cell (p:=⟨b,off+c,none⟩) hlt2).trans hcx;have k0:=hB1.cell 0 _ rfl;have k1:=hB1.cell 1 _ rfl;have k2:=hB1.cell 2 _ rfl;have k3:=hB1.cell 3 _ rfl;have Hbx:=hid hbx;clear hB1 hb1 hbx hcx HB0 Hb0 Hfm;go_wp2;rcases hP with rfl | rfl | rfl | rfl;all_goals
  go_quiet (first | (go_at_call 141;first | exact yBA (Hpw.out _) | exact quiet_at (Hpw.out _)));go_wp2;go_ret;exact ⟨yAC (by simp [bne]),⟨Hbx.out.os,Hbx.out.tape,Hbx.out.output,Hbx.out.size,Hbx.out.block⟩⟩
open Go.Sort
def formP (f:FaultT):Bool:=decide (1<=f.kind/\f.kind<=3) && (decide (0<=f.card/\f.card<=11) && (if f.kind=3 then decide (0<=f.place/\f.place<=3) && decide (0<=f.digit/\f.digit<=9) else decide (f.place=0) && decide (f.digit=0)))
theorem l19Form_c (f:FaultT) (w:World):Calls Tryz.prog 140 #[vFault f] w fun e w'=>e=.returned (.bool (formP f))/\Below w.heap.size w w':=by
 obtain ⟨k,c,p,d⟩:=f;unfold formP;simp only;by_cases h1:1<=k/\k<=3
 . rw [decide_eq_true h1,Bool.true_and]
   have H1:=hid h1;by_cases h2:0<=c/\c<=11
   . rw [decide_eq_true h2,Bool.true_and]
     have H2:=hid h2;by_cases h3:k=3
     . subst h3
       rw [if_pos rfl];by_cases h4:0<=p/\p<=3
       . rw [decide_eq_true h4,Bool.true_and]
         have H4:=hid h4;clear h1 h2 h4;go_enter Tryz.func140,Tryz.ntmps140;go_wp2_with fail;with_reducible refine (yAM _ _ _ _).mono ?_
         rw [decide_eq_true H1.out];rintro e w' ⟨rfl,rfl⟩;go_wp2_with fail;with_reducible refine (yAM _ _ _ _).mono ?_
         rw [decide_eq_true H2.out];rintro e w' ⟨rfl,rfl⟩;go_wp2_with fail;with_reducible refine (yAM _ _ _ _).mono ?_
         rw [decide_eq_true H4.out];rintro e w' ⟨rfl,rfl⟩;go_wp2_with fail;with_reducible refine (yAM _ _ _ _).mono ?_
         rintro e w' ⟨rfl,rfl⟩;go_wp2;go_ret;exact ⟨yAC (by rw [Bool.eq_iff_iff];simp),(zB _ _).alloc (zA _) _⟩
       . rw [decide_eq_false h4,Bool.false_and]
         have H4:=hid h4;clear h1 h2 h4;go_enter Tryz.func140,Tryz.ntmps140;go_wp2_with fail;with_reducible refine (yAM _ _ _ _).mono ?_
         rw [decide_eq_true H1.out];rintro e w' ⟨rfl,rfl⟩;go_wp2_with fail;with_reducible refine (yAM _ _ _ _).mono ?_
         rw [decide_eq_true H2.out];rintro e w' ⟨rfl,rfl⟩;go_wp2_with fail;with_reducible refine (yAM _ _ _ _).mono ?_
         rw [decide_eq_false H4.out];rintro e w' ⟨rfl,rfl⟩;go_wp2;go_ret;exact ⟨rfl,(zB _ _).alloc (zA _) _⟩
     . rw [if_neg h3]
       have h3':(k == 3)=false:=by simpa using h3
       by_cases h4:p=0
       . subst h4
         clear h1 h2 h3;go_enter Tryz.func140,Tryz.ntmps140;go_wp2_with fail;with_reducible refine (yAM _ _ _ _).mono ?_
         rw [decide_eq_true H1.out];rintro e w' ⟨rfl,rfl⟩;go_wp2_with fail;with_reducible refine (yAM _ _ _ _).mono ?_
         rw [decide_eq_true H2.out];rintro e w' ⟨rfl,rfl⟩;go_wp2;go_ret;exact ⟨yAC (by rw [Bool.eq_iff_iff];simp),(zB _ _).alloc (zA _) _⟩
       . have h4':(p == 0)=false:=by simpa using h4
         rw [decide_eq_false h4,Bool.false_and];clear h1 h2 h3 h4;go_enter Tryz.func140,Tryz.ntmps140;go_wp2_with fail;with_reducible refine (yAM _ _ _ _).mono ?_
         rw [decide_eq_true H1.out];rintro e w' ⟨rfl,rfl⟩;go_wp2_with fail;with_reducible refine (yAM _ _ _ _).mono ?_
         rw [decide_eq_true H2.out];rintro e w' ⟨rfl,rfl⟩;go_wp2;go_ret;exact ⟨rfl,(zB _ _).alloc (zA _) _⟩
   . rw [decide_eq_false h2,Bool.false_and]
     have H2:=hid h2;clear h1 h2;go_enter Tryz.func140,Tryz.ntmps140;go_wp2_with fail;with_reducible refine (yAM _ _ _ _).mono ?_
     rw [decide_eq_true H1.out];rintro e w' ⟨rfl,rfl⟩;go_wp2_with fail;with_reducible refine (yAM _ _ _ _).mono ?_
     rw [decide_eq_false H2.out];rintro e w' ⟨rfl,rfl⟩;go_wp2;go_ret;exact ⟨rfl,(zB _ _).alloc (zA _) _⟩
 . rw [decide_eq_false h1,Bool.false_and]
   have H1:=hid h1;clear h1;go_enter Tryz.func140,Tryz.ntmps140;go_wp2_with fail;with_reducible refine (yAM _ _ _ _).mono ?_
   rw [decide_eq_false H1.out];rintro e w' ⟨rfl,rfl⟩;go_wp2;go_ret;exact ⟨rfl,(zB _ _).alloc (zA _) _⟩
def fltB (xs:List Int) (f:FaultT):Bool:=formP f && (decide (f.card<(xs.length:Int)) && (!(f.kind == 3) || !(digA (atN xs f.card) f.place == f.digit)))
theorem formP_true {f:FaultT} (h:formP f=true):(1<=f.kind/\f.kind<=3)/\(0<=f.card/\f.card<=11)/\(f.kind=3/\(0<=f.place/\f.place<=3)/\(0<=f.digit/\f.digit<=9)\/f.kind ≠ 3/\f.place=0/\f.digit=0):=by
 unfold formP at h;simp only [Bool.and_eq_true,decide_eq_true_eq] at h;obtain ⟨h1,h2,h3⟩:=h;refine ⟨h1,h2,?_⟩;split at h3
 . rename_i hk
   simp only [Bool.and_eq_true,decide_eq_true_eq] at h3;exact .inl ⟨hk,h3⟩
 . rename_i hk
   simp only [Bool.and_eq_true,decide_eq_true_eq] at h3;exact .inr ⟨hk,h3⟩
theorem fltB_iff {xs:List Int} (hl:xs.length<=12) (f:FaultT):fltB xs f=true ↔ fOk xs f:=by
 unfold fltB;simp only [Bool.and_eq_true,Bool.or_eq_true,decide_eq_true_eq,Bool.not_eq_true',beq_eq_false_iff_ne];constructor
 . rintro ⟨h1,h2,h3⟩
   obtain ⟨a,b,c⟩:=formP_true h1;refine ⟨⟨b.1,h2⟩,?_⟩;rcases c with ⟨c1,c2,c3⟩ | ⟨c1,c2,c3⟩
   . refine .inr ⟨c1,c2,c3,?_⟩
     rcases h3 with h3 | h3
     . exact absurd c1 h3
     . exact h3
   . exact .inl ⟨by omega,c2,c3⟩
 . rintro ⟨⟨a,b⟩,c⟩
   refine ⟨?_,b,?_⟩
   . unfold formP
     simp only [Bool.and_eq_true,decide_eq_true_eq];rcases c with ⟨c1,c2,c3⟩ | ⟨c1,c2,c3,_⟩
     . exact ⟨by omega,by omega,by rw [if_neg (by omega)];simp [c2,c3]⟩
     . exact ⟨by omega,by omega,by rw [if_pos c1];simp only [Bool.and_eq_true,decide_eq_true_eq];exact ⟨c2,c3⟩⟩
   . rcases c with ⟨c1,_⟩ | ⟨_,_,_,c4⟩
     . left;omega
     . right;exact c4
theorem l19Fault_c {xs:List Int} (f:FaultT) {v:Value} {w:World} {A:Nat} (ha:RdI A w v xs) (hl:xs.length<=12) (hx:∀ n∈xs,0<=n/\n<=9999) :
 Calls Tryz.prog 97 #[v,vFault f] w fun e w'=>e=.returned (.bool (fltB xs f))/\Below w.heap.size w w':=by
 cases hq:formP f with
 | true =>
  obtain ⟨hk,hc,h3⟩:=formP_true hq;by_cases hcl:f.card<(xs.length:Int)
  . by_cases h3k:f.kind=3
    . rcases h3 with ⟨_,hp,hd⟩ | ⟨h,_⟩
      . obtain ⟨k,c,p,d⟩:=f
        simp only at hk hc hcl h3k hp hd;subst h3k;obtain ⟨c',rfl⟩:=zG hc.1;obtain ⟨p',rfl⟩:=zG hp.1;obtain ⟨d',rfl⟩:=zG hd.1;have h:=l19Fault_three (p:=p') (d:=d') ha hl hx (c:=c') (by omega) (by omega) (by omega);refine h.mono fun e w' hh=>⟨hh.1.trans ?_,hh.2⟩;unfold fltB atN;rw [hq];simp [hcl]
      . exact absurd h3k h
    . have hB:fltB xs f=true:=by
       unfold fltB;rw [hq];simp [hcl,h3k]
      rw [hB];have hcon:=fun W=>l19Form_c f W;rw [hq] at hcon;obtain ⟨k,c,p,d⟩:=f;simp only at hk hc hcl h3k;have h3k':(k != 3)=true:=by simpa using h3k
      have hle:=ha.le;obtain ⟨ao,cap,rfl⟩:=ha.shape;have Hcon:=hid hcon;have hB0:=Box.new w [.int .i64 k,.int .i64 c,.int .i64 p,.int .i64 d] 155;have hb0:Below w.heap.size w (w.alloc (.cells #[.int .i64 k,.int .i64 c,.int .i64 p,.int .i64 d] 155)):=(zB _ _).alloc (zA _) _;have HB0:=hid hB0;have Hb0:=hid hb0;clear hcon hB0 hb0 ha hx h3 h3k hB hq hk hc;go_enter Tryz.func97,Tryz.ntmps97;go_wp2_with fail;with_reducible refine (Hcon.out _).mono ?_
      rintro e w1 ⟨rfl,hb1⟩;have hB1:=HB0.out.on hb1;have hbx:=Hb0.out.trans (hb1.mono Hb0.out.size);have k0:=hB1.cell 0 _ rfl;have k1:=hB1.cell 1 _ rfl;have k2:=hB1.cell 2 _ rfl;have k3:=hB1.cell 3 _ rfl;have Hbx:=hid hbx;clear hB1 hb1 hbx HB0 Hb0 Hcon;go_wp2;go_quiet (fail);go_wp2;go_ret;exact ⟨yAC (by simp),⟨Hbx.out.os,Hbx.out.tape,Hbx.out.output,Hbx.out.size,Hbx.out.block⟩⟩
  . have hB:fltB xs f=false:=by
     unfold fltB;rw [decide_eq_false hcl];simp
    rw [hB];have hcon:=fun W=>l19Form_c f W;rw [hq] at hcon;obtain ⟨k,c,p,d⟩:=f;simp only at hcl;have hle:=ha.le;obtain ⟨ao,cap,rfl⟩:=ha.shape;have Hcon:=hid hcon;have hB0:=Box.new w [.int .i64 k,.int .i64 c,.int .i64 p,.int .i64 d] 155;have hb0:Below w.heap.size w (w.alloc (.cells #[.int .i64 k,.int .i64 c,.int .i64 p,.int .i64 d] 155)):=(zB _ _).alloc (zA _) _;have HB0:=hid hB0;have Hb0:=hid hb0;clear hcon hB0 hb0 ha hx h3 hB hq hk hc;go_enter Tryz.func97,Tryz.ntmps97;go_wp2_with fail;with_reducible refine (Hcon.out _).mono ?_
    rintro e w1 ⟨rfl,hb1⟩;have hB1:=HB0.out.on hb1;have hbx:=Hb0.out.trans (hb1.mono Hb0.out.size);have k1:=hB1.cell 1 _ rfl;have Hbx:=hid hbx;clear hB1 hb1 hbx HB0 Hb0 Hcon;go_wp2;go_ret;exact ⟨rfl,Hbx.out⟩
 | false =>
  have hB:fltB xs f=false:=by unfold fltB;rw [hq];rfl
  rw [hB];have hcon:=fun W=>l19Form_c f W;rw [hq] at hcon;obtain ⟨k,c,p,d⟩:=f;obtain ⟨ao,cap,rfl⟩:=ha.shape;have Hcon:=hid hcon;have hb0:Below w.heap.size w (w.alloc (.cells #[.int .i64 k,.int .i64 c,.int .i64 p,.int .i64 d] 155)):=(zB _ _).alloc (zA _) _;have Hb0:=hid hb0;clear hcon hb0 ha hx hB hq;go_enter Tryz.func97,Tryz.ntmps97;go_wp2_with fail;with_reducible refine (Hcon.out _).mono ?_
  rintro e w1 ⟨rfl,hb1⟩;have hbx:=Hb0.out.trans (hb1.mono Hb0.out.size);have Hbx:=hid hbx;clear hb1 hbx Hb0 Hcon;go_wp2;go_ret;exact ⟨rfl,Hbx.out⟩
def okK (xs:List Int) (fs:List FaultT) (k:Nat):Prop:=∀ j f,j<k->fs[j]?=some f->fOk xs f/\∀ i g,j=i+1->fs[i]?=some g->g.card<f.card
theorem okK_zero (xs:List Int) (fs:List FaultT):okK xs fs 0:=fun j f h=>absurd h (by omega)
theorem okK_first {xs:List Int} {fs:List FaultT} {f:FaultT} (h:fs[0]?=some f) (hf:fOk xs f):okK xs fs 1:=by
 intro j g hj hg;obtain rfl:j=0:=by omega
 rw [h] at hg;obtain rfl:=zD hg;exact ⟨hf,fun i g h=>by omega⟩
theorem okK_succ {xs:List Int} {fs:List FaultT} {k:Nat} {f g:FaultT} (h:okK xs fs (k+1)) (hg:fs[k]?=some g) (hf:fs[k+1]?=some f) (ho:fOk xs f) (hc:g.card<f.card):okK xs fs (k+2):=by
 intro j z hj hz;by_cases e:j<k+1
 . exact h j z e hz
 . obtain rfl:j=k+1:=by omega
   rw [hf] at hz;obtain rfl:=zD hz;refine ⟨ho,fun i g' h' hg'=>?_⟩;obtain rfl:i=k:=by omega
   rw [hg] at hg';obtain rfl:=zD hg';exact hc
theorem okK_of {xs:List Int} {fs:List FaultT} (h:fsOk xs fs):okK xs fs fs.length:=by
 intro j f hj hf;refine ⟨h.1 f (zC hf),fun i g hi hg=>?_⟩;have h2:=h.2.1;rw [List.pairwise_iff_getElem] at h2;have h3:=yBG hg;have h4:=h2 i j h3 hj (by omega);have e1:fs[i]=g:=zD ((zF h3).symm.trans hg);have e2:fs[j]=f:=zD ((zF hj).symm.trans hf);rw [e1,e2] at h4;exact h4
theorem fsOk_of {xs:List Int} {fs:List FaultT} (h:okK xs fs fs.length) (hl:fs.length<=2):fsOk xs fs:=by
 match fs,h,hl with
 | [],_,_=>exact fsOk_nil xs
 | [f],h,_=>exact fsOk_one (h 0 f (by simp) rfl).1
 | [f,g],h,_=>exact fsOk_two (h 0 f (by simp) rfl).1 (h 1 g (by simp) rfl).1 ((h 1 g (by simp) rfl).2 0 f rfl rfl)
 | _ :: _ :: _ :: _,_,hl=>simp at hl
def FltsR (xs:List Int) (fs:List FaultT) (e:Ending):Prop:=∃ q:Bool,e=.returned (.bool q)/\(q=true ↔ fsOk xs fs)
theorem not_fs {xs:List Int} {fs:List FaultT} (h:¬ okK xs fs fs.length):false=true ↔ fsOk xs fs:=⟨(fun e=>by cases e),fun e=>absurd (okK_of e) h⟩
theorem l19Faults_c {xs:List Int} {fs:List FaultT} {v u:Value} {w:World} {A B:Nat} (ha:RdI A w v xs) (hf:RdFaultS B w u fs) (hl:xs.length<=12) (hx:∀ n∈xs,0<=n/\n<=9999) :
 Calls Tryz.prog 50 #[v,u] w fun e w'=>FltsR xs fs e/\Below w.heap.size w w':=by
 have Ha:=hid ha.tight;have hfle:=hf.le;obtain ⟨fo,fcap,rfl,hfc⟩:=yAU hf;obtain ⟨n,hn⟩:∃ n,n=fs.length:=⟨_,rfl⟩;rw [<- hn] at hfle hfc |-;have Hn:=hid hn;have Hfc:=hid hfc;have Hx:=hid hx;clear ha hf hfc hn hx;go_enter Tryz.func50,Tryz.ntmps50;go_wp2;go_loopw [5] (fun i wr=>∃ k:Nat,k<=n/\i=.int .i64 k/\Hid (okK xs fs k)/\Below w.heap.size w wr) (fun i _=>n - (intOf i).toNat)
 case atStart=>exact ⟨0,zK _,rfl,hid (okK_zero _ _),zB _ _⟩
 case round =>
  obtain ⟨k,hk,rfl,hp,hb⟩:=hrel;by_cases hkn:k<n
  . obtain ⟨b,off,rfl,hlt,hc⟩:=Hfc.out (by omega)
    obtain ⟨y,hy,⟨c0,c1,c2,c3⟩,hyo⟩:=hc k hkn;have f0:=cell_regrown ((hb.cell (p:=⟨b,off+k * 4,none⟩) hlt.2).trans c0);have f1:=cell_regrown ((hb.cell (p:=⟨b,off+k * 4+1,none⟩) hlt.2).trans c1);have f2:=cell_regrown ((hb.cell (p:=⟨b,off+k * 4+2,none⟩) hlt.2).trans c2);have f3:=cell_regrown ((hb.cell (p:=⟨b,off+k * 4+3,none⟩) hlt.2).trans c3);have hcon:=fun d os=>l19Fault_c (w:=grow (redrawn wr d) os) (A:=wr.heap.size) y (Rds.regrown (Rds.onn Ha.out hb) (zA _) d os) hl Hx.out;have hiff:=fltB_iff hl y;have Hcon:=hid hcon;have Hy:=hid hy;have hkni:(k:Int)<(n:Int):=by omega
    clear hcon hy c0 c1 c2 c3 hyo;cases hq:fltB xs y with
    | false =>
     rw [hq] at Hcon hiff;have hno:¬ okK xs fs fs.length:=fun h=>by have:=hiff.2 (h k y (by have:=Hn.out;omega) Hy.out).1;cases this
     have Hno:=hid hno;have Hb:=hid hb;clear hq hiff hno hc hb;go_upto_region 4 with fail;refine wp_region_quiet_below (by kernel_rfl) (by kernel_rfl) ?_;repeat ((with_reducible refine wpQuiet_step (fun K hK=>?_));go_simp;first | ((with_reducible refine hK _ ?_);clear hK K) | ((with_reducible rw [if_neg]);rotate_left;(intro hgd;cases hgd);(with_reducible refine hK _ ?_);clear hK K) | (apply Exists.intro;refine ⟨fun _=>?_,hK _ ?_⟩;((first | (go_at_call 97;with_reducible exact yAG (Hcon.out _ _))));clear hK K))
     refine wpQuiet_nil ?_;intro _ hw';obtain ⟨⟨dq,osq⟩,hw''⟩:=hw';subst hw'';have hbq:=below_regrown wr dq osq;generalize grow (redrawn wr dq) osq=wq at hbq |-;have Hb1:=hid (Hb.out.trans (hbq.mono Hb.out.size));clear hbq f0 f1 f2 f3;go_wp2;go_ret;exact ⟨⟨false,rfl,not_fs Hno.out⟩,Hb1.out⟩
    | true =>
     rw [hq] at Hcon hiff;have hyk:fOk xs y:=hiff.1 rfl;have Hyk:=hid hyk;have Hb:=hid hb;clear hq hiff hyk;rcases k with _ | k
     . clear hc hb
       simp only [Nat.zero_mul,Nat.add_zero] at f0 f1 f2 f3;go_upto_region 4 with fail;refine wp_region_quiet_below (by kernel_rfl) (by kernel_rfl) ?_;repeat ((with_reducible refine wpQuiet_step (fun K hK=>?_));go_simp;first | ((with_reducible refine hK _ ?_);clear hK K) | ((with_reducible rw [if_neg]);rotate_left;(intro hgd;cases hgd);(with_reducible refine hK _ ?_);clear hK K) | (apply Exists.intro;refine ⟨fun _=>?_,hK _ ?_⟩;((first | (go_at_call 97;with_reducible exact yAG (Hcon.out _ _))));clear hK K))
       refine wpQuiet_nil ?_;intro _ hw';obtain ⟨⟨dq,osq⟩,hw''⟩:=hw';subst hw'';have hbq:=below_regrown wr dq osq;generalize grow (redrawn wr dq) osq=wq at hbq |-;have Hb1:=hid (Hb.out.trans (hbq.mono Hb.out.size));clear hbq f0 f1 f2 f3;go_wp2;go_roundw
       case rel=>exact ⟨1,by omega,by go_num,hid (okK_first Hy.out Hyk.out),Hb1.out⟩
       case measure=>simp [intOf];omega
     . obtain ⟨z,hz,⟨_,d1,_,_⟩,_⟩:=hc k (by omega)
       have g1:=cell_regrown ((hb.cell (p:=⟨b,off+k * 4+1,none⟩) hlt.2).trans d1);have Hz:=hid hz;have hs1:IntKind.i64.wrap ((k:Int)+1 - 1)=(k:Int):=by rw [show (k:Int)+1 - 1=(k:Int) by omega];exact IntWalk.i64_in _ (by omega)
       have hs2:IntKind.i64.wrap (k:Int)=(k:Int):=IntWalk.i64_in _ (by omega);have hkn4:(k:Int)+1<(n:Int):=by omega
       have hkn5:((k:Int)+1).toNat=k+1:=by omega
       have hkn6:(0:Int)<(k:Int)+1:=by omega
       have hkn7:(0:Int)<=(k:Int)+1:=by omega
       have hkn2:(k:Int)<(n:Int):=by omega
       have hkn3:k<n:=by omega
       clear hc hb d1 hz;by_cases hlt2:z.card<y.card
       . have ht:decide (y.card<=z.card)=false:=by simp;omega
         go_upto_region 4 with fail;refine wp_region_quiet_below (by kernel_rfl) (by kernel_rfl) ?_;repeat ((with_reducible refine wpQuiet_step (fun K hK=>?_));go_simp;first | ((with_reducible refine hK _ ?_);clear hK K) | ((with_reducible rw [if_neg]);rotate_left;(intro hgd;cases hgd);(with_reducible refine hK _ ?_);clear hK K) | (apply Exists.intro;refine ⟨fun _=>?_,hK _ ?_⟩;((first | (go_at_call 97;with_reducible exact yAG (Hcon.out _ _))));clear hK K))
         refine wpQuiet_nil ?_;intro _ hw';obtain ⟨⟨dq,osq⟩,hw''⟩:=hw';subst hw'';have hbq:=below_regrown wr dq osq;generalize grow (redrawn wr dq) osq=wq at hbq |-;have Hb1:=hid (Hb.out.trans (hbq.mono Hb.out.size));clear hbq f0 f1 f2 f3 g1 hs1 hs2 ht hkn4 hkn5 hkn6 hkn7;go_wp2;go_roundw
         case rel=>exact ⟨k+2,by omega,by go_num,hid (okK_succ hp.out Hz.out Hy.out Hyk.out hlt2),Hb1.out⟩
         case measure=>simp [intOf];omega
       . have ht:decide (y.card<=z.card)=true:=by simp;omega
         have hno:¬ okK xs fs fs.length:=fun h=>by have:=(h (k+1) y (by have:=Hn.out;omega) Hy.out).2 k z rfl Hz.out;omega
         have Hno:=hid hno;clear hno;go_upto_region 4 with fail;refine wp_region_quiet_below (by kernel_rfl) (by kernel_rfl) ?_;repeat ((with_reducible refine wpQuiet_step (fun K hK=>?_));go_simp;first | ((with_reducible refine hK _ ?_);clear hK K) | ((with_reducible rw [if_neg]);rotate_left;(intro hgd;cases hgd);(with_reducible refine hK _ ?_);clear hK K) | (apply Exists.intro;refine ⟨fun _=>?_,hK _ ?_⟩;((first | (go_at_call 97;with_reducible exact yAG (Hcon.out _ _))));clear hK K))
         refine wpQuiet_nil ?_;intro _ hw';obtain ⟨⟨dq,osq⟩,hw''⟩:=hw';subst hw'';have hbq:=below_regrown wr dq osq;generalize grow (redrawn wr dq) osq=wq at hbq |-;have Hb1:=hid (Hb.out.trans (hbq.mono Hb.out.size));clear hbq f0 f1 f2 f3 g1 hs1 hs2 ht hkn4 hkn5 hkn6 hkn7;go_wp2;go_ret;exact ⟨⟨false,rfl,not_fs Hno.out⟩,Hb1.out⟩
  . obtain rfl:k=n:=by omega
    have Hb:=hid hb;clear hb;go_wp2;go_ret;have hp2:=hp.out;rw [Hn.out] at hp2;exact ⟨⟨_,rfl,by rw [decide_eq_true_iff];exact ⟨fun h=>fsOk_of hp2 (by have:=Hn.out;omega),fun h=>by have:=h.2.2;have:=Hn.out;omega⟩⟩,Hb.out⟩
theorem rep_snoc {xs:List Int} {k:Nat} {x:Int} (hx:xs[k]?=some x):sumI (xs.take (k+1))=sumI (xs.take k)+x/\sumI ((xs.take (k+1)).map dsum)=sumI ((xs.take k).map dsum)+dsum x:=by
 rw [yAD hx,List.map_append,sumI_append,sumI_append];simp [sumI]
theorem rep_bd {xs:List Int} (h:∀ n∈xs,0<=n/\n<=9999) (hl:xs.length<=24) (k:Nat):(0<=sumI (xs.take k)/\sumI (xs.take k)<=239976)/\(0<=sumI ((xs.take k).map dsum)/\sumI ((xs.take k).map dsum)<=864):=by
 have hlt:(xs.take k).length<=24:=by rw [zI];omega
 have h':∀ n∈xs.take k,0<=n/\n<=9999:=fun n hn=>h n (List.mem_of_mem_take hn);refine ⟨⟨sumI_nonneg fun x hx=>(h' x hx).1,?_⟩,⟨sumI_nonneg fun x hx=>?_,?_⟩⟩
 . have:=sumI_le (xs:=xs.take k) (M:=9999) (by omega) fun x hx=>(h' x hx).2
   omega
 . obtain ⟨n,_,rfl⟩:=List.mem_map.1 hx
   exact (dsum_bound n).1
 . have:=sumI_le (xs:=(xs.take k).map dsum) (M:=36) (by omega) fun x hx=>by obtain ⟨n,_,rfl⟩:=List.mem_map.1 hx;exact (dsum_bound n).2
   rw [List.length_map] at this;omega
theorem repStart (W:World) (n:Int) (t u:TypeId):let X:=(W.alloc (.cells #[.int .i64 0,.int .i64 0,.int .i64 0] t)).alloc (.cells #[.int .i64 n,.int .i64 0,.int .i64 0] u)
 Box X (W.heap.size+1) [.int .i64 n,.int .i64 0,.int .i64 0]/\Box X W.heap.size [.int .i64 0,.int .i64 0,.int .i64 0]/\Below W.heap.size W X:=by
 intro X;have e2:(W.alloc (.cells #[.int .i64 0,.int .i64 0,.int .i64 0] t)).heap.size=W.heap.size+1:=by simp
 have h1:=Box.new (W.alloc (.cells #[.int .i64 0,.int .i64 0,.int .i64 0] t)) [.int .i64 n,.int .i64 0,.int .i64 0] u;have h2:=(Box.new W [.int .i64 0,.int .i64 0,.int .i64 0] t).alloc (.cells #[.int .i64 n,.int .i64 0,.int .i64 0] u);rw [e2] at h1;exact ⟨h1,h2,((zB _ _).alloc (zA _) _).alloc (by rw [e2];omega) _⟩
theorem reportOf_c {xs:List Int} {v:Value} {w:World} {A:Nat} (ha:RdI A w v xs) (hx:∀ n∈xs,0<=n/\n<=9999) (hl:xs.length<=24) (ht:PowAt w) :
 Calls Tryz.prog 144 #[v] w fun e w'=>e=.returned (vReport (repOf xs))/\Below w.heap.size w w':=by
 have ha0:=ha;obtain ⟨ao,cap,rfl,ho⟩:=ha.open;obtain ⟨n,hn⟩:∃ n,n=xs.length:=⟨_,rfl⟩;have hbd:=rep_bd hx hl;rw [<- hn] at ho hl ha0 |-;have Ha:=hid ha0;have Ho:=hid ho;have Hx:=hid hx;have Hn:=hid hn;have Ht:=hid ht;have Hbd:=hid hbd;clear ha ha0 ho hx hn ht hbd;have hb0:Below w.heap.size w (w.alloc (.cells #[.int .i64 0,.int .i64 0,.int .i64 0] 53)):=(zB _ _).alloc (zA _) _;have ha1:=Ha.out.onn hb0;have Ha1:=hid ha1;have Hb0:=hid hb0;clear hb0 ha1;go_enter Tryz.func144,Tryz.ntmps144;go_wp2_with fail;with_reducible refine (size_any Ha1.out).mono ?_
 rintro e w' ⟨rfl,rfl⟩;obtain ⟨k1,k2,k3⟩:=repStart w (xs.length:Int) 53 53;go_wp2;go_loopw [11] (fun i wr=>∃ k:Nat,k<=n/\i=.int .i64 k/\Box wr (w.heap.size+1) [.int .i64 (xs.length:Int),.int .i64 (sumI (xs.take k)),.int .i64 (sumI ((xs.take k).map dsum))]/\Box wr w.heap.size [.int .i64 0,.int .i64 0,.int .i64 0]/\Below w.heap.size w wr) (fun i _=>n - (intOf i).toNat)
 case atStart=>exact ⟨0,zK _,rfl,k1,k2,k3⟩
 case round =>
  obtain ⟨k,hk,rfl,hB,hR,hb⟩:=hrel;clear k1 k2 k3 Ha1 Hb0;by_cases hkn:k<n
  . obtain ⟨b,off,rfl,hlt,hc⟩:=Ho.out (by omega)
    obtain ⟨x,hxk,hcx,_⟩:=hc k hkn;have hxb:=Hx.out x (zC hxk);have hsn:=rep_snoc hxk;have hbk:=Hbd.out k;have hbk1:=Hbd.out (k+1);rw [hsn.1,hsn.2] at hbk1;obtain ⟨s,hs⟩:∃ s,s=sumI (xs.take k):=⟨_,rfl⟩;obtain ⟨d,hd⟩:∃ d,d=sumI ((xs.take k).map dsum):=⟨_,rfl⟩;rw [<- hs] at hsn hbk hbk1 hB;rw [<- hd] at hsn hbk hbk1 hB;have c0:=(hb.cell (p:=⟨b,off+k,none⟩) hlt.2).trans hcx;have e0:=hB.cell 0 _ rfl;have e1:=hB.cell 1 _ rfl;have e2:=hB.cell 2 _ rfl;have f1:=hB.free 1;have f2:=hB.free 2;obtain ⟨L,hL⟩:∃ L,L=(xs.length:Int):=⟨_,rfl⟩;rw [<- hL] at hB e0;have hB2:=hB.set1 (j:=1) (by simp) (.int .i64 (s+x));have hR2:=hR.other (p:=⟨w.heap.size+1,1,none⟩) (by show w.heap.size+1 ≠ w.heap.size;omega) (.int .i64 (s+x));have hb2:=hb.setCell (p:=⟨w.heap.size+1,1,none⟩) (by show w.heap.size<=w.heap.size+1;omega) (.int .i64 (s+x));obtain ⟨W2,hW2⟩:∃ W2,W2=wr.setCell ⟨w.heap.size+1,1,none⟩ (.int .i64 (s+x)):=⟨_,rfl⟩;rw [<- hW2] at hB2 hR2 hb2;have hcon:=digitSum_c (w:=W2.drew) hxb ((Ht.out.below hb2).below (zB _ _).drew1);have Hcon:=hid hcon;have HW2:=hid hW2;have HB2:=hid hB2;have HR2:=hid hR2;have Hb2:=hid hb2;have Hsn:=hid hsn;have HL:=hid hL;obtain ⟨⟨s0,s1⟩,d0,d1⟩:=hbk;obtain ⟨⟨s2,s3⟩,d2,d3⟩:=hbk1;obtain ⟨x0,x1⟩:=hxb;have e2':=hB2.cell 2 _ rfl;have f2':=hB2.free 2;generalize hdx:dsum x=dx at d2 d3 Hcon Hsn;clear hcon hW2 hB2 hR2 hb2 hB hR hb hsn hs hd hc hxk hcx e0 e2 f2 hL hdx;go_wp2_with fail;rw [<- HW2.out];clear c0 e1 f1;go_region_with (go_at_call 165;(with_reducible refine Hcon.out.mono ?_);rintro e w7 ⟨rfl,hb7⟩;have HB7:=hid (HB2.out.drew1.on hb7);have g2:=HB7.out.cell 2 _ rfl;have j2:=HB7.out.free 2)
    all_goals
     have hz:IntKind.i64.wrap (d+dx)=d+dx:=IntWalk.i64_in _ (by omega);rw [hz];have hbb:=((zB W2.heap.size W2).drew1).trans hb7;have HB8:=hid (HB7.out.set1 (j:=2) (by simp) (.int .i64 (d+dx)));have HR8:=hid ((HR2.out.on hbb).other (p:=⟨w.heap.size+1,2,none⟩) (by show w.heap.size+1 ≠ w.heap.size;omega) (.int .i64 (d+dx)));have Hb8:=hid ((Hb2.out.trans (hbb.mono Hb2.out.size)).setCell (p:=⟨w.heap.size+1,2,none⟩) (by show w.heap.size<=w.heap.size+1;omega) (.int .i64 (d+dx)));clear hz hbb hb7 g2 j2 HB7 e2' f2';go_wp2;go_roundw
     case rel=>exact ⟨k+1,by omega,by go_num,by rw [Hsn.out.1,Hsn.out.2,<- HL.out];exact HB8.out,HR8.out,Hb8.out⟩
     case measure=>simp [intOf];omega
  . obtain rfl:k=n:=by omega
    rw [zH (by have:=Hn.out;omega),<- Hn.out] at hB;have hrep:repOf xs=⟨(k:Int),sumI xs,sumI (xs.map dsum)⟩:=by unfold repOf;rw [<- Hn.out]
    have e0:=hB.cell 0 _ rfl;have e1:=hB.cell 1 _ rfl;have e2:=hB.cell 2 _ rfl;have r0:=hR.cell 0 _ rfl;have r1:=hR.cell 1 _ rfl;have r2:=hR.cell 2 _ rfl;have q0:=hR.free 0;have q1:=hR.free 1;have q2:=hR.free 2;have Hb:=hid hb;have Hrep:=hid hrep;clear hB hR hb hrep;generalize sumI xs=S at e1 Hrep;generalize sumI (xs.map dsum)=D at e2 Hrep;go_wp2;rw [Hrep.out];exact bodyPost_ret (v:=vReport ⟨(k:Int),S,D⟩) (by simp [results,Tryz.results144,go_sem,r0,r1,r2]) rfl ⟨rfl,Hb.out.run (g:=w.heap.size) (by omega) [_,_,_]⟩
theorem less_c (r x:ReportT) (w:World) :
 Calls Tryz.prog 147 #[vReport r,vReport x] w fun e w'=>e=.returned (vReport (lessW r x))/\Below w.heap.size w w':=by
 go_enter Tryz.func147,Tryz.ntmps147;go_wp2;exact bodyPost_ret (v:=vReport (lessW r x)) (by simp [results,Tryz.results147,go_sem,lessW,IntWalk.i64_left]) rfl ⟨rfl,((((zB w.heap.size w).alloc (zA _) _).alloc (by simp) _).alloc (by simp;omega) _)⟩
theorem isReport_c (r:ReportT) (w:World) :
 Calls Tryz.prog 103 #[vReport r] w fun e w'=>e=.returned (.bool (isRep r))/\Below w.heap.size w w':=by
 unfold isRep;by_cases h1:-1000000000<=r.count/\r.count<=1000000000
 . by_cases h2:-1000000000<=r.sum/\r.sum<=1000000000
   . rw [decide_eq_true h1,decide_eq_true h2]
     have H1:=hid h1;have H2:=hid h2;clear h1 h2;go_enter Tryz.func103,Tryz.ntmps103;go_wp2_with fail;with_reducible refine (yAY _ _ _ _).mono ?_
     rw [decide_eq_true H1.out];rintro e w' ⟨rfl,rfl⟩;go_wp2_with fail;with_reducible refine (yAY _ _ _ _).mono ?_
     rw [decide_eq_true H2.out];rintro e w' ⟨rfl,rfl⟩;go_wp2_with fail;with_reducible refine (yAY _ _ _ _).mono ?_
     rintro e w' ⟨rfl,rfl⟩;go_wp2;go_ret;exact ⟨yAC (by simp),(zB _ _).alloc (zA _) _⟩
   . rw [decide_eq_true h1,decide_eq_false h2]
     have H1:=hid h1;have H2:=hid h2;clear h1 h2;go_enter Tryz.func103,Tryz.ntmps103;go_wp2_with fail;with_reducible refine (yAY _ _ _ _).mono ?_
     rw [decide_eq_true H1.out];rintro e w' ⟨rfl,rfl⟩;go_wp2_with fail;with_reducible refine (yAY _ _ _ _).mono ?_
     rw [decide_eq_false H2.out];rintro e w' ⟨rfl,rfl⟩;go_wp2;go_ret;exact ⟨yAC (by simp),(zB _ _).alloc (zA _) _⟩
 . rw [decide_eq_false h1]
   have H1:=hid h1;clear h1;go_enter Tryz.func103,Tryz.ntmps103;go_wp2_with fail;with_reducible refine (yAY _ _ _ _).mono ?_
   rw [decide_eq_false H1.out];rintro e w' ⟨rfl,rfl⟩;go_wp2;go_ret;exact ⟨yAC (by simp),(zB _ _).alloc (zA _) _⟩
theorem clo_after (f:FaultT) (i:Nat) (w:World) {c:Nat} (hc:w.cell? ⟨c,0,none⟩=some (.int .i64 (i:Int))) (hlt:c<w.heap.size) :
 Calls Tryz.prog 186 #[vFault f,.pointer (some ⟨c,0,none⟩)] w fun e w'=>e=.returned (.bool (f.card == (i:Int)))/\Below w.heap.size w w':=by
 have hne:c ≠ w.heap.size:=by omega
 go_enter Tryz.func186,Tryz.ntmps186;go_wp2;go_ret;exact ⟨yAC (by simp),(zB _ _).alloc (zA _) _⟩
theorem indexFault_c {xs:List FaultT} {v:Value} {w:World} {A:Nat} (i:Nat) {c:Nat} (hcc:w.cell? ⟨c,0,none⟩=some (.int .i64 (i:Int))) (hlc:c<w.heap.size) (ha:RdFaultS A w v xs) :
 Calls Tryz.prog 185 #[v,.func (.func 186) #[] #[.pointer (some ⟨c,0,none⟩)]] w fun e w' =>
  ((e=.returned (.int .i64 (-1))/\findF xs (i:Int)=none)\/∃ (k:Nat) (f:FaultT),e=.returned (.int .i64 (k:Int))/\xs[k]?=some f/\findF xs (i:Int)=some f)/\Below w.heap.size w w':=by
 have hle:=ha.le;obtain ⟨ao,cap,rfl,ho⟩:=yAU ha;obtain ⟨n,hn⟩:∃ n,n=xs.length:=⟨_,rfl⟩;rw [<- hn];have Hn:=hid hn;have Ho:=hid ho;have Hcc:=hid hcc;have hle':n<=9223372036854775807:=by omega
 clear ho hn hle ha hcc;go_enter Tryz.func185,Tryz.ntmps185;go_wp2;go_loopw [8] (fun j wr=>∃ k:Nat,k<=n/\j=.int .i64 k/\Hid ((xs.take k).find? (fun f=>f.card == (i:Int))=none)/\Below w.heap.size w wr) (fun j _=>n - (intOf j).toNat)
 case atStart=>exact ⟨0,zK _,rfl,rfl,zB _ _⟩
 case round =>
  obtain ⟨k,hk,rfl,hp,hbb⟩:=hrel;by_cases hkn:k<n
  . obtain ⟨b,off,rfl,hlt,hc⟩:=Ho.out (by have:=Hn.out;omega)
    obtain ⟨y,hy,⟨c0,c1,c2,c3⟩,bx⟩:=hc k (by have:=Hn.out;omega);have Hy:=hid hy;have d0:=(hbb.cell (p:=⟨b,off+k * 4,none⟩) hlt.2).trans c0;have d1:=(hbb.cell (p:=⟨b,off+k * 4+1,none⟩) hlt.2).trans c1;have d2:=(hbb.cell (p:=⟨b,off+k * 4+2,none⟩) hlt.2).trans c2;have d3:=(hbb.cell (p:=⟨b,off+k * 4+3,none⟩) hlt.2).trans c3;have hcw:=(hbb.cell (p:=⟨c,0,none⟩) hlc).trans Hcc.out;have hlw:c<wr.heap.size:=by have:=hbb.size;omega
    have Hcw:=hid hcw;clear hcw hy hc bx c0 c1 c2 c3;go_wp2_with fail;with_reducible refine (clo_after y i wr Hcw.out hlw).mono ?_
    cases hq:(y.card == (i:Int)) with
    | true =>
     have Hq:=hid hq;clear hq;rintro e w1 ⟨rfl,hb1⟩;have hb2:=hbb.trans (hb1.mono hbb.size);go_wp2;go_ret;refine ⟨.inr ⟨k,y,rfl,Hy.out,?_⟩,hb2⟩;unfold findF;have hs:xs=xs.take (k+1)++xs.drop (k+1):=(zP _ _).symm;rw [hs,List.find?_append,yAD Hy.out,List.find?_append,hp.out];simp [Hq.out]
    | false =>
     have Hq:=hid hq;clear hq;rintro e w1 ⟨rfl,hb1⟩;have hb2:=hbb.trans (hb1.mono hbb.size);clear d0 d1 d2 d3 hb1 hbb;go_wp2;go_roundw
     case rel=>exact ⟨k+1,by omega,by go_num,by show _=none;rw [yAD Hy.out,List.find?_append,hp.out];simp [Hq.out],hb2⟩
     case measure=>simp [intOf];omega
  . go_wp2
    go_ret;refine ⟨.inl ⟨rfl,?_⟩,hbb⟩;have hq:=hp.out;rw [zH (by have:=Hn.out;omega)] at hq;exact hq
def fRd (f:FaultT):Prop:=f.kind=3->(0<=f.place/\f.place<=3)/\(0<=f.digit/\f.digit<=9)
theorem afterF_len (n:Int) (f:FaultT):(afterF n f).length<=2:=by
 unfold afterF;split
 . simp
 . split <;> simp
theorem readAt_len (n:Int) (o:Option FaultT):(readAt n o).length<=2:=by
 cases o with
 | none=>simp [readAt]
 | some f=>exact afterF_len n f
theorem afterK_len (xs:List Int) (fs:List FaultT) (k:Nat):(afterK xs fs k).length<=2 * k:=by
 induction k with
 | zero=>simp [afterK]
 | succ k ih=>rw [afterK_succ,zE];have:=readAt_len (xs.getD k 0) (findF fs (k:Int));omega
theorem amountsAfter_c {xs:List Int} {fs:List FaultT} {v u:Value} {w:World} {A B:Nat} (ha:RdI A w v xs) (hf:RdFaultS B w u fs) (hx:∀ n∈xs,0<=n/\n<=9999) (hl:xs.length<=24) (hfo:∀ f∈fs,fRd f) :
 Calls Tryz.prog 167 #[v,u] w fun e w'=>∃ z,e=.returned z/\OwnInt64S w.heap.size w' z (afterL xs fs)/\Below w.heap.size w w':=by
 obtain ⟨i0,hi,hz0,hz1,hz2⟩:=info_parts Tryz.infoInt64;obtain ⟨ao,cap,rfl,ho⟩:=ha.open;obtain ⟨n,hn⟩:∃ n,n=xs.length:=⟨_,rfl⟩;have hfle:=hf.le;obtain ⟨fo,fcap,rfl⟩:=hf.shape;obtain ⟨m,hm⟩:∃ m,m=fs.length:=⟨_,rfl⟩;have e1:afterL xs fs=afterK xs fs n:=by rw [hn];rfl
 rw [e1];rw [<- hn] at ho hl |-;rw [<- hm] at hf hfle |-;have h0:OwnInt64S w.heap.size (w.alloc (.cells #[] 2)) (.slice (some ⟨w.heap.size,0,none⟩) 0 0) ([]:List Int):=Own.lit (E:=eI) (xs:=[]) (cs:=#[]) (zA _) rfl rfl (by decide) (fun x hx=>by cases hx);have hb0:Below w.heap.size w (w.alloc (.cells #[] 2)):=(zB _ _).alloc (zA _) _;have Ho:=hid ho;have Hx:=hid hx;have Hn:=hid hn;have Hm:=hid hm;have Hf:=hid hf.tight;have Hfo:=hid hfo;have H0:=hid h0;have Hb0:=hid hb0;clear ha ho hx hn hm hf hfo h0 hb0 e1;go_enter Tryz.func167,Tryz.ntmps167;go_wp2;go_loopw [14,5] (fun iv zv wr=>∃ k:Nat,k<=n/\iv=.int .i64 k/\OwnInt64S w.heap.size wr zv (afterK xs fs k)/\Below w.heap.size w wr) (fun iv _ _=>n - (intOf iv).toNat)
 case atStart=>exact ⟨0,zK _,rfl,H0.out,Hb0.out⟩
 case round =>
  obtain ⟨k,hk,rfl,hZ,hb⟩:=hrel;clear H0 Hb0;by_cases hkn:k<n
  . obtain ⟨b,off,rfl,hlt,hc⟩:=Ho.out (by omega)
    obtain ⟨x,hxk,hcx,hxo⟩:=hc k hkn;have hxb:=Hx.out x (zC hxk);have hgd:xs.getD k 0=x:=by rw [List.getD_eq_getElem?_getD,hxk];rfl
    have hsu:=afterK_succ xs fs k;have hal:=afterK_len xs fs k;rw [hgd] at hsu;have c0:=(hb.cell (p:=⟨b,off+k,none⟩) hlt.2).trans hcx;have hbx:=hb.alloc hb.size (.cells #[.int .i64 (k:Int)] 3);have hcl:(wr.alloc (.cells #[.int .i64 (k:Int)] 3)).cell? ⟨wr.heap.size,0,none⟩=some (.int .i64 (k:Int)):=by simp
    have hfx:=Hf.out.below hbx (zA _);have hcon:=indexFault_c k hcl (by simp) hfx;have HZ:=hid (hZ.alloc (.cells #[.int .i64 (k:Int)] 3));have Hbx:=hid hbx;have Hcon:=hid hcon;have Hsu:=hid hsu;have Hal:=hid hal;have Hfx:=hid hfx;have hsz:=hb.size;obtain ⟨x0,x1⟩:=hxb;have hxok:eI.ok x:=by show -9223372036854775808<=x/\x<=9223372036854775807;omega
    have Hxok:=hid hxok;clear hxk hcx hxo hgd hsu hal hbx hcl hfx hcon hZ hb hc hxok;go_wp2_with fail;with_reducible refine Hcon.out.mono ?_
    rintro e w2 ⟨hcase,hb2⟩;have hZ2:=HZ.out.below hb2 (zA _);have hbw:=Hbx.out.trans (hb2.mono Hbx.out.size);have HZ2:=hid hZ2;have Hbw:=hid hbw;have hsw:w.heap.size<=w2.heap.size:=hbw.size;have Hfw:=hid (Hf.out.below hbw (zA _));clear hZ2 hbw hb2 c0 Hcon;rcases hcase with ⟨rfl,hfn⟩ | ⟨q,f,rfl,hfq,hfn⟩
    . have hsu:=Hsu.out
      rw [hfn] at hsu;have Hsu2:Hid (afterK xs fs (k+1)=afterK xs fs k++[x]):=hid hsu;clear hsu hfn Hsu;go_wp2_with (first | (at_builtin;refine yAB (E:=eI) rfl _ _ 48 rfl Tryz.underlying48 hi hz0 hz1 hz2 rfl (by decide) rfl rfl (HZ2.out.alloc _) (yAH (E:=eI) (x:=x) Hxok.out rfl) ?b1 ?b2 ?b3 ?_))
      case b1=>have:=Hal.out;unfold maxLen;(try simp) <;> omega
      case b2=>have:=Hal.out;(try simp) <;> omega
      case b3=>(try simp) <;> omega
      intro v5 w5 hO5 hg5;have hb5:=hg5.alloc.below Hbw.out hsw (fun z hz=>(HZ2.out.lt z hz).1);have HO5:=hid hO5;have Hb5:=hid hb5;clear hO5 hg5 hb5;go_wp2;go_roundw
      case rel=>exact ⟨k+1,by omega,by go_num,by rw [Hsu2.out];exact HO5.out,Hb5.out⟩
      case measure=>simp [intOf];omega
    . have hqf:=(zS.1 hfq).1
      obtain ⟨fo2,fcap2,hsh,hof⟩:=yAU Hfw.out;have hq:q<m:=by rw [Hm.out];exact hqf
      obtain ⟨b3,off3,hfo2,hlt3,hc3⟩:=hof (by omega);subst hfo2;injection hsh with hs1 hs2 hs3;subst hs1;obtain ⟨y,hy,⟨d0,d1,d2,d3⟩,hyo⟩:=hc3 q hqf;obtain rfl:y=f:=zD (hy.symm.trans hfq);have hrd:=Hfo.out y (zC hfq);have hsu:=Hsu.out;rw [hfn] at hsu;have hsu2:afterK xs fs (k+1)=afterK xs fs k++afterF x y:=hsu;obtain ⟨kd,cd,pl,dg⟩:=y;simp only at d0 d1 d2 d3;have HB0:Hid (Box (w2.alloc (.cells #[.int .i64 kd,.int .i64 cd,.int .i64 pl,.int .i64 dg] 155)) w2.heap.size [.int .i64 kd,.int .i64 cd,.int .i64 pl,.int .i64 dg]):=hid (Box.new w2 [.int .i64 kd,.int .i64 cd,.int .i64 pl,.int .i64 dg] _);have Hrd:=hid hrd;have hq1:(q:Int)<(m:Int):=by omega
      have hqn:¬ (q:Int)<0:=by omega
      clear hof hc3 hy hyo hfq hfn hsu hrd hs2 hs3 Hsu Hfw;by_cases h2:kd=2
      . subst h2
        have ea:afterF x ⟨2,cd,pl,dg⟩=[x,x]:=by unfold afterF;rw [if_pos rfl]
        rw [ea] at hsu2;have Hsu2:=hid hsu2;have t2:((2:Int) == 2)=true:=rfl;have hrd2:RdI (w2.heap.size+1+1) ((w2.alloc (.cells #[.int .i64 2,.int .i64 cd,.int .i64 pl,.int .i64 dg] 155)).alloc (.cells #[.int .i64 x,.int .i64 x] 2)) (.slice (some ⟨w2.heap.size+1,0,none⟩) 2 2) [x,x]:=by
         have h:=(Own.lit (E:=eI) (e:=2) (base:=0) (w:=w2.alloc (.cells #[.int .i64 2,.int .i64 cd,.int .i64 pl,.int .i64 dg] 155)) (xs:=[x,x]) (cs:=#[.int .i64 x,.int .i64 x]) (n:=2) (zK _) rfl rfl (by decide) (fun z hz=>by simp at hz;rw [hz];exact Hxok.out)).rds;simpa using h
        have Hrd2:=hid hrd2;clear hsu2 ea hrd2 Hrd;go_wp2_with (first | (at_builtin;refine yAB (E:=eI) rfl _ _ 48 rfl Tryz.underlying48 hi hz0 hz1 hz2 rfl (by decide) rfl rfl ((HZ2.out.alloc _).alloc _) Hrd2.out ?b1 ?b2 ?b3 ?_))
        case b1=>have:=Hal.out;unfold maxLen;(try simp) <;> omega
        case b2=>have:=Hal.out;(try simp) <;> omega
        case b3=>(try simp) <;> omega
        intro v5 w5 hO5 hg5;have hb5:=hg5.alloc.alloc.below Hbw.out hsw (fun z hz=>(HZ2.out.lt z hz).1);have HO5:=hid hO5;have Hb5:=hid hb5;clear hO5 hg5 hb5 d0 d1 d2 d3;go_wp2;go_roundw
        case rel=>exact ⟨k+1,by omega,by go_num,by rw [Hsu2.out];exact HO5.out,Hb5.out⟩
        case measure=>simp [intOf];omega
      . have t2:(kd == 2)=false:=by simpa using h2
        by_cases h3:kd=3
        . subst h3
          obtain ⟨⟨p0,p1⟩,q0,q1⟩:=Hrd.out rfl;simp only at p0 p1 q0 q1;obtain ⟨p,rfl⟩:=zG p0;have hp4:p<4:=by omega
          have ea:afterF x ⟨3,cd,(p:Int),dg⟩=[readF x ⟨3,cd,(p:Int),dg⟩]:=by unfold afterF;rw [if_neg h2,if_pos rfl]
          have esh:=shown_read (n:=x) (f:=⟨3,cd,(p:Int),dg⟩) ⟨x0,x1⟩ hp4 rfl;have hrb:=readF_bound (n:=x) (f:=⟨3,cd,(p:Int),dg⟩) ⟨x0,x1⟩ ⟨by simp,by simp only;omega⟩ ⟨q0,q1⟩;rw [ea] at hsu2;generalize hR:readF x ⟨3,cd,(p:Int),dg⟩=R at hsu2 esh hrb;have hRok:eI.ok R:=by show -9223372036854775808<=R/\R<=9223372036854775807;omega
          have hcon2:=wheelsShow_c (K:=4) (n:=x) (w:=w2.alloc (.cells #[.int .i64 3,.int .i64 cd,.int .i64 (p:Int),.int .i64 dg] 155)) (by decide) (by omega) (by omega);rw [show ((4:Nat):Int)=4 from rfl] at hcon2;have Hcon2:=hid hcon2;have Hsu2:=hid hsu2;have Hesh:=hid esh;have HRok:=hid hRok;clear hcon2 hsu2 ea esh hRok hR hrb Hrd p0;simp only at Hesh;go_wp2_with fail;with_reducible refine Hcon2.out.mono ?_
          rintro e w4 ⟨u4,rfl,hu4,hb4⟩;obtain ⟨g,gcap,hue,hg0,hg1⟩:=Own.addr hu4 (by rw [wl_length];omega);rw [wl_length] at hue;subst hue;have hdgo:eI.ok dg:=by show -9223372036854775808<=dg/\dg<=9223372036854775807;omega
          have hB4:=HB0.out.on hb4;have k2:=hB4.cell 2 _ rfl;have k3:=hB4.cell 3 _ rfl;have hl4:=hB4.lt;have hst:=Own.storeI hu4 (k:=p) (x:=dg) (by rw [wl_length]) hp4 hdgo;obtain ⟨⟨y0,hy0⟩,hfz,ho6,hg6⟩:=hst;have hg2:w2.heap.size+1<=g:=by simpa using hg0
          clear hg0;have hzl:=HZ2.out.lt;have hZ6:=(((HZ2.out.alloc (.cells #[.int .i64 3,.int .i64 cd,.int .i64 (p:Int),.int .i64 dg] 155)).below hb4 (zA _)).kept hg6 (.inr (fun h=>by have:=(hzl _ h).2;omega))).alloc (.cells #[.slice (some ⟨g,0,none⟩) 4 gcap] 226);have hb3x:=Hbw.out.alloc hsw (.cells #[.int .i64 3,.int .i64 cd,.int .i64 (p:Int),.int .i64 dg] 155);have hb4x:=hb3x.trans (hb4.mono hb3x.size);have hb5s:=hb4x.setCell (p:=⟨g,p,none⟩) (show w.heap.size<=g by omega) (.int .i64 dg);have hb6:=hb5s.alloc hb5s.size (.cells #[.slice (some ⟨g,0,none⟩) 4 gcap] 226);have hset:∀ z∈(wl x 4).set p dg,0<=z/\z<=9:=fun z hz=>by
           rcases List.mem_or_eq_of_mem_set hz with h | h
           . exact wl_ok x 4 z h
           . omega
          have hcs:=shown_c (ho6.alloc (.cells #[.slice (some ⟨g,0,none⟩) 4 gcap] 226)).rds hset (by rw [List.length_set,wl_length]);rw [Hesh.out] at hcs;have hs6:=hb6.size;have hgne:g ≠ w4.heap.size:=by omega
          have HZ6:=hid hZ6;have Hb6:=hid hb6;have Hcs:=hid hcs;clear ho6 hg6 hzl hZ6 hb5s hb3x hb4x hb6 hset hcs hu4 hb4 hB4 Hcon2 HZ2 Hbw HB0;go_wp2_with fail;with_reducible refine Hcs.out.mono ?_
          rintro e w7 ⟨rfl,hb7⟩;have hZ7:=HZ6.out.below hb7 (zA _);have hb7x:=Hb6.out.trans (hb7.mono hs6);have HZ7:=hid hZ7;have Hb7:=hid hb7x;have hs7:w.heap.size<=w7.heap.size:=hb7x.size;clear hZ7 hb7 hb7x HZ6 Hb6 k2 k3 hy0 hfz Hcs d0 d1 d2 d3;go_wp2_with (first | (at_builtin;refine yAB (E:=eI) rfl _ _ 48 rfl Tryz.underlying48 hi hz0 hz1 hz2 rfl (by decide) rfl rfl (HZ7.out.alloc _) (yAH (E:=eI) (x:=R) HRok.out rfl) ?b1 ?b2 ?b3 ?_))
          case b1=>have:=Hal.out;unfold maxLen;(try simp) <;> omega
          case b2=>have:=Hal.out;(try simp) <;> omega
          case b3=>(try simp) <;> omega
          intro v5 w5 hO5 hg5;have hb5:=hg5.alloc.below Hb7.out hs7 (fun z hz=>(HZ7.out.lt z hz).1);have HO5:=hid hO5;have Hb5:=hid hb5;clear hO5 hg5 hb5;go_wp2;go_roundw
          case rel=>exact ⟨k+1,by omega,by go_num,by rw [Hsu2.out];exact HO5.out,Hb5.out⟩
          case measure=>simp [intOf];omega
        . have t3:(kd == 3)=false:=by simpa using h3
          have ea:afterF x ⟨kd,cd,pl,dg⟩=[]:=by unfold afterF;rw [if_neg h2,if_neg h3]
          rw [ea,List.append_nil] at hsu2;have Hsu2:=hid hsu2;have HO5:=hid (HZ2.out.alloc (.cells #[.int .i64 kd,.int .i64 cd,.int .i64 pl,.int .i64 dg] 155));have Hb5:=hid (Hbw.out.alloc hsw (.cells #[.int .i64 kd,.int .i64 cd,.int .i64 pl,.int .i64 dg] 155));clear hsu2 ea Hrd;go_wp2;go_roundw
          case rel=>exact ⟨k+1,by omega,by go_num,by rw [Hsu2.out];exact HO5.out,Hb5.out⟩
          case measure=>simp [intOf];omega
  . obtain rfl:k=n:=by omega
    have HZ:=hid hZ;have Hb:=hid hb;clear hZ hb;go_wp2;go_ret;exact ⟨_,rfl,HZ.out,Hb.out⟩
theorem l19Report_c {xs:List Int} {v:Value} {w:World} {A:Nat} (ha:RdI A w v xs) (hx:∀ n∈xs,0<=n/\n<=9999) (hl:xs.length<=24) :
 Calls Tryz.prog 52 #[v] w fun e w'=>e=.returned (vReport (repOf xs))/\Below w.heap.size w w':=by
 have ha0:=ha;obtain ⟨ao,cap,rfl,ho⟩:=ha.open;obtain ⟨n,hn⟩:∃ n,n=xs.length:=⟨_,rfl⟩;have hbd:=rep_bd hx hl;rw [<- hn] at ho hl ha0 |-;have Ha:=hid ha0;have Ho:=hid ho;have Hx:=hid hx;have Hn:=hid hn;have Hbd:=hid hbd;clear ha ha0 ho hx hn hbd;have hb0:Below w.heap.size w (w.alloc (.cells #[.int .i64 0,.int .i64 0,.int .i64 0] 53)):=(zB _ _).alloc (zA _) _;have ha1:=Ha.out.onn hb0;have Ha1:=hid ha1;have Hb0:=hid hb0;clear hb0 ha1;go_enter Tryz.func52,Tryz.ntmps52;obtain ⟨k1,k2,k3⟩:=repStart w (n:Int) 53 53;go_wp2;go_loopw [4] (fun i wr=>∃ k:Nat,k<=n/\i=.int .i64 k/\Box wr (w.heap.size+1) [.int .i64 (n:Int),.int .i64 (sumI (xs.take k)),.int .i64 (sumI ((xs.take k).map dsum))]/\Box wr w.heap.size [.int .i64 0,.int .i64 0,.int .i64 0]/\Below w.heap.size w wr) (fun i _=>n - (intOf i).toNat)
 case atStart=>exact ⟨0,zK _,rfl,k1,k2,k3⟩
 case round =>
  obtain ⟨k,hk,rfl,hB,hR,hb⟩:=hrel;clear k1 k2 k3 Ha1 Hb0;by_cases hkn:k<n
  . obtain ⟨b,off,rfl,hlt,hc⟩:=Ho.out (by omega)
    obtain ⟨x,hxk,hcx,_⟩:=hc k hkn;have hxb:=Hx.out x (zC hxk);have hsn:=rep_snoc hxk;have hbk:=Hbd.out k;have hbk1:=Hbd.out (k+1);rw [hsn.1,hsn.2] at hbk1;obtain ⟨s,hs⟩:∃ s,s=sumI (xs.take k):=⟨_,rfl⟩;obtain ⟨d,hd⟩:∃ d,d=sumI ((xs.take k).map dsum):=⟨_,rfl⟩;rw [<- hs] at hsn hbk hbk1 hB;rw [<- hd] at hsn hbk hbk1 hB;have c0:=(hb.cell (p:=⟨b,off+k,none⟩) hlt.2).trans hcx;have e0:=hB.cell 0 _ rfl;have e1:=hB.cell 1 _ rfl;have e2:=hB.cell 2 _ rfl;have f1:=hB.free 1;have f2:=hB.free 2;obtain ⟨x0,x1⟩:=hxb;obtain ⟨⟨s0,s1⟩,d0,d1⟩:=hbk;obtain ⟨⟨s2,s3⟩,d2,d3⟩:=hbk1;have Hb:=hid hb;have HB:=hid hB;have HR:=hid hR;have Hsn:=hid hsn;have hcl:=World.block_lt_of_cell? wr _ c0;generalize hdx:dsum x=dx at d2 d3 Hsn;have Hdx:=hid hdx;clear hB hR hb hsn hs hd hc hxk hcx e0 hdx;go_wp2;go_still_tail 7,(by kernel_rfl);change wpList _ _ _ _ _ wr.drew;have hBd:=HB.out.drew1;have hRd:=HR.out.drew1;have hbd2:Below w.heap.size w wr.drew:=Hb.out.drew1;have c0':wr.drew.cell? ⟨b,off+k,none⟩=some (.int .i64 x):=c0;have hcl':b<wr.drew.heap.size:=hcl;clear c0 e1 e2 f1 f2 hcl HB HR Hb;generalize wr.drew=wd at hBd hRd hbd2 c0' hcl' |-;have e1:=hBd.cell 1 _ rfl;have f1:=hBd.free 1;have hB2:=hBd.set1 (j:=1) (by simp) (.int .i64 (s+x));have hR2:=hRd.other (p:=⟨w.heap.size+1,1,none⟩) (by show w.heap.size+1 ≠ w.heap.size;omega) (.int .i64 (s+x));have hb2:=hbd2.setCell (p:=⟨w.heap.size+1,1,none⟩) (by show w.heap.size<=w.heap.size+1;omega) (.int .i64 (s+x));have hbne:w.heap.size+1 ≠ b:=by have:=hlt.2;omega
    obtain ⟨W2,hW2⟩:∃ W2,W2=wd.setCell ⟨w.heap.size+1,1,none⟩ (.int .i64 (s+x)):=⟨_,rfl⟩;have g0:W2.cell? ⟨b,off+k,none⟩=some (.int .i64 x):=by rw [hW2];exact (World.cell?_of_block (w:=wd) (a:=⟨b,off+k,none⟩) ((grown_setW wd ⟨w.heap.size+1,1,none⟩ (.int .i64 (s+x))).block b hcl' (fun h=>by have h2:=zD h;simp only at h2;omega))).trans c0'
    rw [<- hW2] at hB2 hR2 hb2;have HW2:=hid hW2;have HB2:=hid hB2;have HR2:=hid hR2;have Hb2:=hid hb2;have e2':=hB2.cell 2 _ rfl;have f2':=hB2.free 2;clear hBd hRd hbd2 hB2 hR2 hb2 hW2;go_wp2;rw [<- HW2.out];clear c0' e1 f1 hcl';have hcon:=l19Digits_c (n:=x) (w:=W2.drew) ⟨x0,x1⟩;rw [Hdx.out] at hcon;have Hcon:=hid hcon;clear hcon;go_region_with (go_at_call 99;(with_reducible refine Hcon.out.mono ?_);rintro e w7 ⟨rfl,rfl⟩)
    all_goals
     have hz:IntKind.i64.wrap (d+dx)=d+dx:=IntWalk.i64_in _ (by omega);try rw [hz]
     have hbb:Below W2.heap.size W2 W2.drew:=(zB W2.heap.size W2).drew1;have HB8:=hid ((HB2.out.drew1).set1 (j:=2) (by simp) (.int .i64 (d+dx)));have HR8:=hid ((HR2.out.drew1).other (p:=⟨w.heap.size+1,2,none⟩) (by show w.heap.size+1 ≠ w.heap.size;omega) (.int .i64 (d+dx)));have Hb8:=hid ((Hb2.out.drew1).setCell (p:=⟨w.heap.size+1,2,none⟩) (by show w.heap.size<=w.heap.size+1;omega) (.int .i64 (d+dx)));clear hz hbb g0 e2' f2';go_wp2;go_roundw
     case rel=>exact ⟨k+1,by omega,by go_num,by rw [Hsn.out.1,Hsn.out.2];exact HB8.out,HR8.out,Hb8.out⟩
     case measure=>simp [intOf];omega
  . obtain rfl:k=n:=by omega
    rw [zH (by have:=Hn.out;omega)] at hB;have hrep:repOf xs=⟨(k:Int),sumI xs,sumI (xs.map dsum)⟩:=by unfold repOf;rw [<- Hn.out]
    have e0:=hB.cell 0 _ rfl;have e1:=hB.cell 1 _ rfl;have e2:=hB.cell 2 _ rfl;have r0:=hR.cell 0 _ rfl;have r1:=hR.cell 1 _ rfl;have r2:=hR.cell 2 _ rfl;have q0:=hR.free 0;have q1:=hR.free 1;have q2:=hR.free 2;have Hb:=hid hb;have Hrep:=hid hrep;clear hB hR hb hrep;generalize sumI xs=S at e1 Hrep;generalize sumI (xs.map dsum)=D at e2 Hrep;go_wp2;rw [Hrep.out];exact bodyPost_ret (v:=vReport ⟨(k:Int),S,D⟩) (by simp [results,Tryz.results52,go_sem,r0,r1,r2]) rfl ⟨rfl,Hb.out.run (g:=w.heap.size) (by omega) [_,_,_]⟩
theorem after_one (n:Int) (f:FaultT):afterL [n] [⟨f.kind,0,f.place,f.digit⟩]=afterF n f:=by
 simp [afterL,afterK,List.range_succ,findF,readAt,afterF,readF]
theorem less_small {a b:ReportT} (h1:-1000000000<=a.count - b.count/\a.count - b.count<=1000000000) (h2:-1000000000<=a.sum - b.sum/\a.sum - b.sum<=1000000000) (h3:-1000000000<=a.digits - b.digits/\a.digits - b.digits<=1000000000):lessW a b=subR a b:=by
 unfold lessW subR;rw [yBB (by omega),yBB (by omega),yBB (by omega)]
theorem chg_less {xs:List Int} {f:FaultT} (h:amtOk xs=true) (hf:fOk xs f):lessW (repOf (afterF (atN xs f.card) f)) (repOf [atN xs f.card])=chgF xs f:=by
 have hb:=yBF h hf;unfold chgF at hb |-;unfold subR at hb;simp only at hb;exact less_small (by omega) (by omega) (by omega)
theorem fOk_rd {xs:List Int} {f:FaultT} (hf:fOk xs f):fRd ⟨f.kind,0,f.place,f.digit⟩:=by
 intro h3;rcases hf.2 with ⟨h4 | h4,_⟩ | ⟨_,h4,h5,_⟩
 . simp only at h3;omega
 . simp only at h3;omega
 . exact ⟨h4,h5⟩
theorem chgStart (w:World) (O1:Obj) (x:Int) (hx:eI.ok x) (f:FaultT) (hf:okFault f) (t2:TypeId) :
 let X:=((((w.alloc O1).alloc (.cells #[.int .i64 0,.int .i64 0,.int .i64 0] t2)).alloc (.cells #[.int .i64 x] 2)).alloc (.cells #[.int .i64 x] 2)).alloc (.cells #[.int .i64 f.kind,.int .i64 f.card,.int .i64 f.place,.int .i64 f.digit] 155)
 RdI X.heap.size X (.slice (some ⟨w.heap.size+1+1,0,none⟩) 1 1) [x]/\RdI X.heap.size X (.slice (some ⟨w.heap.size+1+1+1,0,none⟩) 1 1) [x]/\RdFaultS X.heap.size X (.slice (some ⟨w.heap.size+1+1+1+1,0,none⟩) 1 1) [f] /\
  Box X (w.heap.size+1) [.int .i64 0,.int .i64 0,.int .i64 0]/\Below w.heap.size w X:=by
 intro X;obtain ⟨w1,h1⟩:∃ w1,w1=w.alloc O1:=⟨_,rfl⟩;obtain ⟨w2,h2⟩:∃ w2,w2=w1.alloc (.cells #[.int .i64 0,.int .i64 0,.int .i64 0] t2):=⟨_,rfl⟩;obtain ⟨w3,h3⟩:∃ w3,w3=w2.alloc (.cells #[.int .i64 x] 2):=⟨_,rfl⟩;obtain ⟨w4,h4⟩:∃ w4,w4=w3.alloc (.cells #[.int .i64 x] 2):=⟨_,rfl⟩;have hX:X=w4.alloc (.cells #[.int .i64 f.kind,.int .i64 f.card,.int .i64 f.place,.int .i64 f.digit] 155):=by rw [h4,h3,h2,h1]
 have e1:w1.heap.size=w.heap.size+1:=by rw [h1];simp
 have e2:w2.heap.size=w.heap.size+1+1:=by rw [h2,<- e1];simp
 have e3:w3.heap.size=w.heap.size+1+1+1:=by rw [h3,<- e2];simp
 have e4:w4.heap.size=w.heap.size+1+1+1+1:=by rw [h4,<- e3];simp
 have b1:Below w.heap.size w w1:=by rw [h1];exact (zB _ _).alloc (zA _) _
 have b2:Below w1.heap.size w1 w2:=by rw [h2];exact (zB _ _).alloc (zA _) _
 have b3:Below w2.heap.size w2 w3:=by rw [h3];exact (zB _ _).alloc (zA _) _
 have b4:Below w3.heap.size w3 w4:=by rw [h4];exact (zB _ _).alloc (zA _) _
 have b5:Below w4.heap.size w4 X:=by rw [hX];exact (zB _ _).alloc (zA _) _
 have r1:RdI (w2.heap.size+1) w3 (.slice (some ⟨w2.heap.size,0,none⟩) 1 1) [x]:=by rw [h3];exact yAH (E:=eI) hx rfl
 have r2:RdI (w3.heap.size+1) w4 (.slice (some ⟨w3.heap.size,0,none⟩) 1 1) [x]:=by rw [h4];exact yAH (E:=eI) hx rfl
 have r3:RdFaultS (w4.heap.size+1) X (.slice (some ⟨w4.heap.size,0,none⟩) 1 1) [f]:=by rw [hX];exact yAH (E:=eFault) hf rfl
 have r4:Box w2 w1.heap.size [.int .i64 0,.int .i64 0,.int .i64 0]:=by rw [h2];exact Box.new w1 _ _
 rw [e2] at r1;rw [e3] at r2;rw [e4] at r3;rw [e1] at r4;exact ⟨(r1.onn (b4)).onn b5,r2.onn b5,r3.tight,((r4.on b3).on b4).on b5,b1.trans ((b2.mono (by omega)).trans ((b3.mono (by omega)).trans ((b4.mono (by omega)).trans (b5.mono (by omega)))))⟩
theorem change_c {xs:List Int} {f:FaultT} {v:Value} {w:World} {A:Nat} (ha:RdI A w v xs) (hx:amtOk xs=true) (hf:fOk xs f) (ht:PowAt w) :
 Calls Tryz.prog 146 #[v,vFault f] w fun e w'=>e=.returned (vReport (chgF xs f))/\Below w.heap.size w w':=by
 have hch:=chg_less hx hf;obtain ⟨hafl,hafx⟩:=after_ok hx hf;have hrd:=fOk_rd hf;have hat:=amt_at hx f.card;have hone:=after_one (atN xs f.card) f;have hfo:okFault f:=by
  have:=(yAQ hx).1;have h1:=hf.1;unfold okFault;rcases hf.2 with ⟨h4 | h4,h5,h6⟩ | ⟨h4,h5,h6,_⟩ <;> omega
 rw [<- hch];obtain ⟨ao,cap,rfl,ho⟩:=ha.open;obtain ⟨b,off,rfl,hlt,hc⟩:=ho (by have:=hf.1;omega);obtain ⟨ci,hci⟩:=zG hf.1.1;obtain ⟨x,hxk,hcx,_⟩:=hc ci (by have:=hf.1.2;omega);have hax:atN xs f.card=x:=by unfold atN;rw [hci,zR,List.getD_eq_getElem?_getD,hxk];rfl
 rw [hax] at hafl hafx hat hone |-;have hcl:(ci:Int)<(xs.length:Int):=by have:=hf.1.2;omega
 generalize xs.length=n at hcl |-;obtain ⟨kd,cd,pl,dg⟩:=f;simp only at hci hrd hone;subst hci;generalize hP:afterF x ⟨kd,(ci:Int),pl,dg⟩=P at hafl hafx hone |-;have Hafl:=hid hafl;have Hafx:=hid hafx;have Hrd:=hid hrd;have Hat:=hid hat;have Hone:=hid hone;have Hfo:=hid hfo;have Ht:=hid ht;have hlt2:=hlt.2;have hxok:eI.ok x:=by show -9223372036854775808<=x/\x<=9223372036854775807;omega
 have Hxok:=hid hxok;have hne1:w.heap.size ≠ b:=by omega
 clear hch hafl hafx hrd hat hone hfo ht ha ho hc hx hf hxk hax hP hxok;obtain ⟨k1,k2,k3,k4,k5⟩:=chgStart w (.cells #[.int .i64 kd,.int .i64 (ci:Int),.int .i64 pl,.int .i64 dg] 155) x Hxok.out ⟨kd,0,pl,dg⟩ (by have:=Hfo.out;unfold okFault at this |-;simp only at this |-;omega) 53;obtain ⟨W5,hW5⟩:∃ W5,W5=(((((w.alloc (.cells #[.int .i64 kd,.int .i64 (ci:Int),.int .i64 pl,.int .i64 dg] 155)).alloc (.cells #[.int .i64 0,.int .i64 0,.int .i64 0] 53)).alloc (.cells #[.int .i64 x] 2)).alloc (.cells #[.int .i64 x] 2)).alloc (.cells #[.int .i64 kd,.int .i64 0,.int .i64 pl,.int .i64 dg] 155)):=⟨_,rfl⟩;simp only at k1 k2 k3 k4 k5;rw [<- hW5] at k1 k2 k3 k4 k5;have hcon:=amountsAfter_c k2 k3 (by simp;exact Hat.out) (by simp) (by simp;exact Hrd.out);rw [Hone.out] at hcon;have Hcon:=hid hcon;have HW5:=hid hW5;have K1:=hid k1;have K4:=hid k4;have K5:=hid k5;have Ht5:=hid (Ht.out.below k5);clear hcon hW5 k1 k2 k3 k4 k5 Hone;go_enter Tryz.func146,Tryz.ntmps146;go_wp2_with fail;rw [<- HW5.out];with_reducible refine Hcon.out.mono ?_
 rintro e w6 ⟨z,rfl,hz,hb6⟩;obtain ⟨za,zc,rfl⟩:=hz.shape;have Hz:=hid hz.rds;have K16:=hid (K1.out.onn hb6);have K46:=hid (K4.out.on hb6);have K56:=hid (K5.out.trans (hb6.mono K5.out.size));have Ht6:=hid (Ht5.out.below hb6);clear hz hb6 hcx;go_wp2_with fail;with_reducible refine (reportOf_c Hz.out Hafx.out (by have:=Hafl.out;omega) Ht6.out).mono ?_
 rintro e w7 ⟨rfl,hb7⟩;have K17:=hid (K16.out.onn hb7);have K47:=hid (K46.out.on hb7);have K57:=hid (K56.out.trans (hb7.mono K56.out.size));have Ht7:=hid (Ht6.out.below hb7);clear hb7;go_wp2_with fail;with_reducible refine (reportOf_c K17.out (by simp;exact Hat.out) (by simp) Ht7.out).mono ?_
 rintro e w8 ⟨rfl,hb8⟩;have K48:=hid (K47.out.on hb8);have K58:=hid (K57.out.trans (hb8.mono K57.out.size));clear hb8;go_wp2_with fail;with_reducible refine (less_c _ _ _).mono ?_
 rintro e w9 ⟨rfl,hb9⟩;have k4:=K48.out.on hb9;have K59:=hid (K58.out.trans (hb9.mono K58.out.size));have c0:=k4.cell 0 _ rfl;have c1:=k4.cell 1 _ rfl;have c2:=k4.cell 2 _ rfl;have f0:=k4.free 0;have f1:=k4.free 1;have f2:=k4.free 2;generalize hR:lessW (repOf P) (repOf [x])=R;have HR:=hid hR;clear k4 hb9 hR;go_wp2;exact bodyPost_ret (v:=vReport R) (by simp [results,Tryz.results146,go_sem,c0,c1,c2]) rfl ⟨by rw [HR.out],K59.out.run (g:=w.heap.size+1) (by omega) [_,_,_]⟩
end Go.Proofs.YtmindpfmgnnieaaGreatDoor
