/- Lemmas on the way to the law FnRestarts. No condition. -/
import Derived.Test.YthdaghfhlfjclaaGreatMR33
import Derived.Test.YthdaghfhlfjclaaGreatMR32
import Derived.Test.YthdaghfhlfjclaaGreatMR29
import Derived.Test.YthdaghfhlfjclaaGreatMR31
import Derived.Test.YthdaghfhlfjclaaGreatMR27
import Derived.Test.YthdaghfhlfjclaaGreatMR13
import Derived.Test.YthdaghfhlfjclaaGreatMR15
namespace Go.Proofs.YthdaghfhlfjclaaGreat
set_option maxHeartbeats 4000000
set_option linter.unusedSimpArgs false
open Lib (hid)
open Go.ChangeShapes Go.WideShapes Go.ChangeAt Go.RowKit Go.Sort
set_option linter.unusedVariables false
set_option maxRecDepth 100000
theorem sMergeDecks_c {a b:List (List Int)} {u v:Value} {w:World} {A B:Nat} {f t:Int} (ha:RdInt64SS A w u a) (hb:RdInt64SS B w v b) :
 Calls Tryz.prog 125 #[u,v,.agg #[.int .i64 f,.int .i64 t]] w fun e w'=>DkPost (merC a b f t) (fun x=>x=pickD (a++b) (ordD (a++b) f t)) w.heap.size e w'/\Below w.heap.size w w':=by
 obtain ⟨i0,hi,hz0,hz1,hz2c⟩:=info_parts Tryz.infoCard;obtain ⟨ao,ac,rfl⟩:=ha.shape;obtain ⟨bo,bc,rfl⟩:=hb.shape;obtain ⟨T,hT⟩:∃ T,T=w.alloc (.cells #[.int .i64 f,.int .i64 t] 73):=⟨_,rfl⟩;have hbT:Below w.heap.size w T:=by rw [hT];exact (zB _ _).alloc (zA _) _
 have hBT:Box T w.heap.size [.int .i64 f,.int .i64 t]:=by rw [hT];exact Box.new w [.int .i64 f,.int .i64 t] _
 have haT:=RdInt64SS.onn ha hbT;have hbT2:=RdInt64SS.onn hb hbT;have htw:=l09Two_c (f:=f) (t:=t) haT hbT2;obtain ⟨C,hC⟩:∃ C,C=twoC a b f t:=⟨_,rfl⟩;rw [<- hC] at htw;have HC:=hid hC;have Htw:=hid htw;have f0:=hBT.cell 0 _ rfl;have f1:=hBT.cell 1 _ rfl;have HT:=hid hT;have HbT:=hid hbT;have HaT:=hid haT;have HbT2:=hid hbT2;clear hT hbT hBT haT hbT2 htw hC ha hb;obtain ⟨R,hR⟩:∃ R,merC a b f t=R:=⟨_,rfl⟩;rw [hR];have HR:=hid hR;clear hR;obtain ⟨n,hn⟩:∃ n,n=a.length:=⟨_,rfl⟩;obtain ⟨m,hm⟩:∃ m,m=b.length:=⟨_,rfl⟩;rw [<- hn] at HaT Htw |-;rw [<- hm] at HbT2 Htw |-;have Hn:=hid hn;have Hm:=hid hm;clear hn hm;go_enter Tryz.func125,Tryz.ntmps125;go_upto_region 1 with fail;rw [<- HT.out];go_wp2_with fail;with_reducible refine Htw.out.mono ?_
 rintro e w1 ⟨⟨rx,ry,rfl,hxy⟩,hb1⟩;have Ha1:=hid (RdInt64SS.onn HaT.out hb1);have Hd1:=hid (RdInt64SS.onn HbT2.out hb1);have Hb1:=hid (HbT.out.trans (hb1.mono HbT.out.size));clear hb1 f0 f1;by_cases hc0:C=0
 . have hz:=twoC_zero (a:=a) (b:=b) (f:=f) (t:=t) (by rw [<- HC.out];exact hc0)
   have hxy:=hxy hc0;have HZ:=hid hz;have HX:=hid hxy.1;have HY:=hid hxy.2;obtain ⟨xo,xc,hxs⟩:=hxy.1.shape;obtain ⟨yo,yc,hys⟩:=hxy.2.shape;rw [yAZ,<- Hn.out] at hxs;rw [yAZ,<- Hm.out] at hys;subst hxs;subst hys;have HR1:Hid (R=if (0<a.length/\0<b.length)/\colsD a ≠ colsD b then 9 else if ¬ (ascB a f t=true/\ascB b f t=true) then 6 else if 40<a.length+b.length then 5 else 0):=hid (by rw [<- HR.out];unfold merC;rw [if_neg (by rw [<- HC.out];exact fun h=>h hc0)]);subst hc0;have hla:=(yAF hz.1.1).1;have hlb:=(yAF hz.2.1).1;rw [<- Hn.out] at hla;rw [<- Hm.out] at hlb;clear hz hxy;obtain ⟨q,hq⟩:∃ q:Bool,(q=true ↔ (0<a.length/\0<b.length)/\colsD a ≠ colsD b):=bool_of _;have Hq:=hid hq;clear hq;go_upto_region 4 with fail;go_cut [42] (fun c wx=>c=.bool q/\Hid (Below w1.heap.size w1 wx))
   case first =>
    by_cases hn0:n=0
    . have HE:Hid (q=false):=hid (Bool.eq_false_iff.2 (fun h=>by have:=(Hq.out.1 h).1.1;have:=Hn.out;omega))
      subst hn0;refine wp_region_quiet_below (by kernel_rfl) (by kernel_rfl) ?_;repeat ((with_reducible refine wpQuiet_step (fun K hK=>?_));go_simp;first | ((with_reducible refine hK _ ?_);clear hK K) | ((with_reducible rw [if_neg]);rotate_left;(intro hgd;cases hgd);(with_reducible refine hK _ ?_);clear hK K) | (apply Exists.intro;refine ⟨fun _=>?_,hK _ ?_⟩;((fail));clear hK K))
      refine wpQuiet_nil ?_;intro _ hw';obtain ⟨⟨dq,osq⟩,hw''⟩:=hw';subst hw'';have hbq:=below_regrown w1 dq osq;generalize grow (redrawn w1 dq) osq=wq at hbq |-;have HBq:=hid hbq;clear hbq;go_wp2_with fail;go_meet;exact ⟨by rw [HE.out],HBq⟩
    . by_cases hm0:m=0
      . have HE:Hid (q=false):=hid (Bool.eq_false_iff.2 (fun h=>by have:=(Hq.out.1 h).1.2;have:=Hm.out;omega))
        have i1:(0:Int)<(n:Int):=by omega
        have i2:¬ (0:Int)<(m:Int):=by omega
        have i3:0<n:=by omega
        have i4:¬ 0<m:=by omega
        clear hm0;refine wp_region_quiet_below (by kernel_rfl) (by kernel_rfl) ?_;repeat ((with_reducible refine wpQuiet_step (fun K hK=>?_));go_simp;first | ((with_reducible refine hK _ ?_);clear hK K) | ((with_reducible rw [if_neg]);rotate_left;(intro hgd;cases hgd);(with_reducible refine hK _ ?_);clear hK K) | (apply Exists.intro;refine ⟨fun _=>?_,hK _ ?_⟩;((fail));clear hK K))
        refine wpQuiet_nil ?_;intro _ hw';obtain ⟨⟨dq,osq⟩,hw''⟩:=hw';subst hw'';have hbq:=below_regrown w1 dq osq;generalize grow (redrawn w1 dq) osq=wq at hbq |-;have HBq:=hid hbq;clear hbq;go_wp2_with fail;go_meet;exact ⟨by rw [HE.out],HBq⟩
      . have i1:(0:Int)<(n:Int):=by omega
        have i2:(0:Int)<(m:Int):=by omega
        have i3:0<n:=by omega
        have i4:0<m:=by omega
        obtain ⟨ao',ac',hs1,ho1⟩:=Ha1.out.open;obtain ⟨bo',bc',hs2,ho2⟩:=Hd1.out.open;rw [<- Hn.out] at hs1 ho1;rw [<- Hm.out] at hs2 ho2;injection hs1 with u1 u2 u3;subst u1;subst u3;injection hs2 with v1 v2 v3;subst v1;subst v3;clear u2 v2;obtain ⟨ab,aoff,rfl,alt,acc⟩:=ho1 i3;obtain ⟨bb,boff,rfl,blt,bcc⟩:=ho2 i4;obtain ⟨xa,xao,xac,hxa,hxac,-⟩:=acc 0 i3;obtain ⟨xb,xbo,xbc,hxb,hxbc,-⟩:=bcc 0 i4;rw [Nat.add_zero] at hxac hxbc;have ca:colsD a=(xa.length:Int):=by unfold colsD;rw [if_neg (fun e=>by rw [e] at hxa;cases hxa),head_of hxa]
        have cb:colsD b=(xb.length:Int):=by unfold colsD;rw [if_neg (fun e=>by rw [e] at hxb;cases hxb),head_of hxb]
        have e1:=cell_regrown hxac;have e2:=cell_regrown hxbc;obtain ⟨la,hla9⟩:∃ l,l=xa.length:=⟨_,rfl⟩;obtain ⟨lb,hlb9⟩:∃ l,l=xb.length:=⟨_,rfl⟩;rw [<- hla9] at ca e1;rw [<- hlb9] at cb e2;have HE:Hid (q=decide (¬ la=lb)):=hid (by
         rw [Bool.eq_iff_iff,decide_eq_true_iff,Hq.out,ca,cb];exact ⟨fun h e=>h.2 (by rw [e]),fun h=>⟨⟨by have:=Hn.out;omega,by have:=Hm.out;omega⟩,fun e=>h (by omega)⟩⟩)
        clear acc bcc hxa hxb hxac hxbc ca cb ho1 ho2 hla9 hlb9;by_cases hl:la=lb
        . have HE2:Hid (q=false):=hid (by rw [HE.out];exact decide_eq_false (fun h=>h hl))
          subst hl;refine wp_region_quiet_below (by kernel_rfl) (by kernel_rfl) ?_;repeat ((with_reducible refine wpQuiet_step (fun K hK=>?_));go_simp;first | ((with_reducible refine hK _ ?_);clear hK K) | ((with_reducible rw [if_neg]);rotate_left;(intro hgd;cases hgd);(with_reducible refine hK _ ?_);clear hK K) | (apply Exists.intro;refine ⟨fun _=>?_,hK _ ?_⟩;((fail));clear hK K))
          refine wpQuiet_nil ?_;intro _ hw';obtain ⟨⟨dq,osq⟩,hw''⟩:=hw';subst hw'';have hbq:=below_regrown w1 dq osq;generalize grow (redrawn w1 dq) osq=wq at hbq |-;have HBq:=hid hbq;clear hbq;go_wp2_with fail;go_meet;exact ⟨by first | (rw [HE2.out];done) | (rw [HE2.out];simp),HBq⟩
        . have HE2:Hid (q=true):=hid (by rw [HE.out];exact decide_eq_true hl)
          have hl2:((la:Int) != (lb:Int))=true:=bne_iff_ne.2 (by omega);clear hl;refine wp_region_quiet_below (by kernel_rfl) (by kernel_rfl) ?_;repeat ((with_reducible refine wpQuiet_step (fun K hK=>?_));go_simp;first | ((with_reducible refine hK _ ?_);clear hK K) | ((with_reducible rw [if_neg]);rotate_left;(intro hgd;cases hgd);(with_reducible refine hK _ ?_);clear hK K) | (apply Exists.intro;refine ⟨fun _=>?_,hK _ ?_⟩;((fail));clear hK K))
          refine wpQuiet_nil ?_;intro _ hw';obtain ⟨⟨dq,osq⟩,hw''⟩:=hw';subst hw'';have hbq:=below_regrown w1 dq osq;generalize grow (redrawn w1 dq) osq=wq at hbq |-;have HBq:=hid hbq;clear hbq;go_wp2_with fail;go_meet;exact ⟨by first | (rw [HE2.out];done) | (rw [HE2.out];simp [hl2]),HBq⟩
   case rest =>
    obtain ⟨rfl,Hc⟩:=hcut;obtain ⟨wy,hwy⟩:∃ x,x=wc:=⟨_,rfl⟩;subst hwy;have Hay:=hid (RdInt64SS.onn Ha1.out Hc.out);have Hdy:=hid (RdInt64SS.onn Hd1.out Hc.out);have HXy:=hid (Rds.onn HX.out Hc.out);have HYy:=hid (Rds.onn HY.out Hc.out);have Hby:=hid (Hb1.out.trans (Hc.out.mono Hb1.out.size));clear Hc;cases q with
    | true =>
     have HE:Hid (R=9):=hid (by rw [HR1.out,if_pos (Hq.out.1 rfl)]);go_wp2;go_ret2;exact ⟨DkPost.no (r:=.slice none 0 0) (by rw [HE.out];rfl) (by rw [HE.out];decide),Hby.out⟩
    | false =>
     have HR2:Hid (R=if ¬ (ascB a f t=true/\ascB b f t=true) then 6 else if 40<a.length+b.length then 5 else 0):=hid (by rw [HR1.out,if_neg (fun h=>absurd (Hq.out.2 h) (by decide))]);have hsx:=l07Step_c HXy.out (yAT HZ.out.1.1 HZ.out.1.2.1) (yAY HZ.out.1.1) HZ.out.1.2.2;have Hsx:=hid hsx;clear hsx;go_wp2_with fail;with_reducible refine Hsx.out.mono ?_
     rintro e w2 ⟨⟨R1,rfl,h1a,h1⟩,hb2⟩;have HX2:=hid (Rds.onn HXy.out hb2);have hY2:=Rds.onn HYy.out hb2;have HY2:=hid hY2;have Ha2:=hid (RdInt64SS.onn Hay.out hb2);have Hd2:=hid (RdInt64SS.onn Hdy.out hb2);have Hb2:=hid (Hby.out.trans (hb2.mono Hby.out.size));clear hb2;by_cases hs1:0<=R1
     . have HE:Hid (R=6):=hid (by rw [HR2.out,if_pos];intro h;rw [h1.1 hs1] at h;cases h.1)
       clear h1 hY2;go_wp2;go_ret2;exact ⟨DkPost.no (r:=.slice none 0 0) (by rw [HE.out];rfl) (by rw [HE.out];decide),Hb2.out⟩
     . have Hasc1:Hid (ascB a f t=true):=hid (by cases h:ascB a f t with | true=>rfl | false=>exact absurd (h1.2 h) hs1)
       have hsy:=l07Step_c hY2 (yAT HZ.out.2.1 HZ.out.2.2.1) (yAY HZ.out.2.1) HZ.out.2.2.2;have Hsy:=hid hsy;clear hsy hY2 h1;go_wp2_with fail;with_reducible refine Hsy.out.mono ?_
       rintro e w3 ⟨⟨R2,rfl,h2a,h2⟩,hb3⟩;have HX3:=hid (Rds.onn HX2.out hb3);have HY3:=hid (Rds.onn HY2.out hb3);have Ha3:=hid (RdInt64SS.onn Ha2.out hb3);have Hd3:=hid (RdInt64SS.onn Hd2.out hb3);have Hb3:=hid (Hb2.out.trans (hb3.mono Hb2.out.size));clear hb3;by_cases hs2:0<=R2
       . have HE:Hid (R=6):=hid (by rw [HR2.out,if_pos];intro h;rw [h2.1 hs2] at h;cases h.2)
         clear h2;go_wp2;go_ret2;exact ⟨DkPost.no (r:=.slice none 0 0) (by rw [HE.out];rfl) (by rw [HE.out];decide),Hb3.out⟩
       . have Hasc2:Hid (ascB b f t=true):=hid (by cases h:ascB b f t with | true=>rfl | false=>exact absurd (h2.2 h) hs2)
         have HR3:Hid (R=if 40<n+m then 5 else 0):=hid (by rw [HR2.out,if_neg (fun h=>h ⟨Hasc1.out,Hasc2.out⟩),Hn.out,Hm.out]);clear h2;by_cases hf:40<n+m
         . have HE:Hid (R=5):=hid (by rw [HR3.out,if_pos hf])
           have hf2:(40:Int)<(n:Int)+(m:Int):=by omega
           go_wp2;go_ret2;exact ⟨DkPost.no (r:=.slice none 0 0) (by rw [HE.out];rfl) (by rw [HE.out];decide),Hb3.out⟩
         . have HE:Hid (R=0):=hid (by rw [HR3.out,if_neg hf])
           have hf2:¬ (40:Int)<(n:Int)+(m:Int):=by omega
           have hmg:=l09Merge_c Ha3.out Hd3.out HX3.out HY3.out HZ.out ⟨Hasc1.out,Hasc2.out⟩ (by have:=Hn.out;have:=Hm.out;omega);have Hmg:=hid hmg;clear hmg;go_wp2_with fail;with_reducible refine Hmg.out.mono ?_
           rintro e w4 ⟨⟨r,rfl,hF⟩,hb4⟩;have HF:=hid (hF.mono Hb3.out.size);have Hb4:=hid (Hb3.out.trans (hb4.mono Hb3.out.size));clear hF hb4;go_wp2;go_ret2;exact ⟨⟨_,by rw [HE.out];rfl,fun _=>⟨_,rfl,HF.out⟩⟩,Hb4.out⟩
 . have HE:Hid (R=C):=hid (by rw [<- HR.out];unfold merC;rw [if_pos (by rw [<- HC.out];exact hc0)];exact HC.out.symm)
   have HE0:Hid (R ≠ 0):=hid (by rw [HE.out];exact hc0);have hc1:(C != 0)=true:=by simpa using hc0
   clear hxy hc0;go_wp2;go_ret2;exact ⟨DkPost.no (r:=.slice none 0 0) (by rw [HE.out];rfl) HE0.out,Hb1.out⟩
theorem RdT.lit2 (w:World) (a b:ByteArray) (e:TypeId) (ha:a.size<=1000) (hb:b.size<=1000):Rds eT (w.alloc (.cells #[.string a,.string b] e)).heap.size (w.alloc (.cells #[.string a,.string b] e)) (.slice (some ⟨w.heap.size,0,none⟩) 2 2) [a,b] :=
 (Own.lit (E:=eT) (e:=e) (base:=w.heap.size) (w:=w) (xs:=[a,b]) (cs:=#[.string a,.string b]) (n:=2) (zA _) rfl rfl (by unfold maxLen;omega) (fun x hx=>by
  show x.size<=9223372036854775807
  rcases List.mem_cons.1 hx with h | h
  . subst h;omega
  . rcases List.mem_cons.1 h with h | h
    . subst h;omega
    . cases h)).rds
theorem RdDs.lit1 (w:World) (d:List (List Int)) (vo:Option Addr) (vc:Nat) (e:TypeId) (hd:RdInt64SS w.heap.size w (.slice vo d.length vc) d):RdDs (w.alloc (.cells #[.slice vo d.length vc] e)).heap.size (w.alloc (.cells #[.slice vo d.length vc] e)) (.slice (some ⟨w.heap.size,0,none⟩) 1 1) [d]:=by
 refine RdDs.lit (n:=1) (ds:=[d]) (hs:=[⟨vo,d.length,vc⟩]) rfl rfl rfl (by omega) _ (fun i h x e1 e2=>?_);match i,e1,e2 with
 | 0,e1,e2=>cases e1;cases e2;exact hd
theorem clo_SB {y:List Int} {u:Value} {W:World} {q1 q2 q3:Nat} {f t:Int} {lo hi:ByteArray} (hF:Box W q1 [.int .i64 f,.int .i64 t]) (hL:Box W q2 [.string lo]) (hH:Box W q3 [.string hi]) (hy:RdI W.heap.size W u y) (h0:0<=f/\f<t) (ht:t<=(y.length:Int)) (h9:y.length<=1000)
 (hl:(lo.size:Int)=t - f/\chS lo=true) (hh:(hi.size:Int)=t - f/\chS hi=true) :
 Calls Tryz.prog 217 #[.agg #[u],.pointer (some ⟨q1,0,none⟩),.pointer (some ⟨q2,0,none⟩),.pointer (some ⟨q3,0,none⟩)] W fun e w'=>e=.returned (.bool (outB f t lo hi y))/\Below W.heap.size W w':=by
 obtain ⟨ao,cap,rfl,hin⟩:=RdI.open hy;obtain ⟨b,off,rfl,_⟩:=hin (by omega);obtain ⟨T,hT⟩:∃ T,T=W.alloc (.cells #[.slice (some ⟨b,off,none⟩) y.length cap] 88):=⟨_,rfl⟩;have hbT:Below W.heap.size W T:=by rw [hT];exact (zB _ _).alloc (zA _) _
 have hBT:Box T W.heap.size [.slice (some ⟨b,off,none⟩) y.length cap]:=by rw [hT];exact Box.new W [.slice (some ⟨b,off,none⟩) y.length cap] _
 have c0:=hBT.cell 0 _ rfl;have c1:=(hF.on hbT).cell 0 _ rfl;have c2:=(hF.on hbT).cell 1 _ rfl;have c3:=(hL.on hbT).cell 0 _ rfl;have hyT:=Rds.onn hy hbT;have hk1:=compareText_c (W0:=T) f t h0.1 h0.2 ht hyT hl.1 (by omega) hl.2;have hk2:=fun (w:World) (hw:Below T.heap.size T w)=>compareText_c (W0:=w) f t h0.1 h0.2 ht (Rds.onn hyT hw) hh.1 (by omega) hh.2;unfold outB;obtain ⟨R1,hR1⟩:∃ R1,cmpN (rks (partC y f t)) (rks (cds lo))=R1:=⟨_,rfl⟩;obtain ⟨R2,hR2⟩:∃ R2,cmpN (rks (partC y f t)) (rks (cds hi))=R2:=⟨_,rfl⟩;rw [hR1] at hk1 |-;rw [hR2] at hk2 |-;have Hk1:=hid hk1;have Hk2:=hid hk2;have HT:=hid hT;have HbT:=hid hbT;have HBT:=hid hBT;have HF:=hid (hF.on hbT);have HH:=hid (hH.on hbT);clear hk1 hk2 hT hbT hBT hF hL hH hy hyT hin h0 hl hh hR1 hR2;generalize y.length=n at *
 obtain ⟨B,hB⟩:∃ B,(decide (R1<0) || decide (0<R2))=B:=⟨_,rfl⟩;rw [hB];have HB:=hid hB;clear hB;go_enter Tryz.func217,Tryz.ntmps217;go_upto_region 1 with fail;rw [<- HT.out];by_cases h1:R1<0
 . go_wp2_with fail
   with_reducible refine Hk1.out.mono ?_
   rintro e w1 ⟨rfl,hb1⟩;have Hb1:=hid (HbT.out.trans (hb1.mono HbT.out.size));clear hb1 c0 c1 c2 c3;go_wp2;go_ret;exact ⟨yAD (by rw [<- HB.out,decide_eq_true h1];rfl),Hb1.out⟩
 . have H1:=hid h1
   go_wp2_with fail;with_reducible refine Hk1.out.mono ?_
   rintro e w1 ⟨rfl,hb1⟩;have d0:=(HBT.out.on hb1).cell 0 _ rfl;have d1:=(HF.out.on hb1).cell 0 _ rfl;have d2:=(HF.out.on hb1).cell 1 _ rfl;have d3:=(HH.out.on hb1).cell 0 _ rfl;have hk:=Hk2.out w1 hb1;have Hk:=hid hk;have Hb1:=hid (HbT.out.trans (hb1.mono HbT.out.size));clear hb1 c0 c1 c2 c3 hk;go_wp2_with fail;with_reducible refine Hk.out.mono ?_
   rintro e w2 ⟨rfl,hb2⟩;have Hb2:=hid (Hb1.out.trans (hb2.mono Hb1.out.size));clear hb2 d0 d1 d2 d3;go_wp2;go_ret;exact ⟨yAD (by rw [<- HB.out,decide_eq_false (by have:=H1.out;omega)]),Hb2.out⟩
theorem SelectBetween_c {d:List (List Int)} {v:Value} {W0:World} {A:Nat} {f t:Int} {lo hi:ByteArray} (hd:RdInt64SS A W0 v d) (hlo:lo.size<=1000) (hhi:hi.size<=1000) :
 Calls Tryz.prog 187 #[v,.agg #[.int .i64 f,.int .i64 t],.string lo,.string hi] W0 fun e w'=>DkPostO (selC d f t lo hi) (fun x=>x=d.filter (fun y=>!outB f t lo hi y)) W0.heap.size e w'/\Below W0.heap.size W0 w':=by
 obtain ⟨vo,vc,rfl⟩:=hd.shape;obtain ⟨T,hT⟩:∃ T,T=((W0.alloc (.cells #[.int .i64 f,.int .i64 t] 73)).alloc (.cells #[.string lo] 9)).alloc (.cells #[.string hi] 9):=⟨_,rfl⟩;have h3:=box3F W0 [.int .i64 f,.int .i64 t] [.string lo] [.string hi] 73 9 9;rw [<- hT] at h3;obtain ⟨hP,hQ,hR,hbT⟩:=h3;have c0:=hP.cell 0 _ rfl;have c1:=hP.cell 1 _ rfl;have c2:=hQ.cell 0 _ rfl;have c3:=hR.cell 0 _ rfl;have HdT:=hid (RdInt64SS.onn hd hbT);have HP:=hid hP;have HQ:=hid hQ;have HR:=hid hR;obtain ⟨T2,hT2⟩:∃ T2,T2=T.alloc (.cells #[.string lo,.string hi] 9):=⟨_,rfl⟩;have hb2:Below T.heap.size T T2:=by rw [hT2];exact (zB _ _).alloc (zA _) _
 have ht2:Rds eT T2.heap.size T2 (.slice (some ⟨T.heap.size,0,none⟩) 2 2) [lo,hi]:=by rw [hT2];exact RdT.lit2 T lo hi _ hlo hhi
 obtain ⟨T3,hT3⟩:∃ T3,T3=T2.alloc (.cells #[.slice vo d.length vc] 78):=⟨_,rfl⟩;have hb3:Below T2.heap.size T2 T3:=by rw [hT3];exact (zB _ _).alloc (zA _) _
 have hd3:RdDs T3.heap.size T3 (.slice (some ⟨T2.heap.size,0,none⟩) 1 1) [d]:=by rw [hT3];exact RdDs.lit1 T2 d vo vc _ (RdInt64SS.onn HdT.out hb2)
 have hbb:=hb2.trans (hb3.mono hb2.size);have z2:T2.heap.size=T.heap.size+1:=by rw [hT2];simp
 have HT2:=hid hT2;have HT3:=hid hT3;have Hbb:=hid hbb;have HT:=hid hT;have HbT:=hid hbT;obtain ⟨C,hC⟩:∃ C,C=selC d f t lo hi:=⟨_,rfl⟩;rw [<- hC];have HC:=hid hC;have HCc:Hid (Calls Tryz.prog 184 #[.agg #[.int .i64 f,.int .i64 t],.bool true,.slice (some ⟨T.heap.size,0,none⟩) 2 2,.slice (some ⟨T.heap.size+1,0,none⟩) 1 1] T3 fun e w'=>e=.returned (.int .i64 C)/\Below T3.heap.size T3 w'):=hid (by
  have h:=collateCode_c (f:=f) (t:=t) hd3 (Rds.onn ht2 hb3) (by simp) (by simp) (by simp);unfold selC at hC;rw [<- hC,z2] at h;exact h)
 clear hd hT hP hQ hR hbT hlo hhi hC z2 hT2 hT3 hb2 hb3 ht2 hd3 hbb;obtain ⟨n,hn⟩:∃ n,n=d.length:=⟨_,rfl⟩;rw [<- hn] at HdT HT3 |-;have Hn:=hid hn;clear hn;go_enter Tryz.func187,Tryz.ntmps187;go_upto_region 1 with fail;rw [<- HT.out];go_wp2_with fail;rw [<- HT2.out,<- HT3.out];with_reducible refine HCc.out.mono ?_
 rintro e wq ⟨rfl,hb9⟩;have hCC:Below T.heap.size T wq:=Hbb.out.trans (hb9.mono Hbb.out.size);have Hb1:=hid (HbT.out.trans ((Hbb.out.trans (hb9.mono Hbb.out.size)).mono HbT.out.size));have hP1:=HP.out.on hCC;have hQ1:=HQ.out.on hCC;have hR1:=HR.out.on hCC;have hd1:=RdInt64SS.onn HdT.out hCC;clear hCC hb9 c0 c1 c2 c3;by_cases h0:C=0
 . subst h0
   have hz:=colC_zero (ds:=[d]) (f:=f) (t:=t) (ts:=[lo,hi]) HC.out.symm;have hzd:=hz.1 d (by simp);have hzl:=hz.2 lo (by simp);have hzh:=hz.2 hi (by simp);have hnd:=newDeck_c hd1 (yAY hzd.1);have Hnd:=hid hnd;have HP1:=hid hP1;have HQ1:=hid hQ1;have HR1:=hid hR1;have Hzd:=hid hzd;have Hzl:=hid hzl;have Hzh:=hid hzh;clear hz hzd hzl hzh hnd hP1 hQ1 hR1 hd1;go_wp2_with fail;with_reducible refine Hnd.out.mono ?_
   rintro e w2 ⟨⟨r,rfl,hO⟩,hb2⟩;have hP2:=HP1.out.on hb2;have hQ2:=HQ1.out.on hb2;have hR2:=HR1.out.on hb2;have hlen:=(yAF Hzd.out.1).1;have hrows:=(yAY Hzd.out.1).2;have hcol:=yAT Hzd.out.1 Hzd.out.2.1;have hpz:∀ k,k=W0.heap.size\/k=W0.heap.size+1\/k=W0.heap.size+1+1->k<wq.heap.size:=by intro k hk;have h9:=(HP1.out.lt);have h8:=HQ1.out.lt;have h7:=HR1.out.lt;omega
   have hdel:=deleteSB (w:=w2) (base:=wq.heap.size) (p:=outB f t lo hi) (c1:=W0.heap.size) (c2:=W0.heap.size+1) (c3:=W0.heap.size+1+1) hO (by omega) hb2.size (fun V u y hy hV hu =>
    clo_SB (hP2.below hV (hpz _ (.inl rfl))) (hQ2.below hV (hpz _ (.inr (.inl rfl)))) (hR2.below hV (hpz _ (.inr (.inr rfl)))) hu hcol.1 (hcol.2 y hy) (hrows y hy) Hzl.out Hzh.out)
   have Hdel:=hid hdel;have Hb2:=hid (Hb1.out.trans (hb2.mono Hb1.out.size));have hz1:=Hb1.out.size;have hz2:=hb2.size;clear hO hb2 hP2 hQ2 hR2 hlen hrows hcol hpz hdel;go_wp2_with fail;with_reducible refine Hdel.out.mono ?_
   rintro e w3 ⟨⟨r3,rfl,hF3⟩,hb3⟩;have HF:=hid (hF3.mono hz1);have Hb3:=hid (Hb2.out.trans (hb3.mono (by omega)));clear hF3 hb3;go_wp2;go_ret2;exact ⟨⟨_,rfl,fun _=>⟨_,rfl,HF.out⟩⟩,Hb3.out⟩
 . go_wp2
   go_ret2;exact ⟨DkPostO.no rfl h0,Hb1.out⟩
theorem SelectEqual_c {d:List (List Int)} {v:Value} {w:World} {A:Nat} {f t:Int} {s:ByteArray} (hd:RdInt64SS A w v d) (hs:s.size<=1000) :
 Calls Tryz.prog 144 #[v,.agg #[.int .i64 f,.int .i64 t],.string s] w fun e w'=>DkPostO (selC d f t s s) (fun x=>x=d.filter (fun y=>!outB f t s s y)) w.heap.size e w'/\Below w.heap.size w w':=by
 obtain ⟨vo,vc,rfl⟩:=hd.shape;obtain ⟨T,hT⟩:∃ T,T=w.alloc (.cells #[.int .i64 f,.int .i64 t] 73):=⟨_,rfl⟩;have hbT:Below w.heap.size w T:=by rw [hT];exact (zB _ _).alloc (zA _) _
 have hBT:Box T w.heap.size [.int .i64 f,.int .i64 t]:=by rw [hT];exact Box.new w [.int .i64 f,.int .i64 t] _
 have hcon:=SelectBetween_c (f:=f) (t:=t) (RdInt64SS.onn hd hbT) hs hs;have c0:=hBT.cell 0 _ rfl;have c1:=hBT.cell 1 _ rfl;obtain ⟨R,hR⟩:∃ R,selC d f t s s=R:=⟨_,rfl⟩;rw [hR] at hcon |-;have Hcon:=hid hcon;have HT:=hid hT;have HbT:=hid hbT;clear hcon hT hbT hBT hd hs hR;generalize d.length=n at *
 go_enter Tryz.func144,Tryz.ntmps144;go_upto_region 1 with fail;rw [<- HT.out];go_wp2_with fail;with_reducible refine Hcon.out.mono ?_
 rintro e w1 ⟨⟨r,rfl,hp⟩,hb1⟩;have Hp:Hid (R=0->∃ x,x=d.filter (fun y=>!outB f t s s y)/\OwD w.heap.size w1 r x):=hid (fun h=>by obtain ⟨x,h1,h2⟩:=hp h;exact ⟨x,h1,h2.mono HbT.out.size⟩);have Hb1:=hid (HbT.out.trans (hb1.mono HbT.out.size));clear hp hb1;go_wp2;go_ret2;exact ⟨⟨_,rfl,Hp.out⟩,Hb1.out⟩
theorem FirstOfGroups_c {d:List (List Int)} {v:Value} {w:World} {A:Nat} {f t:Int} (hd:RdInt64SS A w v d) :
 Calls Tryz.prog 145 #[v,.agg #[.int .i64 f,.int .i64 t]] w fun e w'=>DkPostO (firC d f t) (fun x=>x=firD d f t) w.heap.size e w'/\Below w.heap.size w w':=by
 obtain ⟨i0,hi,hz0,hz1,hz2c⟩:=info_parts Tryz.infoCard;obtain ⟨vo,vc,rfl⟩:=hd.shape;obtain ⟨T,hT⟩:∃ T,T=w.alloc (.cells #[.int .i64 f,.int .i64 t] 73):=⟨_,rfl⟩;have hbT:Below w.heap.size w T:=by rw [hT];exact (zB _ _).alloc (zA _) _
 have hBT:Box T w.heap.size [.int .i64 f,.int .i64 t]:=by rw [hT];exact Box.new w [.int .i64 f,.int .i64 t] _
 have hdT:=RdInt64SS.onn hd hbT;obtain ⟨T2,hT2⟩:∃ T2,T2=T.alloc (.cells #[.slice vo d.length vc] 78):=⟨_,rfl⟩;have hb2:Below T.heap.size T T2:=by rw [hT2];exact (zB _ _).alloc (zA _) _
 have hds:RdDs T2.heap.size T2 (.slice (some ⟨T.heap.size,0,none⟩) 1 1) [d]:=by rw [hT2];exact RdDs.lit1 T d vo vc _ hdT
 have hcc:=collateCode_c (f:=f) (t:=t) (ts:=[]) hds (Rds.nil eT 0 T2) (by simp) (by simp) (by simp);obtain ⟨C,hC⟩:∃ C,C=firC d f t:=⟨_,rfl⟩;rw [<- hC];have HC:=hid hC;unfold firC at hC;rw [<- hC] at hcc;have Hcc:=hid hcc;have f0:=hBT.cell 0 _ rfl;have f1:=hBT.cell 1 _ rfl;have Hb2:=hid (hbT.trans (hb2.mono hbT.size));have HB2:=hid (hBT.on hb2);have Hd2:=hid (RdInt64SS.onn hdT hb2);have HT:=hid hT;have HT2:=hid hT2;clear hT hbT hBT hdT hT2 hb2 hds hcc hC hd;obtain ⟨n,hn⟩:∃ n,n=d.length:=⟨_,rfl⟩;rw [<- hn] at Hd2 HT2 |-;have Hn:=hid hn;clear hn;go_enter Tryz.func145,Tryz.ntmps145;go_upto_region 1 with fail;rw [<- HT.out];go_wp2_with fail;rw [<- HT2.out];with_reducible refine Hcc.out.mono ?_
 rintro e w1 ⟨rfl,hb1⟩;have hB1:=HB2.out.on hb1;have hd1:=RdInt64SS.onn Hd2.out hb1;have Hb1:=hid (Hb2.out.trans (hb1.mono Hb2.out.size));clear hb1 f0 f1;by_cases hc0:C=0
 . have hz:=(colC_zero (ds:=[d]) (f:=f) (t:=t) (ts:=[]) (by have h9:=HC.out;unfold firC at h9;rw [<- h9];exact hc0)).1 d (by simp)
   have HZ:=hid hz;subst hc0;have hlen:=(yAF hz.1).1;obtain ⟨W,hW⟩:∃ W,W=w1.alloc (.cells #[] 88):=⟨_,rfl⟩;have hbW:Below w1.heap.size w1 W:=by rw [hW];exact (zB _ _).alloc (zA _) _
   have hWz:W.heap.size=w1.heap.size+1:=by rw [hW];simp
   have hB0:BldG eI 2 88 w1.heap.size w1.heap.size W.heap.size W (.slice (some ⟨w1.heap.size,0,none⟩) 0 0) ([]:List (List Int)):=by
    have h:Own eS 88 w1.heap.size W (.slice (some ⟨w1.heap.size,0,none⟩) 0 0) []:=by
     rw [hW];exact Own.lit (E:=eS) (e:=88) (base:=w1.heap.size) (w:=w1) (xs:=[]) (cs:=#[]) (n:=0) (zA _) rfl rfl (by decide) (fun x hx=>by cases hx)
    exact BldG.empty (B:=w1.heap.size) rfl h (by omega)
   have hgr:=groupsOf_c (RdInt64SS.onn hd1 hbW) (yAT hz.1 hz.2.1) (by omega);have hBW:=hB1.on hbW;have c0:=(hB1.alloc (.cells #[] 88)).cell 0 _ rfl;have c1:=(hB1.alloc (.cells #[] 88)).cell 1 _ rfl;have Hgr:=hid hgr;have HB0:=hid hB0;have HbW:=hid hbW;have HW:=hid hW;have HWz:=hid hWz;have HRw:=hid (yAY hz.1).2;obtain ⟨vo',vc',hvs,ho⟩:=hd1.open;injection hvs with q1 q2 q3;subst q1;subst q3;clear q2;have Ho:=hid ho;have hl100:n<=100:=by have:=Hn.out;omega
   clear hgr hB0 hbW hW hWz hz ho hd1 hB1 hBW hlen;go_wp2_with fail;rw [<- HW.out];with_reducible refine Hgr.out.mono ?_
   rintro e w2 ⟨⟨r,rfl,hG⟩,hb2⟩;obtain ⟨G,hGe⟩:∃ G,G=selI (grpP d f t) d.length:=⟨_,rfl⟩;rw [<- hGe] at hG;obtain ⟨zo,zc,hzo,hzop⟩:=RdI.open hG.rds;obtain ⟨m,hm⟩:∃ m,m=G.length:=⟨_,rfl⟩;have hmn:m<=n:=by rw [hm,hGe,Hn.out];exact yBE _ _
   have hZm:∀ (j:Nat) (z:Int),G[j]?=some z->∃ k:Nat,k<n/\z=(k:Int):=fun j z hz=>by
    rw [hGe] at hz;obtain ⟨k,h1,h2,-⟩:=selI_rng _ _ z (zC hz);exact ⟨k,by have:=Hn.out;omega,h2⟩
   subst hzo;rw [<- hm];have Hm:=hid hm;have HGe:=hid hGe;have HB1:Hid (BldG eI 2 88 w1.heap.size w1.heap.size w2.heap.size w2 (.slice (some ⟨w1.heap.size,0,none⟩) 0 0) (pickD d (G.take 0))):=hid ((HB0.out.below hb2 (zA _)).mono hb2.size);have HbL:Hid (Below w1.heap.size w1 w2):=hid (HbW.out.trans (hb2.mono HbW.out.size));have HZo:=hid hzop;have HZm:=hid hZm;have HZlt:Hid (∀ q,(Value.slice zo m zc).ownBlock=some q->w1.heap.size+1<=q):=hid (fun q hq=>by have h:=(hG.lt q (by rw [hm] at hq;exact hq)).1;have:=HWz.out;omega);clear hG hb2 hzop hZm HB0 c0 c1 hm hGe;go_wp2;go_loopw [7,22] (fun ov iv wr=>∃ k:Nat,k<=m/\iv=.int .i64 k/\Hid (BldG eI 2 88 w1.heap.size w1.heap.size wr.heap.size wr ov (pickD d (G.take k)))/\Hid (Below w1.heap.size w1 wr)/\Hid (Within w1.heap.size (w1.heap.size+1) w2 wr)/\Hid (∀ q,ov.ownBlock=some q->q=w1.heap.size\/w2.heap.size<=q)) (fun _ i _=>m - (intOf i).toNat)
   case atStart=>exact ⟨0,zK _,rfl,HB1,HbL,hid (Within.refl _ _ _),hid (fun q hq=>by have h9:w1.heap.size=q:=zD hq;omega)⟩
   case round =>
    obtain ⟨k,hk,rfl,HB,Hb,Hc,Hq⟩:=hrel;clear HB1 HbL;by_cases hkn:k<m
    . obtain ⟨zb,zoff,rfl,zlt,zc1⟩:=HZo.out (by have:=Hm.out;omega)
      obtain ⟨z,hz,hzc,-⟩:=zc1 k (by have:=Hm.out;omega);obtain ⟨p,hp,hze⟩:=HZm.out k z hz;subst hze;have d0:=(within_cell Hc.out (p:=⟨zb,zoff+k,none⟩) zlt.2 (by have:=HZlt.out zb rfl;show ¬ (_<=zb/\zb<_);omega)).trans hzc;obtain ⟨b,off,rfl,hlt,hc⟩:=Ho.out (by have:=Hn.out;omega);obtain ⟨x,ro,rc,hx,hcell,hrd⟩:=hc p (by have:=Hn.out;omega);have hxl:=HRw.out x (zC hx);have d1:=(Hb.out.cell (p:=⟨b,off+p,none⟩) hlt.2).trans hcell;have HrW:=hid (Rds.onn hrd Hb.out);have Htk:Hid (pickD d (G.take (k+1))=pickD d (G.take k)++[x]):=hid (by unfold pickD;rw [yAE hz,List.map_append];simp [List.getD_eq_getElem?_getD,hx]);have Hxl:Hid ((pickD d (G.take k)).length<=100):=hid (by unfold pickD;rw [List.length_map,zI];omega);obtain ⟨oo,oc,hov⟩:=HB.out.shape;subst hov;have hmI:(p:Int)<(n:Int):=by omega
      clear hc hcell hrd hx hzc zc1 hz;go_wp2_with fail;with_reducible refine (newCard_c HrW.out (by omega)).mono ?_
      rintro e w4 ⟨⟨u,rfl,hu⟩,hb4⟩;obtain ⟨tp,htp⟩:∃ tp,tp=wr.heap.size:=⟨_,rfl⟩;have htb:w1.heap.size<=tp:=by have:=Hb.out.size;omega
      have hz2:tp<=w4.heap.size:=by have:=hb4.size;omega
      have hB2:BldG eI 2 88 w1.heap.size w1.heap.size tp w4 (.slice oo (pickD d (G.take k)).length oc) (pickD d (G.take k)):=by rw [htp];exact HB.out.below hb4 (zA _)
      have hb2':=Hb.out.trans (hb4.mono (by omega));have Hc2:=hid (within_same Hc.out hb4);clear hb4 d0 d1;have hR9:=hu.mono (base':=tp) (by omega);obtain ⟨hs',xh,hval,hokx,hlen,hO,hfn⟩:=hB2.app hR9 htb hz2;obtain ⟨rao,rcap,hsh⟩:=hR9.shape;subst hsh;have hcells:(#[.slice rao x.length rcap]:Array Value)=(eS.cells xh).toArray:=by rw [show eS.cells xh=[xh.val] from rfl,hval]
      have HO:=hid hO;have Hfn:=hid hfn;have Hlen:=hid hlen;have Hcells:=hid hcells;have hl0:=HO.out.lt;have Hl0:=hid hl0;have Hb2':=hid hb2';have hszr:w1.heap.size<=w4.heap.size:=hb2'.size;clear hR9 hu hB2 hval hlen hO hfn hcells hl0 hb2';go_wp2_with (first | (at_builtin;refine yAB (E:=eS) rfl _ _ 78 rfl Tryz.underlying78 hi hz0 hz1 hz2c rfl (by decide) rfl rfl (HO.out.alloc _) (yAJ (E:=eS) (x:=xh) hokx Hcells.out) ?b1 ?b2 ?b3 ?_))
      case b1=>rw [Hlen.out];have:=Hxl.out;unfold maxLen;simp;omega
      case b2=>rw [Hlen.out];have:=Hxl.out;simp;omega
      case b3=>simp;omega
      intro v' w6 hO6 hg6;have hg6':=hg6.alloc;have HB6:=hid (Hfn.out w6 v' hO6 hg6');have Hb6:=hid (Hb2'.out.grown hg6'.1 hszr (fun q hq=>(Hl0.out q hq).1));have Hc6:=hid (within_grown Hc2.out hg6'.1 (fun q hq=>by have:=Hq.out q hq;omega));have Hq6:=hid (own_or Hq.out Hc2.out.size hg6'.2);clear hO6 hg6 hg6';go_wp2;go_roundw
      case rel=>exact ⟨k+1,by omega,by go_num,by rw [Htk.out];exact HB6,Hb6,Hc6,Hq6⟩
      case measure=>simp [intOf];omega
    . obtain rfl:k=m:=by omega
      have hM:=HB.out.toM (zA _);rw [zH (by have:=Hm.out;omega)] at hM;have hF:=(OwD.own hM).mono Hb1.out.size;rw [HGe.out] at hF;have HF:=hid hF;have HbF:=hid (Hb1.out.trans (Hb.out.mono Hb1.out.size));clear hM hF;go_wp2;go_ret2;exact ⟨⟨_,rfl,fun _=>⟨_,rfl,HF.out⟩⟩,HbF.out⟩
 . have hc1:(C != 0)=true:=by simpa using hc0
   go_wp2;go_ret2;exact ⟨DkPostO.no (r:=.slice none 0 0) rfl hc0,Hb1.out⟩
theorem DkPost.low {R:Int} {P Q:List (List Int)->Prop} {n n':Nat} {e:Ending} {w':World} (h:DkPost R P n e w') (hn:n'<=n) (hP:∀ d,P d->Q d):DkPost R Q n' e w':=by
 obtain ⟨r,he,h2⟩:=h;exact ⟨r,he,fun h0=>by obtain ⟨d,h3,h4⟩:=h2 h0;exact ⟨d,hP d h3,h4.mono hn⟩⟩
theorem DkPostO.low {R:Int} {P Q:List (List Int)->Prop} {n n':Nat} {e:Ending} {w':World} (h:DkPostO R P n e w') (hn:n'<=n) (hP:∀ d,P d->Q d):DkPostO R Q n' e w':=by
 obtain ⟨r,he,h2⟩:=h;exact ⟨r,he,fun h0=>by obtain ⟨d,h3,h4⟩:=h2 h0;exact ⟨d,hP d h3,h4.mono hn⟩⟩
theorem deckOf_c {o:OffT} {x:StepT} {u v:Value} {w0:World} {B:Nat} (ho:RdOff B w0 u v o) (h6:o.trays.length=6) (hA:trayP x.ta) (hB:trayP x.tb) (hK:1<=x.kd/\x.kd<=6) (hx:x.tx.size<=1000) :
 Calls Tryz.prog 95 #[.agg #[u,v],vStep x] w0 fun e w'=>DkPostO (dkC o x) (fun d=>d=dkD o x) w0.heap.size e w'/\Below w0.heap.size w0 w':=by
 obtain ⟨uo,uc,rfl⟩:=RdL.shape ho.1;obtain ⟨vo,vc,rfl⟩:=RdL.shape ho.2;obtain ⟨p,hp⟩:=zG hA.1;obtain ⟨q,hq⟩:=zG hB.1;have hp6:p<6:=by have:=hA.2;omega
 have hq6:q<6:=by have:=hB.2;omega
 have ta:=trD_at h6 hA;have tb:=trD_at h6 hB;obtain ⟨a,ha⟩:∃ a,a=trD o x.ta:=⟨_,rfl⟩;obtain ⟨b,hb⟩:∃ b,b=trD o x.tb:=⟨_,rfl⟩;obtain ⟨C,hC⟩:∃ C,C=dkC o x:=⟨_,rfl⟩;obtain ⟨D,hD⟩:∃ D,D=dkD o x:=⟨_,rfl⟩;rw [<- hC,<- hD];unfold dkC at hC;unfold dkD at hD;rw [<- ha,<- hb] at hC hD;rw [<- ha] at ta;rw [<- hb] at tb;clear ha hb;obtain ⟨kd,ta9,tb9,tc9,f,t,sf,st,s⟩:=x;simp only at hp hq hC hD hK hx ta tb;subst hp;subst hq;rw [zR] at ta tb;obtain ⟨T,hT⟩:∃ T,T=(w0.alloc (.cells #[.slice uo o.trays.length uc,.slice vo o.totals.length vc] 35)).alloc (.cells #[.int .i64 kd,.int .i64 (p:Int),.int .i64 (q:Int),.int .i64 tc9,.int .i64 f,.int .i64 t,.int .i64 sf,.int .i64 st,.string s] 75):=⟨_,rfl⟩;have z1:(w0.alloc (.cells #[.slice uo o.trays.length uc,.slice vo o.totals.length vc] 35)).heap.size=w0.heap.size+1:=by simp
 have hP:Box T w0.heap.size [.slice uo o.trays.length uc,.slice vo o.totals.length vc]:=by rw [hT];exact (Box.new w0 [.slice uo o.trays.length uc,.slice vo o.totals.length vc] _).alloc _
 have hS:Box T (w0.heap.size+1) [.int .i64 kd,.int .i64 (p:Int),.int .i64 (q:Int),.int .i64 tc9,.int .i64 f,.int .i64 t,.int .i64 sf,.int .i64 st,.string s]:=by
  have h:=Box.new (w0.alloc (.cells #[.slice uo o.trays.length uc,.slice vo o.totals.length vc] 35)) [.int .i64 kd,.int .i64 (p:Int),.int .i64 (q:Int),.int .i64 tc9,.int .i64 f,.int .i64 t,.int .i64 sf,.int .i64 st,.string s] 75;rw [z1,<- hT] at h;exact h
 have hbT:Below w0.heap.size w0 T:=by rw [hT];exact ((zB _ _).alloc (zA _) _).alloc (by rw [z1];omega) _
 obtain ⟨uo',uc',hs,hop⟩:=RdL.open yBH (RdL.onn yBH ho.1 hbT);injection hs with e1 e2 e3;subst e1;subst e3;clear e2;obtain ⟨tb0,off,rfl,hlt,hc⟩:=hop (by omega);obtain ⟨a',ao,ac,ha',hac,har⟩:=hc p (by omega);obtain ⟨b',bo,bc,hb',hbc,hbr⟩:=hc q (by omega);rw [ta] at ha';rw [tb] at hb';obtain rfl:=zD ha';obtain rfl:=zD hb';rw [h6] at hT hP |-;have c0:=cell_regrown (hP.cell 0 _ rfl);have c1:=cell_regrown (hS.cell 1 _ rfl);have c2:=cell_regrown (hS.cell 2 _ rfl);have c3:=cell_regrown hac;have c4:=cell_regrown hbc;have HS:=hid hS;have HT:=hid hT;have HbT:=hid hbT;have Har:=hid har;have Hbr:=hid hbr;have HC:=hid hC;have HD:=hid hD;have Hx:=hid hx;have i1:(p:Int)<6:=by omega
 have i2:(q:Int)<6:=by omega
 clear ho h6 hA hB hC hD ta tb hT z1 hP hS hbT hop hc ha' hac har hb' hbc hbr hlt hx;generalize o.totals.length=m at *
 obtain ⟨n1,hn1⟩:∃ n,n=a.length:=⟨_,rfl⟩;obtain ⟨n2,hn2⟩:∃ n,n=b.length:=⟨_,rfl⟩;rw [<- hn1] at Har c3;rw [<- hn2] at Hbr c4;clear hn1 hn2;go_enter Tryz.func95,Tryz.ntmps95;go_upto_region 1 with fail;rw [<- HT.out];refine wp_region_quiet_below (by kernel_rfl) (by kernel_rfl) ?_;repeat ((with_reducible refine wpQuiet_step (fun K hK=>?_));go_simp;first | ((with_reducible refine hK _ ?_);clear hK K) | (apply Exists.intro;refine ⟨fun _=>?_,hK _ ?_⟩;((fail));clear hK K))
 refine wpQuiet_nil ?_;intro _ hw';obtain ⟨⟨dq,osq⟩,hw''⟩:=hw';subst hw'';have hbq:=below_regrown T dq osq;generalize grow (redrawn T dq) osq=wq at hbq |-;have hSq:=HS.out.on hbq;have d0:=hSq.cell 0 _ rfl;have d4:=hSq.cell 4 _ rfl;have d5:=hSq.cell 5 _ rfl;have d8:=hSq.cell 8 _ rfl;have Haq:=hid (RdInt64SS.onn Har.out hbq);have Hbq2:=hid (RdInt64SS.onn Hbr.out hbq);have HSq:=hid hSq;have Hbq:=hid (HbT.out.trans (hbq.mono HbT.out.size));clear hbq c0 c1 c2 c3 c4 hSq;have hcases:kd=1\/kd=2\/kd=5\/kd=6\/kd=3\/kd=4:=by omega
 rcases hcases with rfl | rfl | rfl | rfl | rfl | rfl
 . have hC:C=sortC a f t:=by rw [HC.out];rfl
   have hD:D=pickD a (ordD a f t):=by rw [HD.out];rfl
   have hcon:=SortedBy_c (f:=f) (t:=t) Haq.out;have Hcon:Hid (Calls Tryz.prog 142 #[.slice ao n1 ac,.agg #[.int .i64 f,.int .i64 t]] wq fun e w'=>DkPostO C (fun d=>d=D) w0.heap.size e w'/\Below wq.heap.size wq w'):=hid (hcon.mono (fun e w' h=>⟨by
    rw [hC,hD];exact (by
     obtain ⟨r,he,h2⟩:=h.1;exact ⟨r,he,fun h0=>by obtain ⟨Z,hZ,hO⟩:=h2 h0;exact ⟨_,by rw [<- hZ.eq],(OwD.own hO).mono Hbq.out.size⟩⟩),h.2⟩))
   clear hcon hC hD;go_wp2_with fail;with_reducible refine Hcon.out.mono ?_
   rintro e w9 ⟨⟨r,rfl,hr⟩,hb9⟩;have Hr:=hid hr;have Hb9:=hid (Hbq.out.trans (hb9.mono Hbq.out.size));clear hr hb9;go_wp2;go_ret2;exact ⟨⟨_,rfl,Hr.out⟩,Hb9.out⟩
 . have hC:C=merC a b f t:=by rw [HC.out];rfl
   have hD:D=pickD (a++b) (ordD (a++b) f t):=by rw [HD.out];rfl
   have hcon:=MergeDecks_c (f:=f) (t:=t) Haq.out Hbq2.out;have Hcon:Hid (Calls Tryz.prog 143 #[.slice ao n1 ac,.slice bo n2 bc,.agg #[.int .i64 f,.int .i64 t]] wq fun e w'=>DkPostO C (fun d=>d=D) w0.heap.size e w'/\Below wq.heap.size wq w'):=hid (hcon.mono (fun e w' h=>⟨by
    rw [hC,hD];exact h.1.low Hbq.out.size (fun d h=>by obtain ⟨Z,hZ,rfl⟩:=h;rw [hZ.eq]),h.2⟩))
   clear hcon hC hD;go_wp2_with fail;with_reducible refine Hcon.out.mono ?_
   rintro e w9 ⟨⟨r,rfl,hr⟩,hb9⟩;have Hr:=hid hr;have Hb9:=hid (Hbq.out.trans (hb9.mono Hbq.out.size));clear hr hb9;go_wp2;go_ret2;exact ⟨⟨_,rfl,Hr.out⟩,Hb9.out⟩
 . have hC:C=selC a f t s s:=by rw [HC.out];rfl
   have hD:D=a.filter (fun y=>!outB f t s s y):=by rw [HD.out];rfl
   have hcon:=SelectEqual_c (f:=f) (t:=t) (s:=s) Haq.out Hx.out;have Hcon:Hid (Calls Tryz.prog 144 #[.slice ao n1 ac,.agg #[.int .i64 f,.int .i64 t],.string s] wq fun e w'=>DkPostO C (fun d=>d=D) w0.heap.size e w'/\Below wq.heap.size wq w'):=hid (hcon.mono (fun e w' h=>⟨by
    rw [hC,hD];exact h.1.low Hbq.out.size (fun d h=>h),h.2⟩))
   clear hcon hC hD;go_wp2_with fail;with_reducible refine Hcon.out.mono ?_
   rintro e w9 ⟨⟨r,rfl,hr⟩,hb9⟩;have Hr:=hid hr;have Hb9:=hid (Hbq.out.trans (hb9.mono Hbq.out.size));clear hr hb9;go_wp2;go_ret2;exact ⟨⟨_,rfl,Hr.out⟩,Hb9.out⟩
 . have hC:C=firC a f t:=by rw [HC.out];rfl
   have hD:D=firD a f t:=by rw [HD.out];rfl
   have hcon:=FirstOfGroups_c (f:=f) (t:=t) Haq.out;have Hcon:Hid (Calls Tryz.prog 145 #[.slice ao n1 ac,.agg #[.int .i64 f,.int .i64 t]] wq fun e w'=>DkPostO C (fun d=>d=D) w0.heap.size e w'/\Below wq.heap.size wq w'):=hid (hcon.mono (fun e w' h=>⟨by
    rw [hC,hD];exact h.1.low Hbq.out.size (fun d h=>h),h.2⟩))
   clear hcon hC hD;go_wp2_with fail;with_reducible refine Hcon.out.mono ?_
   rintro e w9 ⟨⟨r,rfl,hr⟩,hb9⟩;have Hr:=hid hr;have Hb9:=hid (Hbq.out.trans (hb9.mono Hbq.out.size));clear hr hb9;go_wp2;go_ret2;exact ⟨⟨_,rfl,Hr.out⟩,Hb9.out⟩
 . have hC:C=matC a b f t:=by rw [HC.out];rfl
   have hD:D=a.filter (hasE b f t):=by rw [HD.out];rfl
   have hcon:=MatchDecks_c (f:=f) (t:=t) Haq.out Hbq2.out;rw [<- hC] at hcon;have Hcon:=hid hcon;have HDe:=hid hD;clear hcon hC hD;go_wp2_with fail;with_reducible refine Hcon.out.mono ?_
   rintro e w9 ⟨⟨r,rfl,hr⟩,hb9⟩;have h9:=(HSq.out.on hb9).cell 0 _ rfl;have Hb9:=hid (Hbq.out.trans (hb9.mono Hbq.out.size));clear hb9 d0 d4 d5 d8;by_cases h0:C=0
   . obtain ⟨g,r1,r2,r3,r4,rfl,hbx,hF1,hF3⟩:=hr h0
     have HF1:=hid (hF1.mono Hbq.out.size);have HF3:=hid (hF3.mono Hbq.out.size);have k0:=hbx.cell 0 _ rfl;subst h0;clear hr hbx hF1 hF3;go_wp2;go_ret2;exact ⟨⟨_,rfl,fun _=>⟨_,rfl,by rw [HDe.out];exact HF1.out⟩⟩,Hb9.out⟩
   . have h1:(C != 0)=true:=by simpa using h0
     have H0:=hid h0;clear hr h0;go_wp2;go_ret2;exact ⟨DkPostO.no rfl H0.out,Hb9.out⟩
 . have hC:C=matC a b f t:=by rw [HC.out];rfl
   have hD:D=a.filter (fun y=>!hasE b f t y):=by rw [HD.out];rfl
   have hcon:=MatchDecks_c (f:=f) (t:=t) Haq.out Hbq2.out;rw [<- hC] at hcon;have Hcon:=hid hcon;have HDe:=hid hD;clear hcon hC hD;go_wp2_with fail;with_reducible refine Hcon.out.mono ?_
   rintro e w9 ⟨⟨r,rfl,hr⟩,hb9⟩;have h9:=(HSq.out.on hb9).cell 0 _ rfl;have Hb9:=hid (Hbq.out.trans (hb9.mono Hbq.out.size));clear hb9 d0 d4 d5 d8;by_cases h0:C=0
   . obtain ⟨g,r1,r2,r3,r4,rfl,hbx,hF1,hF3⟩:=hr h0
     have HF1:=hid (hF1.mono Hbq.out.size);have HF3:=hid (hF3.mono Hbq.out.size);have k0:=hbx.cell 2 _ rfl;subst h0;clear hr hbx hF1 hF3;go_wp2;go_ret2;exact ⟨⟨_,rfl,fun _=>⟨_,rfl,by rw [HDe.out];exact HF3.out⟩⟩,Hb9.out⟩
   . have h1:(C != 0)=true:=by simpa using h0
     have H0:=hid h0;clear hr h0;go_wp2;go_ret2;exact ⟨DkPostO.no rfl H0.out,Hb9.out⟩
structure SetP (w:World) (P S:Nat) (f t sf st:Int):Prop where
 box:Box w P [.int .i64 f,.int .i64 t,.slice (some ⟨S,0,none⟩) 1 1,.bool false]
 sums:Box w S [.int .i64 sf,.int .i64 st]
theorem SetP.on {w w':World} {P S:Nat} {f t sf st:Int} (h:SetP w P S f t sf st) (hb:Below w.heap.size w w'):SetP w' P S f t sf st:=⟨h.box.on hb,h.sums.on hb⟩
theorem l13Ok_c {w:World} {P S:Nat} {f t sf st c9:Int} (hP:SetP w P S f t sf st) (hc:1<=c9/\c9<=20) (hf:fieldP f t c9) (hs:fieldP sf st c9) (h12:st - sf<=12) :
 Calls Tryz.prog 159 #[.pointer (some ⟨P,0,none⟩),.int .i64 c9] w fun e w'=>e=.returned (.bool true)/\Below w.heap.size w w':=by
 have p0:=hP.box.cell 0 _ rfl;have p1:=hP.box.cell 1 _ rfl;have HP:=hid hP;have hfa:Hid (∀ W,Calls Tryz.prog 82 #[.agg #[.int .i64 f,.int .i64 t],.int .i64 c9] W fun e w'=>e=.returned (.bool true)/\Below W.heap.size W w'):=hid (fun W=>by
  have h:=yBR f t c9 W (by omega);rw [decide_eq_true hf] at h;exact h)
 have hsa:Hid (∀ W,Calls Tryz.prog 82 #[.agg #[.int .i64 sf,.int .i64 st],.int .i64 c9] W fun e w'=>e=.returned (.bool true)/\Below W.heap.size W w'):=hid (fun W=>by
  have h:=yBR sf st c9 W (by omega);rw [decide_eq_true hs] at h;exact h)
 have b1:-9223372036854775808<=st - sf:=by have:=hs.1;have:=hs.2.1;omega
 have b2:st - sf<=9223372036854775807:=by omega
 have b3:¬ (12:Int)<st - sf:=by omega
 have Hc:=hid hc;clear hP hf hs hc;go_enter Tryz.func159,Tryz.ntmps159;go_wp2_with (first | (go_at_call 39;refine (yBI _ _ _ _ Hc.out.1 Hc.out.2).mono ?_;rintro e w1 ⟨rfl,rfl⟩) | (go_at_call 82;with_reducible refine (hfa.out _).mono ?_;rintro e w1 ⟨rfl,hb1⟩;have Hb1:=hid hb1;clear hb1));go_loopw [5] (fun iv wr=>∃ k:Nat,k<=1/\iv=.int .i64 k/\Hid (Below w.heap.size w wr)) (fun i _=>1 - (intOf i).toNat)
 case atStart=>exact ⟨0,zK _,rfl,Hb1⟩
 case round =>
  obtain ⟨k,hk,rfl,Hb⟩:=hrel;have f2:=(HP.out.on Hb.out).box.cell 2 _ rfl;by_cases hk1:k<1
  . obtain rfl:k=0:=by omega
    rw [show ((0:Nat):Int)=0 from rfl];have s0:=(HP.out.on Hb.out).sums.cell 0 _ rfl;have s1:=(HP.out.on Hb.out).sums.cell 1 _ rfl;have k2:=cell_regrown f2;have k3:=cell_regrown s0;have k4:=cell_regrown s1;have b4:IntKind.i64.wrap (st - sf)=st - sf:=IntWalk.i64_in _ (by omega);go_upto_region 6 with fail;clear f2 s0 s1 p0 p1;refine wp_region_quiet_below (by kernel_rfl) (by kernel_rfl) ?_;repeat ((with_reducible refine wpQuiet_step (fun K hK=>?_));go_simp;first | ((with_reducible refine hK _ ?_);clear hK K) | ((with_reducible rw [if_neg]);rotate_left;(intro hgd;cases hgd);(with_reducible refine hK _ ?_);clear hK K) | (apply Exists.intro;refine ⟨fun _=>?_,hK _ ?_⟩;((first | (go_at_call 82;with_reducible exact yAI (hsa.out _))));clear hK K))
    refine wpQuiet_nil ?_;intro _ hw';obtain ⟨⟨dq,osq⟩,hw''⟩:=hw';subst hw'';have hbq:=below_regrown wr dq osq;generalize grow (redrawn wr dq) osq=wq at hbq |-;have Hb2:=hid (Hb.out.trans (hbq.mono Hb.out.size));clear hbq k2 k3 k4;go_wp2;go_roundw
    case rel=>exact ⟨1,by omega,by go_num,Hb2⟩
    case measure=>simp [intOf]
  . obtain rfl:k=1:=by omega
    go_wp2;go_ret;exact ⟨rfl,Hb.out⟩
def numL (sf st:Int) (d:List (List Int)):List (List Int):=d.map (fun c=>[numC sf st c])
theorem numL_at {sf st:Int} {d:List (List Int)} {k:Nat} {x:List Int} (h:d[k]?=some x):(numL sf st d)[k]?=some [numC sf st x]:=by unfold numL;rw [List.getElem?_map,h];rfl
theorem numL_len (sf st:Int) (d:List (List Int)):(numL sf st d).length=d.length:=by unfold numL;rw [List.length_map]
structure ReadP (w:World) (b:Nat) (d:List (List Int)) (f t sf st:Int) (ks ns hs:Value):Prop where
 box:Box w b [ks,ns,hs]
 keys:Rds eT w.heap.size w ks (keyT d f t)
 nums:RdInt64SS w.heap.size w ns (numL sf st d)
 heads:RdI w.heap.size w hs (selI (grpP d f t) d.length)
theorem ReadP.on {w w':World} {b:Nat} {d:List (List Int)} {f t sf st:Int} {ks ns hs:Value} (h:ReadP w b d f t sf st ks ns hs) (hb:Below w.heap.size w w'):ReadP w' b d f t sf st ks ns hs :=
 ⟨h.box.on hb,h.keys.onn hb,RdInt64SS.onn h.nums hb,Rds.onn h.heads hb⟩
theorem BldG.nil {α:Type} {E:Elt α} (er e:TypeId) (base rb tp:Nat) (w:World):BldG E er e base rb tp w (.slice none 0 0) ([]:List (List α)) :=
 ⟨[],⟨Own.nil _ _ _ _,fun k hk=>by cases hk⟩,rfl,fun i h xs e1=>by simp at e1,fun i h e1=>by simp at e1,fun i j h h' _ e1=>by simp at e1⟩
structure InR (w wr:World) (X N2 N3:Nat) (ks nv:Value) (k:Nat) (d:List (List Int)) (f t sf st:Int):Prop where
 box:Box wr X [.slice none 0 0,nv,.slice none 0 0]
 bld:BldG eI 2 29 N3 N3 wr.heap.size wr nv ((numL sf st d).take k)
 keys:OwnT eT 9 N2 N3 wr ks (keyT d f t)
 any:(d.take k).any (noNum sf st)=false
 below:Below X w wr
 n3:N3<=wr.heap.size
theorem InR.on {w wr w':World} {X N2 N3:Nat} {ks nv:Value} {k:Nat} {d:List (List Int)} {f t sf st:Int} (h:InR w wr X N2 N3 ks nv k d f t sf st) (hX:X<N3) (hb:Below wr.heap.size wr w'):InR w w' X N2 N3 ks nv k d f t sf st :=
 ⟨h.box.on hb,(h.bld.below hb (zA _)).mono hb.size,h.keys.below hb h.n3,h.any,h.below.trans (hb.mono (by have:=h.n3;omega)),zO h.n3 hb.size⟩
theorem InR.put {w wr w6:World} {X N2 N3:Nat} {ks nv nv':Value} {k:Nat} {d:List (List Int)} {f t sf st:Int} (h:InR w wr X N2 N3 ks nv k d f t sf st) (hX:X<N2) (h23:N2<=N3) (hg:Grew wr w6 nv nv')
 (hB:BldG eI 2 29 N3 N3 w6.heap.size w6 nv' ((numL sf st d).take (k+1))) (ha:(d.take (k+1)).any (noNum sf st)=false) :
 Box w6 X [.slice none 0 0,nv,.slice none 0 0]/\InR w (w6.setCell ⟨X,1,none⟩ nv') X N2 N3 ks nv' (k+1) d f t sf st:=by
 have ho:∀ q,nv.ownBlock=some q->N3<=q:=fun q hq=>by
  obtain ⟨hs,h1,_⟩:=h.bld;exact (h1.1.lt q hq).1
 have hb:Below N3 wr w6:=(zB _ _).grown hg.1 h.n3 ho;have hbx:=h.box.below hb (by omega);have hgs:=yBS w6 ⟨X,1,none⟩ nv';have hsz:(w6.setCell ⟨X,1,none⟩ nv').heap.size=w6.heap.size:=by simp
 have hk:=h.keys.below hb (zA _);refine ⟨hbx,hbx.set1 (j:=1) (by simp) nv',?_,hk.keep hgs (.inr (fun e=>by have:=(hk.1.lt X e).1;omega)),ha,(h.below.trans (hb.mono (by omega))).setCell (zA _) _,by rw [hsz];exact zO h.n3 hb.size⟩;rw [hsz];refine hB.keep hgs ?_ (fun q hq=>by cases hq;left;show X<N3;omega);cases hv:nv'.ownBlock with
 | none=>exact .inl rfl
 | some q =>
  right;intro e;cases e;obtain ⟨hs,h1,_⟩:=hB;have:=(h1.1.lt X hv).1;omega
theorem l13Read_c {d:List (List Int)} {v:Value} {w:World} {A P S:Nat} {f t sf st:Int} (hd:RdInt64SS A w v d) (hP:SetP w P S f t sf st) (hD:deckB d=true) (hc:1<=colsD d) (hf:fieldP f t (colsD d)) (hs:fieldP sf st (colsD d)) (h12:st - sf<=12) :
 Calls Tryz.prog 121 #[.pointer (some ⟨P,0,none⟩),v] w fun e w'=>(∃ b,e=.returned (.tuple #[.pointer (some ⟨b,0,none⟩),.int .i64 (totC d f t sf st)])/\(totC d f t sf st=0->∃ ks ns hs,ReadP w' b d f t sf st ks ns hs))/\Below w.heap.size w w':=by
 obtain ⟨i0,hi,hz0,hz1,hz2⟩:=info_parts Tryz.infoInt64;obtain ⟨i1,hi1,hy0,hy1,hy2⟩:=info_parts Tryz.infoSlI;obtain ⟨vo,vc,rfl⟩:=hd.shape;obtain ⟨T,hT⟩:∃ T,T=w.alloc (.cells #[.slice none 0 0,.slice none 0 0,.slice none 0 0] 169):=⟨_,rfl⟩;have hbT:Below w.heap.size w T:=by rw [hT];exact (zB _ _).alloc (zA _) _
 have hBT:Box T w.heap.size [.slice none 0 0,.slice none 0 0,.slice none 0 0]:=by rw [hT];exact Box.new w [.slice none 0 0,.slice none 0 0,.slice none 0 0] _
 have hzT:T.heap.size=w.heap.size+1:=by rw [hT];simp
 have hdT:=RdInt64SS.onn hd hbT;have hPT:=hP.on hbT;obtain ⟨R,hR⟩:∃ R,R=totC d f t sf st:=⟨_,rfl⟩;rw [<- hR];have HR:=hid hR;have hdk:=l02Deck_c hdT;rw [hD] at hdk;have Hdk:=hid hdk;have HT:=hid hT;have HbT:=hid hbT;have HBT:=hid hBT;have HzT:=hid hzT;have HdT:=hid hdT;have HPT:=hid hPT;have HD:=hid hD;have Hc:=hid hc;have Hf:=hid hf;have Hs:=hid hs;have H12:=hid h12;obtain ⟨n,hn⟩:∃ n,n=d.length:=⟨_,rfl⟩;have Hn:=hid hn;rw [<- hn] at Hdk HdT |-;have Hd0:=hid hd;have HP0:=hid hP;rw [<- hn] at Hd0;clear hd hP hR hdk hT hbT hBT hzT hdT hPT hD hc hf hs h12 hn;obtain ⟨X,hX⟩:∃ X,X=w.heap.size:=⟨_,rfl⟩;rw [<- hX] at HBT HzT;go_enter Tryz.func121,Tryz.ntmps121;go_upto_region 2 with fail;rw [<- HT.out,<- hX];have HX:=hid hX;clear hX;go_wp2_with fail;with_reducible refine Hdk.out.mono ?_
 rintro e w1 ⟨rfl,m1,hm1⟩;have hb1:Below T.heap.size T w1:=by rw [hm1];exact (zB _ _).drewNy m1
 have Hd1:=hid (RdInt64SS.onn HdT.out hb1);have HP1:=hid (HPT.out.on hb1);have HX1:=hid (HBT.out.on hb1);have Hb1:=hid hb1;clear hb1 hm1;go_wp2_with fail;with_reducible refine (l07Width_c Hd1.out).mono ?_
 rintro e w1' ⟨rfl,rfl⟩;go_wp2_with fail;with_reducible refine (l13Ok_c HP1.out ⟨Hc.out,(colsD_bd HD.out).2⟩ Hf.out Hs.out H12.out).mono ?_
 rintro e w2 ⟨rfl,hb2⟩;have Hd2:=hid (RdInt64SS.onn Hd1.out hb2);have HP2:=hid (HP1.out.on hb2);have HX2:=hid (HX1.out.on hb2);have Hb2:=hid (Hb1.out.trans (hb2.mono Hb1.out.size));have p0:=HP2.out.box.cell 0 _ rfl;have p1:=HP2.out.box.cell 1 _ rfl;have hky:=l07Keys_c (f:=f) (t:=t) Hd2.out;obtain ⟨Ck,hCk⟩:∃ C,C=sortC d f t:=⟨_,rfl⟩;rw [<- hCk] at hky;have Hky:=hid hky;have HCk:Hid (Ck=if hasD d f t=false then 8 else 0):=hid (by rw [hCk];unfold sortC;rw [if_neg (by rw [HD.out];decide),if_neg (fun h=>h Hf.out)]);clear hb2 hky hCk;go_wp2_with fail;with_reducible refine Hky.out.mono ?_
 rintro e w3 ⟨⟨kv,rfl,hkv⟩,hb3⟩;have Hd3:=hid (RdInt64SS.onn Hd2.out hb3);have HP3:=hid (HP2.out.on hb3);have HX3:=hid (HX2.out.on hb3);have Hk3:=hid hb3;have hb03:=Hb2.out.trans (hb3.mono Hb2.out.size);have Hb3:=hid hb03;have Hbw:=hid (HbT.out.trans (hb03.mono HbT.out.size));have Hkv:=hid hkv;clear hb3 hb03 p0 p1 hkv;by_cases h8:hasD d f t=false
 . have HE:Hid (Ck=8):=hid (by rw [HCk.out,if_pos h8])
   have hC1:(Ck != 0)=true:=by rw [HE.out];rfl
   have HE2:Hid (R=8):=hid (by rw [HR.out];unfold totC;rw [if_pos (.inr h8)]);clear h8;go_wp2;go_ret2;exact ⟨⟨X,by rw [HE.out,HE2.out];first | done | rfl,fun h=>absurd (HE2.out.symm.trans h) (by decide)⟩,Hbw.out⟩
 . have h8':hasD d f t=true:=by simpa using h8
   have HE:Hid (Ck=0):=hid (by rw [HCk.out,if_neg h8]);have hkv2:=Hkv.out HE.out;obtain ⟨ko,kc,hks⟩:=hkv2.shape;rw [yAZ,<- Hn.out] at hks;subst hks;have Hkr:=hid hkv2;have H8:=hid h8';have HR2:Hid (R=if d.any (noNum sf st)=true then 8 else 0):=hid (by
    rw [HR.out];unfold totC;by_cases h:d.any (noNum sf st)=true
    . rw [if_pos (.inl h),if_pos h]
    . rw [if_neg (fun e=>e.elim h h8),if_neg h])
   have hC0:=HE.out;subst hC0;clear h8 h8' hkv2 Hkv HCk Hky HE HR;have HCo:=hid (yAT HD.out Hs.out);have Hro:=hid (yAY HD.out);have Hm:=hid (fun (c:List Int) (hc:c∈d)=>card_masks ((yAF HD.out).2 c hc).1);have Hcl:=hid (fun (c:List Int) (hc:c∈d)=>yBY ((yAF HD.out).2 c hc).1);have Hlen:Hid (n<=40):=hid (by rw [Hn.out];exact (yAF HD.out).1);have hn40:n<=40:=Hlen.out;obtain ⟨N2,hN2⟩:∃ N,N=w2.heap.size:=⟨_,rfl⟩;obtain ⟨N3,hN3⟩:∃ N,N=w3.heap.size:=⟨_,rfl⟩;have hXN:X<N2:=by have:=Hb2.out.size;have:=HzT.out;omega
   have hN23:N2<=N3:=by have:=Hk3.out.size;omega
   have HI0:Hid (InR w w3 X N2 N3 (.slice ko n kc) (.slice none 0 0) 0 d f t sf st):=hid ⟨HX3.out,by rw [List.take_zero];exact BldG.nil _ _ _ _ _ _,by rw [hN2,hN3];exact Own.top Hkr.out,rfl,by rw [HX.out];exact Hbw.out,by omega⟩;have HN3:=hid hN3;obtain ⟨vo',vc',hvs,ho⟩:=Hd0.out.tight.open;injection hvs with q1 q2 q3;subst q1;subst q3;clear q2;rw [<- Hn.out,<- HX.out] at ho;have Ho:=hid ho;have HPw:=hid (show P<X/\S<X from ⟨by rw [HX.out];exact HP0.out.box.lt,by rw [HX.out];exact HP0.out.sums.lt⟩);clear ho hN2 hN3;go_wp2;go_loopw [9] (fun iv wr=>∃ (k:Nat) (oo:Option Addr) (oc:Nat),k<=n/\iv=.int .i64 k/\Hid (InR w wr X N2 N3 (.slice ko n kc) (.slice oo k oc) k d f t sf st)) (fun i _=>n - (intOf i).toNat)
   case atStart=>exact ⟨0,none,0,zK _,rfl,HI0⟩
   case round =>
    obtain ⟨k,oo,oc,hk,rfl,HI⟩:=hrel;obtain ⟨wo,hwo⟩:∃ x,x=wr:=⟨_,rfl⟩;subst hwo;clear HI0;by_cases hkn:k<n
    . obtain ⟨b,off,rfl,hlt,hc⟩:=Ho.out (by omega)
      obtain ⟨x,ro,rc,hx,hcell,hrd⟩:=hc k hkn;have hm:=zC hx;have d1:=(HI.out.below.cell (p:=⟨b,off+k,none⟩) hlt.2).trans hcell;have hrw:=hrd.below HI.out.below (by rw [HX.out];exact zA _);obtain ⟨ro',rc',hvs,hin⟩:=RdI.open hrw;injection hvs with q1 q2 q3;subst q1;subst q3;clear q2;have hcx:=HCo.out.2 x hm;have hc0:=HCo.out.1;have hxl:=Hcl.out x hm;obtain ⟨cb,co,rfl,_⟩:=hin (by omega);have hbw:b<wo.heap.size:=World.block_lt_of_cell? _ _ d1;have hnx:noNum sf st x=!(numR (partC x sf st)).2:=rfl;have hpl:0<(partC x sf st).length/\(partC x sf st).length<=12:=by rw [yAP hc0.1 hc0.2 hcx];have:=H12.out;omega
      have hpm:∀ m∈partC x sf st,0<=m/\m<=4095:=fun m hm2=>Hm.out x hm m (partC_mem hm2);have hbn:=numR_bd (partC x sf st) hpl.2;have Hx:=hid hx;obtain ⟨z,hz⟩:∃ z,z=(numR (partC x sf st)).1:=⟨_,rfl⟩;obtain ⟨g,hg⟩:∃ g,g=(numR (partC x sf st)).2:=⟨_,rfl⟩;rw [<- hz] at hbn;rw [<- hg] at hnx;have Hbn:=hid hbn;have Hnx:=hid hnx;have Hpl:=hid hpl;have Hpm:=hid hpm;have Hrw:=hid hrw;have Hd1:=hid d1;have Hcx:=hid hcx;have Hbw2:=hid hbw;have Hcap:=hid (Rds.cap hrw);have Hz:=hid hz;have Hg:=hid hg;have Hxl:=hid hxl;have Hnum:Hid ((numL sf st d).take (k+1)=(numL sf st d).take k++[[z]]):=hid (by rw [yAE (numL_at hx)];unfold numC;rw [hz]);have Hlk:Hid (((numL sf st d).take k).length=k):=hid (by rw [zI,numL_len,<- Hn.out];omega);have HIw:=HI.out;have hB1:Below wo.heap.size wo (wo.alloc (.cells #[] 2)):=(zB _ _).alloc (zA _) _;have HB1:=hid hB1;have hO1:Own eI 2 wo.heap.size (wo.alloc (.cells #[] 2)) (.slice (some ⟨wo.heap.size,0,none⟩) 0 0) ([z].take 0):=Own.lit (E:=eI) (xs:=[]) (cs:=#[]) (zA _) rfl rfl (by decide) (fun x hx=>by cases hx);have HO1:=hid hO1;clear hc hcell hrd hx hm d1 hrw hin hcx hxl hbw hnx hpl hpm hbn hz hg HIw hB1 hO1;generalize x.length=xl at *
      go_wp2;go_loopw [10,11] (fun ov iv wr=>∃ (j:Nat) (ro2:Option Addr) (rc2:Nat),j<=1/\iv=.int .i64 j/\ov=.slice ro2 j rc2/\Hid (Own eI 2 wo.heap.size wr (.slice ro2 j rc2) ([z].take j))/\Hid (Below wo.heap.size wo wr)/\Hid (0<j->g=true)) (fun _ i _=>1 - (intOf i).toNat)
      case atStart=>exact ⟨0,_,_,zK _,rfl,rfl,HO1,HB1,hid (fun h=>absurd h (by decide))⟩
      case round =>
       obtain ⟨j,ro2,rc2,hj,rfl,rfl,HO,HB,Hgj⟩:=hrel;clear HO1 HB1;have hbX:=HI.out.below.trans (HB.out.mono (by have:=HI.out.n3;omega));have hPw:=HP0.out.box.below hbX HPw.out.1;have hSw:=HP0.out.sums.below hbX HPw.out.2;have f2:=hPw.cell 2 _ rfl;by_cases hj1:j<1
       . obtain rfl:j=0:=by omega
         rw [show ((0:Nat):Int)=0 from rfl];have s0:=hSw.cell 0 _ rfl;have s1:=hSw.cell 1 _ rfl;have k2:=cell_regrown f2;have k3:=cell_regrown s0;have k4:=cell_regrown s1;have d2:=(HB.out.cell (p:=⟨b,off+k,none⟩) Hbw2.out).trans Hd1.out;have hrd2:=Rds.onn Hrw.out HB.out;have hbw3:b<wr.heap.size:=zM Hbw2.out HB.out.size;have hc9:=Rds.cap hrd2;have hcap9:=hc9.2.2 (by have:=Hxl.out;omega);have Hlp:=hid (fun q os=>l02Part_c (w:=grow (redrawn wr q) os) sf st HCo.out.1.1 HCo.out.1.2 Hcx.out hc9.1 hcap9 (cell_regrown d2 q os) (zM hbw3 (below_regrown wr q os).size));have Hln:=hid (fun q os=>l03Number_c (w:=grow (redrawn wr q) os) Hpl.out.1 Hpl.out.2 Hpm.out (Rds.part (Rds.regrown hrd2 (zA _) q os) HCo.out.1.1 HCo.out.1.2 Hcx.out));rw [<- Hz.out,<- Hg.out] at Hln;have hkI:(k:Int)<(n:Int):=by omega
         clear hbX hPw hSw d2 hrd2 hc9 hcap9;go_upto_region 16 with fail;clear f2 s0 s1;refine wp_region_quiet_below (by kernel_rfl) (by kernel_rfl) ?_;repeat ((with_reducible refine wpQuiet_step (fun K hK=>?_));go_simp;first | ((with_reducible refine hK _ ?_);clear hK K) | (apply Exists.intro;refine ⟨fun _=>?_,hK _ ?_⟩;((first | (go_at_call 163;with_reducible exact yAI (Hlp.out _ _)) | (go_at_call 162;with_reducible exact qb_same (Hln.out _ _))));clear hK K))
         refine wpQuiet_nil ?_;intro _ hw';obtain ⟨⟨dq,osq⟩,hw''⟩:=hw';subst hw'';have hbq:=below_regrown wr dq osq;generalize grow (redrawn wr dq) osq=wq at hbq |-;have HOq:=hid (HO.out.below hbq (zA _));have HBq:=hid (HB.out.trans (hbq.mono HB.out.size));clear hbq k2 k3 k4 HO HB hbw3;cases g with
         | false =>
          have HE2:Hid (R=8):=hid (by rw [HR2.out,if_pos (any_yes Hx.out (by rw [Hnx.out];rfl))]);have Hbz:=hid (show Below w.heap.size w wq from by rw [<- HX.out];exact HI.out.below.trans (HBq.out.mono (by have:=HI.out.n3;omega)));go_wp2;go_ret2;exact ⟨⟨X,by rw [HE2.out];first | done | rfl,fun h=>absurd (HE2.out.symm.trans h) (by decide)⟩,Hbz.out⟩
         | true =>
          have hszq:wo.heap.size<=wq.heap.size:=HBq.out.size;have Hzok:Hid (eI.ok z):=hid (by have:=Hbn.out;show -9223372036854775808<=z/\z<=9223372036854775807;omega);go_wp2_with (first | (at_builtin;refine yAB (E:=eI) rfl _ _ 29 rfl Tryz.underlying29 hi hz0 hz1 hz2 rfl (by decide) rfl rfl (HOq.out.alloc _) (yAJ (E:=eI) (x:=z) Hzok.out rfl) ?b1 ?b2 ?b3 ?_))
          case b1=>unfold maxLen;simp
          case b3=>first | (simp;omega) | omega
          intro v3 w4 hO3 hg3;obtain ⟨ao3,cap3,hv3⟩:=hO3.shape;subst hv3;have HO3:Hid (Own eI 2 wo.heap.size w4 (.slice ao3 1 cap3) ([z].take 1)):=hid hO3;have HB3:=hid (HBq.out.grown hg3.alloc.1 hszq (fun q hq=>(HOq.out.lt q hq).1));clear hO3 hg3;go_wp2;go_roundw
          case rel=>exact ⟨1,_,_,by omega,by go_num,rfl,HO3,HB3,hid (by simp)⟩
          case measure=>simp [intOf]
       . obtain rfl:j=1:=by omega
         have HA2:=hid (any_snoc Hx.out HI.out.any (p:=noNum sf st) (by rw [Hnx.out,Hgj.out (by omega)];rfl));have HIr:=hid (HI.out.on (by omega) HB.out);have hn3:=HI.out.n3;have hsz:=HB.out.size;obtain ⟨hs',xh,hval,hokx,hlen,hO,hfn⟩:=(HI.out.bld.below HB.out (zA _)).app HO.out hn3 hsz;have hcells:(#[.slice ro2 1 rc2]:Array Value)=(eS.cells xh).toArray:=by rw [show eS.cells xh=[xh.val] from rfl,hval]
         rw [Hlk.out] at hlen;have g1:=HIr.out.box.cell 1 _ rfl;have HOh:=hid hO;have Hfn:=hid hfn;have Hlen:=hid hlen;have Hcells:=hid hcells;clear hbX hPw hSw hval hlen hO hfn hcells;go_wp2_with (first | (at_builtin;refine yAB (E:=eS) rfl _ _ 167 rfl Tryz.underlying167 hi1 hy0 hy1 hy2 rfl (by decide) rfl rfl (HOh.out.alloc _) (yAJ (E:=eS) (x:=xh) hokx Hcells.out) ?d1 ?d2 ?d3 ?_))
         case d1=>rw [Hlen.out];unfold maxLen;simp;omega
         case d2=>rw [Hlen.out];simp;omega
         case d3=>simp;omega
         intro v6 w6 hO6 hg6;have hg6':=hg6.alloc;obtain ⟨ao6,cap6,hv6⟩:=hO6.shape;rw [zE,Hlen.out] at hv6;have hv7:v6=.slice ao6 (k+1) cap6:=hv6;subst hv7;have hB6:=Hfn.out w6 _ hO6 hg6';rw [show ([z].take 1)=[z] from rfl,<- Hnum.out] at hB6;have h9:=HIr.out.put hXN hN23 hg6' hB6 HA2.out;have HI9:=hid h9.2;have g2:=h9.1.cell 1 _ rfl;have g3:=h9.1.free 1;have g4:=h9.1.lt;clear hO6 hg6 hg6' hv6 hB6 h9 g1;go_wp2;go_roundw
         case rel=>exact ⟨k+1,_,_,by omega,by go_num,HI9⟩
         case measure=>simp [intOf];omega
    . obtain rfl:k=n:=by omega
      have HE:Hid (R=0):=hid (by rw [HR2.out,if_neg (by rw [any_full Hn.out HI.out.any];decide)]);obtain ⟨W5,hW5⟩:∃ W,W=wo.setCell ⟨X,0,none⟩ (.slice ko k kc):=⟨_,rfl⟩;have hgs:=yBS wo ⟨X,0,none⟩ (.slice ko k kc);have hsz5:W5.heap.size=wo.heap.size:=by rw [hW5];simp
      have hbx5:Box W5 X [.slice ko k kc,.slice oo k oc,.slice none 0 0]:=by rw [hW5];exact HI.out.box.set1 (j:=0) (by simp) _
      have hky5:OwnT eT 9 N2 N3 W5 (.slice ko k kc) (keyT d f t):=by rw [hW5];exact HI.out.keys.keep hgs (.inr (fun e=>by have:=(HI.out.keys.1.lt X e).1;omega))
      have hbd5:BldG eI 2 29 N3 N3 W5.heap.size W5 (.slice oo k oc) (numL sf st d):=by
       have h:=HI.out.bld;rw [zH (by rw [numL_len,<- Hn.out];exact zA _)] at h;have hne:∀ q,(Value.slice oo k oc).ownBlock=some q->N3<=q:=fun q hq=>by obtain ⟨hs,h1,_⟩:=h;exact (h1.1.lt q hq).1
       rw [hsz5,hW5];refine h.keep hgs ?_ (fun q hq=>by cases hq;left;show X<N3;omega);cases hv:(Value.slice oo k oc).ownBlock with
       | none=>exact .inl rfl
       | some q=>exact .inr (fun e=>by cases e;have:=hne X hv;omega)
      have hbe5:Below X w W5:=by rw [hW5];exact HI.out.below.setCell (zA _) _
      have hgr:=l09Groups_c (hky5.1.rds) (yAT HD.out Hf.out) Hro.out H8.out;obtain ⟨G,hG⟩:∃ G,G=selI (grpP d f t) d.length:=⟨_,rfl⟩;rw [<- hG] at hgr;have Hgr:=hid hgr;have HG:=hid hG;have HW5:=hid hW5;have Hbx5:=hid hbx5;have Hky5:=hid hky5;have Hbd5:=hid hbd5;have Hbe5:=hid hbe5;have Hsz5:=hid hsz5;have g2:=HI.out.box.cell 0 _ rfl;have g3:=HI.out.box.free 0;have g4:=HI.out.box.lt;have Hn3:=hid HI.out.n3;clear hW5 hgs hsz5 hbx5 hky5 hbd5 hbe5 hgr hG;go_wp2_with fail;rw [<- HW5.out];with_reducible refine Hgr.out.mono ?_
      rintro e w6 ⟨⟨r,rfl,hr⟩,hb6⟩;obtain ⟨ro6,rc6,hr6⟩:=hr.shape;subst hr6;have hbx6:=Hbx5.out.on hb6;have Hbx6:=hid hbx6;have Hky6:=hid (Hky5.out.below hb6 (by rw [Hsz5.out];exact Hn3.out));have Hbd6:=hid (Hbd5.out.below hb6 (zA _));have Hbe6:=hid (Hbe5.out.trans (hb6.mono (by have:=hbx6.lt;have:=Hsz5.out;have:=Hn3.out;omega)));have Hr6:=hid hr;have Hsz6:=hid hb6.size;have e2:=hbx6.cell 2 _ rfl;have e3:=hbx6.free 2;have e4:=hbx6.lt;clear g2 g3 g4 hbx6 hr hb6;go_wp2;go_ret2;have hgs:=yBS w6 ⟨X,2,none⟩ (.slice ro6 G.length rc6);have hsz:(w6.setCell ⟨X,2,none⟩ (.slice ro6 G.length rc6)).heap.size=w6.heap.size:=by simp
      have hn3:=Hn3.out;have hs5:=Hsz5.out;have hs6:=Hsz6.out;refine ⟨⟨X,by rw [HE.out];first | done | rfl,fun _=>⟨_,_,_,Hbx6.out.set1 (j:=2) (by simp) _,?_,?_,?_⟩⟩,?_⟩
      . exact ((Hky6.out.keep hgs (.inr (fun e=>by have:=(Hky6.out.1.lt X e).1;omega))).1.rds)
      . rw [hsz]
        have h:=Hbd6.out;have hne:∀ q,(Value.slice oo k oc).ownBlock=some q->N3<=q:=fun q hq=>by obtain ⟨hs,h1,_⟩:=h;exact (h1.1.lt q hq).1
        have h2:=h.keep hgs (by
         cases hv:(Value.slice oo k oc).ownBlock with
         | none=>exact .inl rfl
         | some q=>exact .inr (fun e=>by cases e;have:=hne X hv;omega)) (fun q hq=>by cases hq;left;show X<N3;omega)
        exact (h2.toM (zA _)).rds.mono (by omega)
      . rw [<- HG.out]
        exact (Hr6.out.kept hgs (.inr (fun e=>by have:=(Hr6.out.lt X e).1;omega))).rds
      . rw [<- HX.out]
        exact Hbe6.out.setCell (zA _) _
structure RowO {β:Type} (Q:(Nat->Prop)->World->Value->List β->Prop):Prop where
 agr:∀ {S S':Nat->Prop} {w w':World} {v:Value} {x:List β},Q S w v x->Agr S' w w'->(∀ k,S k->¬ S' k)->Q S w' v x
 shape:∀ {S:Nat->Prop} {w:World} {v:Value} {x:List β},Q S w v x->∃ ao cap,v=.slice ao x.length cap
def OwnL {β:Type} (Q:(Nat->Prop)->World->Value->List β->Prop) (e:TypeId) (S:Nat->Prop) (w:World) (v:Value) (xs:List (List β)):Prop :=
 ∃ (hs:List SlV) (T:Nat->Nat->Prop),Own eS e 0 w v hs/\(∀ q,v.ownBlock=some q->S q)/\hs.length=xs.length/\(∀ (i:Nat) (h:SlV) (x:List β),hs[i]?=some h->xs[i]?=some x->Q (T i) w h.val x) /\
  (∀ i,i<xs.length->∀ k,T i k->S k/\v.ownBlock ≠ some k)/\∀ i j,i<xs.length->j<xs.length->i ≠ j->∀ k,T i k->¬ T j k
section
variable {β:Type} {Q:(Nat->Prop)->World->Value->List β->Prop} {R:Nat->World->Value->List β->Prop} {e:TypeId} {S S':Nat->Prop} {w w':World} {v:Value} {xs:List (List β)}
theorem OwnL.agr (K:RowO Q) (h:OwnL Q e S w v xs) (hA:Agr S' w w') (hn:∀ k,S k->¬ S' k):OwnL Q e S w' v xs:=by
 obtain ⟨hs,T,h1,h2,h3,h4,h5,h6⟩:=h;exact ⟨hs,T,(OwnT.agr (Own.top h1) hA (fun k hk=>hn k (h2 k hk))).1,h2,h3,fun i h x e1 e2=>K.agr (h4 i h x e1 e2) hA (fun k hk=>hn k (h5 i (yBK e2) k hk).1),h5,h6⟩
theorem OwnL.rd (h:OwnL Q e S w v xs) (hQ:∀ (S:Nat->Prop) (v:Value) (x:List β),Q S w v x->R w.heap.size w v x):RdL R w.heap.size w v xs:=by
 obtain ⟨hs',T,h1,h2,h3,h4,h5,h6⟩:=h;exact ⟨hs',h1.rds,h3,fun i h x e1 e2=>hQ _ _ _ (h4 i h x e1 e2)⟩
theorem OwnL.shape (h:OwnL Q e S w v xs):∃ a c,v=.slice a xs.length c:=by
 obtain ⟨hs',T,h1,h2,h3,-⟩:=h;rw [<- h3];exact h1.shape
theorem OwnL.nil (Q:(Nat->Prop)->World->Value->List β->Prop) (e:TypeId) (S:Nat->Prop) (w:World):OwnL Q e S w (.slice none 0 0) [] :=
 ⟨[],fun _ _=>False,Own.nil _ _ _ _,fun q hq=>(by cases hq),rfl,fun i h x e1=>(by simp at e1),fun i hi=>(by simp at hi),fun i j hi=>(by simp at hi)⟩
theorem OwnL.addr (h:OwnL Q e S w v xs) (h0:0<xs.length):∃ g cap,v=.slice (some ⟨g,0,none⟩) xs.length cap/\S g/\g<w.heap.size:=by
 obtain ⟨hs,T,h1,h2,h3,-⟩:=h;obtain ⟨g,cap,hv,h4,h5⟩:=h1.addr (by omega);exact ⟨g,cap,by rw [<- h3];exact hv,h2 g (by rw [hv];rfl),h5⟩
theorem OwnL.put (K:RowO Q) {g n cap k:Nat} {x:List β} {u:Value} {Tn:Nat->Prop} (h:OwnL Q e S w (.slice (some ⟨g,0,none⟩) n cap) xs) (hn:n=xs.length) (hk:k<n) (hu:Q Tn w u x) (hT:∀ q,Tn q->¬ S q) :
 (∃ y,w.cell? ⟨g,k,none⟩=some y)/\w.frozen? ⟨g,k,none⟩=false/\OwnL Q e (fun q=>S q\/Tn q) (w.setCell ⟨g,k,none⟩ u) (.slice (some ⟨g,0,none⟩) n cap) (xs.set k x)/\Agr (fun q=>q=g) w (w.setCell ⟨g,k,none⟩ u):=by
 obtain ⟨hs,T,h1,h2,h3,h4,h5,h6⟩:=h;obtain ⟨ao,c,hu2⟩:=K.shape hu;have hg:S g:=h2 g rfl;have hk2:hs[k]?=some (hs[k]'(by omega)):=zF (by omega);have hst:=Own.store1 (E:=eS) (by decide) h1 (by omega) (x:=hs[k]'(by omega)) (y:=⟨ao,x.length,c⟩) (v:=u) hk2 (j:=0) (by decide) (by rw [hu2];rfl) trivial;have hc:=Own.cellE (E:=eS) h1 (by omega) (k:=k) (j:=0) hk (by decide);simp only [show eS.sz=1 from rfl,Nat.mul_one,Nat.add_zero] at hst hc;have hval:SlV.val ⟨ao,x.length,c⟩=u:=hu2.symm;have hA:Agr (fun q=>q=g) w (w.setCell ⟨g,k,none⟩ u):=Agr.set _ _ _ rfl;refine ⟨hc.1,hc.2,⟨hs.set k ⟨ao,x.length,c⟩,fun i=>if i=k then Tn else T i,hst.1,fun q hq=>.inl (h2 q hq),by rw [List.length_set,List.length_set];exact h3,fun i y z e1 e2=>?_,fun i hi q hq=>?_,fun i j hi hj hij q h1q h2q=>?_⟩,hA⟩
 . rw [List.getElem?_set] at e1 e2
   by_cases hki:k=i
   . subst hki
     rw [if_pos rfl,if_pos (by omega)] at e1 e2;cases e1;cases e2;rw [hval];simp only [if_true];exact K.agr hu hA (fun q hq e=>hT q hq (by rw [e];exact hg))
   . rw [if_neg hki] at e1 e2
     simp only [if_neg (show ¬ i=k from fun e=>hki e.symm)];exact K.agr (h4 i y z e1 e2) hA (fun q hq e=>(h5 i (yBK e2) q hq).2 (by rw [e];rfl))
 . rw [List.length_set] at hi
   by_cases hki:i=k
   . simp only [if_pos hki] at hq
     exact ⟨.inr hq,fun e=>hT q hq (h2 q e)⟩
   . simp only [if_neg hki] at hq
     exact ⟨.inl (h5 i hi q hq).1,(h5 i hi q hq).2⟩
 . rw [List.length_set] at hi hj
   by_cases hki:i=k
   . have hkj:¬ j=k:=fun e=>hij (hki.trans e.symm)
     simp only [if_pos hki] at h1q;simp only [if_neg hkj] at h2q;exact hT q h1q (h5 j hj q h2q).1
   . simp only [if_neg hki] at h1q
     by_cases hkj:j=k
     . simp only [if_pos hkj] at h2q
       exact hT q h2q (h5 i hi q h1q).1
     . simp only [if_neg hkj] at h2q
       exact h6 i j hi hj hij q h1q h2q
theorem OwnL.snoc (K:RowO Q) {x:List β} {u v':Value} {hx:SlV} {hs:List SlV} {T:Nat->Nat->Prop} {Tn S2:Nat->Prop} (h3:hs.length=xs.length)
 (h4:∀ (i:Nat) (h:SlV) (x:List β),hs[i]?=some h->xs[i]?=some x->Q (T i) w h.val x) (h5:∀ i,i<xs.length->∀ k,T i k->S2 k/\v'.ownBlock ≠ some k) (h6:∀ i j,i<xs.length->j<xs.length->i ≠ j->∀ k,T i k->¬ T j k)
 (ho:Own eS e 0 w v' (hs++[hx])) (hv:∀ q,v'.ownBlock=some q->S2 q) (hu:Q Tn w hx.val x) (hT:∀ k,Tn k->S2 k/\v'.ownBlock ≠ some k) (hd:∀ i,i<xs.length->∀ k,T i k->¬ Tn k):OwnL Q e S2 w v' (xs++[x]):=by
 refine ⟨hs++[hx],fun i=>if i=xs.length then Tn else T i,ho,hv,by simp [h3],fun i y z e1 e2=>?_,fun i hi q hq=>?_,fun i j hi hj hij q h1q h2q=>?_⟩
 . rcases Nat.lt_or_ge i hs.length with hi | hi
   . rw [zL hi] at e1
     rw [zL (by rw [<- h3];exact hi)] at e2;simp only [if_neg (show ¬ i=xs.length by omega)];exact h4 i y z e1 e2
   . rw [zJ hi] at e1
     rw [zJ (by rw [<- h3];exact hi)] at e2;have h0:i - hs.length=0:=by have:=yBK e1;simp at this;omega
     rw [h0] at e1;rw [show i - xs.length=0 by rw [<- h3];exact h0] at e2;cases e1;cases e2;simp only [if_pos (show i=xs.length by omega)];exact hu
 . rw [zE] at hi
   by_cases hki:i=xs.length
   . simp only [if_pos hki] at hq;exact hT q hq
   . simp only [if_neg hki] at hq;exact h5 i (by simp at hi;omega) q hq
 . rw [zE] at hi hj
   simp only [List.length_cons,List.length_nil] at hi hj;by_cases hki:i=xs.length
   . have hkj:¬ j=xs.length:=fun e=>hij (hki.trans e.symm)
     simp only [if_pos hki] at h1q;simp only [if_neg hkj] at h2q;exact hd j (by omega) q h2q h1q
   . simp only [if_neg hki] at h1q
     by_cases hkj:j=xs.length
     . simp only [if_pos hkj] at h2q
       exact hd i (by omega) q h1q h2q
     . simp only [if_neg hkj] at h2q
       exact h6 i j (by omega) (by omega) hij q h1q h2q
end
theorem OwnTM.agr {e:TypeId} {base tp:Nat} {S:Nat->Prop} {w w':World} {v:Value} {x:List (List Int)} (h:OwnTM e base tp w v x) (hA:Agr S w w') (hS:∀ k,base<=k->k<tp->¬ S k):OwnTM e base tp w' v x:=by
 obtain ⟨hs,h1,h2,h3,h4⟩:=h;exact ⟨hs,OwnT.agr h1 hA (fun k hk=>hS k (h1.1.lt k hk).1 (h1.2 k hk)),h2,fun i h y e1 e2=>OwnT.agr (h3 i h y e1 e2) hA (fun k hk=>hS k ((h3 i h y e1 e2).1.lt k hk).1 ((h3 i h y e1 e2).2 k hk)),h4⟩
def QD (S:Nat->Prop) (w:World) (v:Value) (x:List (List Int)):Prop:=∃ lo hi,OwnTCardS lo hi w v x/\hi<=w.heap.size/\∀ k,lo<=k->k<hi->S k
def QT (S:Nat->Prop) (w:World) (v:Value) (x:List TotalT):Prop:=∃ lo hi,OwnTTotalS lo hi w v x/\hi<=w.heap.size/\∀ k,lo<=k->k<hi->S k
theorem rowO_D:RowO QD:=⟨fun ⟨lo,hi,h1,h2,h3⟩ hA hn=>⟨lo,hi,OwnTM.agr h1 hA (fun k a b=>hn k (h3 k a b)),zO h2 hA.size,h3⟩,fun ⟨lo,hi,h1,h2,h3⟩=>h1.shape⟩
theorem rowO_T:RowO QT:=⟨fun ⟨lo,hi,h1,h2,h3⟩ hA hn=>⟨lo,hi,OwnT.agr h1 hA (fun k hk=>hn k (h3 k (h1.1.lt k hk).1 (h1.2 k hk))),zO h2 hA.size,h3⟩,fun ⟨lo,hi,h1,h2,h3⟩=>h1.1.shape⟩
theorem QD.rd {S:Nat->Prop} {w:World} {v:Value} {x:List (List Int)} (h:QD S w v x):RdInt64SS w.heap.size w v x:=by
 obtain ⟨lo,hi,h1,h2,h3⟩:=h;exact h1.rds.mono h2
theorem QT.rd {S:Nat->Prop} {w:World} {v:Value} {x:List TotalT} (h:QT S w v x):RdTs w.heap.size w v x:=by
 obtain ⟨lo,hi,h1,h2,h3⟩:=h;exact (OwnT.rds h1).mono h2
abbrev OwnDs (S:Nat->Prop) (w:World) (v:Value) (x:List (List (List Int))):Prop:=OwnL QD 78 S w v x
abbrev OwnTs (S:Nat->Prop) (w:World) (v:Value) (x:List (List TotalT)):Prop:=OwnL QT 110 S w v x
theorem OwnDs.rds {S:Nat->Prop} {w:World} {v:Value} {x:List (List (List Int))} (h:OwnDs S w v x):RdDs w.heap.size w v x:=OwnL.rd h (fun _ _ _ h=>h.rd)
theorem OwnTs.rds {S:Nat->Prop} {w:World} {v:Value} {x:List (List TotalT)} (h:OwnTs S w v x):RdTL w.heap.size w v x:=OwnL.rd h (fun _ _ _ h=>h.rd)
def OwnO (S:Nat->Prop) (w:World) (u v:Value) (o:OffT):Prop:=∃ Su Sv,OwnDs Su w u o.trays/\OwnTs Sv w v o.totals/\(∀ k,Su k->S k)/\(∀ k,Sv k->S k)/\∀ k,Su k->¬ Sv k
theorem OwnO.rds {S:Nat->Prop} {w:World} {u v:Value} {o:OffT} (h:OwnO S w u v o):RdOff w.heap.size w u v o:=by
 obtain ⟨Su,Sv,h1,h2,-⟩:=h;exact ⟨OwnDs.rds h1,OwnTs.rds h2⟩
theorem OwnO.agr {S S':Nat->Prop} {w w':World} {u v:Value} {o:OffT} (h:OwnO S w u v o) (hA:Agr S' w w') (hn:∀ k,S k->¬ S' k):OwnO S w' u v o:=by
 obtain ⟨Su,Sv,h1,h2,h3,h4,h5⟩:=h;exact ⟨Su,Sv,OwnL.agr rowO_D h1 hA (fun k hk=>hn k (h3 k hk)),OwnL.agr rowO_T h2 hA (fun k hk=>hn k (h4 k hk)),h3,h4,h5⟩
section
variable {β:Type} {mk:Int->List β->List β} {cnt:List β->Int}
end
theorem sSameDeck_c {d:List (List Int)} {u v:Value} {w:World} {A B:Nat} (ha:RdInt64SS A w u d) (hb:RdInt64SS B w v d) :
 Calls Tryz.prog 74 #[u,v] w fun e w'=>e=.returned (.bool true)/\∃ m,w'=w.drewN m:=by
 have hle:=ha.le;obtain ⟨ao,ac,rfl,ho⟩:=ha.open;obtain ⟨bo,bc,rfl,hob⟩:=hb.open;obtain ⟨n,hn⟩:∃ n,n=d.length:=⟨_,rfl⟩;rw [<- hn] at ho hob hle |-;have Ho:=hid ho;have Hob:=hid hob;have Hn:=hid hn;clear ho hob ha hb hn;go_enter Tryz.func74,Tryz.ntmps74;go_wp2;go_loopw [5] (fun i wr=>∃ k:Nat,k<=n/\i=.int .i64 k/\∃ m,wr=w.drewN m) (fun i _=>n - (intOf i).toNat)
 case atStart=>exact ⟨0,zK _,rfl,0,rfl⟩
 case round =>
  obtain ⟨k,hk,rfl,m,rfl⟩:=hrel;by_cases hkn:k<n
  . obtain ⟨b,off,rfl,hlt,hc⟩:=Ho.out (by omega)
    obtain ⟨x,ro,rc,hx,d0,hrd⟩:=hc k hkn;obtain ⟨b2,off2,rfl,hlt2,hc2⟩:=Hob.out (by omega);obtain ⟨y,qo,qc,hy,d1,hrd2⟩:=hc2 k hkn;obtain rfl:x=y:=zD (hx.symm.trans hy);have hkni:(k:Int)<(n:Int):=by omega
    have hcon:=fun a=>l00Same_c (w:=w.drewN a) (xs:=x) (ys:=x) (hrd.drewN a) (hrd2.drewN a);rw [decide_eq_true rfl] at hcon;have Hcon:=hid hcon;obtain ⟨xl,hxl⟩:∃ l,l=x.length:=⟨_,rfl⟩;rw [<- hxl] at d0 d1 Hcon;clear hc hc2 hx hy hrd hrd2 hcon hxl;go_wp2;go_quiet ((go_at_call 115;first | with_reducible exact quiet_atN (Hcon.out _) | with_reducible exact quiet_atN0 (Hcon.out _)));clear d0 d1;go_wp2;go_roundw
    case rel=>exact ⟨k+1,by omega,by go_num,_,rfl⟩
    case measure=>simp [intOf];omega
  . obtain rfl:k=n:=by omega
    go_wp2;go_ret;exact ⟨rfl,_,rfl⟩
theorem neq_tot (x:TotalT) (w:World):(binOp .neq 150 (vTotal x) (vTotal x)).run Tryz.prog w=.ok (.bool false) w:=by
 have hS:Tryz.prog.underlying 150=some (.struct (Tryz.prog.fieldsOf 150)):=by kernel_rfl
 have hp:Tryz.prog.stoodInHeld 150=false:=by kernel_rfl
 rw [run_neq_struct,show (10000:Nat)=9999+1 from rfl,run_equalIn_agg w 9999 150 _ _ hS hp];simp only [Program.fieldsOf,Tryz.underlying150];go_simp
theorem sSameTot_c {xs:List TotalT} {u v:Value} {w:World} {A B:Nat} (ha:Rds eTotal A w u xs) (hb:Rds eTotal B w v xs) :
 Calls Tryz.prog 75 #[u,v] w fun e w'=>e=.returned (.bool true)/\∃ m,w'=w.drewN m:=by
 have hle:=ha.le;obtain ⟨ao,ac,rfl,ho⟩:=eTotal_open ha;obtain ⟨bo,bc,rfl,hob⟩:=eTotal_open hb;obtain ⟨n,hn⟩:∃ n,n=xs.length:=⟨_,rfl⟩;rw [<- hn] at ho hob hle |-;have Ho:=hid ho;have Hob:=hid hob;have hrun:=fun (x:TotalT) (W:World)=>neq_tot x W;have Hrun:=hid hrun;clear ho hob ha hb hn hrun;go_enter Tryz.func75,Tryz.ntmps75;go_wp2;go_loopw [5] (fun i wr=>∃ k:Nat,k<=n/\i=.int .i64 k/\∃ m,wr=w.drewN m) (fun i _=>n - (intOf i).toNat)
 case atStart=>exact ⟨0,zK _,rfl,0,rfl⟩
 case round =>
  obtain ⟨k,hk,rfl,m,rfl⟩:=hrel;by_cases hkn:k<n
  . obtain ⟨b,off,rfl,hlt,hc⟩:=Ho.out (by omega)
    obtain ⟨x,hx,⟨d0,d1⟩,-⟩:=hc k hkn;obtain ⟨b2,off2,rfl,hlt2,hc2⟩:=Hob.out (by omega);obtain ⟨y,hy,⟨d2,d3⟩,-⟩:=hc2 k hkn;obtain rfl:x=y:=zD (hx.symm.trans hy);have hkni:(k:Int)<(n:Int):=by omega
    have hr:=Hrun.out x;clear hc hc2 hx hy;go_wp2;go_quiet (fail);clear d0 d1 d2 d3;go_wp2;go_roundw
    case rel=>exact ⟨k+1,by omega,by go_num,_,rfl⟩
    case measure=>simp [intOf];omega
  . obtain rfl:k=n:=by omega
    go_wp2;go_ret;exact ⟨rfl,_,rfl⟩
theorem sSameOffice_c {o:OffT} {u v u2 v2:Value} {w0:World} {A B:Nat} (ha:RdOff A w0 u v o) (hb:RdOff B w0 u2 v2 o) :
 Calls Tryz.prog 32 #[.agg #[u,v],.agg #[u2,v2]] w0 fun e w'=>e=.returned (.bool true)/\Below w0.heap.size w0 w':=by
 have hle:=RdL.le ha.1;have hle2:=RdL.le ha.2;obtain ⟨w,hw⟩:∃ w,w=(w0.alloc (.cells #[u,v] 35)).alloc (.cells #[u2,v2] 35):=⟨_,rfl⟩;have z1:(w0.alloc (.cells #[u,v] 35)).heap.size=w0.heap.size+1:=by simp
 have hP:Box w w0.heap.size [u,v]:=by rw [hw];exact (Box.new w0 [u,v] _).alloc _
 have hQ:Box w (w0.heap.size+1) [u2,v2]:=by
  have h:=Box.new (w0.alloc (.cells #[u,v] 35)) [u2,v2] 35;rw [z1,<- hw] at h;exact h
 have hbw:Below w0.heap.size w0 w:=by rw [hw];exact ((zB _ _).alloc (zA _) _).alloc (by rw [z1];omega) _
 have ha2:=ha.onn hbw;have hb2:=hb.onn hbw;obtain ⟨uo,uc,rfl,ho⟩:=RdL.open yBH ha2.1;obtain ⟨vo,vc,rfl,hp⟩:=RdL.open rowK_T ha2.2;obtain ⟨u2o,u2c,rfl,ho2⟩:=RdL.open yBH hb2.1;obtain ⟨v2o,v2c,rfl,hp2⟩:=RdL.open rowK_T hb2.2;obtain ⟨ts,ls⟩:=o;obtain ⟨n,hn⟩:∃ n,n=ts.length:=⟨_,rfl⟩;obtain ⟨p,hpl⟩:∃ p,p=ls.length:=⟨_,rfl⟩;simp only [<- hn,<- hpl] at hP hQ ho hp ho2 hp2 hle hle2 hw |-;have Ho:=hid ho;have Hp:=hid hp;have Ho2:=hid ho2;have Hp2:=hid hp2;have Hw:=hid hw;have Hbw:=hid hbw;obtain ⟨X,hX⟩:∃ X,X=w0.heap.size:=⟨_,rfl⟩;have HX:=hid hX;rw [<- hX] at hP hQ;have p0:=hP.cell 0 _ rfl;have p1:=hP.cell 1 _ rfl;have q0:=hQ.cell 0 _ rfl;have q1:=hQ.cell 1 _ rfl;clear ha hb ha2 hb2 ho hp ho2 hp2 hw hn hpl hbw z1 hP hQ hX;go_enter Tryz.func32,Tryz.ntmps32;go_upto_region 1 with fail;rw [<- Hw.out,<- HX.out];go_wp2;go_loopw [5] (fun i wr=>∃ k:Nat,k<=n/\i=.int .i64 k/\∃ m,wr=w.drewN m) (fun i _=>n - (intOf i).toNat)
 case atStart=>exact ⟨0,zK _,rfl,0,rfl⟩
 case round =>
  obtain ⟨k,hk,rfl,m,rfl⟩:=hrel;by_cases hkn:k<n
  . obtain ⟨b,off,rfl,hlt,hc⟩:=Ho.out (by omega)
    obtain ⟨x,ro,rc,hx,d0,hrd⟩:=hc k hkn;obtain ⟨b2,off2,rfl,hlt2,hc2⟩:=Ho2.out (by omega);obtain ⟨y,qo,qc,hy,d1,hrd2⟩:=hc2 k hkn;obtain rfl:x=y:=zD (hx.symm.trans hy);have hkni:(k:Int)<(n:Int):=by omega
    have hcon:=fun a=>sSameDeck_c (w:=w.drewN a) (d:=x) (show RdInt64SS _ (w.drewN a) _ x from hrd) (show RdInt64SS _ (w.drewN a) _ x from hrd2);have Hcon:=hid hcon;obtain ⟨xl,hxl⟩:∃ l,l=x.length:=⟨_,rfl⟩;rw [<- hxl] at d0 d1 Hcon;clear hc hc2 hx hy hrd hrd2 hcon hxl;go_wp2;go_quiet ((go_at_call 74;first | with_reducible exact quiet_atN (Hcon.out _) | with_reducible exact quiet_atN0 (Hcon.out _)));clear d0 d1;go_wp2;go_roundw
    case rel=>exact ⟨k+1,by omega,by go_num,_,rfl⟩
    case measure=>simp [intOf];omega
  . obtain rfl:k=n:=by omega
    go_wp2;go_loopw [6] (fun i wr=>∃ j:Nat,j<=p/\i=.int .i64 j/\∃ m,wr=w.drewN m) (fun i _=>p - (intOf i).toNat)
    case atStart=>exact ⟨0,zK _,rfl,_,rfl⟩
    case round =>
     obtain ⟨j,hj,rfl,m,rfl⟩:=hrel;by_cases hjn:j<p
     . obtain ⟨b,off,rfl,hlt,hc⟩:=Hp.out (by omega)
       obtain ⟨x,ro,rc,hx,d0,hrd⟩:=hc j hjn;obtain ⟨b2,off2,rfl,hlt2,hc2⟩:=Hp2.out (by omega);obtain ⟨y,qo,qc,hy,d1,hrd2⟩:=hc2 j hjn;obtain rfl:x=y:=zD (hx.symm.trans hy);have hjni:(j:Int)<(p:Int):=by omega
       have hcon:=fun a=>sSameTot_c (w:=w.drewN a) (xs:=x) (show Rds eTotal _ (w.drewN a) _ x from hrd) (show Rds eTotal _ (w.drewN a) _ x from hrd2);have Hcon:=hid hcon;obtain ⟨xl,hxl⟩:∃ l,l=x.length:=⟨_,rfl⟩;rw [<- hxl] at d0 d1 Hcon;clear hc hc2 hx hy hrd hrd2 hcon hxl;go_wp2;go_quiet ((go_at_call 75;first | with_reducible exact quiet_atN (Hcon.out _) | with_reducible exact quiet_atN0 (Hcon.out _)));clear d0 d1;go_wp2;go_roundw
       case rel=>exact ⟨j+1,by omega,by go_num,_,rfl⟩
       case measure=>simp [intOf];omega
     . obtain rfl:j=p:=by omega
       go_wp2;go_ret;exact ⟨rfl,Hbw.out.drewNy _⟩
end Go.Proofs.YthdaghfhlfjclaaGreat
