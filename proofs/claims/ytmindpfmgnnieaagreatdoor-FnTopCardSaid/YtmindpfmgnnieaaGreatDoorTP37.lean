/- Lemmas on the way to the law FnTop. No condition. -/
import Derived.Test.YtmindpfmgnnieaaGreatDoorTP34
import Derived.Test.YtmindpfmgnnieaaGreatDoorTP31
import Derived.Test.YtmindpfmgnnieaaGreatDoorTP6
namespace Go.Proofs.YtmindpfmgnnieaaGreatDoor
set_option maxHeartbeats 2000000
set_option linter.unusedSimpArgs false
open Lib (hid)
open Go.ChangeShapes Go.WideShapes Go.ChangeAt Go.RowKit Go.Sort
set_option linter.unusedVariables false
set_option maxRecDepth 100000
def twoC (a b:List (List Int)) (f t:Int):Int:=colC [a,b] f t []
theorem colC_zero {ds:List (List (List Int))} {f t:Int} {ts:List ByteArray} (h:colC ds f t ts=0):(∀ d∈ds,deckB d=true/\fieldP f t (colsD d)/\hasD d f t=true)/\∀ s∈ts,(s.size:Int)=t - f/\chS s=true:=by
 unfold colC at h;by_cases h1:ds.any badD=true
 . rw [if_pos h1] at h;cases h
 . rw [if_neg h1] at h
   by_cases h2:ds.any (badW f t)=true
   . rw [if_pos h2] at h;cases h
   . rw [if_neg h2] at h
     by_cases h3:ts.any (badL f t)=true
     . rw [if_pos h3] at h;cases h
     . rw [if_neg h3] at h
       by_cases h4:ts.any badC=true
       . rw [if_pos h4] at h;cases h
       . rw [if_neg h4] at h
         by_cases h5:ds.any (badH f t)=true
         . rw [if_pos h5] at h;cases h
         . refine ⟨fun d hd=>⟨?_,?_,?_⟩,fun s hs=>⟨?_,?_⟩⟩
           . have:=any_mem (by simpa using h1) hd;unfold badD at this;simpa using this
           . have:=any_mem (by simpa using h2) hd;unfold badW at this;simpa using this
           . have:=any_mem (by simpa using h5) hd;unfold badH at this;simpa using this
           . have:=any_mem (by simpa using h3) hs;unfold badL at this;simpa using this
           . have:=any_mem (by simpa using h4) hs;unfold badC at this;simpa using this
def merC (a b:List (List Int)) (f t:Int):Int :=
 if twoC a b f t ≠ 0 then twoC a b f t else if (0<a.length/\0<b.length)/\colsD a ≠ colsD b then 9 else if ¬ (ascB a f t=true/\ascB b f t=true) then 6 else if 40<a.length+b.length then 5 else 0
def TwoOk (a b:List (List Int)) (f t:Int):Prop:=(deckB a=true/\fieldP f t (colsD a)/\hasD a f t=true)/\deckB b=true/\fieldP f t (colsD b)/\hasD b f t=true
theorem twoC_zero {a b:List (List Int)} {f t:Int} (h:twoC a b f t=0):TwoOk a b f t:=by
 have h1:=(colC_zero h).1;exact ⟨h1 a (by simp),h1 b (by simp)⟩
theorem cols_two {a b:List (List Int)} {f t:Int} (h:TwoOk a b f t):ColsOk (a++b) f t :=
 ⟨⟨h.1.2.1.1,h.1.2.1.2.1⟩,fun c hc=>(List.mem_append.1 hc).elim ((yAR h.1.1 h.1.2.1).2 c) ((yAR h.2.1 h.2.2.1).2 c)⟩
theorem rows_two {a b:List (List Int)} {f t:Int} (h:TwoOk a b f t):RowsOk (a++b) :=
 ⟨by have h1:=(yAE h.1.1).1;have h2:=(yAE h.2.1).1;rw [zE];omega,fun c hc=>(List.mem_append.1 hc).elim ((yAV h.1.1).2 c) ((yAV h.2.1).2 c)⟩
theorem merge_prep {base:Nat} {a b:List (List Int)} {wA:World} {rA vb:Value} (hA:OwnCardS base wA rA a) (hB:RdInt64SS base wA vb b) (hbs:base<=wA.heap.size) :
 ∃ hsA hsB:List SlV,Own eS 69 base wA rA hsA/\Rds eS base wA vb hsB/\hsA.length=a.length/\hsB.length=b.length /\
  ∀ w' v',Own eS 69 base w' v' (hsA++hsB)->Grew wA w' rA v'->RdInt64SS w'.heap.size w' v' (a++b):=by
 obtain ⟨hs,h1,h2,h3,h4,h5⟩:=hA;obtain ⟨ks,k1,k2,k3⟩:=hB;refine ⟨hs,ks,h1.1,k1,h2,k2,fun w' v' ho hg=>⟨hs++ks,ho.rds,by simp [h2,k2],fun i h x e1 e2=>?_⟩⟩;rcases Nat.lt_or_ge i hs.length with hi | hi
 . rw [zL hi] at e1
   rw [zL (by omega)] at e2;exact (((h3 i h x e1 e2).keep hg.1 (h4 i h e1).kept).1).rds
 . rw [zJ hi] at e1
   rw [zJ (by omega)] at e2;have hb:Below base wA w':=⟨hg.1.os,hg.1.tape,hg.1.output,hg.1.size,fun k hk=>hg.1.block k (by omega) (fun e=>by have:=(h1.1.lt k e.symm).1;omega)⟩;exact ((k3 _ h x e1 (by rw [h2];exact e2)).below hb (zA _)).mono (zO hbs hb.size)
def DkPost (R:Int) (P:List (List Int)->Prop) (n:Nat) (e:Ending) (w':World):Prop:=∃ r,e=.returned (.tuple #[r,.int .i64 R])/\(R=0->∃ d,P d/\FrD n w' r d)
theorem DkPost.no {R:Int} {P:List (List Int)->Prop} {n:Nat} {e:Ending} {w':World} {r:Value} (h:e=.returned (.tuple #[r,.int .i64 R])) (hR:R ≠ 0):DkPost R P n e w':=⟨r,h,fun q=>absurd q hR⟩
def DkPostO (R:Int) (P:List (List Int)->Prop) (n:Nat) (e:Ending) (w':World):Prop:=∃ r,e=.returned (.tuple #[r,.int .i64 R])/\(R=0->∃ d,P d/\OwD n w' r d)
theorem DkPostO.no {R:Int} {P:List (List Int)->Prop} {n:Nat} {e:Ending} {w':World} {r:Value} (h:e=.returned (.tuple #[r,.int .i64 R])) (hR:R ≠ 0):DkPostO R P n e w':=⟨r,h,fun q=>absurd q hR⟩
theorem MergeDecks_c {a b:List (List Int)} {u v:Value} {w:World} {A B:Nat} {f t:Int} (ha:RdInt64SS A w u a) (hb:RdInt64SS B w v b) :
 Calls Tryz.prog 179 #[u,v,.agg #[.int .i64 f,.int .i64 t]] w fun e w'=>DkPostO (merC a b f t) (fun d=>∃ Z,IsOrd (a++b) f t Z/\d=pickD (a++b) Z) w.heap.size e w'/\Below w.heap.size w w':=by
 obtain ⟨i0,hi,hz0,hz1,hz2c⟩:=info_parts Tryz.infoCard;obtain ⟨ao,ac,rfl⟩:=ha.shape;obtain ⟨bo,bc,rfl⟩:=hb.shape;obtain ⟨T,hT⟩:∃ T,T=w.alloc (.cells #[.int .i64 f,.int .i64 t] 27):=⟨_,rfl⟩;have hbT:Below w.heap.size w T:=by rw [hT];exact (zB _ _).alloc (zA _) _
 have hBT:Box T w.heap.size [.int .i64 f,.int .i64 t]:=by rw [hT];exact Box.new w [.int .i64 f,.int .i64 t] _
 have haT:=RdInt64SS.onn ha hbT;have hbT2:=RdInt64SS.onn hb hbT;obtain ⟨T2,hT2⟩:∃ T2,T2=T.alloc (.cells #[.slice ao a.length ac,.slice bo b.length bc] 24):=⟨_,rfl⟩;have hbb:Below T.heap.size T T2:=by rw [hT2];exact (zB _ _).alloc (zA _) _
 have hds:RdDs T2.heap.size T2 (.slice (some ⟨T.heap.size,0,none⟩) 2 2) [a,b]:=by
  rw [hT2];refine RdDs.lit (n:=2) (ds:=[a,b]) (hs:=[⟨ao,a.length,ac⟩,⟨bo,b.length,bc⟩]) rfl rfl rfl (by omega) _ (fun i h x e1 e2=>?_);match i,e1,e2 with
  | 0,e1,e2=>cases e1;cases e2;exact haT
  | 1,e1,e2=>cases e1;cases e2;exact hbT2
 have hcc:=collateCode_c (f:=f) (t:=t) (ts:=[]) hds (Rds.nil eT 0 T2) (by simp) (by simp) (by simp);obtain ⟨C,hC⟩:∃ C,C=colC [a,b] f t []:=⟨_,rfl⟩;rw [<- hC] at hcc;have HC:=hid hC;have Hcc:=hid hcc;have hB2:=hBT.on hbb;have f0:=hBT.cell 0 _ rfl;have f1:=hBT.cell 1 _ rfl;have Hb2:=hid (hbT.trans (hbb.mono hbT.size));have HB2:=hid hB2;have Ha2:=hid (RdInt64SS.onn haT hbb);have HbD2:=hid (RdInt64SS.onn hbT2 hbb);have HT:=hid hT;have HT2:=hid hT2;clear hT hbT hBT haT hbT2 hT2 hbb hds hcc hB2 hC ha hb;obtain ⟨R,hR⟩:∃ R,merC a b f t=R:=⟨_,rfl⟩;rw [hR];have HR:=hid hR;clear hR;obtain ⟨n,hn⟩:∃ n,n=a.length:=⟨_,rfl⟩;obtain ⟨m,hm⟩:∃ m,m=b.length:=⟨_,rfl⟩;rw [<- hn] at Ha2 HT2 |-;rw [<- hm] at HbD2 HT2 |-;have Hn:=hid hn;have Hm:=hid hm;clear hn hm;go_enter Tryz.func179,Tryz.ntmps179;go_upto_region 1 with fail;rw [<- HT.out];go_wp2_with fail;rw [<- HT2.out];with_reducible refine Hcc.out.mono ?_
 rintro e w1 ⟨rfl,hb1⟩;have hB1:=HB2.out.on hb1;have ha1:=RdInt64SS.onn Ha2.out hb1;have hd1:=RdInt64SS.onn HbD2.out hb1;have g0:=hB1.cell 0 _ rfl;have g1:=hB1.cell 1 _ rfl;have HB1:=hid hB1;have Ha1:=hid ha1;have Hd1:=hid hd1;have Hb1:=hid (Hb2.out.trans (hb1.mono Hb2.out.size));clear hb1 hB1 ha1 hd1 f0 f1;by_cases hc0:C=0
 . have hz:=twoC_zero (a:=a) (b:=b) (f:=f) (t:=t) (by unfold twoC;rw [<- HC.out];exact hc0)
   have HZ:=hid hz;have HR1:Hid (R=if (0<a.length/\0<b.length)/\colsD a ≠ colsD b then 9 else if ¬ (ascB a f t=true/\ascB b f t=true) then 6 else if 40<a.length+b.length then 5 else 0):=hid (by rw [<- HR.out];unfold merC;rw [if_neg (by unfold twoC;rw [<- HC.out];exact fun h=>h hc0)]);subst hc0;have hla:=(yAE hz.1.1).1;have hlb:=(yAE hz.2.1).1;rw [<- Hn.out] at hla;rw [<- Hm.out] at hlb;clear hz;obtain ⟨q,hq⟩:∃ q,q=decide ((0<a.length/\0<b.length)/\colsD a ≠ colsD b):=⟨_,rfl⟩;have Hq:=hid hq;clear hq;go_upto_region 4 with fail;go_cut [18] (fun c wx=>c=.bool q/\Hid (Below w1.heap.size w1 wx))
   case first =>
    by_cases hn0:n=0
    . have hq0:Hid (q=false):=hid (by rw [Hq.out];exact decide_eq_false (fun h=>by have:=Hn.out;have:=h.1.1;omega))
      have i1:¬ 0<(n:Int):=by omega
      subst hn0;go_wp2_with fail;go_meet;exact ⟨by rw [hq0.out],hid (zB _ _)⟩
    . by_cases hm0:m=0
      . have hq0:Hid (q=false):=hid (by rw [Hq.out];exact decide_eq_false (fun h=>by have:=Hm.out;have:=h.1.2;omega))
        have i1:0<(n:Int):=by omega
        have i2:0<n:=by omega
        subst hm0;go_wp2_with fail;go_meet;exact ⟨by rw [hq0.out],hid (zB _ _)⟩
      . have i1:0<(n:Int):=by omega
        have i2:0<(m:Int):=by omega
        have i3:0<n:=by omega
        have i4:0<m:=by omega
        have h1:=yBE Ha1.out HZ.out.1.1;have H1:=hid h1;clear h1;obtain ⟨ca,hca⟩:∃ c,c=colsD a:=⟨_,rfl⟩;obtain ⟨cb,hcb⟩:∃ c,c=colsD b:=⟨_,rfl⟩;have Hca:=hid hca;have Hcb:=hid hcb;rw [<- hca] at H1;clear hca hcb;go_wp2_with fail;with_reducible refine H1.out.mono ?_
        rintro e w2 ⟨rfl,hb2⟩;have h2:=yBE (RdInt64SS.onn Hd1.out hb2) HZ.out.2.1;rw [<- Hcb.out] at h2;have H2:=hid h2;have Hb2':=hid hb2;clear h2 hb2;go_wp2_with fail;with_reducible refine H2.out.mono ?_
        rintro e w3 ⟨rfl,hb3⟩;have Hb3:Hid (Below w1.heap.size w1 w3):=hid (Hb2'.out.trans (hb3.mono Hb2'.out.size));clear hb3;go_wp2_with fail;go_meet;refine ⟨?_,Hb3⟩;congr 1;rw [Hq.out,<- Hca.out,<- Hcb.out];by_cases h:ca=cb
        . rw [decide_eq_false (fun e=>e.2 h)];simp [h]
        . rw [decide_eq_true ⟨⟨by have:=Hn.out;omega,by have:=Hm.out;omega⟩,h⟩];simp [h]
   case rest =>
    obtain ⟨rfl,Hc⟩:=hcut;have hB4:=HB1.out.on Hc.out;have g0:=hB4.cell 0 _ rfl;have g1:=hB4.cell 1 _ rfl;have Ha4:=hid (RdInt64SS.onn Ha1.out Hc.out);have Hd4:=hid (RdInt64SS.onn Hd1.out Hc.out);have HB4:=hid hB4;have Hb4:=hid (Hb1.out.trans (Hc.out.mono Hb1.out.size));clear hB4 Hc;obtain ⟨w4,hw4⟩:∃ x,x=wc:=⟨_,rfl⟩;subst hw4;cases q with
    | true =>
     have HE:Hid (R=9):=hid (by rw [HR1.out,if_pos (of_decide_eq_true Hq.out.symm)]);go_wp2;go_ret2;exact ⟨DkPostO.no (r:=.slice none 0 0) (by rw [HE.out];rfl) (by rw [HE.out];decide),Hb4.out⟩
    | false =>
     have HR2:Hid (R=if ¬ (ascB a f t=true/\ascB b f t=true) then 6 else if 40<a.length+b.length then 5 else 0):=hid (by rw [HR1.out,if_neg (of_decide_eq_false Hq.out.symm)]);obtain ⟨p,hp⟩:∃ p,p=decide (¬ (ascB a f t=true/\ascB b f t=true)):=⟨_,rfl⟩;have Hp:=hid hp;clear hp;go_upto_region 6 with fail;go_cut [34] (fun c wx=>c=.bool p/\Hid (Below w4.heap.size w4 wx))
     case first =>
      have h1:=isAscending_c Ha4.out (yAR HZ.out.1.1 HZ.out.1.2.1) (by have:=Hn.out;omega);cases hxa:ascB a f t with
      | false =>
       rw [hxa] at h1;have H1:=hid h1;have hp0:Hid (p=true):=hid (by rw [Hp.out];exact decide_eq_true (fun h=>by rw [hxa] at h;cases h.1));clear h1 hxa;go_wp2_with fail;with_reducible refine H1.out.mono ?_
       rintro e w5 ⟨rfl,hb5⟩;have Hb5:=hid hb5;clear hb5;go_wp2_with fail;go_meet;exact ⟨by rw [hp0.out],Hb5⟩
      | true =>
       rw [hxa] at h1;have H1:=hid h1;have Hxa:=hid hxa;clear h1 hxa;go_wp2_with fail;with_reducible refine H1.out.mono ?_
       rintro e w5 ⟨rfl,hb5⟩;have hB5:=HB4.out.on hb5;have k0:=hB5.cell 0 _ rfl;have k1:=hB5.cell 1 _ rfl;have h2:=isAscending_c (RdInt64SS.onn Hd4.out hb5) (yAR HZ.out.2.1 HZ.out.2.2.1) (by have:=Hm.out;omega);obtain ⟨y,hy⟩:∃ y,y=ascB b f t:=⟨_,rfl⟩;rw [<- hy] at h2;have Hy:=hid hy;have H2:=hid h2;have Hb5:=hid hb5;clear h2 hb5 hB5 hy g0 g1;go_wp2_with fail;with_reducible refine H2.out.mono ?_
       rintro e w6 ⟨rfl,hb6⟩;have Hb6:Hid (Below w4.heap.size w4 w6):=hid (Hb5.out.trans (hb6.mono Hb5.out.size));clear hb6;go_wp2_with fail;go_meet;refine ⟨?_,Hb6⟩;rw [Hp.out,Hxa.out,<- Hy.out];cases y <;> rfl
     case rest =>
      obtain ⟨rfl,Hc⟩:=hcut;obtain ⟨w6,hw6⟩:∃ x,x=wc:=⟨_,rfl⟩;subst hw6;have hB6:=HB4.out.on Hc.out;have g0:=hB6.cell 0 _ rfl;have g1:=hB6.cell 1 _ rfl;have Ha6:=hid (RdInt64SS.onn Ha4.out Hc.out);have Hd6:=hid (RdInt64SS.onn Hd4.out Hc.out);have HB6:=hid hB6;have Hb6:=hid (Hb4.out.trans (Hc.out.mono Hb4.out.size));clear hB6 Hc;cases p with
      | true =>
       have HE:Hid (R=6):=hid (by rw [HR2.out,if_pos (of_decide_eq_true Hp.out.symm)]);go_wp2;go_ret2;exact ⟨DkPostO.no (r:=.slice none 0 0) (by rw [HE.out];rfl) (by rw [HE.out];decide),Hb6.out⟩
      | false =>
       have HR3:Hid (R=if 40<n+m then 5 else 0):=hid (by rw [HR2.out,if_neg (of_decide_eq_false Hp.out.symm),Hn.out,Hm.out]);by_cases hf:40<n+m
       . have HE:Hid (R=5):=hid (by rw [HR3.out,if_pos hf])
         have hf2:(40:Int)<(n:Int)+(m:Int):=by omega
         go_wp2;go_ret2;exact ⟨DkPostO.no (r:=.slice none 0 0) (by rw [HE.out];rfl) (by rw [HE.out];decide),Hb6.out⟩
       . have HE:Hid (R=0):=hid (by rw [HR3.out,if_neg hf])
         have hf2:¬ (40:Int)<(n:Int)+(m:Int):=by omega
         have hb0:Below w6.heap.size w6 w6.drew:=(zB w6.heap.size w6).drewNy 1;have hnd:=newDeck_c (w:=w6.drew) (RdInt64SS.below Ha6.out hb0 (zA _)) (yAV HZ.out.1.1);have Hnd:Hid (Calls Tryz.prog 75 #[.slice ao n ac] w6.drew fun e w'=>(∃ r,e=.returned r/\OwnCardS w6.heap.size w' r a)/\Below w6.heap.size w6 w'):=hid (hnd.mono (fun e w' h=>⟨h.1,hb0.trans h.2⟩));have HC2:=hid (cols_two HZ.out);have Hro:=hid (rows_two HZ.out);clear hb0 hnd;go_upto_region 10 with fail;go_region_law (first
          | (go_simp;go_at_call 75;with_reducible refine Hnd.out.mono ?_;rintro e wA ⟨⟨rA,rfl,hOA⟩,hbA⟩
             have hkA:=HB6.out.on hbA;have r0:=hkA.cell 0 _ rfl;have r1:=hkA.cell 1 _ rfl;obtain ⟨hsA,hsB,hO1,hO2,hl1,hl2,hfin⟩:=merge_prep hOA (RdInt64SS.below Hd6.out hbA (zA _)) hbA.size;have HO1:=hid hO1;have HO2:=hid hO2;have Hl1:=hid hl1;have Hl2:=hid hl2;have Hfin:=hid hfin;have HkA:=hid hkA;have HbA:=hid hbA;clear hkA hO1 hO2 hl1 hl2 hfin hbA hOA Hnd g0 g1)
          | (refine step_appS (E:=eS) rfl _ _ 24 (by rfl) Tryz.underlying24 hi hz0 hz1 hz2c rfl (by decide) (by rfl) (by rfl) HO1.out HO2.out (by have:=Hl1.out;have:=Hl2.out;have:=Hn.out;have:=Hm.out;unfold maxLen;omega) (by have:=Hl1.out;have:=Hl2.out;have:=Hn.out;have:=Hm.out;omega) HbA.out.size ?_;intro vM wM hOM hgM
             have hbM:Below w6.heap.size w6 wM:=HbA.out.grown hgM.1 HbA.out.size (fun q hq=>(HO1.out.lt q hq).1);have hkM:=HB6.out.on hbM;have r0:=hkM.cell 0 _ rfl;have r1:=hkM.cell 1 _ rfl;have hsb:=sortedBy_c (Hfin.out wM vM hOM hgM) HC2.out (by rw [zE];have:=Hn.out;have:=Hm.out;omega) Hro.out;have Hsb:=hid hsb;have HbM:=hid hbM;clear hbM hkM hsb hOM hgM)
          | (go_simp;go_at_call 32;with_reducible refine Hsb.out.mono ?_;rintro e wS ⟨⟨rS,Z,rfl,hpS,hwS,hOS⟩,hbS⟩
             have HF:Hid (∃ d,(∃ Z,IsOrd (a++b) f t Z/\d=pickD (a++b) Z)/\OwD w.heap.size wS rS d):=hid ⟨_,⟨Z,⟨hpS,hwS⟩,rfl⟩,(OwD.own hOS).mono (zO Hb6.out.size HbM.out.size)⟩;have HbS:Hid (Below w.heap.size w wS):=hid (Hb6.out.trans ((HbM.out.trans (hbS.mono HbM.out.size)).mono Hb6.out.size));clear hpS hwS hOS hbS r0 r1))
         all_goals
          go_wp2;go_ret2;exact ⟨⟨_,by rw [HE.out];rfl,fun _=>HF.out⟩,HbS.out⟩
 . have HE:Hid (R=C):=hid (by rw [<- HR.out];unfold merC;rw [if_pos (by unfold twoC;rw [<- HC.out];exact hc0)];unfold twoC;exact HC.out.symm)
   have HE0:Hid (R ≠ 0):=hid (by rw [HE.out];exact hc0);have hc1:(C != 0)=true:=by simpa using hc0
   go_wp2;go_ret2;exact ⟨DkPostO.no (r:=.slice none 0 0) (by rw [HE.out];rfl) HE0.out,Hb1.out⟩
end Go.Proofs.YtmindpfmgnnieaaGreatDoor
