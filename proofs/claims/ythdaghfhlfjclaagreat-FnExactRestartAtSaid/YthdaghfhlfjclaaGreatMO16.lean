/- Lemmas on the way to the law that OfficeAt returns what the reference's returns. No condition. -/
import Derived.Test.YthdaghfhlfjclaaGreatMO15
namespace Go.Proofs.YthdaghfhlfjclaaGreat
set_option linter.unusedSimpArgs false
open Lib (hid)
open Go.ChangeShapes Go.WideShapes Go.ChangeAt Go.RowKit Go.Sort
set_option linter.unusedVariables false
set_option maxRecDepth 100000
open Sym
set_option maxHeartbeats 16000000 in
theorem symC2_c {cf:Int→Int→Int} {lt:Int→Int→Prop} {base g L cap N p q K:Nat} (hT:CmpT cf lt N) (hl:L≤1000) (hIH:SymOK cf lt base g L cap N p q K)
 {P X Y S:List Int} {a m b:Nat} {w:World} (hK:X.length+Y.length≤K+1) (hX2:2≤X.length) (hY2:2≤Y.length) (h:OwnInt64S base w (.slice (some ⟨g,0,none⟩) L cap) (P++(X++(Y++S)))) (hL:L=(P++(X++(Y++S))).length)
 (ha:a=P.length) (hm:m=a+X.length) (hb:b=m+Y.length) (hX:X.Pairwise lt) (hY:Y.Pairwise lt) (hXY:∀ x∈X,∀ y∈Y,x<y) (hRX:Rng N X) (hRY:Rng N Y) (hc:CmpB cf N g p q w) (hcase:¬ (a+b) / 2<m) :
 Calls Tryz.prog 238 #[.slice (some ⟨g,0,none⟩) L cap,.int .i64 (a:Int),.int .i64 (m:Int),.int .i64 (b:Int),.func (.func 229) #[] #[.pointer (some ⟨p,0,none⟩),.pointer (some ⟨q,0,none⟩)]] w
  (MgPost lt P X Y S base g L cap w):=by
 have hbL:b≤L:=by rw [hL,hb,hm,ha];simp only [List.length_append];omega
 obtain ⟨z0,hz0⟩:∃ z,z=m - a:=⟨_,rfl⟩;obtain ⟨z1,hz1⟩:∃ z,z=b - m:=⟨_,rfl⟩;obtain ⟨z2,hz2⟩:∃ z,z=a+b:=⟨_,rfl⟩;obtain ⟨mid,hmid⟩:∃ z,z=z2 / 2:=⟨_,rfl⟩;obtain ⟨nn,hnn⟩:∃ z,z=mid+m:=⟨_,rfl⟩;obtain ⟨pp,hpp⟩:∃ z,z=nn - 1:=⟨_,rfl⟩;have d0:(m:Int) - (a:Int)=(z0:Int):=by omega
 have d1:(b:Int) - (m:Int)=(z1:Int):=by omega
 have d2:(a:Int)+(b:Int)=(z2:Int):=by omega
 have d3:(z2:Int) / 2=(mid:Int):=by omega
 have d4:(mid:Int)+(m:Int)=(nn:Int):=by omega
 have d5:(nn:Int) - 1=(pp:Int):=by omega
 have n0:((z0:Int) == 1)=false:=by simp;omega
 have n1:((z1:Int) == 1)=false:=by simp;omega
 have b0:IntKind.i64.wrap ((m:Int) - (a:Int))=(z0:Int):=by rw [d0];exact IntWalk.i64_in _ (by omega)
 have b1:IntKind.i64.wrap ((b:Int) - (m:Int))=(z1:Int):=by rw [d1];exact IntWalk.i64_in _ (by omega)
 have b4:IntKind.i64.wrap ((mid:Int)+(m:Int))=(nn:Int):=by rw [d4];exact IntWalk.i64_in _ (by omega)
 have b5:IntKind.i64.wrap ((nn:Int) - 1)=(pp:Int):=by rw [d5];exact IntWalk.i64_in _ (by omega)
 have hb2:b≤1000:=by omega
 have ha2:a≤1000:=by omega
 have hm2:m≤1000:=by omega
 have hz22:z2≤2000:=by omega
 have hmid2:mid≤1000:=by omega
 have hnn2:nn≤2000:=by omega
 have HI0:Hid (mid=(a+b) / 2∧nn=mid+m∧pp=nn - 1∧a<mid∧mid<b):=hid (by omega);have HO0:=hid h;have HL:=hid hL;have HA:=hid ha;have HM:=hid hm;have HB:=hid hb;have HX:=hid hX;have HY:=hid hY;have HXY:=hid hXY;have HRX:=hid hRX;have HRY:=hid hRY;have HT:=hid hT;have HC:=hid hc;have HK:=hid hK;have IH:=hid hIH;have HX2:=hid hX2;have HY2:=hid hY2;have hma:a≤m∧m≤b:=by omega
 have hcs:¬ mid<m:=by omega
 obtain ⟨ham,hmb⟩:=hma;clear h hL ha hm hb hX hY hXY hRX hRY hT hc hK hIH hz0 hz1 hz2 hmid hnn hpp hX2 hY2 hcase;go_enter Tryz.func238,Tryz.ntmps238
 · skip
   obtain ⟨lo,hlo⟩:∃ z,z=a:=⟨_,rfl⟩;obtain ⟨hi,hhi⟩:∃ z,z=m:=⟨_,rfl⟩;have HF:Hid (a≤lo∧lo≤hi∧hi≤m∧(lo=a∨nn - lo=b)∧(hi=mid∨hi=m)∧hi≤mid∧mid=(a+b) / 2∧nn=mid+m∧pp=nn - 1∧nn - lo≤b∧b≤L):=hid (by have:=HI0.out;omega);have hcI:¬ (mid:Int)<(m:Int):=by omega
   have Hlo:=hid hlo;have Hhi:=hid hhi;clear hlo hhi;go_upto_region 33 with fail
   go_loopw [20,21] (fun sv rv wr=>∃ (st rr:Nat),sv=.int .i64 st∧rv=.int .i64 rr∧Hid (lo≤st∧rr≤hi)∧st≤rr∧rr≤m ∧
    Hid (st=lo∨∃ x y,X[st - a - 1]?=some x∧Y[mid - st]?=some y∧lt x y)∧Hid (rr=hi∨∃ y x,Y[mid - rr - 1]?=some y∧X[rr - a]?=some x∧lt y x) ∧
    Hid (OwnInt64S base wr (.slice (some ⟨g,0,none⟩) L cap) (P++(X++(Y++S))))∧Hid (w.grownBy wr (some g))) (fun s r _=>(intOf r).toNat - (intOf s).toNat)
   case atStart=>exact ⟨lo,hi,by rw [Hlo.out],by rw [Hhi.out],hid ⟨Nat.le_refl _,Nat.le_refl _⟩,HF.out.2.1,HF.out.2.2.1,hid (.inl rfl),hid (.inl rfl),HO0,hid (World.grownBy.refl _ _)⟩
   case round =>
    obtain ⟨st,rr,rfl,rfl,Hi,hij,hjb,HAs,HBt,HO,HG⟩:=hrel;clear HO0;by_cases hlt:st<rr
    · obtain ⟨z,hz⟩:∃ z,z=st+rr:=⟨_,rfl⟩
      obtain ⟨c,hce⟩:∃ c,c=z / 2:=⟨_,rfl⟩;obtain ⟨d,hd⟩:∃ d,d=pp - c:=⟨_,rfl⟩;have hcc:st≤c∧c<rr:=by omega
      have hx0:c - a<X.length:=by have:=Hi.out;have:=HF.out;have:=HM.out;omega
      have hy0:mid - c - 1<Y.length:=by have:=Hi.out;have:=HF.out;have:=HB.out;omega
      obtain ⟨x,hx⟩:∃ x,X[c - a]?=some x:=⟨_,List.getElem?_eq_getElem hx0⟩;obtain ⟨y,hy⟩:∃ y,Y[mid - c - 1]?=some y:=⟨_,List.getElem?_eq_getElem hy0⟩;obtain ⟨xn,hxn,hxe⟩:=HRX.out x (List.mem_of_getElem? hx);obtain ⟨yn,hyn,hye⟩:=HRY.out y (List.mem_of_getElem? hy);subst hxe;subst hye;have hxy:xn<yn:=by have:=HXY.out _ (List.mem_of_getElem? hx) _ (List.mem_of_getElem? hy);omega
      have c1:=Own.atI HO.out HL.out (i:=d) (x:=(yn:Int)) (by
       have hdd:d=P.length+(X.length+(mid - c - 1)):=by have:=Hi.out;have:=HF.out;have:=HM.out;have:=HA.out;omega
       rw [hdd,List.getElem?_append_right (by omega),Nat.add_sub_cancel_left,List.getElem?_append_right (by omega),Nat.add_sub_cancel_left,List.getElem?_append_left hy0];exact hy)
      have c2:=Own.atI HO.out HL.out (i:=c) (x:=(xn:Int)) (by
       have hdd:c=P.length+(c - a):=by have:=Hi.out;have:=HF.out;have:=HA.out;omega
       rw [hdd,List.getElem?_append_right (by omega),Nat.add_sub_cancel_left,List.getElem?_append_left (by omega)];have e:P.length+(c - a) - a=c - a:=by have:=HA.out;omega
       first | exact hx | (rw [← hdd];exact hx))
      have f1:=cell_regrown c1.1;have f2:=cell_regrown c2.1;have Hcon:=hid (fun d os=>HC.out (grow (redrawn wr d) os) (grownBy_trans HG.out (below_grownY (below_regrown wr d os) _)) yn xn hyn hxn);have e1:(st:Int)+(rr:Int)=(z:Int):=by omega
      have e2:(z:Int) / 2=(c:Int):=by omega
      have e3:(pp:Int) - (c:Int)=(d:Int):=by have:=Hi.out;have:=HF.out;omega
      have e3w:IntKind.i64.wrap ((pp:Int) - (c:Int))=(d:Int):=by rw [e3];exact IntWalk.i64_in _ (by have:=HF.out;omega)
      have hdb:d≤2000:=by have:=HF.out;omega
      have e3x:IntKind.i64.wrap (d:Int)=(d:Int):=IntWalk.i64_in _ (by omega);have hzb:z≤2000:=by omega
      have hcL:(c:Int)<(L:Int):=by have:=HF.out;omega
      have hdL:(d:Int)<(L:Int):=by have:=Hi.out;have:=HF.out;omega
      have hcb:c≤1000:=by omega
      have hltI:(st:Int)<(rr:Int):=by omega
      have Hcc:=hid hcc;have Hx:=hid hx;have Hy:=hid hy;have Hxy:=hid hxy;have Hyn:=hid hyn;clear c1 c2 hz hce hd hcc hx hy hxy hyn hx0 hy0;by_cases hlv:cf (yn:Int) (xn:Int)<0
      · go_upto_region 35 with fail
        refine wp_region_quiet_below (by kernel_rfl) (by kernel_rfl) ?_
        repeat ((with_reducible refine wpQuiet_step (fun K hK=>?_));go_simp;first | ((with_reducible refine hK _ ?_);clear hK K) | (apply Exists.intro;refine ⟨fun _=>?_,hK _ ?_⟩;((first | (go_at_call 229;with_reducible exact qb_below (Hcon.out _ _))));clear hK K))
        refine wpQuiet_nil ?_
        intro _ hw';obtain ⟨⟨dq,osq⟩,hw''⟩:=hw';subst hw'';have hbq:=below_regrown wr dq osq;generalize grow (redrawn wr dq) osq=wq at hbq ⊢;have HO2:=hid (Own.below HO.out hbq (Nat.le_refl _));have HG2:=hid (grownBy_trans HG.out (below_grownY hbq _));have HBt2:Hid (c=hi∨∃ y x,Y[mid - c - 1]?=some y∧X[c - a]?=some x∧lt y x):=hid (.inr ⟨_,_,Hy.out,Hx.out,HT.out.yes xn yn Hxy.out Hyn.out hlv⟩);clear hbq f1 f2;go_wp2
        go_roundw
        case rel=>exact ⟨st,c,rfl,rfl,hid ⟨Hi.out.1,by have:=Hi.out;have:=Hcc.out;omega⟩,Hcc.out.1,by have:=Hcc.out;omega,HAs,HBt2,HO2,HG2⟩
        case measure=>have:=Hcc.out;simp [intOf] <;> omega
      · go_upto_region 35 with fail
        refine wp_region_quiet_below (by kernel_rfl) (by kernel_rfl) ?_
        repeat ((with_reducible refine wpQuiet_step (fun K hK=>?_));go_simp;first | ((with_reducible refine hK _ ?_);clear hK K) | (apply Exists.intro;refine ⟨fun _=>?_,hK _ ?_⟩;((first | (go_at_call 229;with_reducible exact qb_below (Hcon.out _ _))));clear hK K))
        refine wpQuiet_nil ?_
        intro _ hw';obtain ⟨⟨dq,osq⟩,hw''⟩:=hw';subst hw'';have hbq:=below_regrown wr dq osq;generalize grow (redrawn wr dq) osq=wq at hbq ⊢;have HO2:=hid (Own.below HO.out hbq (Nat.le_refl _));have HG2:=hid (grownBy_trans HG.out (below_grownY hbq _));have HAs2:Hid (c+1=lo∨∃ x y,X[c+1 - a - 1]?=some x∧Y[mid - (c+1)]?=some y∧lt x y):=hid (.inr ⟨_,_,by rw [show c+1 - a - 1=c - a by have:=Hi.out;have:=HF.out;have:=Hcc.out;omega];exact Hx.out,by rw [show mid - (c+1)=mid - c - 1 by omega];exact Hy.out,HT.out.no xn yn Hxy.out Hyn.out hlv⟩);clear hbq f1 f2;go_wp2
        go_roundw
        case rel=>exact ⟨c+1,rr,by go_num,rfl,hid ⟨by have:=Hi.out;have:=Hcc.out;omega,Hi.out.2⟩,by have:=Hcc.out;omega,hjb,HAs2,HBt,HO2,HG2⟩
        case measure=>have:=Hcc.out;simp [intOf] <;> omega
    · have hst:st=rr:=by omega
      subst hst;obtain ⟨en,hen⟩:∃ en,en=nn - st:=⟨_,rfl⟩;have HCut:Hid (Cut lt X Y a m b mid nn st en):=hid (by
       have h1:=Hi.out;have h2:=HF.out;have h3:=HM.out;have h4:=HB.out;refine ⟨h2.2.2.2.2.2.2.1,h2.2.2.2.2.2.2.2.1,hen,by omega,by omega,by omega,by omega,by omega,?_,?_⟩
       · rcases HAs.out with e | e
         · rcases h2.2.2.2.1 with e2 | e2
           · exact .inl (by omega)
           · exact .inr (.inl (by omega))
         · exact .inr (.inr e)
       · rcases HBt.out with e | e
         · rcases h2.2.2.2.2.1 with e2 | e2
           · exact .inl (by omega)
           · exact .inr (.inl (by omega))
         · exact .inr (.inr e))
      have e4:(nn:Int) - (st:Int)=(en:Int):=by have:=HCut.out.fen;have:=HCut.out.fnn;have:=HCut.out.l2;omega
      have hnb:nn≤2000:=by have:=HF.out;omega
      have heb:en≤2000:=by have:=HCut.out.e2;omega
      have e4w:IntKind.i64.wrap ((nn:Int) - (st:Int))=(en:Int):=by rw [e4];exact IntWalk.i64_in _ (by omega)
      have hltI:¬ (st:Int)<(st:Int):=by omega
      obtain ⟨s,hs⟩:∃ s,s=st - a:=⟨_,rfl⟩;obtain ⟨t,ht⟩:∃ t,t=mid - st:=⟨_,rfl⟩;have Hs:=hid hs;have Ht:=hid ht;clear hs ht hen HAs HBt;go_upto_region 39 with fail
      by_cases g0:st<m∧m<en
      · obtain ⟨g01,g02⟩:=g0
        have g01I:(st:Int)<(m:Int):=by omega
        have g02I:(m:Int)<(en:Int):=by omega
        have hO3:OwnInt64S base wr (.slice (some ⟨g,0,none⟩) L cap) ((P++X.take s)++(X.drop s++(Y.take t++(Y.drop t++S)))):=by
         have e:=HO.out;rw [← List.append_assoc (Y.take t),List.take_append_drop,List.append_assoc,← List.append_assoc (X.take s),List.take_append_drop];exact e
        have HO3:=hid hO3;clear hO3;go_wp2_with fail
        all_goals
         with_reducible refine (rotate_c (P:=P++X.take s) (A:=X.drop s) (B:=Y.take t) (S:=Y.drop t++S) (a:=st) (m:=m) (b:=en) HO3.out ?_ hl ?_ ?_ ?_ ?_ ?_).mono ?_
         · rw [HL.out];simp only [List.length_append,List.length_drop,List.length_take];have:=HM.out;have:=HB.out;have:=Hs.out;have:=Ht.out;have:=HCut.out.hi;have:=HCut.out.fnn;have:=HCut.out.fen;have:=HCut.out.e2;omega
         · rw [List.length_append,List.length_take];have:=HA.out;have:=HM.out;have:=Hs.out;have:=HCut.out.hi;have:=HCut.out.lo;omega
         · rw [List.length_drop];have:=HM.out;have:=Hs.out;have:=HCut.out.lo;omega
         · rw [List.length_take];have:=HCut.out.fnn;have:=HCut.out.fen;have:=HCut.out.e2;have:=HB.out;have:=Ht.out;have:=HCut.out.l2;omega
         · rw [List.length_drop];have:=HM.out;have:=Hs.out;have:=HCut.out.lo;omega
         · rw [List.length_take];have:=HCut.out.fnn;have:=HCut.out.fen;have:=HCut.out.e2;have:=HB.out;have:=Ht.out;have:=HCut.out.l2;omega
         rintro e wy ⟨rfl,hO4,hg4⟩
         have HOy:Hid (OwnInt64S base wy (.slice (some ⟨g,0,none⟩) L cap) (P++((X.take s)++(Y.take t++(X.drop s++(Y.drop t++S)))))):=hid (by have e:=hO4;rw [List.append_assoc] at e;exact e);have HOy:Hid (OwnInt64S base wy (.slice (some ⟨g,0,none⟩) L cap) (P++(X.take s++(Y.take t++(X.drop s++(Y.drop t++S)))))):=HOy;have HGy:=hid (grownBy_trans HG.out hg4);clear hO4 hg4 HO3 HO;by_cases g1:a<st∧st<mid
         · obtain ⟨g11,g12⟩:=g1
           have g11I:(a:Int)<(st:Int):=by omega
           have g12I:(st:Int)<(mid:Int):=by omega
           go_wp2_with fail
           all_goals
            with_reducible refine (IH.out P (X.take s) (Y.take t) (X.drop s++(Y.drop t++S)) a st mid wy ?_ ?_ ?_ ?_ ?_ HA.out ?_ ?_ (pw_sub HX.out s).1 (pw_sub HY.out t).1 (fun x hx y hy=>HXY.out x (List.mem_of_mem_take hx) y (List.mem_of_mem_take hy)) (HRX.out.sub s).1 (HRY.out.sub t).1 (HC.out.on HGy.out)).mono ?_
            · rw [List.length_take,List.length_take];have:=HCut.out.fmid;have:=HCut.out.lo;have:=HCut.out.hi;have:=HCut.out.l2;have:=HCut.out.e2;have:=HM.out;have:=HB.out;have:=Hs.out;have:=Ht.out;have:=HK.out;omega
            · rw [List.length_take];have:=HM.out;have:=Hs.out;have:=HCut.out.hi;omega
            · rw [List.length_take];have:=HCut.out.fnn;have:=HCut.out.fen;have:=HCut.out.e2;have:=HB.out;have:=Ht.out;omega
            · exact HOy.out
            · rw [HL.out];simp only [List.length_append,List.length_drop,List.length_take];have:=HM.out;have:=HB.out;have:=Hs.out;have:=Ht.out;have:=HCut.out.hi;have:=HCut.out.fnn;have:=HCut.out.fen;have:=HCut.out.e2;omega
            · rw [List.length_take];have:=HM.out;have:=Hs.out;have:=HCut.out.hi;have:=HCut.out.lo;omega
            · rw [List.length_take];have:=HCut.out.fnn;have:=HCut.out.fen;have:=HCut.out.e2;have:=HB.out;have:=Ht.out;have:=HCut.out.l2;omega
            rintro e wz ⟨rfl,⟨Z1,hp1,hw1,hO1⟩,hg7⟩
            have HZ1:=hid (show Z1.Perm (X.take s++Y.take t)∧Z1.Pairwise lt from ⟨hp1,hw1⟩);have HOz:=hid hO1;have HGz:=hid (grownBy_trans HGy.out hg7);clear hp1 hw1 hO1 hg7 HOy;by_cases g2:mid<en∧en<b
            · obtain ⟨g21,g22⟩:=g2
              have g21I:(mid:Int)<(en:Int):=by omega
              have g22I:(en:Int)<(b:Int):=by omega
              go_wp2_with fail
              all_goals
               with_reducible refine (IH.out (P++Z1) (X.drop s) (Y.drop t) S mid en b wz ?_ ?_ ?_ ?_ ?_ ?_ ?_ ?_ (pw_sub HX.out s).2 (pw_sub HY.out t).2 (fun x hx y hy=>HXY.out x (List.mem_of_mem_drop hx) y (List.mem_of_mem_drop hy)) (HRX.out.sub s).2 (HRY.out.sub t).2 (HC.out.on HGz.out)).mono ?_
               · rw [List.length_drop,List.length_drop];have:=HCut.out.fmid;have:=HCut.out.lo;have:=HCut.out.hi;have:=HCut.out.l2;have:=HCut.out.e2;have:=HM.out;have:=HB.out;have:=Hs.out;have:=Ht.out;have:=HK.out;omega
               · rw [List.length_drop];have:=HCut.out.fnn;have:=HCut.out.fen;have:=HCut.out.e1;have:=HM.out;have:=Hs.out;have:=HCut.out.lo;omega
               · rw [List.length_drop];have:=HCut.out.fnn;have:=HCut.out.fen;have:=HCut.out.l2;have:=HCut.out.fmid;have:=HB.out;have:=Ht.out;omega
               · have e:=HOz.out;rw [List.append_assoc];exact e
               · rw [HL.out];have e:=HZ1.out.1.length_eq;simp only [List.length_append,List.length_drop,List.length_take] at e ⊢;have:=HM.out;have:=HB.out;have:=Hs.out;have:=Ht.out;have:=HCut.out.lo;have:=HCut.out.hi;have:=HCut.out.fnn;have:=HCut.out.fen;have:=HCut.out.e2;have:=HCut.out.l2;omega
               · have e:=HZ1.out.1.length_eq;simp only [List.length_append,List.length_take] at e ⊢;have:=HA.out;have:=HM.out;have:=HB.out;have:=Hs.out;have:=Ht.out;have:=HCut.out.lo;have:=HCut.out.hi;have:=HCut.out.fnn;have:=HCut.out.fen;have:=HCut.out.e2;have:=HCut.out.l2;omega
               · rw [List.length_drop];have:=HCut.out.fnn;have:=HCut.out.fen;have:=HCut.out.l2;have:=HCut.out.e1;have:=HM.out;have:=Hs.out;have:=HCut.out.lo;omega
               · rw [List.length_drop];have:=HCut.out.fnn;have:=HCut.out.fen;have:=HCut.out.l2;have:=HCut.out.e2;have:=HB.out;have:=Ht.out;omega
               rintro e w8 ⟨rfl,⟨Z2,hp2,hw2,hO2⟩,hg8⟩
               have hh:=halves (X:=X) (Y:=Y) ⟨fun a _ b _ c _=>HT.out.tr a b c⟩ HX.out HY.out (by have:=HCut.out.hA;rw [Hs.out,Ht.out];exact this) (by have:=HCut.out.hB;rw [Hs.out,Ht.out];exact this) HZ1.out.1 hp2 HZ1.out.2 hw2;have HH:=hid hh;have HO8:Hid (OwnInt64S base w8 (.slice (some ⟨g,0,none⟩) L cap) (P++((Z1++Z2)++S))):=hid (by have e:=hO2;rw [List.append_assoc] at e;rw [List.append_assoc];exact e);have HG8:=hid (grownBy_trans HGz.out hg8);clear hp2 hw2 hO2 hg8 hh HOz;go_wp2
               all_goals go_end0
               all_goals exact ⟨rfl,⟨_,HH.out.2,HH.out.1,HO8.out⟩,HG8.out⟩
            · have hno:X.drop s=[]∨Y.drop t=[]:=by
               have:=HCut.out.fnn;have:=HCut.out.fen;have:=HCut.out.l2;have:=HCut.out.e1;have:=HCut.out.e2;have:=HM.out;have:=HB.out;have:=Hs.out;have:=Ht.out;have:=HCut.out.lo;have:=HCut.out.hi;rcases Nat.lt_or_ge mid en with h1 | h1
               · right;rw [List.drop_eq_nil_iff];omega
               · left;rw [List.drop_eq_nil_iff];omega
              have hh:(Z1++(X.drop s++Y.drop t)).Pairwise lt∧(Z1++(X.drop s++Y.drop t)).Perm (X++Y) :=
               halves (X:=X) (Y:=Y) ⟨fun a _ b _ c _=>HT.out.tr a b c⟩ HX.out HY.out (by have:=HCut.out.hA;rw [Hs.out,Ht.out];exact this) (by have:=HCut.out.hB;rw [Hs.out,Ht.out];exact this) HZ1.out.1 (List.Perm.refl _) HZ1.out.2 (by
                rcases hno with e | e
                · rw [e,List.nil_append];exact (pw_sub HY.out t).2
                · rw [e,List.append_nil];exact (pw_sub HX.out s).2)
              have HH:=hid hh;have HO8:Hid (OwnInt64S base wz (.slice (some ⟨g,0,none⟩) L cap) (P++((Z1++(X.drop s++Y.drop t))++S))):=hid (by have e:=HOz.out;rw [List.append_assoc,List.append_assoc];exact e);clear hno hh HOz;rcases Nat.lt_or_ge mid en with h1 | h1
              · have h2:¬ (en:Int)<(b:Int):=by omega
                have h1I:(mid:Int)<(en:Int):=by omega
                go_wp2
                all_goals go_end0
                all_goals exact ⟨rfl,⟨_,HH.out.2,HH.out.1,HO8.out⟩,HGz.out⟩
              · have h1I:¬ (mid:Int)<(en:Int):=by omega
                go_wp2
                all_goals go_end0
                all_goals exact ⟨rfl,⟨_,HH.out.2,HH.out.1,HO8.out⟩,HGz.out⟩
         · have hno:X.take s=[]∨Y.take t=[]:=by
            have:=Hs.out;have:=Ht.out;have:=HCut.out.lo;have:=HCut.out.l2;rcases Nat.lt_or_ge a st with h1 | h1
            · right;rw [List.take_eq_nil_iff];left;omega
            · left;rw [List.take_eq_nil_iff];left;omega
           obtain ⟨Z1,hZ1⟩:∃ Z1,Z1=X.take s++Y.take t:=⟨_,rfl⟩;have HZ1:Hid (Z1.Perm (X.take s++Y.take t)∧Z1.Pairwise lt):=hid (by
            rw [hZ1];refine ⟨List.Perm.refl _,?_⟩
            rcases hno with e | e
            · rw [e,List.nil_append];exact (pw_sub HY.out t).1
            · rw [e,List.append_nil];exact (pw_sub HX.out s).1)
           have HOz:Hid (OwnInt64S base wy (.slice (some ⟨g,0,none⟩) L cap) (P++(Z1++(X.drop s++(Y.drop t++S))))):=hid (by have e:=HOy.out;rw [hZ1,List.append_assoc];exact e);clear hno hZ1 HOy;rcases Nat.lt_or_ge a st with h1 | h1
           · have h2:¬ (st:Int)<(mid:Int):=by omega
             have h1I:(a:Int)<(st:Int):=by omega
             by_cases g2:mid<en∧en<b
             · obtain ⟨g21,g22⟩:=g2
               have g21I:(mid:Int)<(en:Int):=by omega
               have g22I:(en:Int)<(b:Int):=by omega
               go_wp2_with fail
               all_goals
                with_reducible refine (IH.out (P++Z1) (X.drop s) (Y.drop t) S mid en b wy ?_ ?_ ?_ ?_ ?_ ?_ ?_ ?_ (pw_sub HX.out s).2 (pw_sub HY.out t).2 (fun x hx y hy=>HXY.out x (List.mem_of_mem_drop hx) y (List.mem_of_mem_drop hy)) (HRX.out.sub s).2 (HRY.out.sub t).2 (HC.out.on HGy.out)).mono ?_
                · rw [List.length_drop,List.length_drop];have:=HCut.out.fmid;have:=HCut.out.lo;have:=HCut.out.hi;have:=HCut.out.l2;have:=HCut.out.e2;have:=HM.out;have:=HB.out;have:=Hs.out;have:=Ht.out;have:=HK.out;omega
                · rw [List.length_drop];have:=HCut.out.fnn;have:=HCut.out.fen;have:=HCut.out.e1;have:=HM.out;have:=Hs.out;have:=HCut.out.lo;omega
                · rw [List.length_drop];have:=HCut.out.fnn;have:=HCut.out.fen;have:=HCut.out.l2;have:=HCut.out.fmid;have:=HB.out;have:=Ht.out;omega
                · have e:=HOz.out;rw [List.append_assoc];exact e
                · rw [HL.out];have e:=HZ1.out.1.length_eq;simp only [List.length_append,List.length_drop,List.length_take] at e ⊢;have:=HM.out;have:=HB.out;have:=Hs.out;have:=Ht.out;have:=HCut.out.lo;have:=HCut.out.hi;have:=HCut.out.fnn;have:=HCut.out.fen;have:=HCut.out.e2;have:=HCut.out.l2;omega
                · have e:=HZ1.out.1.length_eq;simp only [List.length_append,List.length_take] at e ⊢;have:=HA.out;have:=HM.out;have:=HB.out;have:=Hs.out;have:=Ht.out;have:=HCut.out.lo;have:=HCut.out.hi;have:=HCut.out.fnn;have:=HCut.out.fen;have:=HCut.out.e2;have:=HCut.out.l2;omega
                · rw [List.length_drop];have:=HCut.out.fnn;have:=HCut.out.fen;have:=HCut.out.l2;have:=HCut.out.e1;have:=HM.out;have:=Hs.out;have:=HCut.out.lo;omega
                · rw [List.length_drop];have:=HCut.out.fnn;have:=HCut.out.fen;have:=HCut.out.l2;have:=HCut.out.e2;have:=HB.out;have:=Ht.out;omega
                rintro e w8 ⟨rfl,⟨Z2,hp2,hw2,hO2⟩,hg8⟩
                have hh:=halves (X:=X) (Y:=Y) ⟨fun a _ b _ c _=>HT.out.tr a b c⟩ HX.out HY.out (by have:=HCut.out.hA;rw [Hs.out,Ht.out];exact this) (by have:=HCut.out.hB;rw [Hs.out,Ht.out];exact this) HZ1.out.1 hp2 HZ1.out.2 hw2;have HH:=hid hh;have HO8:Hid (OwnInt64S base w8 (.slice (some ⟨g,0,none⟩) L cap) (P++((Z1++Z2)++S))):=hid (by have e:=hO2;rw [List.append_assoc] at e;rw [List.append_assoc];exact e);have HG8:=hid (grownBy_trans HGy.out hg8);clear hp2 hw2 hO2 hg8 hh HOz;go_wp2
                all_goals go_end0
                all_goals exact ⟨rfl,⟨_,HH.out.2,HH.out.1,HO8.out⟩,HG8.out⟩
             · have hno:X.drop s=[]∨Y.drop t=[]:=by
                have:=HCut.out.fnn;have:=HCut.out.fen;have:=HCut.out.l2;have:=HCut.out.e1;have:=HCut.out.e2;have:=HM.out;have:=HB.out;have:=Hs.out;have:=Ht.out;have:=HCut.out.lo;have:=HCut.out.hi;rcases Nat.lt_or_ge mid en with h1 | h1
                · right;rw [List.drop_eq_nil_iff];omega
                · left;rw [List.drop_eq_nil_iff];omega
               have hh:(Z1++(X.drop s++Y.drop t)).Pairwise lt∧(Z1++(X.drop s++Y.drop t)).Perm (X++Y) :=
                halves (X:=X) (Y:=Y) ⟨fun a _ b _ c _=>HT.out.tr a b c⟩ HX.out HY.out (by have:=HCut.out.hA;rw [Hs.out,Ht.out];exact this) (by have:=HCut.out.hB;rw [Hs.out,Ht.out];exact this) HZ1.out.1 (List.Perm.refl _) HZ1.out.2 (by
                 rcases hno with e | e
                 · rw [e,List.nil_append];exact (pw_sub HY.out t).2
                 · rw [e,List.append_nil];exact (pw_sub HX.out s).2)
               have HH:=hid hh;have HO8:Hid (OwnInt64S base wy (.slice (some ⟨g,0,none⟩) L cap) (P++((Z1++(X.drop s++Y.drop t))++S))):=hid (by have e:=HOz.out;rw [List.append_assoc,List.append_assoc];exact e);clear hno hh HOz;rcases Nat.lt_or_ge mid en with h1 | h1
               · have h2:¬ (en:Int)<(b:Int):=by omega
                 have h1I:(mid:Int)<(en:Int):=by omega
                 go_wp2
                 all_goals go_end0
                 all_goals exact ⟨rfl,⟨_,HH.out.2,HH.out.1,HO8.out⟩,HGy.out⟩
               · have h1I:¬ (mid:Int)<(en:Int):=by omega
                 go_wp2
                 all_goals go_end0
                 all_goals exact ⟨rfl,⟨_,HH.out.2,HH.out.1,HO8.out⟩,HGy.out⟩
           · have h1I:¬ (a:Int)<(st:Int):=by omega
             by_cases g2:mid<en∧en<b
             · obtain ⟨g21,g22⟩:=g2
               have g21I:(mid:Int)<(en:Int):=by omega
               have g22I:(en:Int)<(b:Int):=by omega
               go_wp2_with fail
               all_goals
                with_reducible refine (IH.out (P++Z1) (X.drop s) (Y.drop t) S mid en b wy ?_ ?_ ?_ ?_ ?_ ?_ ?_ ?_ (pw_sub HX.out s).2 (pw_sub HY.out t).2 (fun x hx y hy=>HXY.out x (List.mem_of_mem_drop hx) y (List.mem_of_mem_drop hy)) (HRX.out.sub s).2 (HRY.out.sub t).2 (HC.out.on HGy.out)).mono ?_
                · rw [List.length_drop,List.length_drop];have:=HCut.out.fmid;have:=HCut.out.lo;have:=HCut.out.hi;have:=HCut.out.l2;have:=HCut.out.e2;have:=HM.out;have:=HB.out;have:=Hs.out;have:=Ht.out;have:=HK.out;omega
                · rw [List.length_drop];have:=HCut.out.fnn;have:=HCut.out.fen;have:=HCut.out.e1;have:=HM.out;have:=Hs.out;have:=HCut.out.lo;omega
                · rw [List.length_drop];have:=HCut.out.fnn;have:=HCut.out.fen;have:=HCut.out.l2;have:=HCut.out.fmid;have:=HB.out;have:=Ht.out;omega
                · have e:=HOz.out;rw [List.append_assoc];exact e
                · rw [HL.out];have e:=HZ1.out.1.length_eq;simp only [List.length_append,List.length_drop,List.length_take] at e ⊢;have:=HM.out;have:=HB.out;have:=Hs.out;have:=Ht.out;have:=HCut.out.lo;have:=HCut.out.hi;have:=HCut.out.fnn;have:=HCut.out.fen;have:=HCut.out.e2;have:=HCut.out.l2;omega
                · have e:=HZ1.out.1.length_eq;simp only [List.length_append,List.length_take] at e ⊢;have:=HA.out;have:=HM.out;have:=HB.out;have:=Hs.out;have:=Ht.out;have:=HCut.out.lo;have:=HCut.out.hi;have:=HCut.out.fnn;have:=HCut.out.fen;have:=HCut.out.e2;have:=HCut.out.l2;omega
                · rw [List.length_drop];have:=HCut.out.fnn;have:=HCut.out.fen;have:=HCut.out.l2;have:=HCut.out.e1;have:=HM.out;have:=Hs.out;have:=HCut.out.lo;omega
                · rw [List.length_drop];have:=HCut.out.fnn;have:=HCut.out.fen;have:=HCut.out.l2;have:=HCut.out.e2;have:=HB.out;have:=Ht.out;omega
                rintro e w8 ⟨rfl,⟨Z2,hp2,hw2,hO2⟩,hg8⟩
                have hh:=halves (X:=X) (Y:=Y) ⟨fun a _ b _ c _=>HT.out.tr a b c⟩ HX.out HY.out (by have:=HCut.out.hA;rw [Hs.out,Ht.out];exact this) (by have:=HCut.out.hB;rw [Hs.out,Ht.out];exact this) HZ1.out.1 hp2 HZ1.out.2 hw2;have HH:=hid hh;have HO8:Hid (OwnInt64S base w8 (.slice (some ⟨g,0,none⟩) L cap) (P++((Z1++Z2)++S))):=hid (by have e:=hO2;rw [List.append_assoc] at e;rw [List.append_assoc];exact e);have HG8:=hid (grownBy_trans HGy.out hg8);clear hp2 hw2 hO2 hg8 hh HOz;go_wp2
                all_goals go_end0
                all_goals exact ⟨rfl,⟨_,HH.out.2,HH.out.1,HO8.out⟩,HG8.out⟩
             · have hno:X.drop s=[]∨Y.drop t=[]:=by
                have:=HCut.out.fnn;have:=HCut.out.fen;have:=HCut.out.l2;have:=HCut.out.e1;have:=HCut.out.e2;have:=HM.out;have:=HB.out;have:=Hs.out;have:=Ht.out;have:=HCut.out.lo;have:=HCut.out.hi;rcases Nat.lt_or_ge mid en with h1 | h1
                · right;rw [List.drop_eq_nil_iff];omega
                · left;rw [List.drop_eq_nil_iff];omega
               have hh:(Z1++(X.drop s++Y.drop t)).Pairwise lt∧(Z1++(X.drop s++Y.drop t)).Perm (X++Y) :=
                halves (X:=X) (Y:=Y) ⟨fun a _ b _ c _=>HT.out.tr a b c⟩ HX.out HY.out (by have:=HCut.out.hA;rw [Hs.out,Ht.out];exact this) (by have:=HCut.out.hB;rw [Hs.out,Ht.out];exact this) HZ1.out.1 (List.Perm.refl _) HZ1.out.2 (by
                 rcases hno with e | e
                 · rw [e,List.nil_append];exact (pw_sub HY.out t).2
                 · rw [e,List.append_nil];exact (pw_sub HX.out s).2)
               have HH:=hid hh;have HO8:Hid (OwnInt64S base wy (.slice (some ⟨g,0,none⟩) L cap) (P++((Z1++(X.drop s++Y.drop t))++S))):=hid (by have e:=HOz.out;rw [List.append_assoc,List.append_assoc];exact e);clear hno hh HOz;rcases Nat.lt_or_ge mid en with h1 | h1
               · have h2:¬ (en:Int)<(b:Int):=by omega
                 have h1I:(mid:Int)<(en:Int):=by omega
                 go_wp2
                 all_goals go_end0
                 all_goals exact ⟨rfl,⟨_,HH.out.2,HH.out.1,HO8.out⟩,HGy.out⟩
               · have h1I:¬ (mid:Int)<(en:Int):=by omega
                 go_wp2
                 all_goals go_end0
                 all_goals exact ⟨rfl,⟨_,HH.out.2,HH.out.1,HO8.out⟩,HGy.out⟩
      · have hno:X.drop s=[]∨Y.take t=[]:=by
         have:=Hs.out;have:=Ht.out;have:=HCut.out.lo;have:=HCut.out.hi;have:=HCut.out.fnn;have:=HCut.out.fen;have:=HCut.out.l2;have:=HM.out;have:=HCut.out.e1;rcases Nat.lt_or_ge st m with h1 | h1
         · right;rw [List.take_eq_nil_iff];left;omega
         · left;rw [List.drop_eq_nil_iff];omega
        have HOy:Hid (OwnInt64S base wr (.slice (some ⟨g,0,none⟩) L cap) (P++(X.take s++(Y.take t++(X.drop s++(Y.drop t++S)))))):=hid (by
         have e:=HO.out;have e1:X++(Y++S)=X.take s++(X.drop s++(Y.take t++(Y.drop t++S))):=by
          rw [← List.append_assoc (Y.take t),List.take_append_drop,← List.append_assoc (X.take s),List.take_append_drop]
         rw [e1] at e;rcases hno with e2 | e2
         · rw [e2,List.nil_append] at e ⊢;exact e
         · rw [e2,List.nil_append] at e ⊢;exact e)
        clear hno HO;rcases Nat.lt_or_ge st m with h1 | h1
        · have h2:¬ (m:Int)<(en:Int):=by omega
          have h1I:(st:Int)<(m:Int):=by omega
          by_cases g1:a<st∧st<mid
          · obtain ⟨g11,g12⟩:=g1
            have g11I:(a:Int)<(st:Int):=by omega
            have g12I:(st:Int)<(mid:Int):=by omega
            go_wp2_with fail
            all_goals
             with_reducible refine (IH.out P (X.take s) (Y.take t) (X.drop s++(Y.drop t++S)) a st mid wr ?_ ?_ ?_ ?_ ?_ HA.out ?_ ?_ (pw_sub HX.out s).1 (pw_sub HY.out t).1 (fun x hx y hy=>HXY.out x (List.mem_of_mem_take hx) y (List.mem_of_mem_take hy)) (HRX.out.sub s).1 (HRY.out.sub t).1 (HC.out.on HG.out)).mono ?_
             · rw [List.length_take,List.length_take];have:=HCut.out.fmid;have:=HCut.out.lo;have:=HCut.out.hi;have:=HCut.out.l2;have:=HCut.out.e2;have:=HM.out;have:=HB.out;have:=Hs.out;have:=Ht.out;have:=HK.out;omega
             · rw [List.length_take];have:=HM.out;have:=Hs.out;have:=HCut.out.hi;omega
             · rw [List.length_take];have:=HCut.out.fnn;have:=HCut.out.fen;have:=HCut.out.e2;have:=HB.out;have:=Ht.out;omega
             · exact HOy.out
             · rw [HL.out];simp only [List.length_append,List.length_drop,List.length_take];have:=HM.out;have:=HB.out;have:=Hs.out;have:=Ht.out;have:=HCut.out.hi;have:=HCut.out.fnn;have:=HCut.out.fen;have:=HCut.out.e2;omega
             · rw [List.length_take];have:=HM.out;have:=Hs.out;have:=HCut.out.hi;have:=HCut.out.lo;omega
             · rw [List.length_take];have:=HCut.out.fnn;have:=HCut.out.fen;have:=HCut.out.e2;have:=HB.out;have:=Ht.out;have:=HCut.out.l2;omega
             rintro e wz ⟨rfl,⟨Z1,hp1,hw1,hO1⟩,hg7⟩
             have HZ1:=hid (show Z1.Perm (X.take s++Y.take t)∧Z1.Pairwise lt from ⟨hp1,hw1⟩);have HOz:=hid hO1;have HGz:=hid (grownBy_trans HG.out hg7);clear hp1 hw1 hO1 hg7 HOy;by_cases g2:mid<en∧en<b
             · obtain ⟨g21,g22⟩:=g2
               have g21I:(mid:Int)<(en:Int):=by omega
               have g22I:(en:Int)<(b:Int):=by omega
               go_wp2_with fail
               all_goals
                with_reducible refine (IH.out (P++Z1) (X.drop s) (Y.drop t) S mid en b wz ?_ ?_ ?_ ?_ ?_ ?_ ?_ ?_ (pw_sub HX.out s).2 (pw_sub HY.out t).2 (fun x hx y hy=>HXY.out x (List.mem_of_mem_drop hx) y (List.mem_of_mem_drop hy)) (HRX.out.sub s).2 (HRY.out.sub t).2 (HC.out.on HGz.out)).mono ?_
                · rw [List.length_drop,List.length_drop];have:=HCut.out.fmid;have:=HCut.out.lo;have:=HCut.out.hi;have:=HCut.out.l2;have:=HCut.out.e2;have:=HM.out;have:=HB.out;have:=Hs.out;have:=Ht.out;have:=HK.out;omega
                · rw [List.length_drop];have:=HCut.out.fnn;have:=HCut.out.fen;have:=HCut.out.e1;have:=HM.out;have:=Hs.out;have:=HCut.out.lo;omega
                · rw [List.length_drop];have:=HCut.out.fnn;have:=HCut.out.fen;have:=HCut.out.l2;have:=HCut.out.fmid;have:=HB.out;have:=Ht.out;omega
                · have e:=HOz.out;rw [List.append_assoc];exact e
                · rw [HL.out];have e:=HZ1.out.1.length_eq;simp only [List.length_append,List.length_drop,List.length_take] at e ⊢;have:=HM.out;have:=HB.out;have:=Hs.out;have:=Ht.out;have:=HCut.out.lo;have:=HCut.out.hi;have:=HCut.out.fnn;have:=HCut.out.fen;have:=HCut.out.e2;have:=HCut.out.l2;omega
                · have e:=HZ1.out.1.length_eq;simp only [List.length_append,List.length_take] at e ⊢;have:=HA.out;have:=HM.out;have:=HB.out;have:=Hs.out;have:=Ht.out;have:=HCut.out.lo;have:=HCut.out.hi;have:=HCut.out.fnn;have:=HCut.out.fen;have:=HCut.out.e2;have:=HCut.out.l2;omega
                · rw [List.length_drop];have:=HCut.out.fnn;have:=HCut.out.fen;have:=HCut.out.l2;have:=HCut.out.e1;have:=HM.out;have:=Hs.out;have:=HCut.out.lo;omega
                · rw [List.length_drop];have:=HCut.out.fnn;have:=HCut.out.fen;have:=HCut.out.l2;have:=HCut.out.e2;have:=HB.out;have:=Ht.out;omega
                rintro e w8 ⟨rfl,⟨Z2,hp2,hw2,hO2⟩,hg8⟩
                have hh:=halves (X:=X) (Y:=Y) ⟨fun a _ b _ c _=>HT.out.tr a b c⟩ HX.out HY.out (by have:=HCut.out.hA;rw [Hs.out,Ht.out];exact this) (by have:=HCut.out.hB;rw [Hs.out,Ht.out];exact this) HZ1.out.1 hp2 HZ1.out.2 hw2;have HH:=hid hh;have HO8:Hid (OwnInt64S base w8 (.slice (some ⟨g,0,none⟩) L cap) (P++((Z1++Z2)++S))):=hid (by have e:=hO2;rw [List.append_assoc] at e;rw [List.append_assoc];exact e);have HG8:=hid (grownBy_trans HGz.out hg8);clear hp2 hw2 hO2 hg8 hh HOz;go_wp2
                all_goals go_end0
                all_goals exact ⟨rfl,⟨_,HH.out.2,HH.out.1,HO8.out⟩,HG8.out⟩
             · have hno:X.drop s=[]∨Y.drop t=[]:=by
                have:=HCut.out.fnn;have:=HCut.out.fen;have:=HCut.out.l2;have:=HCut.out.e1;have:=HCut.out.e2;have:=HM.out;have:=HB.out;have:=Hs.out;have:=Ht.out;have:=HCut.out.lo;have:=HCut.out.hi;rcases Nat.lt_or_ge mid en with h1 | h1
                · right;rw [List.drop_eq_nil_iff];omega
                · left;rw [List.drop_eq_nil_iff];omega
               have hh:(Z1++(X.drop s++Y.drop t)).Pairwise lt∧(Z1++(X.drop s++Y.drop t)).Perm (X++Y) :=
                halves (X:=X) (Y:=Y) ⟨fun a _ b _ c _=>HT.out.tr a b c⟩ HX.out HY.out (by have:=HCut.out.hA;rw [Hs.out,Ht.out];exact this) (by have:=HCut.out.hB;rw [Hs.out,Ht.out];exact this) HZ1.out.1 (List.Perm.refl _) HZ1.out.2 (by
                 rcases hno with e | e
                 · rw [e,List.nil_append];exact (pw_sub HY.out t).2
                 · rw [e,List.append_nil];exact (pw_sub HX.out s).2)
               have HH:=hid hh;have HO8:Hid (OwnInt64S base wz (.slice (some ⟨g,0,none⟩) L cap) (P++((Z1++(X.drop s++Y.drop t))++S))):=hid (by have e:=HOz.out;rw [List.append_assoc,List.append_assoc];exact e);clear hno hh HOz;rcases Nat.lt_or_ge mid en with h1 | h1
               · have h2:¬ (en:Int)<(b:Int):=by omega
                 have h1I:(mid:Int)<(en:Int):=by omega
                 go_wp2
                 all_goals go_end0
                 all_goals exact ⟨rfl,⟨_,HH.out.2,HH.out.1,HO8.out⟩,HGz.out⟩
               · have h1I:¬ (mid:Int)<(en:Int):=by omega
                 go_wp2
                 all_goals go_end0
                 all_goals exact ⟨rfl,⟨_,HH.out.2,HH.out.1,HO8.out⟩,HGz.out⟩
          · have hno:X.take s=[]∨Y.take t=[]:=by
             have:=Hs.out;have:=Ht.out;have:=HCut.out.lo;have:=HCut.out.l2;rcases Nat.lt_or_ge a st with h1 | h1
             · right;rw [List.take_eq_nil_iff];left;omega
             · left;rw [List.take_eq_nil_iff];left;omega
            obtain ⟨Z1,hZ1⟩:∃ Z1,Z1=X.take s++Y.take t:=⟨_,rfl⟩;have HZ1:Hid (Z1.Perm (X.take s++Y.take t)∧Z1.Pairwise lt):=hid (by
             rw [hZ1];refine ⟨List.Perm.refl _,?_⟩
             rcases hno with e | e
             · rw [e,List.nil_append];exact (pw_sub HY.out t).1
             · rw [e,List.append_nil];exact (pw_sub HX.out s).1)
            have HOz:Hid (OwnInt64S base wr (.slice (some ⟨g,0,none⟩) L cap) (P++(Z1++(X.drop s++(Y.drop t++S))))):=hid (by have e:=HOy.out;rw [hZ1,List.append_assoc];exact e);clear hno hZ1 HOy;rcases Nat.lt_or_ge a st with h1 | h1
            · have h2:¬ (st:Int)<(mid:Int):=by omega
              have h1I:(a:Int)<(st:Int):=by omega
              by_cases g2:mid<en∧en<b
              · obtain ⟨g21,g22⟩:=g2
                have g21I:(mid:Int)<(en:Int):=by omega
                have g22I:(en:Int)<(b:Int):=by omega
                go_wp2_with fail
                all_goals
                 with_reducible refine (IH.out (P++Z1) (X.drop s) (Y.drop t) S mid en b wr ?_ ?_ ?_ ?_ ?_ ?_ ?_ ?_ (pw_sub HX.out s).2 (pw_sub HY.out t).2 (fun x hx y hy=>HXY.out x (List.mem_of_mem_drop hx) y (List.mem_of_mem_drop hy)) (HRX.out.sub s).2 (HRY.out.sub t).2 (HC.out.on HG.out)).mono ?_
                 · rw [List.length_drop,List.length_drop];have:=HCut.out.fmid;have:=HCut.out.lo;have:=HCut.out.hi;have:=HCut.out.l2;have:=HCut.out.e2;have:=HM.out;have:=HB.out;have:=Hs.out;have:=Ht.out;have:=HK.out;omega
                 · rw [List.length_drop];have:=HCut.out.fnn;have:=HCut.out.fen;have:=HCut.out.e1;have:=HM.out;have:=Hs.out;have:=HCut.out.lo;omega
                 · rw [List.length_drop];have:=HCut.out.fnn;have:=HCut.out.fen;have:=HCut.out.l2;have:=HCut.out.fmid;have:=HB.out;have:=Ht.out;omega
                 · have e:=HOz.out;rw [List.append_assoc];exact e
                 · rw [HL.out];have e:=HZ1.out.1.length_eq;simp only [List.length_append,List.length_drop,List.length_take] at e ⊢;have:=HM.out;have:=HB.out;have:=Hs.out;have:=Ht.out;have:=HCut.out.lo;have:=HCut.out.hi;have:=HCut.out.fnn;have:=HCut.out.fen;have:=HCut.out.e2;have:=HCut.out.l2;omega
                 · have e:=HZ1.out.1.length_eq;simp only [List.length_append,List.length_take] at e ⊢;have:=HA.out;have:=HM.out;have:=HB.out;have:=Hs.out;have:=Ht.out;have:=HCut.out.lo;have:=HCut.out.hi;have:=HCut.out.fnn;have:=HCut.out.fen;have:=HCut.out.e2;have:=HCut.out.l2;omega
                 · rw [List.length_drop];have:=HCut.out.fnn;have:=HCut.out.fen;have:=HCut.out.l2;have:=HCut.out.e1;have:=HM.out;have:=Hs.out;have:=HCut.out.lo;omega
                 · rw [List.length_drop];have:=HCut.out.fnn;have:=HCut.out.fen;have:=HCut.out.l2;have:=HCut.out.e2;have:=HB.out;have:=Ht.out;omega
                 rintro e w8 ⟨rfl,⟨Z2,hp2,hw2,hO2⟩,hg8⟩
                 have hh:=halves (X:=X) (Y:=Y) ⟨fun a _ b _ c _=>HT.out.tr a b c⟩ HX.out HY.out (by have:=HCut.out.hA;rw [Hs.out,Ht.out];exact this) (by have:=HCut.out.hB;rw [Hs.out,Ht.out];exact this) HZ1.out.1 hp2 HZ1.out.2 hw2;have HH:=hid hh;have HO8:Hid (OwnInt64S base w8 (.slice (some ⟨g,0,none⟩) L cap) (P++((Z1++Z2)++S))):=hid (by have e:=hO2;rw [List.append_assoc] at e;rw [List.append_assoc];exact e);have HG8:=hid (grownBy_trans HG.out hg8);clear hp2 hw2 hO2 hg8 hh HOz;go_wp2
                 all_goals go_end0
                 all_goals exact ⟨rfl,⟨_,HH.out.2,HH.out.1,HO8.out⟩,HG8.out⟩
              · have hno:X.drop s=[]∨Y.drop t=[]:=by
                 have:=HCut.out.fnn;have:=HCut.out.fen;have:=HCut.out.l2;have:=HCut.out.e1;have:=HCut.out.e2;have:=HM.out;have:=HB.out;have:=Hs.out;have:=Ht.out;have:=HCut.out.lo;have:=HCut.out.hi;rcases Nat.lt_or_ge mid en with h1 | h1
                 · right;rw [List.drop_eq_nil_iff];omega
                 · left;rw [List.drop_eq_nil_iff];omega
                have hh:(Z1++(X.drop s++Y.drop t)).Pairwise lt∧(Z1++(X.drop s++Y.drop t)).Perm (X++Y) :=
                 halves (X:=X) (Y:=Y) ⟨fun a _ b _ c _=>HT.out.tr a b c⟩ HX.out HY.out (by have:=HCut.out.hA;rw [Hs.out,Ht.out];exact this) (by have:=HCut.out.hB;rw [Hs.out,Ht.out];exact this) HZ1.out.1 (List.Perm.refl _) HZ1.out.2 (by
                  rcases hno with e | e
                  · rw [e,List.nil_append];exact (pw_sub HY.out t).2
                  · rw [e,List.append_nil];exact (pw_sub HX.out s).2)
                have HH:=hid hh;have HO8:Hid (OwnInt64S base wr (.slice (some ⟨g,0,none⟩) L cap) (P++((Z1++(X.drop s++Y.drop t))++S))):=hid (by have e:=HOz.out;rw [List.append_assoc,List.append_assoc];exact e);clear hno hh HOz;rcases Nat.lt_or_ge mid en with h1 | h1
                · have h2:¬ (en:Int)<(b:Int):=by omega
                  have h1I:(mid:Int)<(en:Int):=by omega
                  go_wp2
                  all_goals go_end0
                  all_goals exact ⟨rfl,⟨_,HH.out.2,HH.out.1,HO8.out⟩,HG.out⟩
                · have h1I:¬ (mid:Int)<(en:Int):=by omega
                  go_wp2
                  all_goals go_end0
                  all_goals exact ⟨rfl,⟨_,HH.out.2,HH.out.1,HO8.out⟩,HG.out⟩
            · have h1I:¬ (a:Int)<(st:Int):=by omega
              by_cases g2:mid<en∧en<b
              · obtain ⟨g21,g22⟩:=g2
                have g21I:(mid:Int)<(en:Int):=by omega
                have g22I:(en:Int)<(b:Int):=by omega
                go_wp2_with fail
                all_goals
                 with_reducible refine (IH.out (P++Z1) (X.drop s) (Y.drop t) S mid en b wr ?_ ?_ ?_ ?_ ?_ ?_ ?_ ?_ (pw_sub HX.out s).2 (pw_sub HY.out t).2 (fun x hx y hy=>HXY.out x (List.mem_of_mem_drop hx) y (List.mem_of_mem_drop hy)) (HRX.out.sub s).2 (HRY.out.sub t).2 (HC.out.on HG.out)).mono ?_
                 · rw [List.length_drop,List.length_drop];have:=HCut.out.fmid;have:=HCut.out.lo;have:=HCut.out.hi;have:=HCut.out.l2;have:=HCut.out.e2;have:=HM.out;have:=HB.out;have:=Hs.out;have:=Ht.out;have:=HK.out;omega
                 · rw [List.length_drop];have:=HCut.out.fnn;have:=HCut.out.fen;have:=HCut.out.e1;have:=HM.out;have:=Hs.out;have:=HCut.out.lo;omega
                 · rw [List.length_drop];have:=HCut.out.fnn;have:=HCut.out.fen;have:=HCut.out.l2;have:=HCut.out.fmid;have:=HB.out;have:=Ht.out;omega
                 · have e:=HOz.out;rw [List.append_assoc];exact e
                 · rw [HL.out];have e:=HZ1.out.1.length_eq;simp only [List.length_append,List.length_drop,List.length_take] at e ⊢;have:=HM.out;have:=HB.out;have:=Hs.out;have:=Ht.out;have:=HCut.out.lo;have:=HCut.out.hi;have:=HCut.out.fnn;have:=HCut.out.fen;have:=HCut.out.e2;have:=HCut.out.l2;omega
                 · have e:=HZ1.out.1.length_eq;simp only [List.length_append,List.length_take] at e ⊢;have:=HA.out;have:=HM.out;have:=HB.out;have:=Hs.out;have:=Ht.out;have:=HCut.out.lo;have:=HCut.out.hi;have:=HCut.out.fnn;have:=HCut.out.fen;have:=HCut.out.e2;have:=HCut.out.l2;omega
                 · rw [List.length_drop];have:=HCut.out.fnn;have:=HCut.out.fen;have:=HCut.out.l2;have:=HCut.out.e1;have:=HM.out;have:=Hs.out;have:=HCut.out.lo;omega
                 · rw [List.length_drop];have:=HCut.out.fnn;have:=HCut.out.fen;have:=HCut.out.l2;have:=HCut.out.e2;have:=HB.out;have:=Ht.out;omega
                 rintro e w8 ⟨rfl,⟨Z2,hp2,hw2,hO2⟩,hg8⟩
                 have hh:=halves (X:=X) (Y:=Y) ⟨fun a _ b _ c _=>HT.out.tr a b c⟩ HX.out HY.out (by have:=HCut.out.hA;rw [Hs.out,Ht.out];exact this) (by have:=HCut.out.hB;rw [Hs.out,Ht.out];exact this) HZ1.out.1 hp2 HZ1.out.2 hw2;have HH:=hid hh;have HO8:Hid (OwnInt64S base w8 (.slice (some ⟨g,0,none⟩) L cap) (P++((Z1++Z2)++S))):=hid (by have e:=hO2;rw [List.append_assoc] at e;rw [List.append_assoc];exact e);have HG8:=hid (grownBy_trans HG.out hg8);clear hp2 hw2 hO2 hg8 hh HOz;go_wp2
                 all_goals go_end0
                 all_goals exact ⟨rfl,⟨_,HH.out.2,HH.out.1,HO8.out⟩,HG8.out⟩
              · have hno:X.drop s=[]∨Y.drop t=[]:=by
                 have:=HCut.out.fnn;have:=HCut.out.fen;have:=HCut.out.l2;have:=HCut.out.e1;have:=HCut.out.e2;have:=HM.out;have:=HB.out;have:=Hs.out;have:=Ht.out;have:=HCut.out.lo;have:=HCut.out.hi;rcases Nat.lt_or_ge mid en with h1 | h1
                 · right;rw [List.drop_eq_nil_iff];omega
                 · left;rw [List.drop_eq_nil_iff];omega
                have hh:(Z1++(X.drop s++Y.drop t)).Pairwise lt∧(Z1++(X.drop s++Y.drop t)).Perm (X++Y) :=
                 halves (X:=X) (Y:=Y) ⟨fun a _ b _ c _=>HT.out.tr a b c⟩ HX.out HY.out (by have:=HCut.out.hA;rw [Hs.out,Ht.out];exact this) (by have:=HCut.out.hB;rw [Hs.out,Ht.out];exact this) HZ1.out.1 (List.Perm.refl _) HZ1.out.2 (by
                  rcases hno with e | e
                  · rw [e,List.nil_append];exact (pw_sub HY.out t).2
                  · rw [e,List.append_nil];exact (pw_sub HX.out s).2)
                have HH:=hid hh;have HO8:Hid (OwnInt64S base wr (.slice (some ⟨g,0,none⟩) L cap) (P++((Z1++(X.drop s++Y.drop t))++S))):=hid (by have e:=HOz.out;rw [List.append_assoc,List.append_assoc];exact e);clear hno hh HOz;rcases Nat.lt_or_ge mid en with h1 | h1
                · have h2:¬ (en:Int)<(b:Int):=by omega
                  have h1I:(mid:Int)<(en:Int):=by omega
                  go_wp2
                  all_goals go_end0
                  all_goals exact ⟨rfl,⟨_,HH.out.2,HH.out.1,HO8.out⟩,HG.out⟩
                · have h1I:¬ (mid:Int)<(en:Int):=by omega
                  go_wp2
                  all_goals go_end0
                  all_goals exact ⟨rfl,⟨_,HH.out.2,HH.out.1,HO8.out⟩,HG.out⟩
        · have h1I:¬ (st:Int)<(m:Int):=by omega
          by_cases g1:a<st∧st<mid
          · obtain ⟨g11,g12⟩:=g1
            have g11I:(a:Int)<(st:Int):=by omega
            have g12I:(st:Int)<(mid:Int):=by omega
            go_wp2_with fail
            all_goals
             with_reducible refine (IH.out P (X.take s) (Y.take t) (X.drop s++(Y.drop t++S)) a st mid wr ?_ ?_ ?_ ?_ ?_ HA.out ?_ ?_ (pw_sub HX.out s).1 (pw_sub HY.out t).1 (fun x hx y hy=>HXY.out x (List.mem_of_mem_take hx) y (List.mem_of_mem_take hy)) (HRX.out.sub s).1 (HRY.out.sub t).1 (HC.out.on HG.out)).mono ?_
             · rw [List.length_take,List.length_take];have:=HCut.out.fmid;have:=HCut.out.lo;have:=HCut.out.hi;have:=HCut.out.l2;have:=HCut.out.e2;have:=HM.out;have:=HB.out;have:=Hs.out;have:=Ht.out;have:=HK.out;omega
             · rw [List.length_take];have:=HM.out;have:=Hs.out;have:=HCut.out.hi;omega
             · rw [List.length_take];have:=HCut.out.fnn;have:=HCut.out.fen;have:=HCut.out.e2;have:=HB.out;have:=Ht.out;omega
             · exact HOy.out
             · rw [HL.out];simp only [List.length_append,List.length_drop,List.length_take];have:=HM.out;have:=HB.out;have:=Hs.out;have:=Ht.out;have:=HCut.out.hi;have:=HCut.out.fnn;have:=HCut.out.fen;have:=HCut.out.e2;omega
             · rw [List.length_take];have:=HM.out;have:=Hs.out;have:=HCut.out.hi;have:=HCut.out.lo;omega
             · rw [List.length_take];have:=HCut.out.fnn;have:=HCut.out.fen;have:=HCut.out.e2;have:=HB.out;have:=Ht.out;have:=HCut.out.l2;omega
             rintro e wz ⟨rfl,⟨Z1,hp1,hw1,hO1⟩,hg7⟩
             have HZ1:=hid (show Z1.Perm (X.take s++Y.take t)∧Z1.Pairwise lt from ⟨hp1,hw1⟩);have HOz:=hid hO1;have HGz:=hid (grownBy_trans HG.out hg7);clear hp1 hw1 hO1 hg7 HOy;by_cases g2:mid<en∧en<b
             · obtain ⟨g21,g22⟩:=g2
               have g21I:(mid:Int)<(en:Int):=by omega
               have g22I:(en:Int)<(b:Int):=by omega
               go_wp2_with fail
               all_goals
                with_reducible refine (IH.out (P++Z1) (X.drop s) (Y.drop t) S mid en b wz ?_ ?_ ?_ ?_ ?_ ?_ ?_ ?_ (pw_sub HX.out s).2 (pw_sub HY.out t).2 (fun x hx y hy=>HXY.out x (List.mem_of_mem_drop hx) y (List.mem_of_mem_drop hy)) (HRX.out.sub s).2 (HRY.out.sub t).2 (HC.out.on HGz.out)).mono ?_
                · rw [List.length_drop,List.length_drop];have:=HCut.out.fmid;have:=HCut.out.lo;have:=HCut.out.hi;have:=HCut.out.l2;have:=HCut.out.e2;have:=HM.out;have:=HB.out;have:=Hs.out;have:=Ht.out;have:=HK.out;omega
                · rw [List.length_drop];have:=HCut.out.fnn;have:=HCut.out.fen;have:=HCut.out.e1;have:=HM.out;have:=Hs.out;have:=HCut.out.lo;omega
                · rw [List.length_drop];have:=HCut.out.fnn;have:=HCut.out.fen;have:=HCut.out.l2;have:=HCut.out.fmid;have:=HB.out;have:=Ht.out;omega
                · have e:=HOz.out;rw [List.append_assoc];exact e
                · rw [HL.out];have e:=HZ1.out.1.length_eq;simp only [List.length_append,List.length_drop,List.length_take] at e ⊢;have:=HM.out;have:=HB.out;have:=Hs.out;have:=Ht.out;have:=HCut.out.lo;have:=HCut.out.hi;have:=HCut.out.fnn;have:=HCut.out.fen;have:=HCut.out.e2;have:=HCut.out.l2;omega
                · have e:=HZ1.out.1.length_eq;simp only [List.length_append,List.length_take] at e ⊢;have:=HA.out;have:=HM.out;have:=HB.out;have:=Hs.out;have:=Ht.out;have:=HCut.out.lo;have:=HCut.out.hi;have:=HCut.out.fnn;have:=HCut.out.fen;have:=HCut.out.e2;have:=HCut.out.l2;omega
                · rw [List.length_drop];have:=HCut.out.fnn;have:=HCut.out.fen;have:=HCut.out.l2;have:=HCut.out.e1;have:=HM.out;have:=Hs.out;have:=HCut.out.lo;omega
                · rw [List.length_drop];have:=HCut.out.fnn;have:=HCut.out.fen;have:=HCut.out.l2;have:=HCut.out.e2;have:=HB.out;have:=Ht.out;omega
                rintro e w8 ⟨rfl,⟨Z2,hp2,hw2,hO2⟩,hg8⟩
                have hh:=halves (X:=X) (Y:=Y) ⟨fun a _ b _ c _=>HT.out.tr a b c⟩ HX.out HY.out (by have:=HCut.out.hA;rw [Hs.out,Ht.out];exact this) (by have:=HCut.out.hB;rw [Hs.out,Ht.out];exact this) HZ1.out.1 hp2 HZ1.out.2 hw2;have HH:=hid hh;have HO8:Hid (OwnInt64S base w8 (.slice (some ⟨g,0,none⟩) L cap) (P++((Z1++Z2)++S))):=hid (by have e:=hO2;rw [List.append_assoc] at e;rw [List.append_assoc];exact e);have HG8:=hid (grownBy_trans HGz.out hg8);clear hp2 hw2 hO2 hg8 hh HOz;go_wp2
                all_goals go_end0
                all_goals exact ⟨rfl,⟨_,HH.out.2,HH.out.1,HO8.out⟩,HG8.out⟩
             · have hno:X.drop s=[]∨Y.drop t=[]:=by
                have:=HCut.out.fnn;have:=HCut.out.fen;have:=HCut.out.l2;have:=HCut.out.e1;have:=HCut.out.e2;have:=HM.out;have:=HB.out;have:=Hs.out;have:=Ht.out;have:=HCut.out.lo;have:=HCut.out.hi;rcases Nat.lt_or_ge mid en with h1 | h1
                · right;rw [List.drop_eq_nil_iff];omega
                · left;rw [List.drop_eq_nil_iff];omega
               have hh:(Z1++(X.drop s++Y.drop t)).Pairwise lt∧(Z1++(X.drop s++Y.drop t)).Perm (X++Y) :=
                halves (X:=X) (Y:=Y) ⟨fun a _ b _ c _=>HT.out.tr a b c⟩ HX.out HY.out (by have:=HCut.out.hA;rw [Hs.out,Ht.out];exact this) (by have:=HCut.out.hB;rw [Hs.out,Ht.out];exact this) HZ1.out.1 (List.Perm.refl _) HZ1.out.2 (by
                 rcases hno with e | e
                 · rw [e,List.nil_append];exact (pw_sub HY.out t).2
                 · rw [e,List.append_nil];exact (pw_sub HX.out s).2)
               have HH:=hid hh;have HO8:Hid (OwnInt64S base wz (.slice (some ⟨g,0,none⟩) L cap) (P++((Z1++(X.drop s++Y.drop t))++S))):=hid (by have e:=HOz.out;rw [List.append_assoc,List.append_assoc];exact e);clear hno hh HOz;rcases Nat.lt_or_ge mid en with h1 | h1
               · have h2:¬ (en:Int)<(b:Int):=by omega
                 have h1I:(mid:Int)<(en:Int):=by omega
                 go_wp2
                 all_goals go_end0
                 all_goals exact ⟨rfl,⟨_,HH.out.2,HH.out.1,HO8.out⟩,HGz.out⟩
               · have h1I:¬ (mid:Int)<(en:Int):=by omega
                 go_wp2
                 all_goals go_end0
                 all_goals exact ⟨rfl,⟨_,HH.out.2,HH.out.1,HO8.out⟩,HGz.out⟩
          · have hno:X.take s=[]∨Y.take t=[]:=by
             have:=Hs.out;have:=Ht.out;have:=HCut.out.lo;have:=HCut.out.l2;rcases Nat.lt_or_ge a st with h1 | h1
             · right;rw [List.take_eq_nil_iff];left;omega
             · left;rw [List.take_eq_nil_iff];left;omega
            obtain ⟨Z1,hZ1⟩:∃ Z1,Z1=X.take s++Y.take t:=⟨_,rfl⟩;have HZ1:Hid (Z1.Perm (X.take s++Y.take t)∧Z1.Pairwise lt):=hid (by
             rw [hZ1];refine ⟨List.Perm.refl _,?_⟩
             rcases hno with e | e
             · rw [e,List.nil_append];exact (pw_sub HY.out t).1
             · rw [e,List.append_nil];exact (pw_sub HX.out s).1)
            have HOz:Hid (OwnInt64S base wr (.slice (some ⟨g,0,none⟩) L cap) (P++(Z1++(X.drop s++(Y.drop t++S))))):=hid (by have e:=HOy.out;rw [hZ1,List.append_assoc];exact e);clear hno hZ1 HOy;rcases Nat.lt_or_ge a st with h1 | h1
            · have h2:¬ (st:Int)<(mid:Int):=by omega
              have h1I:(a:Int)<(st:Int):=by omega
              by_cases g2:mid<en∧en<b
              · obtain ⟨g21,g22⟩:=g2
                have g21I:(mid:Int)<(en:Int):=by omega
                have g22I:(en:Int)<(b:Int):=by omega
                go_wp2_with fail
                all_goals
                 with_reducible refine (IH.out (P++Z1) (X.drop s) (Y.drop t) S mid en b wr ?_ ?_ ?_ ?_ ?_ ?_ ?_ ?_ (pw_sub HX.out s).2 (pw_sub HY.out t).2 (fun x hx y hy=>HXY.out x (List.mem_of_mem_drop hx) y (List.mem_of_mem_drop hy)) (HRX.out.sub s).2 (HRY.out.sub t).2 (HC.out.on HG.out)).mono ?_
                 · rw [List.length_drop,List.length_drop];have:=HCut.out.fmid;have:=HCut.out.lo;have:=HCut.out.hi;have:=HCut.out.l2;have:=HCut.out.e2;have:=HM.out;have:=HB.out;have:=Hs.out;have:=Ht.out;have:=HK.out;omega
                 · rw [List.length_drop];have:=HCut.out.fnn;have:=HCut.out.fen;have:=HCut.out.e1;have:=HM.out;have:=Hs.out;have:=HCut.out.lo;omega
                 · rw [List.length_drop];have:=HCut.out.fnn;have:=HCut.out.fen;have:=HCut.out.l2;have:=HCut.out.fmid;have:=HB.out;have:=Ht.out;omega
                 · have e:=HOz.out;rw [List.append_assoc];exact e
                 · rw [HL.out];have e:=HZ1.out.1.length_eq;simp only [List.length_append,List.length_drop,List.length_take] at e ⊢;have:=HM.out;have:=HB.out;have:=Hs.out;have:=Ht.out;have:=HCut.out.lo;have:=HCut.out.hi;have:=HCut.out.fnn;have:=HCut.out.fen;have:=HCut.out.e2;have:=HCut.out.l2;omega
                 · have e:=HZ1.out.1.length_eq;simp only [List.length_append,List.length_take] at e ⊢;have:=HA.out;have:=HM.out;have:=HB.out;have:=Hs.out;have:=Ht.out;have:=HCut.out.lo;have:=HCut.out.hi;have:=HCut.out.fnn;have:=HCut.out.fen;have:=HCut.out.e2;have:=HCut.out.l2;omega
                 · rw [List.length_drop];have:=HCut.out.fnn;have:=HCut.out.fen;have:=HCut.out.l2;have:=HCut.out.e1;have:=HM.out;have:=Hs.out;have:=HCut.out.lo;omega
                 · rw [List.length_drop];have:=HCut.out.fnn;have:=HCut.out.fen;have:=HCut.out.l2;have:=HCut.out.e2;have:=HB.out;have:=Ht.out;omega
                 rintro e w8 ⟨rfl,⟨Z2,hp2,hw2,hO2⟩,hg8⟩
                 have hh:=halves (X:=X) (Y:=Y) ⟨fun a _ b _ c _=>HT.out.tr a b c⟩ HX.out HY.out (by have:=HCut.out.hA;rw [Hs.out,Ht.out];exact this) (by have:=HCut.out.hB;rw [Hs.out,Ht.out];exact this) HZ1.out.1 hp2 HZ1.out.2 hw2;have HH:=hid hh;have HO8:Hid (OwnInt64S base w8 (.slice (some ⟨g,0,none⟩) L cap) (P++((Z1++Z2)++S))):=hid (by have e:=hO2;rw [List.append_assoc] at e;rw [List.append_assoc];exact e);have HG8:=hid (grownBy_trans HG.out hg8);clear hp2 hw2 hO2 hg8 hh HOz;go_wp2
                 all_goals go_end0
                 all_goals exact ⟨rfl,⟨_,HH.out.2,HH.out.1,HO8.out⟩,HG8.out⟩
              · have hno:X.drop s=[]∨Y.drop t=[]:=by
                 have:=HCut.out.fnn;have:=HCut.out.fen;have:=HCut.out.l2;have:=HCut.out.e1;have:=HCut.out.e2;have:=HM.out;have:=HB.out;have:=Hs.out;have:=Ht.out;have:=HCut.out.lo;have:=HCut.out.hi;rcases Nat.lt_or_ge mid en with h1 | h1
                 · right;rw [List.drop_eq_nil_iff];omega
                 · left;rw [List.drop_eq_nil_iff];omega
                have hh:(Z1++(X.drop s++Y.drop t)).Pairwise lt∧(Z1++(X.drop s++Y.drop t)).Perm (X++Y) :=
                 halves (X:=X) (Y:=Y) ⟨fun a _ b _ c _=>HT.out.tr a b c⟩ HX.out HY.out (by have:=HCut.out.hA;rw [Hs.out,Ht.out];exact this) (by have:=HCut.out.hB;rw [Hs.out,Ht.out];exact this) HZ1.out.1 (List.Perm.refl _) HZ1.out.2 (by
                  rcases hno with e | e
                  · rw [e,List.nil_append];exact (pw_sub HY.out t).2
                  · rw [e,List.append_nil];exact (pw_sub HX.out s).2)
                have HH:=hid hh;have HO8:Hid (OwnInt64S base wr (.slice (some ⟨g,0,none⟩) L cap) (P++((Z1++(X.drop s++Y.drop t))++S))):=hid (by have e:=HOz.out;rw [List.append_assoc,List.append_assoc];exact e);clear hno hh HOz;rcases Nat.lt_or_ge mid en with h1 | h1
                · have h2:¬ (en:Int)<(b:Int):=by omega
                  have h1I:(mid:Int)<(en:Int):=by omega
                  go_wp2
                  all_goals go_end0
                  all_goals exact ⟨rfl,⟨_,HH.out.2,HH.out.1,HO8.out⟩,HG.out⟩
                · have h1I:¬ (mid:Int)<(en:Int):=by omega
                  go_wp2
                  all_goals go_end0
                  all_goals exact ⟨rfl,⟨_,HH.out.2,HH.out.1,HO8.out⟩,HG.out⟩
            · have h1I:¬ (a:Int)<(st:Int):=by omega
              by_cases g2:mid<en∧en<b
              · obtain ⟨g21,g22⟩:=g2
                have g21I:(mid:Int)<(en:Int):=by omega
                have g22I:(en:Int)<(b:Int):=by omega
                go_wp2_with fail
                all_goals
                 with_reducible refine (IH.out (P++Z1) (X.drop s) (Y.drop t) S mid en b wr ?_ ?_ ?_ ?_ ?_ ?_ ?_ ?_ (pw_sub HX.out s).2 (pw_sub HY.out t).2 (fun x hx y hy=>HXY.out x (List.mem_of_mem_drop hx) y (List.mem_of_mem_drop hy)) (HRX.out.sub s).2 (HRY.out.sub t).2 (HC.out.on HG.out)).mono ?_
                 · rw [List.length_drop,List.length_drop];have:=HCut.out.fmid;have:=HCut.out.lo;have:=HCut.out.hi;have:=HCut.out.l2;have:=HCut.out.e2;have:=HM.out;have:=HB.out;have:=Hs.out;have:=Ht.out;have:=HK.out;omega
                 · rw [List.length_drop];have:=HCut.out.fnn;have:=HCut.out.fen;have:=HCut.out.e1;have:=HM.out;have:=Hs.out;have:=HCut.out.lo;omega
                 · rw [List.length_drop];have:=HCut.out.fnn;have:=HCut.out.fen;have:=HCut.out.l2;have:=HCut.out.fmid;have:=HB.out;have:=Ht.out;omega
                 · have e:=HOz.out;rw [List.append_assoc];exact e
                 · rw [HL.out];have e:=HZ1.out.1.length_eq;simp only [List.length_append,List.length_drop,List.length_take] at e ⊢;have:=HM.out;have:=HB.out;have:=Hs.out;have:=Ht.out;have:=HCut.out.lo;have:=HCut.out.hi;have:=HCut.out.fnn;have:=HCut.out.fen;have:=HCut.out.e2;have:=HCut.out.l2;omega
                 · have e:=HZ1.out.1.length_eq;simp only [List.length_append,List.length_take] at e ⊢;have:=HA.out;have:=HM.out;have:=HB.out;have:=Hs.out;have:=Ht.out;have:=HCut.out.lo;have:=HCut.out.hi;have:=HCut.out.fnn;have:=HCut.out.fen;have:=HCut.out.e2;have:=HCut.out.l2;omega
                 · rw [List.length_drop];have:=HCut.out.fnn;have:=HCut.out.fen;have:=HCut.out.l2;have:=HCut.out.e1;have:=HM.out;have:=Hs.out;have:=HCut.out.lo;omega
                 · rw [List.length_drop];have:=HCut.out.fnn;have:=HCut.out.fen;have:=HCut.out.l2;have:=HCut.out.e2;have:=HB.out;have:=Ht.out;omega
                 rintro e w8 ⟨rfl,⟨Z2,hp2,hw2,hO2⟩,hg8⟩
                 have hh:=halves (X:=X) (Y:=Y) ⟨fun a _ b _ c _=>HT.out.tr a b c⟩ HX.out HY.out (by have:=HCut.out.hA;rw [Hs.out,Ht.out];exact this) (by have:=HCut.out.hB;rw [Hs.out,Ht.out];exact this) HZ1.out.1 hp2 HZ1.out.2 hw2;have HH:=hid hh;have HO8:Hid (OwnInt64S base w8 (.slice (some ⟨g,0,none⟩) L cap) (P++((Z1++Z2)++S))):=hid (by have e:=hO2;rw [List.append_assoc] at e;rw [List.append_assoc];exact e);have HG8:=hid (grownBy_trans HG.out hg8);clear hp2 hw2 hO2 hg8 hh HOz;go_wp2
                 all_goals go_end0
                 all_goals exact ⟨rfl,⟨_,HH.out.2,HH.out.1,HO8.out⟩,HG8.out⟩
              · have hno:X.drop s=[]∨Y.drop t=[]:=by
                 have:=HCut.out.fnn;have:=HCut.out.fen;have:=HCut.out.l2;have:=HCut.out.e1;have:=HCut.out.e2;have:=HM.out;have:=HB.out;have:=Hs.out;have:=Ht.out;have:=HCut.out.lo;have:=HCut.out.hi;rcases Nat.lt_or_ge mid en with h1 | h1
                 · right;rw [List.drop_eq_nil_iff];omega
                 · left;rw [List.drop_eq_nil_iff];omega
                have hh:(Z1++(X.drop s++Y.drop t)).Pairwise lt∧(Z1++(X.drop s++Y.drop t)).Perm (X++Y) :=
                 halves (X:=X) (Y:=Y) ⟨fun a _ b _ c _=>HT.out.tr a b c⟩ HX.out HY.out (by have:=HCut.out.hA;rw [Hs.out,Ht.out];exact this) (by have:=HCut.out.hB;rw [Hs.out,Ht.out];exact this) HZ1.out.1 (List.Perm.refl _) HZ1.out.2 (by
                  rcases hno with e | e
                  · rw [e,List.nil_append];exact (pw_sub HY.out t).2
                  · rw [e,List.append_nil];exact (pw_sub HX.out s).2)
                have HH:=hid hh;have HO8:Hid (OwnInt64S base wr (.slice (some ⟨g,0,none⟩) L cap) (P++((Z1++(X.drop s++Y.drop t))++S))):=hid (by have e:=HOz.out;rw [List.append_assoc,List.append_assoc];exact e);clear hno hh HOz;rcases Nat.lt_or_ge mid en with h1 | h1
                · have h2:¬ (en:Int)<(b:Int):=by omega
                  have h1I:(mid:Int)<(en:Int):=by omega
                  go_wp2
                  all_goals go_end0
                  all_goals exact ⟨rfl,⟨_,HH.out.2,HH.out.1,HO8.out⟩,HG.out⟩
                · have h1I:¬ (mid:Int)<(en:Int):=by omega
                  go_wp2
                  all_goals go_end0
                  all_goals exact ⟨rfl,⟨_,HH.out.2,HH.out.1,HO8.out⟩,HG.out⟩
theorem symMerge_ok {cf:Int→Int→Int} {lt:Int→Int→Prop} {base g L cap N p q:Nat} (hT:CmpT cf lt N) (hl:L≤1000):∀ K,SymOK cf lt base g L cap N p q K:=by
 intro K;induction K with
 | zero=>intro P X Y S a m b w h0 h1;omega
 | succ K ih =>
  intro P X Y S a m b w hK hX0 hY0 h hL ha hm hb hX hY hXY hRX hRY hc;by_cases hX1:X.length=1
  · obtain ⟨x,rfl⟩:∃ x,X=[x]:=List.length_eq_one_iff.1 hX1
    exact symA_c h hL hl ha hm hb hY (fun y hy=>hXY x (List.mem_singleton_self _) y hy) (hRX x (List.mem_singleton_self _)) hRY hT hc
  · by_cases hY1:Y.length=1
    · obtain ⟨y,rfl⟩:∃ y,Y=[y]:=List.length_eq_one_iff.1 hY1
      exact symB_c h hL hl ha hm hb hX1 hX (fun x hx=>hXY x hx y (List.mem_singleton_self _)) (hRY y (List.mem_singleton_self _)) hRX hT hc
    · by_cases hcase:(a+b) / 2<m
      · exact symC1_c hT hl ih hK (by omega) (by omega) h hL ha hm hb hX hY hXY hRX hRY hc hcase
      · exact symC2_c hT hl ih hK (by omega) (by omega) h hL ha hm hb hX hY hXY hRX hRY hc hcase
def StPost (lt:Int→Int→Prop) (xs:List Int) (base g n cap:Nat) (w:World) (e:Ending) (w':World):Prop :=
 e=.returned (.tuple #[])∧(∃ Z,Z.Perm xs∧Z.Pairwise lt∧OwnInt64S base w' (.slice (some ⟨g,0,none⟩) n cap) Z)∧w.grownBy w' (some g)
theorem rise_sub {X:List Int} (h:X.Pairwise (·<·)) (k:Nat):(X.take k).Pairwise (·<·)∧(X.drop k).Pairwise (·<·):=⟨h.sublist (List.take_sublist _ _),h.sublist (List.drop_sublist _ _)⟩
theorem rise_two {X:List Int} (h:X.Pairwise (·<·)) (k:Nat):∀ x∈X.take k,∀ y∈X.drop k,x<y:=by
 rw [← List.take_append_drop k X] at h;exact (List.pairwise_append.1 h).2.2
section
variable {xs:List Int} {base g cap n N p q:Nat} {cf:Int→Int→Int} {lt:Int→Int→Prop} {w:World}
set_option maxHeartbeats 1000000 in
theorem stableS_c (h:OwnInt64S base w (.slice (some ⟨g,0,none⟩) n cap) xs) (hn:n=xs.length) (hl:n<20) (hX:xs.Pairwise (·<·)) (hR:Rng N xs) (hT:CmpT cf lt N) (hc:CmpB cf N g p q w) :
 Calls Tryz.prog 234 #[.slice (some ⟨g,0,none⟩) n cap,.int .i64 (n:Int),.func (.func 229) #[] #[.pointer (some ⟨p,0,none⟩),.pointer (some ⟨q,0,none⟩)]] w (StPost lt xs base g n cap w):=by
 have hcon:=hid (insSort_c (P:=[]) (X:=xs) (S:=[]) (a:=0) (b:=n) (L:=n) (cap:=cap) (base:=base) (by rw [List.append_nil];exact h) (by simp [hn]) (by omega) rfl (by omega) hX hR hT hc);clear h hn hX hR hT hc;go_enter Tryz.func234,Tryz.ntmps234
 go_wp2
 refine wp_loop_rounds 1 ?_
 rw [rounds_succ];go_wp2_with fail
 refine hcon.out.mono ?_
 rintro e w' ⟨rfl,⟨Z,h1,h2,h3⟩,h4⟩
 have H:=hid (show Z.Perm xs∧Z.Pairwise lt∧OwnInt64S base w' (.slice (some ⟨g,0,none⟩) n cap) Z from ⟨h1,h2,by rw [List.append_nil] at h3;exact h3⟩);have HG:=hid h4;clear h1 h2 h3 h4;go_wp2
 go_rounds 1
 go_end0
 exact ⟨rfl,⟨Z,H.out⟩,HG.out⟩
theorem blocks_c (h:OwnInt64S base w (.slice (some ⟨g,0,none⟩) n cap) xs) (hn:n=xs.length) (hl:20≤n∧n≤40) (hX:xs.Pairwise (·<·)) (hR:Rng N xs) (hT:CmpT cf lt N) (hc:CmpB cf N g p q w) :
 Calls Tryz.prog 237 #[.slice (some ⟨g,0,none⟩) n cap,.int .i64 0,.int .i64 20,.func (.func 229) #[] #[.pointer (some ⟨p,0,none⟩),.pointer (some ⟨q,0,none⟩)]] w fun e w1=>e=.returned (.tuple #[])∧w.grownBy w1 (some g) ∧
  Calls Tryz.prog 237 #[.slice (some ⟨g,0,none⟩) n cap,.int .i64 20,.int .i64 (n:Int),.func (.func 229) #[] #[.pointer (some ⟨p,0,none⟩),.pointer (some ⟨q,0,none⟩)]] w1 fun e w2=>e=.returned (.tuple #[])∧w.grownBy w2 (some g) ∧
   ∃ Z1 Z2,Z1.Perm (xs.take 20)∧Z1.Pairwise lt∧Z2.Perm (xs.drop 20)∧Z2.Pairwise lt∧OwnInt64S base w2 (.slice (some ⟨g,0,none⟩) n cap) (Z1++Z2):=by
 have hl1:(xs.take 20).length=20:=by rw [List.length_take];omega
 have hl2:(xs.drop 20).length=n - 20:=by rw [List.length_drop];omega
 refine (insSort_c (P:=[]) (X:=xs.take 20) (S:=xs.drop 20) (a:=0) (b:=20) (L:=n) (cap:=cap) (base:=base) (by rw [List.take_append_drop];exact h) (by rw [List.take_append_drop];exact hn) (by omega) rfl (by omega) (rise_sub hX 20).1 (hR.sub 20).1 hT hc).mono ?_
 rintro e w1 ⟨rfl,⟨Z1,p1,q1,o1⟩,g1⟩
 have hz1:Z1.length=20:=by rw [p1.length_eq,hl1]
 refine ⟨rfl,g1,?_⟩
 refine (insSort_c (P:=Z1) (X:=xs.drop 20) (S:=[]) (a:=20) (b:=n) (L:=n) (cap:=cap) (base:=base) (by rw [List.append_nil];exact o1) (by rw [List.append_nil,List.length_append];omega) (by omega) hz1.symm (by omega) (rise_sub hX 20).2 (hR.sub 20).2 hT (hc.on g1)).mono ?_
 rintro e w2 ⟨rfl,⟨Z2,p2,q2,o2⟩,g2⟩
 rw [List.append_nil] at o2;exact ⟨rfl,grownBy_trans g1 g2,Z1,Z2,p1,q1,p2,q2,o2⟩
theorem joined_c {Z1 Z2:List Int} {w2:World} (hn:n=xs.length) (hl:20<n∧n≤40) (hX:xs.Pairwise (·<·)) (hR:Rng N xs) (hT:CmpT cf lt N) (hc:CmpB cf N g p q w) (hg:w.grownBy w2 (some g)) (p1:Z1.Perm (xs.take 20)) (q1:Z1.Pairwise lt) (p2:Z2.Perm (xs.drop 20)) (q2:Z2.Pairwise lt) (o2:OwnInt64S base w2 (.slice (some ⟨g,0,none⟩) n cap) (Z1++Z2)) :
 Calls Tryz.prog 238 #[.slice (some ⟨g,0,none⟩) n cap,.int .i64 0,.int .i64 20,.int .i64 (n:Int),.func (.func 229) #[] #[.pointer (some ⟨p,0,none⟩),.pointer (some ⟨q,0,none⟩)]] w2 (StPost lt xs base g n cap w):=by
 have hl1:Z1.length=20:=by rw [p1.length_eq,List.length_take];omega
 have hl2:Z2.length=n - 20:=by rw [p2.length_eq,List.length_drop];omega
 refine (symMerge_ok (base:=base) (g:=g) (L:=n) (cap:=cap) (p:=p) (q:=q) hT (by omega) (Z1.length+Z2.length) [] Z1 Z2 [] 0 20 n w2 (Nat.le_refl _) (by omega) (by omega) (by rw [List.append_nil];exact o2) (by rw [List.append_nil,List.nil_append,List.length_append];omega) rfl (by omega) (by omega) q1 q2 (fun x hx y hy=>rise_two hX 20 x (p1.mem_iff.1 hx) y (p2.mem_iff.1 hy)) (fun x hx=>(hR.sub 20).1 x (p1.mem_iff.1 hx)) (fun y hy=>(hR.sub 20).2 y (p2.mem_iff.1 hy)) (hc.on hg)).mono ?_
 rintro e w3 ⟨rfl,⟨Z,pz,qz,oz⟩,g3⟩
 rw [List.append_nil] at oz;refine ⟨rfl,⟨Z,?_,qz,oz⟩,grownBy_trans hg g3⟩
 have e:=pz.trans (p1.append p2);rw [List.take_append_drop] at e;exact e
set_option maxHeartbeats 2000000 in
theorem stableM_c (h:OwnInt64S base w (.slice (some ⟨g,0,none⟩) n cap) xs) (hn:n=xs.length) (hl:20≤n∧n<40) (hX:xs.Pairwise (·<·)) (hR:Rng N xs) (hT:CmpT cf lt N) (hc:CmpB cf N g p q w) :
 Calls Tryz.prog 234 #[.slice (some ⟨g,0,none⟩) n cap,.int .i64 (n:Int),.func (.func 229) #[] #[.pointer (some ⟨p,0,none⟩),.pointer (some ⟨q,0,none⟩)]] w (StPost lt xs base g n cap w):=by
 have Hb:=hid (blocks_c h hn ⟨hl.1,by omega⟩ hX hR hT hc);have Hj:=hid (fun (h20:20<n) (Z1 Z2:List Int) (w2:World) hg p1 q1 p2 q2 o2=>joined_c (xs:=xs) (Z1:=Z1) (Z2:=Z2) (w:=w) (w2:=w2) (base:=base) (cap:=cap) hn ⟨h20,by omega⟩ hX hR hT hc hg p1 q1 p2 q2 o2);have Hn:=hid hn;obtain ⟨hl1,hl2⟩:=hl;have i1:(20:Int)≤(n:Int):=by omega
 have i2:¬ (40:Int)≤(n:Int):=by omega
 have i3:¬ (40:Int)<(n:Int):=by omega
 clear h hn hX hR hT hc;go_enter Tryz.func234,Tryz.ntmps234
 go_wp2
 refine wp_loop_rounds 2 ?_
 rw [rounds_succ];go_wp2_with fail
 refine Hb.out.mono ?_
 rintro e w1 ⟨rfl,g1,hcon⟩
 have Hc2:=hid hcon;clear hcon;go_wp2
 rw [rounds_succ];go_wp2_with fail
 refine Hc2.out.mono ?_
 rintro e w2 ⟨rfl,g2,Z1,Z2,p1,q1,p2,q2,o2⟩
 by_cases h20:n=20
 · have hp:Z1.Perm xs:=by rw [List.take_of_length_le (by have:=Hn.out;omega)] at p1;exact p1
   have hz2:Z2=[]:=by rw [List.drop_of_length_le (by have:=Hn.out;omega)] at p2;exact p2.eq_nil
   have H:Hid (Z1.Perm xs∧Z1.Pairwise lt∧OwnInt64S base w2 (.slice (some ⟨g,0,none⟩) n cap) Z1):=hid ⟨hp,q1,by rw [hz2,List.append_nil] at o2;exact o2⟩;have HG:=hid g2;have i4:¬ (20:Int)<(n:Int):=by omega
   clear hp hz2 p1 q1 p2 q2 o2 g1 g2 Hj;go_wp2
   go_rounds 1
   go_end0
   exact ⟨rfl,⟨Z1,H.out⟩,HG.out⟩
 · have i4:(20:Int)<(n:Int):=by omega
   have Hj2:=hid (Hj.out (by omega) Z1 Z2 w2 g2 p1 q1 p2 q2 o2);clear p1 q1 p2 q2 o2 g1 g2 Hj h20;go_wp2
   refine wp_loop_rounds 2 ?_
   rw [rounds_succ];go_wp2
   refine wp_loop_rounds 1 ?_
   rw [rounds_succ];go_wp2_with fail
   refine Hj2.out.mono ?_
   rintro e w3 ⟨rfl,hZ,g3⟩
   have HZ:=hid hZ;have HG:=hid g3;clear hZ g3;go_wp2
   rw [rounds_succ];go_wp2
   go_end0
   exact ⟨rfl,HZ.out,HG.out⟩
end
section
variable {xs:List Int} {base g cap n N p q:Nat} {cf:Int→Int→Int} {lt:Int→Int→Prop} {w:World}
set_option maxHeartbeats 2000000 in
theorem stableF_c (h:OwnInt64S base w (.slice (some ⟨g,0,none⟩) 40 cap) xs) (hn:40=xs.length) (hX:xs.Pairwise (·<·)) (hR:Rng N xs) (hT:CmpT cf lt N) (hc:CmpB cf N g p q w) :
 Calls Tryz.prog 234 #[.slice (some ⟨g,0,none⟩) 40 cap,.int .i64 40,.func (.func 229) #[] #[.pointer (some ⟨p,0,none⟩),.pointer (some ⟨q,0,none⟩)]] w (StPost lt xs base g 40 cap w):=by
 have Hb:=hid (blocks_c h hn ⟨by omega,by omega⟩ hX hR hT hc);have Hj:=hid (fun (Z1 Z2:List Int) (w2:World) hg p1 q1 p2 q2 o2=>joined_c (xs:=xs) (Z1:=Z1) (Z2:=Z2) (w:=w) (w2:=w2) (base:=base) (cap:=cap) hn ⟨by omega,by omega⟩ hX hR hT hc hg p1 q1 p2 q2 o2);have He:=hid (fun (Z:List Int) (w2:World) (hg:w.grownBy w2 (some g)) (hz:Z.length=40) (o2:OwnInt64S base w2 (.slice (some ⟨g,0,none⟩) 40 cap) Z) =>
  insSort_c (P:=Z) (X:=[]) (S:=[]) (a:=40) (b:=40) (L:=40) (cap:=cap) (base:=base) (w:=w2) (by rw [List.append_nil,List.append_nil];exact o2) (by simp [hz]) (by omega) hz.symm (by simp) List.Pairwise.nil (fun x hx=>by cases hx) hT (hc.on hg))
 have Hn:=hid hn;clear h hn hX hR hT hc;go_enter Tryz.func234,Tryz.ntmps234
 go_wp2
 refine wp_loop_rounds 3 ?_
 rw [rounds_succ];go_wp2_with fail
 refine Hb.out.mono ?_
 rintro e w1 ⟨rfl,g1,hcon⟩
 have Hc2:=hid hcon;clear hcon;go_wp2
 rw [rounds_succ];go_wp2_with fail
 refine Hc2.out.mono ?_
 rintro e w2 ⟨rfl,g2,Z1,Z2,p1,q1,p2,q2,o2⟩
 have hz:(Z1++Z2).length=40:=by rw [List.length_append,p1.length_eq,p2.length_eq,List.length_take,List.length_drop];have:=Hn.out;omega
 have Hc3:=hid (He.out (Z1++Z2) w2 g2 hz o2);have HP:=hid (show Z1.Perm (xs.take 20)∧Z1.Pairwise lt∧Z2.Perm (xs.drop 20)∧Z2.Pairwise lt from ⟨p1,q1,p2,q2⟩);have HG2:=hid g2;clear p1 q1 p2 q2 o2 g1 g2 hz He;go_wp2
 rw [rounds_succ];go_wp2_with fail
 refine Hc3.out.mono ?_
 rintro e w3 ⟨rfl,⟨Z0,p0,-,o3⟩,g3⟩
 have hZ0:Z0=[]:=p0.eq_nil;subst hZ0;have o4:OwnInt64S base w3 (.slice (some ⟨g,0,none⟩) 40 cap) (Z1++Z2):=by rw [List.append_nil,List.append_nil] at o3;exact o3
 have Hj2:=hid (Hj.out Z1 Z2 w3 (grownBy_trans HG2.out g3) HP.out.1 HP.out.2.1 HP.out.2.2.1 HP.out.2.2.2 o4);clear p0 o3 o4 g3 Hj;go_wp2
 refine wp_loop_rounds 2 ?_
 rw [rounds_succ];go_wp2
 refine wp_loop_rounds 2 ?_
 rw [rounds_succ];go_wp2_with fail
 refine Hj2.out.mono ?_
 rintro e w4 ⟨rfl,hZ,g4⟩
 have HZ:=hid hZ;have HG:=hid g4;clear hZ g4;go_wp2
 rw [rounds_succ];go_wp2
 rw [rounds_succ];go_wp2
 go_end0
 exact ⟨rfl,HZ.out,HG.out⟩
theorem stable_all (h:OwnInt64S base w (.slice (some ⟨g,0,none⟩) n cap) xs) (hn:n=xs.length) (hl:n≤40) (hX:xs.Pairwise (·<·)) (hR:Rng N xs) (hT:CmpT cf lt N) (hc:CmpB cf N g p q w) :
 Calls Tryz.prog 234 #[.slice (some ⟨g,0,none⟩) n cap,.int .i64 (n:Int),.func (.func 229) #[] #[.pointer (some ⟨p,0,none⟩),.pointer (some ⟨q,0,none⟩)]] w (StPost lt xs base g n cap w):=by
 by_cases h1:n<20
 · exact stableS_c h hn h1 hX hR hT hc
 · by_cases h2:n<40
   · exact stableM_c h hn ⟨by omega,h2⟩ hX hR hT hc
   · obtain rfl:n=40:=by omega
     exact stableF_c h hn hX hR hT hc
theorem sortStable_c (h:OwnInt64S base w (.slice (some ⟨g,0,none⟩) n cap) xs) (hn:n=xs.length) (hl:n≤40) (hX:xs.Pairwise (·<·)) (hR:Rng N xs) (hT:CmpT cf lt N) (hc:CmpB cf N g p q w) :
 Calls Tryz.prog 228 #[.slice (some ⟨g,0,none⟩) n cap,.func (.func 229) #[] #[.pointer (some ⟨p,0,none⟩),.pointer (some ⟨q,0,none⟩)]] w (StPost lt xs base g n cap w):=by
 have H:=hid (stable_all h hn hl hX hR hT hc);clear h hn hX hR hT hc;go_enter Tryz.func228,Tryz.ntmps228
 go_wp2_with fail
 refine H.out.mono ?_
 rintro e w' ⟨rfl,hZ,hg⟩
 have HZ:=hid hZ;have HG:=hid hg;clear hZ hg;go_wp2
 go_end0
 exact ⟨rfl,HZ.out,HG.out⟩
end
end Go.Proofs.YthdaghfhlfjclaaGreat
