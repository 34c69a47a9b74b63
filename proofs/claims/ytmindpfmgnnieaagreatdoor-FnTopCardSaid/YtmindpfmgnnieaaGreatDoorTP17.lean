/- Lemmas on the way to the law FnTop. No condition. -/
import Derived.Test.YtmindpfmgnnieaaGreatDoorTP15
import Derived.Test.YtmindpfmgnnieaaGreatDoorTP4
import Derived.Deep.DeepCutAuto
namespace Go.Proofs.YtmindpfmgnnieaaGreatDoor
set_option maxHeartbeats 16000000
set_option linter.unusedSimpArgs false
open Lib (hid)
open Go.ChangeShapes Go.WideShapes Go.ChangeAt Go.RowKit Go.Sort
set_option linter.unusedVariables false
set_option maxRecDepth 100000
open Sym
def CmpB (cf:Int->Int->Int) (N g p q:Nat) (w:World):Prop :=
 ∀ W,w.grownBy W (some g)->∀ i j:Nat,i<N->j<N->Calls Tryz.prog 115 #[.int .i64 (i:Int),.int .i64 (j:Int),.pointer (some ⟨p,0,none⟩),.pointer (some ⟨q,0,none⟩)] W fun e w'=>e=.returned (.int .i64 (cf i j))/\Below W.heap.size W w'
theorem CmpB.on {cf:Int->Int->Int} {N g p q:Nat} {w w':World} (h:CmpB cf N g p q w) (hg:w.grownBy w' (some g)):CmpB cf N g p q w':=fun W hW=>h W (yAA hg hW)
structure CmpT (cf:Int->Int->Int) (lt:Int->Int->Prop) (N:Nat):Prop where
 tr:∀ a b c,lt a b->lt b c->lt a c
 yes:∀ x y:Nat,x<y->y<N->cf y x<0->lt (y:Int) (x:Int)
 no:∀ x y:Nat,x<y->y<N->¬ cf y x<0->lt (x:Int) (y:Int)
def Rng (N:Nat) (xs:List Int):Prop:=∀ x∈xs,∃ n:Nat,n<N/\x=(n:Int)
theorem rise_lt {X:List Int} (h:X.Pairwise (·<·)) {k:Nat} {x y:Int} (hx:X[k]?=some x) (hy:y∈X.take k):y<x:=by
 obtain ⟨i,hi⟩:=mem_at' hy;rw [List.getElem?_take] at hi;have hik:i<k:=by
  rcases Nat.lt_or_ge i k with h | h
  . exact h
  . rw [if_neg (by omega)] at hi;cases hi
 rw [if_pos hik] at hi;exact pw_get h hi hx hik
theorem pw_take {lt:Int->Int->Prop} {Z:List Int} {t:Nat} {u y:Int} (h:Z.Pairwise lt) (hu:u∈Z.take t) (hy:Z[t]?=some y):lt u y:=by
 obtain ⟨i,hi⟩:=mem_at' hu;rw [List.getElem?_take] at hi;have hit:i<t:=by
  rcases Nat.lt_or_ge i t with h | h
  . exact h
  . rw [if_neg (by omega)] at hi;cases hi
 rw [if_pos hit] at hi;exact pw_get h hi hy hit
def InsSt (lt:Int->Int->Prop) (X:List Int) (k:Nat) (Z:List Int):Prop:=Z.Perm (X.take k)/\Z.Pairwise lt
theorem InsSt.len {lt:Int->Int->Prop} {X Z:List Int} {k:Nat} (h:InsSt lt X k Z) (hk:k<=X.length):Z.length=k:=by rw [h.1.length_eq,zI];omega
theorem InsSt.step {lt:Int->Int->Prop} {X Z:List Int} {k t:Nat} {x:Int} (h:InsSt lt X k Z) (hx:X[k]?=some x) (h1:∀ u∈Z.take t,lt u x) (h2:∀ v∈Z.drop t,lt x v):InsSt lt X (k+1) (Z.take t++x :: Z.drop t):=by
 refine ⟨?_,insert_pw h.2 h1 h2⟩;rw [take_at hx];exact insert_perm.trans (List.Perm.append_right _ h.1)
theorem insSort_c {P X S:List Int} {base g cap a b L N p q:Nat} {cf:Int->Int->Int} {lt:Int->Int->Prop} {w:World} (h:OwnInt64S base w (.slice (some ⟨g,0,none⟩) L cap) (P++(X++S))) (hL:L=(P++(X++S)).length) (hl:L<=1000)
 (ha:a=P.length) (hb:b=a+X.length) (hX:X.Pairwise (·<·)) (hR:Rng N X) (hT:CmpT cf lt N) (hc:CmpB cf N g p q w) :
 Calls Tryz.prog 170 #[.slice (some ⟨g,0,none⟩) L cap,.int .i64 (a:Int),.int .i64 (b:Int),.func (.func 115) #[] #[.pointer (some ⟨p,0,none⟩),.pointer (some ⟨q,0,none⟩)]] w fun e w'=>e=.returned (.tuple #[]) /\
  (∃ Z,Z.Perm X/\Z.Pairwise lt/\OwnInt64S base w' (.slice (some ⟨g,0,none⟩) L cap) (P++(Z++S)))/\w.grownBy w' (some g):=by
 have hbL:b<=L:=by rw [hL,hb,ha];simp only [zE];omega
 have hgl:=(h.lt g rfl).2;have haL:a<=1000:=by omega
 have H0:Hid (InsSt lt X 1 (X.take 1)):=hid ⟨List.Perm.refl _,by
  cases X with
  | nil=>exact List.Pairwise.nil
  | cons y Y=>simp⟩
 have HO0:Hid (OwnInt64S base w (.slice (some ⟨g,0,none⟩) L cap) (P++(X.take 1++(X.drop 1++S)))):=hid (by rw [<- zN (X.take 1),zP];exact h);have HL:=hid hL;have HA:=hid ha;have HB:=hid hb;have HX:=hid hX;have HR:=hid hR;have HT:=hid hT;have HC:=hid hc;clear h hL ha hb hX hR hT hc;go_enter Tryz.func170,Tryz.ntmps170;go_wp2;go_loopw [8] (fun iv wr=>∃ (i k:Nat) (Z:List Int),iv=.int .i64 i/\Hid (i=a+k/\1<=k/\(k<=X.length\/X.length=0/\k=1))/\i<=b+1/\Hid (InsSt lt X k Z)/\Hid (OwnInt64S base wr (.slice (some ⟨g,0,none⟩) L cap) (P++(Z++(X.drop k++S))))/\Hid (w.grownBy wr (some g))) (fun i _=>b+1 - (intOf i).toNat)
 case atStart=>exact ⟨a+1,1,_,by go_num,hid ⟨rfl,zA _,by omega⟩,by have:=HB.out;omega,H0,HO0,hid (World.grownBy.refl _ _)⟩
 case round =>
  obtain ⟨i,k,Z,rfl,Hi,hib1,HS,HO,HG⟩:=hrel;clear H0 HO0;by_cases hib:i<b
  . obtain ⟨x,hx⟩:∃ x,X[k]?=some x:=⟨_,zF (by have:=Hi.out;have:=HB.out;omega)⟩
    have hk:k<X.length:=yBG hx;obtain ⟨xn,hxn,hxe⟩:=HR.out x (zC hx);subst hxe;have hzl:=HS.out.len (by omega);have Hx:=hid hx;have Hzl:=hid hzl;have hO1:OwnInt64S base wr (.slice (some ⟨g,0,none⟩) L cap) (P++(Z.take k++((xn:Int) :: (Z.drop k++(X.drop (k+1)++S))))):=by
     have e:=HO.out;rw [drop_at hx] at e;rw [zH (by omega),List.drop_of_length_le (by omega)];exact e
    have HO1:=hid hO1;have Hkl:=hid hk;have hibI:(i:Int)<(b:Int):=by omega
    clear hx hzl hO1 hk;go_wp2;go_loopw [9] (fun jv wr=>∃ (j t:Nat),jv=.int .i64 j/\Hid (j=a+t/\t<=k)/\j<=i/\Hid (∀ v∈Z.drop t,lt (xn:Int) v)/\Hid (OwnInt64S base wr (.slice (some ⟨g,0,none⟩) L cap) (P++(Z.take t++((xn:Int) :: (Z.drop t++(X.drop (k+1)++S))))))/\Hid (w.grownBy wr (some g))) (fun j _=>(intOf j).toNat)
    case atStart=>exact ⟨i,k,rfl,hid ⟨Hi.out.1,zA _⟩,zA _,hid (fun v hv=>by rw [List.drop_of_length_le (by have:=Hzl.out;omega)] at hv;cases hv),HO1,HG⟩
    case round =>
     obtain ⟨j,t,rfl,Hj,hji,Hgt,HOr,HGr⟩:=hrel;clear HO1 HG HO;have hlen:L=(P++(Z.take t++((xn:Int) :: (Z.drop t++(X.drop (k+1)++S))))).length:=by
      rw [HL.out];simp only [zE,List.length_cons,zQ,zI];have:=Hzl.out;have:=Hkl.out;have:=Hj.out;omega
     have Hlen:=hid hlen;clear hlen;by_cases hja:a<j
     . obtain ⟨t',rfl⟩:∃ t',t=t'+1:=⟨t - 1,by have:=Hj.out;omega⟩
       obtain ⟨jp,rfl⟩:∃ jp,j=jp+1:=⟨j - 1,by omega⟩;obtain ⟨y,hy⟩:∃ y,Z[t']?=some y:=⟨_,zF (by have:=Hj.out;have:=Hzl.out;omega)⟩;have hyX:y∈X.take k:=HS.out.1.mem_iff.1 (zC hy);obtain ⟨yn,hyn,hye⟩:=HR.out y (List.mem_of_mem_take hyX);subst hye;have hyx:yn<xn:=by have:=rise_lt HX.out Hx.out hyX;omega
       have hj1:jp=a+t':=by have:=Hj.out;omega
       have c1:=Own.atI HOr.out Hlen.out (i:=jp+1) (x:=(xn:Int)) (by
        have e:=at_mid (P:=P) (Z:=Z) (S:=X.drop (k+1)++S) (x:=(xn:Int)) (t:=t'+1) (by have:=Hj.out;have:=Hzl.out;omega);rw [<- HA.out,<- Nat.add_assoc,<- hj1] at e;exact e)
       have c2:=Own.atI HOr.out Hlen.out (i:=jp) (x:=(yn:Int)) (by
        have e:=at_left (P:=P) (S:=X.drop (k+1)++S) (x:=(xn:Int)) hy;rw [<- HA.out,<- hj1] at e;exact e)
       have hlt1:=yBG (by
        have e:=at_mid (P:=P) (Z:=Z) (S:=X.drop (k+1)++S) (x:=(xn:Int)) (t:=t'+1) (by have:=Hj.out;have:=Hzl.out;omega);rw [<- HA.out,<- Nat.add_assoc,<- hj1] at e;exact e:(P++(Z.take (t'+1)++((xn:Int) :: (Z.drop (t'+1)++(X.drop (k+1)++S)))))[jp+1]?=some (xn:Int))
       rw [<- Hlen.out] at hlt1;have f1:=cell_regrown c1.1;have f2:=cell_regrown c2.1;have Hcon:=hid (fun d os=>HC.out (grow (redrawn wr d) os) (yAA HGr.out (yAP (below_regrown wr d os) _)) xn yn hxn hyn);have Hy:=hid hy;have Hj1:=hid hj1;have Hyx:=hid hyx;have Hxn:=hid hxn;have hjz:(a:Int)<(jp:Int)+1:=by omega
       have jz:(jp:Int)+1<(L:Int):=by omega
       have jz1:(jp:Int)<(L:Int):=by omega
       have p0:(0:Int)<=(jp:Int)+1:=by omega
       have e0:((jp:Int)+1).toNat=jp+1:=by omega
       have hwp:IntKind.i64.wrap (jp:Int)=(jp:Int):=IntWalk.i64_in _ (by omega);clear c1 c2 hy hyX hyn hj1 hyx hxn;by_cases hlv:cf (xn:Int) (yn:Int)<0
       . go_upto_region 4 with fail
         refine wp_region_quiet_below (by kernel_rfl) (by kernel_rfl) ?_;repeat ((with_reducible refine wpQuiet_step (fun K hK=>?_));go_simp;first | ((with_reducible refine hK _ ?_);clear hK K) | (apply Exists.intro;refine ⟨fun _=>?_,hK _ ?_⟩;((first | (go_at_call 115;with_reducible exact yAG (Hcon.out _ _))));clear hK K))
         refine wpQuiet_nil ?_;intro _ hw';obtain ⟨⟨dq,osq⟩,hw''⟩:=hw';subst hw'';have hbq:=below_regrown wr dq osq;generalize grow (redrawn wr dq) osq=wq at hbq |-;have HO2:=hid (Own.below HOr.out hbq (zA _));have HG2:=hid (yAA HGr.out (yAP hbq _));clear hbq f1 f2;obtain ⟨j1,hj1⟩:∃ j1,j1=jp+1:=⟨_,rfl⟩;have hx1:(P++(Z.take (t'+1)++((xn:Int) :: (Z.drop (t'+1)++(X.drop (k+1)++S)))))[j1]?=some (xn:Int):=by
          have e:=at_mid (P:=P) (Z:=Z) (S:=X.drop (k+1)++S) (x:=(xn:Int)) (t:=t'+1) (by have:=Hj.out;have:=Hzl.out;omega);rw [<- HA.out,<- Nat.add_assoc,<- Hj1.out,<- hj1] at e;exact e
         have hy1:(P++(Z.take (t'+1)++((xn:Int) :: (Z.drop (t'+1)++(X.drop (k+1)++S)))))[jp]?=some (yn:Int):=by
          have e:=at_left (P:=P) (S:=X.drop (k+1)++S) (x:=(xn:Int)) Hy.out;rw [<- HA.out,<- Hj1.out] at e;exact e
         obtain ⟨s1,s2⟩:=Own.swapI HO2.out Hlen.out hx1 hy1;obtain ⟨c1,f1,-⟩:=Own.atI HO2.out Hlen.out hx1;obtain ⟨c2,f2,-⟩:=Own.atI HO2.out Hlen.out hy1;have e1:=swap_left (P:=P) (S:=X.drop (k+1)++S) (x:=(xn:Int)) Hy.out;rw [<- HA.out,<- Nat.add_assoc,<- Hj1.out,<- hj1] at e1;rw [e1] at s1;have S1:=hid s1;have S2:=hid (yAA HG2.out s2);have J1:=hid hj1;rw [<- hj1] at e0;have ne1:j1 ≠ jp:=by omega
         have ne2:jp ≠ j1:=by omega
         have HGT:Hid (∀ v∈Z.drop t',lt (xn:Int) v):=hid (fun v hv=>by
          rw [drop_at Hy.out] at hv;rcases List.mem_cons.1 hv with rfl | hv
          . exact HT.out.yes yn xn Hyx.out Hxn.out hlv
          . exact Hgt.out v hv)
         clear s1 s2 e1 hx1 hy1 hj1 HO2 HG2;go_wp2;go_region
         all_goals
          go_wp2;go_roundw
          case rel=>exact ⟨jp,t',by first | rfl | go_num,hid ⟨Hj1.out,by have:=Hj.out;omega⟩,by omega,HGT,S1,hid (yAA S2.out (yBO _ _))⟩
          case measure=>simp [intOf] <;> omega
       . go_upto_region 4 with fail
         refine wp_region_quiet_below (by kernel_rfl) (by kernel_rfl) ?_;repeat ((with_reducible refine wpQuiet_step (fun K hK=>?_));go_simp;first | ((with_reducible refine hK _ ?_);clear hK K) | (apply Exists.intro;refine ⟨fun _=>?_,hK _ ?_⟩;((first | (go_at_call 115;with_reducible exact yAG (Hcon.out _ _))));clear hK K))
         refine wpQuiet_nil ?_;intro _ hw';obtain ⟨⟨dq,osq⟩,hw''⟩:=hw';subst hw'';have hbq:=below_regrown wr dq osq;generalize grow (redrawn wr dq) osq=wq at hbq |-;have HO2:=hid (Own.below HOr.out hbq (zA _));have HG2:=hid (yAA HGr.out (yAP hbq _));have HS2:Hid (InsSt lt X (k+1) (Z.take (t'+1)++(xn:Int) :: Z.drop (t'+1))):=hid (HS.out.step Hx.out (fun u hu=>by
          have hyz:=HT.out.no yn xn Hyx.out Hxn.out hlv;rw [take_at Hy.out] at hu;rcases List.mem_append.1 hu with hu | hu
          . exact HT.out.tr _ _ _ (pw_take HS.out.2 hu Hy.out) hyz
          . rw [List.mem_singleton.1 hu];exact hyz) Hgt.out)
         have HO3:Hid (OwnInt64S base wq (.slice (some ⟨g,0,none⟩) L cap) (P++((Z.take (t'+1)++(xn:Int) :: Z.drop (t'+1))++(X.drop (k+1)++S)))):=hid (by have e:=HO2.out;rw [zN];exact e);clear hbq f1 f2 HO2;go_wp2;go_roundw
         case rel=>exact ⟨i+1,k+1,_,by go_num,hid ⟨by have:=Hi.out;omega,by omega,by have:=Hkl.out;omega⟩,by omega,HS2,HO3,HG2⟩
         case measure=>simp [intOf];omega
     . have hj0:j=a:=by have:=Hj.out;omega
       have ht0:t=0:=by have:=Hj.out;omega
       subst ht0;have HS2:Hid (InsSt lt X (k+1) (Z.take 0++(xn:Int) :: Z.drop 0)):=hid (HS.out.step Hx.out (fun u hu=>by simp at hu) Hgt.out);have HO3:Hid (OwnInt64S base wr (.slice (some ⟨g,0,none⟩) L cap) (P++((Z.take 0++(xn:Int) :: Z.drop 0)++(X.drop (k+1)++S)))):=hid (by have e:=HOr.out;rw [zN];exact e);have hjz:¬ (a:Int)<(j:Int):=by omega
       clear hj0 hja;have HO4:Hid (OwnInt64S base wr.drew (.slice (some ⟨g,0,none⟩) L cap) (P++((Z.take 0++(xn:Int) :: Z.drop 0)++(X.drop (k+1)++S)))):=HO3;have HG4:=hid (yAA HGr.out (yBO _ _));go_upto_region 4 with fail;go_region
       all_goals
        go_wp2;go_roundw
        case rel=>exact ⟨i+1,k+1,_,by go_num,hid ⟨by have:=Hi.out;omega,by omega,by have:=Hkl.out;omega⟩,by omega,HS2,HO4,HG4⟩
        case measure=>simp [intOf];omega
  . have hk:X.length<=k:=by have:=Hi.out;have:=HB.out;omega
    have HZ:Hid (Z.Perm X):=hid (by have e:=HS.out.1;rw [zH hk] at e;exact e);have HO2:Hid (OwnInt64S base wr (.slice (some ⟨g,0,none⟩) L cap) (P++(Z++S))):=hid (by have e:=HO.out;rw [List.drop_of_length_le hk] at e;exact e);have hibI:¬ (i:Int)<(b:Int):=by omega
    clear hk;go_wp2;go_end0;exact ⟨rfl,⟨Z,HZ.out,HS.out.2,HO2.out⟩,HG.out⟩
def MgPost (lt:Int->Int->Prop) (P X Y S:List Int) (base g L cap:Nat) (w:World) (e:Ending) (w':World):Prop :=
 e=.returned (.tuple #[])/\(∃ Z,Z.Perm (X++Y)/\Z.Pairwise lt/\OwnInt64S base w' (.slice (some ⟨g,0,none⟩) L cap) (P++(Z++S)))/\w.grownBy w' (some g)
theorem symA_c {P Y S:List Int} {x:Int} {base g cap a m b L N p q:Nat} {cf:Int->Int->Int} {lt:Int->Int->Prop} {w:World} (h:OwnInt64S base w (.slice (some ⟨g,0,none⟩) L cap) (P++(x :: (Y++S)))) (hL:L=(P++(x :: (Y++S))).length) (hl:L<=1000)
 (ha:a=P.length) (hm:m=a+1) (hb:b=m+Y.length) (hY:Y.Pairwise lt) (hXY:∀ y∈Y,x<y) (hx:∃ n:Nat,n<N/\x=(n:Int)) (hR:Rng N Y) (hT:CmpT cf lt N) (hc:CmpB cf N g p q w) :
 Calls Tryz.prog 171 #[.slice (some ⟨g,0,none⟩) L cap,.int .i64 (a:Int),.int .i64 (m:Int),.int .i64 (b:Int),.func (.func 115) #[] #[.pointer (some ⟨p,0,none⟩),.pointer (some ⟨q,0,none⟩)]] w
  (MgPost lt P [x] Y S base g L cap w):=by
 obtain ⟨xn,hxn,rfl⟩:=hx;have hbL:b<=L:=by rw [hL,hb,hm,ha];simp only [zE,List.length_cons];omega
 have hmb:m<=b:=by omega
 have haL:(a:Int)<(L:Int):=by rw [hL,ha];simp only [zE,List.length_cons];omega
 have d1:(m:Int) - (a:Int)=1:=by omega
 have v1:IntKind.i64.wrap ((m:Int) - (a:Int))=1:=by rw [d1];rfl
 have HO0:=hid h;have HL:=hid hL;have HA:=hid ha;have HM:=hid hm;have HB:=hid hb;have HY:=hid hY;have HXY:=hid hXY;have HR:=hid hR;have HT:=hid hT;have HC:=hid hc;clear h hL ha hm hb hY hXY hR hT hc;go_enter Tryz.func171,Tryz.ntmps171;go_wp2;go_loopw [10,11] (fun iv jv wr=>∃ (i j s t:Nat),iv=.int .i64 i/\jv=.int .i64 j/\Hid (i=m+s/\j=m+t/\s<=t/\t<=Y.length)/\i<=j/\j<=b /\
  Hid (s=0\/∃ u,Y[s - 1]?=some u/\lt u (xn:Int))/\Hid (Y.length<=t\/∃ v,Y[t]?=some v/\lt (xn:Int) v) /\
  Hid (OwnInt64S base wr (.slice (some ⟨g,0,none⟩) L cap) (P++((xn:Int) :: (Y++S))))/\Hid (w.grownBy wr (some g))) (fun i j _=>(intOf j).toNat - (intOf i).toNat)
 case atStart=>exact ⟨m,b,0,Y.length,rfl,rfl,hid ⟨by omega,HB.out,by omega,by omega⟩,hmb,zA _,hid (.inl rfl),hid (.inl (zA _)),HO0,hid (World.grownBy.refl _ _)⟩
 case round =>
  obtain ⟨i,j,s,t,rfl,rfl,Hi,hij,hjb,HAs,HBt,HO,HG⟩:=hrel;clear HO0;by_cases hlt:i<j
  . obtain ⟨z,hz⟩:∃ z,z=i+j:=⟨_,rfl⟩
    obtain ⟨hh,hhe⟩:∃ hh,hh=z / 2:=⟨_,rfl⟩;obtain ⟨r,hr⟩:∃ r,r=hh - m:=⟨_,rfl⟩;have hrr:hh=m+r/\s<=r/\r<t:=by have:=Hi.out;omega
    obtain ⟨y,hy⟩:∃ y,Y[r]?=some y:=⟨_,zF (by have:=Hi.out;omega)⟩;obtain ⟨yn,hyn,hye⟩:=HR.out y (zC hy);subst hye;have hxy:xn<yn:=by have:=HXY.out _ (zC hy);omega
    have c1:=Own.atI HO.out HL.out (i:=hh) (x:=(yn:Int)) (by
     rw [hrr.1,HM.out,HA.out,zJ (by omega),show P.length+1+r - P.length=r+1 by omega,List.getElem?_cons_succ,zL (by have:=Hi.out;omega)];exact hy)
    have c2:=Own.atI HO.out HL.out (i:=a) (x:=(xn:Int)) (by
     rw [HA.out,zJ (by omega),Nat.sub_self];rfl)
    have f1:=cell_regrown c1.1;have f2:=cell_regrown c2.1;have Hcon:=hid (fun d os=>HC.out (grow (redrawn wr d) os) (yAA HG.out (yAP (below_regrown wr d os) _)) yn xn hyn hxn);have e1:(i:Int)+(j:Int)=(z:Int):=by omega
    have e2:(z:Int) / 2=(hh:Int):=by omega
    have hzb:z<=2000:=by omega
    have hhL:(hh:Int)<(L:Int):=by omega
    have hhb:hh<=1000:=by omega
    have hltI:(i:Int)<(j:Int):=by omega
    have Hrr:=hid hrr;have Hy:=hid hy;have Hxy:=hid hxy;have Hyn:=hid hyn;have Hhij:Hid (i<=hh/\hh<j):=hid (by omega);clear c1 c2 hz hhe hr hrr hy hxy hyn;by_cases hlv:cf (yn:Int) (xn:Int)<0
    . go_upto_region 5 with fail
      refine wp_region_quiet_below (by kernel_rfl) (by kernel_rfl) ?_;repeat ((with_reducible refine wpQuiet_step (fun K hK=>?_));go_simp;first | ((with_reducible refine hK _ ?_);clear hK K) | (apply Exists.intro;refine ⟨fun _=>?_,hK _ ?_⟩;((first | (go_at_call 115;with_reducible exact yAG (Hcon.out _ _))));clear hK K))
      refine wpQuiet_nil ?_;intro _ hw';obtain ⟨⟨dq,osq⟩,hw''⟩:=hw';subst hw'';have hbq:=below_regrown wr dq osq;generalize grow (redrawn wr dq) osq=wq at hbq |-;have HO2:=hid (Own.below HO.out hbq (zA _));have HG2:=hid (yAA HG.out (yAP hbq _));have HAs2:Hid (r+1=0\/∃ u,Y[r+1 - 1]?=some u/\lt u (xn:Int)):=hid (.inr ⟨_,Hy.out,HT.out.yes xn yn Hxy.out Hyn.out hlv⟩);clear hbq f1 f2;go_wp2;go_roundw
      case rel=>exact ⟨hh+1,j,r+1,t,by go_num,rfl,hid ⟨by have:=Hrr.out;omega,Hi.out.2.1,by have:=Hrr.out;omega,Hi.out.2.2.2⟩,by have:=Hhij.out;omega,hjb,HAs2,HBt,HO2,HG2⟩
      case measure=>have:=Hhij.out;simp [intOf] <;> omega
    . go_upto_region 5 with fail
      refine wp_region_quiet_below (by kernel_rfl) (by kernel_rfl) ?_;repeat ((with_reducible refine wpQuiet_step (fun K hK=>?_));go_simp;first | ((with_reducible refine hK _ ?_);clear hK K) | (apply Exists.intro;refine ⟨fun _=>?_,hK _ ?_⟩;((first | (go_at_call 115;with_reducible exact yAG (Hcon.out _ _))));clear hK K))
      refine wpQuiet_nil ?_;intro _ hw';obtain ⟨⟨dq,osq⟩,hw''⟩:=hw';subst hw'';have hbq:=below_regrown wr dq osq;generalize grow (redrawn wr dq) osq=wq at hbq |-;have HO2:=hid (Own.below HO.out hbq (zA _));have HG2:=hid (yAA HG.out (yAP hbq _));have HBt2:Hid (Y.length<=r\/∃ v,Y[r]?=some v/\lt (xn:Int) v):=hid (.inr ⟨_,Hy.out,HT.out.no xn yn Hxy.out Hyn.out hlv⟩);clear hbq f1 f2;go_wp2;go_roundw
      case rel=>exact ⟨i,hh,s,r,rfl,rfl,hid ⟨Hi.out.1,Hrr.out.1,Hrr.out.2.1,by have:=Hrr.out;have:=Hi.out;omega⟩,by have:=Hhij.out;omega,by have:=Hhij.out;omega,HAs,HBt2,HO2,HG2⟩
      case measure=>have:=Hhij.out;simp [intOf] <;> omega
  . have hst:s=t:=by have:=Hi.out;omega
    subst hst;have hpl:=place HT.out.tr HY.out HAs.out HBt.out;have hsl:s<=Y.length:=Hi.out.2.2.2;obtain ⟨q1,hq1⟩:∃ q1,q1=a+s:=⟨_,rfl⟩;have e1:(i:Int) - 1=(q1:Int):=by have:=Hi.out;have:=HM.out;omega
    have hq1b:q1<=1000:=by have:=Hi.out;have:=HM.out;omega
    have e1w:IntKind.i64.wrap ((i:Int) - 1)=(q1:Int):=by rw [e1];exact IntWalk.i64_in _ (by omega)
    have hq1L:q1<L:=by have:=Hi.out;have:=HM.out;omega
    have Hq1:=hid hq1;have Hpl:=hid hpl;have Hsl:=hid hsl;have HO1:Hid (OwnInt64S base wr (.slice (some ⟨g,0,none⟩) L cap) (P++(Y.take 0++((xn:Int) :: (Y.drop 0++S))))):=HO;have hltI:¬ (i:Int)<(j:Int):=by omega
    have haq:a<=q1:=by omega
    clear hpl hsl hq1 HO;go_wp2;go_loopw [13] (fun kv wr=>∃ (k n:Nat),kv=.int .i64 k/\Hid (k=a+n/\n<=s)/\k<=q1/\Hid (OwnInt64S base wr (.slice (some ⟨g,0,none⟩) L cap) (P++(Y.take n++((xn:Int) :: (Y.drop n++S)))))/\Hid (w.grownBy wr (some g))) (fun k _=>q1 - (intOf k).toNat)
    case atStart=>exact ⟨a,0,rfl,hid ⟨by omega,by omega⟩,haq,HO1,HG⟩
    case round =>
     obtain ⟨k,n,rfl,Hk,hkq,HOr,HGr⟩:=hrel;clear HO1 HG;by_cases hkl:k<q1
     . obtain ⟨y,hy⟩:∃ y,Y[n]?=some y:=⟨_,zF (by have:=Hk.out;have:=Hq1.out;have:=Hsl.out;omega)⟩
       obtain ⟨k1,hk1⟩:∃ k1,k1=k+1:=⟨_,rfl⟩;have hlen:L=(P++(Y.take n++((xn:Int) :: (Y.drop n++S)))).length:=by
        rw [HL.out];simp only [zE,List.length_cons,zQ,zI];have:=yBG hy;omega
       have hx1:(P++(Y.take n++((xn:Int) :: (Y.drop n++S))))[k]?=some (xn:Int):=by
        have e:=at_mid (P:=P) (Z:=Y) (S:=S) (x:=(xn:Int)) (t:=n) (by have:=yBG hy;omega);rw [<- HA.out,<- Hk.out.1] at e;exact e
       have hy1:(P++(Y.take n++((xn:Int) :: (Y.drop n++S))))[k1]?=some y:=by
        have e:=at_right (P:=P) (S:=S) (x:=(xn:Int)) hy;rw [<- HA.out,<- Nat.add_assoc,<- Hk.out.1,<- hk1] at e;exact e
       obtain ⟨s1,s2⟩:=Own.swapI HOr.out hlen hx1 hy1;obtain ⟨c1,f1,-⟩:=Own.atI HOr.out hlen hx1;obtain ⟨c2,f2,-⟩:=Own.atI HOr.out hlen hy1;have e2:=swap_right (P:=P) (S:=S) (x:=(xn:Int)) hy;rw [<- HA.out,<- Nat.add_assoc,<- Hk.out.1,<- hk1] at e2;rw [e2] at s1;have S1:=hid s1;have S2:=hid (yAA HGr.out s2);have ne1:k ≠ k1:=by omega
       have ne2:k1 ≠ k:=by omega
       have p0:(0:Int)<=(k:Int)+1:=by omega
       have e0:((k:Int)+1).toNat=k1:=by omega
       have l1:(k:Int)<(L:Int):=by omega
       have l2:(k:Int)+1<(L:Int):=by omega
       have hkI:(k:Int)<(q1:Int):=by omega
       have Hk2:Hid (k+1=a+(n+1)/\n+1<=s):=hid (by have:=Hk.out;have:=Hq1.out;omega);clear s1 s2 e2 hx1 hy1 hlen hy hk1;go_wp2;go_region
       all_goals
        go_wp2;go_roundw
        case rel=>exact ⟨k+1,n+1,by go_num,Hk2,by omega,S1,hid (yAA S2.out (yBO _ _))⟩
        case measure=>simp [intOf];omega
     . have hns:n=s:=by have:=Hk.out;have:=Hq1.out;omega
       subst hns;have HO2:Hid (OwnInt64S base wr (.slice (some ⟨g,0,none⟩) L cap) (P++((Y.take n++(xn:Int) :: Y.drop n)++S))):=hid (by have e:=HOr.out;rw [zN];exact e);have HP:Hid ((Y.take n++(xn:Int) :: Y.drop n).Perm ([(xn:Int)]++Y)):=hid (insert_perm.trans List.perm_append_comm);have HW:=hid (insert_pw HY.out Hpl.out.1 Hpl.out.2);have hkI:¬ (k:Int)<(q1:Int):=by omega
       clear HOr;go_wp2;exact bodyPost_ret (v:=.tuple #[]) (by simp [results,Tryz.results171,go_sem]) rfl ⟨rfl,⟨_,HP.out,HW.out,HO2.out⟩,HGr.out⟩
theorem symB_c {P X S:List Int} {y:Int} {base g cap a m b L N p q:Nat} {cf:Int->Int->Int} {lt:Int->Int->Prop} {w:World} (h:OwnInt64S base w (.slice (some ⟨g,0,none⟩) L cap) (P++(X++(y :: S)))) (hL:L=(P++(X++(y :: S))).length) (hl:L<=1000)
 (ha:a=P.length) (hm:m=a+X.length) (hb:b=m+1) (hX1:X.length ≠ 1) (hX:X.Pairwise lt) (hXY:∀ x∈X,x<y) (hy:∃ n:Nat,n<N/\y=(n:Int)) (hR:Rng N X) (hT:CmpT cf lt N) (hc:CmpB cf N g p q w) :
 Calls Tryz.prog 171 #[.slice (some ⟨g,0,none⟩) L cap,.int .i64 (a:Int),.int .i64 (m:Int),.int .i64 (b:Int),.func (.func 115) #[] #[.pointer (some ⟨p,0,none⟩),.pointer (some ⟨q,0,none⟩)]] w
  (MgPost lt P X [y] S base g L cap w):=by
 obtain ⟨yn,hyn,rfl⟩:=hy;have hbL:b<=L:=by rw [hL,hb,hm,ha];simp only [zE,List.length_cons];omega
 have ham:a<=m:=by omega
 have hmL:(m:Int)<(L:Int):=by omega
 obtain ⟨z0,hz0⟩:∃ z,z=m - a:=⟨_,rfl⟩;have d1:(m:Int) - (a:Int)=(z0:Int):=by omega
 have hz1:z0 ≠ 1:=by omega
 have hz2:((z0:Int) == 1)=false:=by simp;omega
 have v1:IntKind.i64.wrap ((m:Int) - (a:Int))=(z0:Int):=by rw [d1];exact IntWalk.i64_in _ (by omega)
 have d2:(b:Int) - (m:Int)=1:=by omega
 have v2:IntKind.i64.wrap ((b:Int) - (m:Int))=1:=by rw [d2];rfl
 have hmm:m<=1000:=by omega
 have HO0:=hid h;have HL:=hid hL;have HA:=hid ha;have HM:=hid hm;have HX:=hid hX;have HXY:=hid hXY;have HR:=hid hR;have HT:=hid hT;have HC:=hid hc;clear h hL ha hm hb hX hXY hR hT hc hX1 hz0 hz1;go_enter Tryz.func171,Tryz.ntmps171;go_wp2;go_loopw [14,15] (fun iv jv wr=>∃ (i j s t:Nat),iv=.int .i64 i/\jv=.int .i64 j/\Hid (i=a+s/\j=a+t/\s<=t/\t<=X.length)/\i<=j/\j<=m /\
  Hid (s=0\/∃ u,X[s - 1]?=some u/\lt u (yn:Int))/\Hid (X.length<=t\/∃ v,X[t]?=some v/\lt (yn:Int) v) /\
  Hid (OwnInt64S base wr (.slice (some ⟨g,0,none⟩) L cap) (P++(X++((yn:Int) :: S))))/\Hid (w.grownBy wr (some g))) (fun i j _=>(intOf j).toNat - (intOf i).toNat)
 case atStart=>exact ⟨a,m,0,X.length,rfl,rfl,hid ⟨by omega,HM.out,by omega,by omega⟩,ham,zA _,hid (.inl rfl),hid (.inl (zA _)),HO0,hid (World.grownBy.refl _ _)⟩
 case round =>
  obtain ⟨i,j,s,t,rfl,rfl,Hi,hij,hjb,HAs,HBt,HO,HG⟩:=hrel;clear HO0;by_cases hlt:i<j
  . obtain ⟨z,hz⟩:∃ z,z=i+j:=⟨_,rfl⟩
    obtain ⟨hh,hhe⟩:∃ hh,hh=z / 2:=⟨_,rfl⟩;obtain ⟨r,hr⟩:∃ r,r=hh - a:=⟨_,rfl⟩;have hrr:hh=a+r/\s<=r/\r<t:=by have:=Hi.out;omega
    obtain ⟨u,hu⟩:∃ u,X[r]?=some u:=⟨_,zF (by have:=Hi.out;omega)⟩;obtain ⟨un,hun,hue⟩:=HR.out u (zC hu);subst hue;have huy:un<yn:=by have:=HXY.out _ (zC hu);omega
    have c1:=Own.atI HO.out HL.out (i:=hh) (x:=(un:Int)) (by
     rw [hrr.1,HA.out,zJ (by omega),show P.length+r - P.length=r by omega,zL (by have:=Hi.out;omega)];exact hu)
    have c2:=Own.atI HO.out HL.out (i:=m) (x:=(yn:Int)) (by
     rw [HM.out,HA.out,zJ (by omega),zJ (by omega),show P.length+X.length - P.length - X.length=0 by omega];rfl)
    have f1:=cell_regrown c1.1;have f2:=cell_regrown c2.1;have Hcon:=hid (fun d os=>HC.out (grow (redrawn wr d) os) (yAA HG.out (yAP (below_regrown wr d os) _)) yn un hyn hun);have e1:(i:Int)+(j:Int)=(z:Int):=by omega
    have e2:(z:Int) / 2=(hh:Int):=by omega
    have hzb:z<=2000:=by omega
    have hhL:(hh:Int)<(L:Int):=by omega
    have hhb:hh<=1000:=by omega
    have hltI:(i:Int)<(j:Int):=by omega
    have Hrr:=hid hrr;have Hu:=hid hu;have Huy:=hid huy;have Hhij:Hid (i<=hh/\hh<j):=hid (by omega);clear c1 c2 hz hhe hr hrr hu huy hun;by_cases hlv:cf (yn:Int) (un:Int)<0
    . go_upto_region 17 with fail
      refine wp_region_quiet_below (by kernel_rfl) (by kernel_rfl) ?_;repeat ((with_reducible refine wpQuiet_step (fun K hK=>?_));go_simp;first | ((with_reducible refine hK _ ?_);clear hK K) | (apply Exists.intro;refine ⟨fun _=>?_,hK _ ?_⟩;((first | (go_at_call 115;with_reducible exact yAG (Hcon.out _ _))));clear hK K))
      refine wpQuiet_nil ?_;intro _ hw';obtain ⟨⟨dq,osq⟩,hw''⟩:=hw';subst hw'';have hbq:=below_regrown wr dq osq;generalize grow (redrawn wr dq) osq=wq at hbq |-;have HO2:=hid (Own.below HO.out hbq (zA _));have HG2:=hid (yAA HG.out (yAP hbq _));have HBt2:Hid (X.length<=r\/∃ v,X[r]?=some v/\lt (yn:Int) v):=hid (.inr ⟨_,Hu.out,HT.out.yes un yn Huy.out hyn hlv⟩);clear hbq f1 f2;go_wp2;go_roundw
      case rel=>exact ⟨i,hh,s,r,rfl,rfl,hid ⟨Hi.out.1,Hrr.out.1,Hrr.out.2.1,by have:=Hrr.out;have:=Hi.out;omega⟩,by have:=Hhij.out;omega,by have:=Hhij.out;omega,HAs,HBt2,HO2,HG2⟩
      case measure=>have:=Hhij.out;simp [intOf] <;> omega
    . go_upto_region 17 with fail
      refine wp_region_quiet_below (by kernel_rfl) (by kernel_rfl) ?_;repeat ((with_reducible refine wpQuiet_step (fun K hK=>?_));go_simp;first | ((with_reducible refine hK _ ?_);clear hK K) | (apply Exists.intro;refine ⟨fun _=>?_,hK _ ?_⟩;((first | (go_at_call 115;with_reducible exact yAG (Hcon.out _ _))));clear hK K))
      refine wpQuiet_nil ?_;intro _ hw';obtain ⟨⟨dq,osq⟩,hw''⟩:=hw';subst hw'';have hbq:=below_regrown wr dq osq;generalize grow (redrawn wr dq) osq=wq at hbq |-;have HO2:=hid (Own.below HO.out hbq (zA _));have HG2:=hid (yAA HG.out (yAP hbq _));have HAs2:Hid (r+1=0\/∃ u,X[r+1 - 1]?=some u/\lt u (yn:Int)):=hid (.inr ⟨_,Hu.out,HT.out.no un yn Huy.out hyn hlv⟩);clear hbq f1 f2;go_wp2;go_roundw
      case rel=>exact ⟨hh+1,j,r+1,t,by go_num,rfl,hid ⟨by have:=Hrr.out;omega,Hi.out.2.1,by have:=Hrr.out;omega,Hi.out.2.2.2⟩,by have:=Hhij.out;omega,hjb,HAs2,HBt,HO2,HG2⟩
      case measure=>have:=Hhij.out;simp [intOf] <;> omega
  . have hst:s=t:=by have:=Hi.out;omega
    subst hst;have hpl:=place HT.out.tr HX.out HAs.out HBt.out;have hsl:s<=X.length:=Hi.out.2.2.2;have his:i=a+s:=Hi.out.1;have Hpl:=hid hpl;have Hsl:=hid hsl;have His:=hid his;have HO1:Hid (OwnInt64S base wr (.slice (some ⟨g,0,none⟩) L cap) (P++(X.take X.length++((yn:Int) :: (X.drop X.length++S))))):=hid (by
     have e:=HO.out;rw [List.take_length,List.drop_length];exact e)
    have hltI:¬ (i:Int)<(j:Int):=by omega
    have him:i<=m:=by omega
    clear hpl hsl his HO;go_wp2;go_loopw [17] (fun kv wr=>∃ (k n:Nat),kv=.int .i64 k/\Hid (k=a+n/\s<=n/\n<=X.length)/\i<=k/\k<=m/\Hid (OwnInt64S base wr (.slice (some ⟨g,0,none⟩) L cap) (P++(X.take n++((yn:Int) :: (X.drop n++S)))))/\Hid (w.grownBy wr (some g))) (fun k _=>(intOf k).toNat)
    case atStart=>exact ⟨m,X.length,rfl,hid ⟨HM.out,Hsl.out,zA _⟩,him,zA _,HO1,HG⟩
    case round =>
     obtain ⟨k,n,rfl,Hk,hik,hkm,HOr,HGr⟩:=hrel;clear HO1 HG;by_cases hkl:i<k
     . obtain ⟨n',rfl⟩:∃ n',n=n'+1:=⟨n - 1,by have:=Hk.out;have:=His.out;omega⟩
       obtain ⟨kp,rfl⟩:∃ kp,k=kp+1:=⟨k - 1,by omega⟩;obtain ⟨u,hu⟩:∃ u,X[n']?=some u:=⟨_,zF (by have:=Hk.out;omega)⟩;obtain ⟨k1,hk1⟩:∃ k1,k1=kp+1:=⟨_,rfl⟩;have hkp:kp=a+n':=by have:=Hk.out;omega
       have hlen:L=(P++(X.take (n'+1)++((yn:Int) :: (X.drop (n'+1)++S)))).length:=by
        rw [HL.out];simp only [zE,List.length_cons,zQ,zI];have:=yBG hu;omega
       have hx1:(P++(X.take (n'+1)++((yn:Int) :: (X.drop (n'+1)++S))))[k1]?=some (yn:Int):=by
        have e:=at_mid (P:=P) (Z:=X) (S:=S) (x:=(yn:Int)) (t:=n'+1) (by have:=yBG hu;omega);rw [<- HA.out,<- Nat.add_assoc,<- hkp,<- hk1] at e;exact e
       have hy1:(P++(X.take (n'+1)++((yn:Int) :: (X.drop (n'+1)++S))))[kp]?=some u:=by
        have e:=at_left (P:=P) (S:=S) (x:=(yn:Int)) hu;rw [<- HA.out,<- hkp] at e;exact e
       obtain ⟨s1,s2⟩:=Own.swapI HOr.out hlen hx1 hy1;obtain ⟨c1,f1,-⟩:=Own.atI HOr.out hlen hx1;obtain ⟨c2,f2,-⟩:=Own.atI HOr.out hlen hy1;have e2:=swap_left (P:=P) (S:=S) (x:=(yn:Int)) hu;rw [<- HA.out,<- Nat.add_assoc,<- hkp,<- hk1] at e2;rw [e2] at s1;have S1:=hid s1;have S2:=hid (yAA HGr.out s2);have ne1:kp ≠ k1:=by omega
       have ne2:k1 ≠ kp:=by omega
       have p0:(0:Int)<=(kp:Int)+1:=by omega
       have e0:((kp:Int)+1).toNat=k1:=by omega
       have l1:(kp:Int)<(L:Int):=by omega
       have l2:(kp:Int)+1<(L:Int):=by omega
       have hkI:(i:Int)<(kp:Int)+1:=by omega
       have hwp:IntKind.i64.wrap (kp:Int)=(kp:Int):=IntWalk.i64_in _ (by omega);have Hk2:Hid (kp=a+n'/\s<=n'/\n'<=X.length):=hid (by have:=Hk.out;have:=His.out;omega);clear s1 s2 e2 hx1 hy1 hlen hu hk1 hkp;go_wp2;go_region
       all_goals
        go_wp2;go_roundw
        case rel=>exact ⟨kp,n',by first | rfl | go_num,Hk2,by omega,by omega,S1,hid (yAA S2.out (yBO _ _))⟩
        case measure=>simp [intOf] <;> omega
     . have hns:n=s:=by have:=Hk.out;have:=His.out;omega
       subst hns;have HO2:Hid (OwnInt64S base wr (.slice (some ⟨g,0,none⟩) L cap) (P++((X.take n++(yn:Int) :: X.drop n)++S))):=hid (by have e:=HOr.out;rw [zN];exact e);have HP:Hid ((X.take n++(yn:Int) :: X.drop n).Perm (X++[(yn:Int)])):=hid insert_perm;have HW:=hid (insert_pw HX.out Hpl.out.1 Hpl.out.2);have hkI:¬ (i:Int)<(k:Int):=by omega
       clear HOr;go_wp2;exact bodyPost_ret (v:=.tuple #[]) (by simp [results,Tryz.results171,go_sem]) rfl ⟨rfl,⟨_,HP.out,HW.out,HO2.out⟩,HGr.out⟩
abbrev SymOK (cf:Int->Int->Int) (lt:Int->Int->Prop) (base g L cap N p q K:Nat):Prop :=
 ∀ (P X Y S:List Int) (a m b:Nat) (w:World),X.length+Y.length<=K->0<X.length->0<Y.length->OwnInt64S base w (.slice (some ⟨g,0,none⟩) L cap) (P++(X++(Y++S)))->L=(P++(X++(Y++S))).length ->
  a=P.length->m=a+X.length->b=m+Y.length->X.Pairwise lt->Y.Pairwise lt->(∀ x∈X,∀ y∈Y,x<y)->Rng N X->Rng N Y->CmpB cf N g p q w ->
  Calls Tryz.prog 171 #[.slice (some ⟨g,0,none⟩) L cap,.int .i64 (a:Int),.int .i64 (m:Int),.int .i64 (b:Int),.func (.func 115) #[] #[.pointer (some ⟨p,0,none⟩),.pointer (some ⟨q,0,none⟩)]] w
   (MgPost lt P X Y S base g L cap w)
structure Cut (lt:Int->Int->Prop) (X Y:List Int) (a m b mid nn st en:Nat):Prop where
 fmid:mid=(a+b) / 2
 fnn:nn=mid+m
 fen:en=nn - st
 lo:a<=st
 hi:st<=m
 l2:st<=mid
 e1:m<=en
 e2:en<=b
 hA:st - a=0\/Y.length<=mid - st\/∃ x y,X[st - a - 1]?=some x/\Y[mid - st]?=some y/\lt x y
 hB:mid - st=0\/X.length<=st - a\/∃ y x,Y[mid - st - 1]?=some y/\X[st - a]?=some x/\lt y x
theorem pw_sub {lt:Int->Int->Prop} {X:List Int} (h:X.Pairwise lt) (k:Nat):(X.take k).Pairwise lt/\(X.drop k).Pairwise lt:=⟨h.sublist (List.take_sublist _ _),h.sublist (List.drop_sublist _ _)⟩
theorem Rng.sub {N:Nat} {X:List Int} (h:Rng N X) (k:Nat):Rng N (X.take k)/\Rng N (X.drop k):=⟨fun x hx=>h x (List.mem_of_mem_take hx),fun x hx=>h x (List.mem_of_mem_drop hx)⟩
theorem own_eq {base:Nat} {w:World} {v:Value} {A B:List Int} (h:OwnInt64S base w v A) (e:A=B):OwnInt64S base w v B:=e ▸ h
theorem symC_c {cf:Int->Int->Int} {lt:Int->Int->Prop} {base g L cap N p q K:Nat} (hT:CmpT cf lt N) (hl:L<=1000) (hIH:SymOK cf lt base g L cap N p q K)
 {P X Y S:List Int} {a m b:Nat} {w:World} (hK:X.length+Y.length<=K+1) (hX2:2<=X.length) (hY2:2<=Y.length) (h:OwnInt64S base w (.slice (some ⟨g,0,none⟩) L cap) (P++(X++(Y++S)))) (hL:L=(P++(X++(Y++S))).length)
 (ha:a=P.length) (hm:m=a+X.length) (hb:b=m+Y.length) (hX:X.Pairwise lt) (hY:Y.Pairwise lt) (hXY:∀ x∈X,∀ y∈Y,x<y) (hRX:Rng N X) (hRY:Rng N Y) (hc:CmpB cf N g p q w) :
 Calls Tryz.prog 171 #[.slice (some ⟨g,0,none⟩) L cap,.int .i64 (a:Int),.int .i64 (m:Int),.int .i64 (b:Int),.func (.func 115) #[] #[.pointer (some ⟨p,0,none⟩),.pointer (some ⟨q,0,none⟩)]] w
  (MgPost lt P X Y S base g L cap w):=by
 have hbL:b<=L:=by rw [hL,hb,hm,ha];simp only [zE];omega
 obtain ⟨z0,hz0⟩:∃ z,z=m - a:=⟨_,rfl⟩;obtain ⟨z1,hz1⟩:∃ z,z=b - m:=⟨_,rfl⟩;obtain ⟨z2,hz2⟩:∃ z,z=a+b:=⟨_,rfl⟩;obtain ⟨mid,hmid⟩:∃ z,z=z2 / 2:=⟨_,rfl⟩;obtain ⟨nn,hnn⟩:∃ z,z=mid+m:=⟨_,rfl⟩;obtain ⟨pp,hpp⟩:∃ z,z=nn - 1:=⟨_,rfl⟩;have d0:(m:Int) - (a:Int)=(z0:Int):=by omega
 have d1:(b:Int) - (m:Int)=(z1:Int):=by omega
 have d2:(a:Int)+(b:Int)=(z2:Int):=by omega
 have d3:(z2:Int) / 2=(mid:Int):=by omega
 have d4:(mid:Int)+(m:Int)=(nn:Int):=by omega
 have d5:(nn:Int) - 1=(pp:Int):=by omega
 have n0:((z0:Int) == 1)=false:=by simp;omega
 have n1:((z1:Int) == 1)=false:=by simp;omega
 have b0:IntKind.i64.wrap ((m:Int) - (a:Int))=(z0:Int):=by rw [d0];exact IntWalk.i64_in _ (by omega)
 have b1:IntKind.i64.wrap ((b:Int) - (m:Int))=(z1:Int):=by rw [d1];exact IntWalk.i64_in _ (by omega)
 have b4:IntKind.i64.wrap ((mid:Int)+(m:Int))=(nn:Int):=by rw [d4];exact IntWalk.i64_in _ (by omega)
 have b5:IntKind.i64.wrap ((nn:Int) - 1)=(pp:Int):=by rw [d5];exact IntWalk.i64_in _ (by omega)
 have hb2:b<=1000:=by omega
 have ha2:a<=1000:=by omega
 have hm2:m<=1000:=by omega
 have hz22:z2<=2000:=by omega
 have hmid2:mid<=1000:=by omega
 have hnn2:nn<=2000:=by omega
 have HI0:Hid (mid=(a+b) / 2/\nn=mid+m/\pp=nn - 1/\a<mid/\mid<b):=hid (by omega);have HO0:=hid h;have HL:=hid hL;have HA:=hid ha;have HM:=hid hm;have HB:=hid hb;have HX:=hid hX;have HY:=hid hY;have HXY:=hid hXY;have HRX:=hid hRX;have HRY:=hid hRY;have HT:=hid hT;have HC:=hid hc;have HK:=hid hK;have IH:=hid hIH;have HX2:=hid hX2;have HY2:=hid hY2;have hma:a<=m/\m<=b:=by omega
 obtain ⟨ham,hmb⟩:=hma;clear h hL ha hm hb hX hY hXY hRX hRY hT hc hK hIH hz0 hz1 hz2 hmid hnn hpp hX2 hY2;go_enter Tryz.func171,Tryz.ntmps171;go_upto_if 140 with fail;go_cut [20,21] (fun sv rv wx=>∃ lo hi:Nat,sv=.int .i64 lo/\rv=.int .i64 hi/\Hid (a<=lo/\lo<=hi/\hi<=m/\(lo=a\/nn - lo=b)/\(hi=mid\/hi=m)/\hi<=mid/\mid=(a+b) / 2/\nn=mid+m/\pp=nn - 1/\nn - lo<=b/\b<=L)/\Hid (OwnInt64S base wx (.slice (some ⟨g,0,none⟩) L cap) (P++(X++(Y++S))))/\Hid (w.grownBy wx (some g)))
 case first =>
  as_aux_lemma =>
  by_cases hcs:mid<m
  . have hcI:(mid:Int)<(m:Int):=by omega
    obtain ⟨lo,hlo⟩:∃ z,z=nn - b:=⟨_,rfl⟩;have d6:(nn:Int) - (b:Int)=(lo:Int):=by have:=HI0.out;omega
    have b6:IntKind.i64.wrap ((nn:Int) - (b:Int))=(lo:Int):=by rw [d6];exact IntWalk.i64_in _ (by omega)
    have Hlo:=hid hlo;clear hlo;go_wp2_with fail;go_meet;exact ⟨lo,mid,rfl,rfl,hid (by have:=HI0.out;have:=Hlo.out;omega),HO0,hid (World.grownBy.refl _ _)⟩
  . have hcI:¬ (mid:Int)<(m:Int):=by omega
    go_wp2_with fail;go_meet;exact ⟨a,m,rfl,rfl,hid (by have:=HI0.out;omega),HO0,hid (World.grownBy.refl _ _)⟩
 case rest =>
  obtain ⟨lo,hi,rfl,rfl,HF,HO1,HG1⟩:=hcut;clear HO0;as_aux_lemma =>
  go_upto_region 33 with fail;go_loopw [20,21] (fun sv rv wr=>∃ (st rr:Nat),sv=.int .i64 st/\rv=.int .i64 rr/\Hid (lo<=st/\rr<=hi)/\st<=rr/\rr<=m /\
   Hid (st=lo\/∃ x y,X[st - a - 1]?=some x/\Y[mid - st]?=some y/\lt x y)/\Hid (rr=hi\/∃ y x,Y[mid - rr - 1]?=some y/\X[rr - a]?=some x/\lt y x) /\
   Hid (OwnInt64S base wr (.slice (some ⟨g,0,none⟩) L cap) (P++(X++(Y++S))))/\Hid (w.grownBy wr (some g))) (fun s r _=>(intOf r).toNat - (intOf s).toNat)
  case atStart=>exact ⟨lo,hi,rfl,rfl,hid ⟨zA _,zA _⟩,HF.out.2.1,HF.out.2.2.1,hid (.inl rfl),hid (.inl rfl),HO1,HG1⟩
  case round =>
   obtain ⟨st,rr,rfl,rfl,Hi,hij,hjb,HAs,HBt,HO,HG⟩:=hrel;clear HO1 HG1;by_cases hlt:st<rr
   . obtain ⟨z,hz⟩:∃ z,z=st+rr:=⟨_,rfl⟩
     obtain ⟨c,hce⟩:∃ c,c=z / 2:=⟨_,rfl⟩;obtain ⟨d,hd⟩:∃ d,d=pp - c:=⟨_,rfl⟩;have hcc:st<=c/\c<rr:=by omega
     have hx0:c - a<X.length:=by have:=Hi.out;have:=HF.out;have:=HM.out;omega
     have hy0:mid - c - 1<Y.length:=by have:=Hi.out;have:=HF.out;have:=HB.out;omega
     obtain ⟨x,hx⟩:∃ x,X[c - a]?=some x:=⟨_,zF hx0⟩;obtain ⟨y,hy⟩:∃ y,Y[mid - c - 1]?=some y:=⟨_,zF hy0⟩;obtain ⟨xn,hxn,hxe⟩:=HRX.out x (zC hx);obtain ⟨yn,hyn,hye⟩:=HRY.out y (zC hy);subst hxe;subst hye;have hxy:xn<yn:=by have:=HXY.out _ (zC hx) _ (zC hy);omega
     have c1:=Own.atI HO.out HL.out (i:=d) (x:=(yn:Int)) (by
      have hdd:d=P.length+(X.length+(mid - c - 1)):=by have:=Hi.out;have:=HF.out;have:=HM.out;have:=HA.out;omega
      rw [hdd,zJ (by omega),Nat.add_sub_cancel_left,zJ (by omega),Nat.add_sub_cancel_left,zL hy0];exact hy)
     have c2:=Own.atI HO.out HL.out (i:=c) (x:=(xn:Int)) (by
      have hdd:c=P.length+(c - a):=by have:=Hi.out;have:=HF.out;have:=HA.out;omega
      rw [hdd,zJ (by omega),Nat.add_sub_cancel_left,zL (by omega)];have e:P.length+(c - a) - a=c - a:=by have:=HA.out;omega
      first | exact hx | (rw [<- hdd];exact hx))
     have f1:=cell_regrown c1.1;have f2:=cell_regrown c2.1;have Hcon:=hid (fun d os=>HC.out (grow (redrawn wr d) os) (yAA HG.out (yAP (below_regrown wr d os) _)) yn xn hyn hxn);have e1:(st:Int)+(rr:Int)=(z:Int):=by omega
     have e2:(z:Int) / 2=(c:Int):=by omega
     have e3:(pp:Int) - (c:Int)=(d:Int):=by have:=Hi.out;have:=HF.out;omega
     have e3w:IntKind.i64.wrap ((pp:Int) - (c:Int))=(d:Int):=by rw [e3];exact IntWalk.i64_in _ (by have:=HF.out;omega)
     have hdb:d<=2000:=by have:=HF.out;omega
     have e3x:IntKind.i64.wrap (d:Int)=(d:Int):=IntWalk.i64_in _ (by omega);have hzb:z<=2000:=by omega
     have hcL:(c:Int)<(L:Int):=by have:=HF.out;omega
     have hdL:(d:Int)<(L:Int):=by have:=Hi.out;have:=HF.out;omega
     have hcb:c<=1000:=by omega
     have hltI:(st:Int)<(rr:Int):=by omega
     have Hcc:=hid hcc;have Hx:=hid hx;have Hy:=hid hy;have Hxy:=hid hxy;have Hyn:=hid hyn;clear c1 c2 hz hce hd hcc hx hy hxy hyn hx0 hy0;by_cases hlv:cf (yn:Int) (xn:Int)<0
     . go_upto_region 35 with fail
       refine wp_region_quiet_below (by kernel_rfl) (by kernel_rfl) ?_;repeat ((with_reducible refine wpQuiet_step (fun K hK=>?_));go_simp;first | ((with_reducible refine hK _ ?_);clear hK K) | (apply Exists.intro;refine ⟨fun _=>?_,hK _ ?_⟩;((first | (go_at_call 115;with_reducible exact yAG (Hcon.out _ _))));clear hK K))
       refine wpQuiet_nil ?_;intro _ hw';obtain ⟨⟨dq,osq⟩,hw''⟩:=hw';subst hw'';have hbq:=below_regrown wr dq osq;generalize grow (redrawn wr dq) osq=wq at hbq |-;have HO2:=hid (Own.below HO.out hbq (zA _));have HG2:=hid (yAA HG.out (yAP hbq _));have HBt2:Hid (c=hi\/∃ y x,Y[mid - c - 1]?=some y/\X[c - a]?=some x/\lt y x):=hid (.inr ⟨_,_,Hy.out,Hx.out,HT.out.yes xn yn Hxy.out Hyn.out hlv⟩);clear hbq f1 f2;go_wp2;go_roundw
       case rel=>exact ⟨st,c,rfl,rfl,hid ⟨Hi.out.1,by have:=Hi.out;have:=Hcc.out;omega⟩,Hcc.out.1,by have:=Hcc.out;omega,HAs,HBt2,HO2,HG2⟩
       case measure=>have:=Hcc.out;simp [intOf] <;> omega
     . go_upto_region 35 with fail
       refine wp_region_quiet_below (by kernel_rfl) (by kernel_rfl) ?_;repeat ((with_reducible refine wpQuiet_step (fun K hK=>?_));go_simp;first | ((with_reducible refine hK _ ?_);clear hK K) | (apply Exists.intro;refine ⟨fun _=>?_,hK _ ?_⟩;((first | (go_at_call 115;with_reducible exact yAG (Hcon.out _ _))));clear hK K))
       refine wpQuiet_nil ?_;intro _ hw';obtain ⟨⟨dq,osq⟩,hw''⟩:=hw';subst hw'';have hbq:=below_regrown wr dq osq;generalize grow (redrawn wr dq) osq=wq at hbq |-;have HO2:=hid (Own.below HO.out hbq (zA _));have HG2:=hid (yAA HG.out (yAP hbq _));have HAs2:Hid (c+1=lo\/∃ x y,X[c+1 - a - 1]?=some x/\Y[mid - (c+1)]?=some y/\lt x y):=hid (.inr ⟨_,_,by rw [show c+1 - a - 1=c - a by have:=Hi.out;have:=HF.out;have:=Hcc.out;omega];exact Hx.out,by rw [show mid - (c+1)=mid - c - 1 by omega];exact Hy.out,HT.out.no xn yn Hxy.out Hyn.out hlv⟩);clear hbq f1 f2;go_wp2;go_roundw
       case rel=>exact ⟨c+1,rr,by go_num,rfl,hid ⟨by have:=Hi.out;have:=Hcc.out;omega,Hi.out.2⟩,by have:=Hcc.out;omega,hjb,HAs2,HBt,HO2,HG2⟩
       case measure=>have:=Hcc.out;simp [intOf] <;> omega
   . have hst:st=rr:=by omega
     subst hst;obtain ⟨en,hen⟩:∃ en,en=nn - st:=⟨_,rfl⟩;have HCut:Hid (Cut lt X Y a m b mid nn st en):=hid (by
      have h1:=Hi.out;have h2:=HF.out;have h3:=HM.out;have h4:=HB.out;refine ⟨h2.2.2.2.2.2.2.1,h2.2.2.2.2.2.2.2.1,hen,by omega,by omega,by omega,by omega,by omega,?_,?_⟩
      . rcases HAs.out with e | e
        . rcases h2.2.2.2.1 with e2 | e2
          . exact .inl (by omega)
          . exact .inr (.inl (by omega))
        . exact .inr (.inr e)
      . rcases HBt.out with e | e
        . rcases h2.2.2.2.2.1 with e2 | e2
          . exact .inl (by omega)
          . exact .inr (.inl (by omega))
        . exact .inr (.inr e))
     have e4:(nn:Int) - (st:Int)=(en:Int):=by have:=HCut.out.fen;have:=HCut.out.fnn;have:=HCut.out.l2;omega
     have hnb:nn<=2000:=by have:=HF.out;omega
     have heb:en<=2000:=by have:=HCut.out.e2;omega
     have e4w:IntKind.i64.wrap ((nn:Int) - (st:Int))=(en:Int):=by rw [e4];exact IntWalk.i64_in _ (by omega)
     have hltI:¬ (st:Int)<(st:Int):=by omega
     obtain ⟨s,hs⟩:∃ s,s=st - a:=⟨_,rfl⟩;obtain ⟨t,ht⟩:∃ t,t=mid - st:=⟨_,rfl⟩;have Hs:=hid hs;have Ht:=hid ht;clear hs ht hen HAs HBt;obtain ⟨k0,hk0⟩:∃ z:Bool,z=decide (st<m/\m<en):=⟨_,rfl⟩;have Hk0:=hid hk0;clear hk0;go_upto_region 39 with fail;go_cut [185] (fun c wx=>c=.bool k0/\Hid (OwnInt64S base wx (.slice (some ⟨g,0,none⟩) L cap) (P++(X++(Y++S))))/\Hid (w.grownBy wx (some g)))
     case first =>
      as_aux_lemma =>
      by_cases q1:st<m
      . have q1I:(st:Int)<(m:Int):=by omega
        by_cases q2:m<en
        . have q2I:(m:Int)<(en:Int):=by omega
          have e:k0=true:=by rw [Hk0.out];exact decide_eq_true ⟨q1,q2⟩
          clear q1 q2;go_wp2_with fail;go_meet;exact ⟨by rw [e],HO,HG⟩
        . have q2I:¬ (m:Int)<(en:Int):=by omega
          have e:k0=false:=by rw [Hk0.out];exact decide_eq_false (fun h=>q2 h.2)
          clear q1 q2;go_wp2_with fail;go_meet;exact ⟨by rw [e],HO,HG⟩
      . have q1I:¬ (st:Int)<(m:Int):=by omega
        have e:k0=false:=by rw [Hk0.out];exact decide_eq_false (fun h=>q1 h.1)
        clear q1;go_wp2_with fail;go_meet;exact ⟨by rw [e],HO,HG⟩
     case rest =>
      obtain ⟨rfl,HO,HG⟩:=hcut;as_aux_lemma =>
      go_upto_if 185 with fail;go_cut [] (fun wx=>Hid (OwnInt64S base wx (.slice (some ⟨g,0,none⟩) L cap) (P++(X.take s++(Y.take t++(X.drop s++(Y.drop t++S))))))/\Hid (w.grownBy wx (some g)))
      case first =>
       as_aux_lemma =>
       cases k0 with
       | true =>
        obtain ⟨g01,g02⟩:=of_decide_eq_true Hk0.out.symm;have HO3:=hid (show OwnInt64S base _ (.slice (some ⟨g,0,none⟩) L cap) ((P++X.take s)++(X.drop s++(Y.take t++(Y.drop t++S)))) by
         have e:=HO.out;rw [<- zN (Y.take t),zP,zN,<- zN (X.take s),zP];exact e)
        go_wp2_with fail;with_reducible refine (rotate_c (P:=P++X.take s) (A:=X.drop s) (B:=Y.take t) (S:=Y.drop t++S) (a:=st) (m:=m) (b:=en) HO3.out ?_ hl ?_ ?_ ?_ ?_ ?_).mono ?_
        . rw [HL.out];simp only [zE,zQ,zI];have:=HM.out;have:=HB.out;have:=Hs.out;have:=Ht.out;have:=HCut.out.hi;have:=HCut.out.fnn;have:=HCut.out.fen;have:=HCut.out.e2;omega
        . rw [zE,zI];have:=HA.out;have:=HM.out;have:=Hs.out;have:=HCut.out.hi;have:=HCut.out.lo;omega
        . rw [zQ];have:=HM.out;have:=Hs.out;have:=HCut.out.lo;omega
        . rw [zI];have:=HCut.out.fnn;have:=HCut.out.fen;have:=HCut.out.e2;have:=HB.out;have:=Ht.out;have:=HCut.out.l2;omega
        . rw [zQ];have:=HM.out;have:=Hs.out;have:=HCut.out.lo;omega
        . rw [zI];have:=HCut.out.fnn;have:=HCut.out.fen;have:=HCut.out.e2;have:=HB.out;have:=Ht.out;have:=HCut.out.l2;omega
        rintro e wy ⟨rfl,hO4,hg4⟩;rw [zN] at hO4;have HOy:=hid hO4;have HGy:=hid (yAA HG.out hg4);clear hO4 hg4 HO3 HO;go_wp2_with fail;go_meet;exact ⟨HOy,HGy⟩
       | false =>
        have hno:X.drop s=[]\/Y.take t=[]:=by
         have:=Hs.out;have:=Ht.out;have:=HCut.out.lo;have:=HCut.out.hi;have:=HCut.out.fnn;have:=HCut.out.fen;have:=HCut.out.l2;have:=HM.out;have:=HCut.out.e1;have hk:=of_decide_eq_false Hk0.out.symm;rcases Nat.lt_or_ge st m with h1 | h1
         . right;rw [List.take_eq_nil_iff];left;omega
         . left;rw [List.drop_eq_nil_iff];omega
        have HOy:=hid (own_eq HO.out (show P++(X++(Y++S))=P++(X.take s++(Y.take t++(X.drop s++(Y.drop t++S)))) by
         have e1:X++(Y++S)=X.take s++(X.drop s++(Y.take t++(Y.drop t++S))):=by
          rw [<- zN (Y.take t),zP,<- zN (X.take s),zP]
         rw [e1];rcases hno with e2 | e2
         . rw [e2,List.nil_append,List.nil_append]
         . rw [e2,List.nil_append,List.nil_append]))
        clear hno HO;go_wp2_with fail;go_meet;exact ⟨HOy,HG⟩
      case rest =>
       obtain ⟨HO,HG⟩:=hcut;as_aux_lemma =>
       obtain ⟨k1,hk1⟩:∃ z:Bool,z=decide (a<st/\st<mid):=⟨_,rfl⟩;have Hk1:=hid hk1;clear hk1;go_upto_region 41 with fail;go_cut [199] (fun c wx=>c=.bool k1/\Hid (OwnInt64S base wx (.slice (some ⟨g,0,none⟩) L cap) (P++(X.take s++(Y.take t++(X.drop s++(Y.drop t++S))))))/\Hid (w.grownBy wx (some g)))
       case first =>
        as_aux_lemma =>
        by_cases q1:a<st
        . have q1I:(a:Int)<(st:Int):=by omega
          by_cases q2:st<mid
          . have q2I:(st:Int)<(mid:Int):=by omega
            have e:k1=true:=by rw [Hk1.out];exact decide_eq_true ⟨q1,q2⟩
            clear q1 q2;go_wp2_with fail;go_meet;exact ⟨by rw [e],HO,HG⟩
          . have q2I:¬ (st:Int)<(mid:Int):=by omega
            have e:k1=false:=by rw [Hk1.out];exact decide_eq_false (fun h=>q2 h.2)
            clear q1 q2;go_wp2_with fail;go_meet;exact ⟨by rw [e],HO,HG⟩
        . have q1I:¬ (a:Int)<(st:Int):=by omega
          have e:k1=false:=by rw [Hk1.out];exact decide_eq_false (fun h=>q1 h.1)
          clear q1;go_wp2_with fail;go_meet;exact ⟨by rw [e],HO,HG⟩
       case rest =>
        obtain ⟨rfl,HO,HG⟩:=hcut;as_aux_lemma =>
        go_upto_if 199 with fail;go_cut [] (fun wx=>∃ Z1,Hid (Z1.Perm (X.take s++Y.take t)/\Z1.Pairwise lt)/\Hid (OwnInt64S base wx (.slice (some ⟨g,0,none⟩) L cap) (P++(Z1++(X.drop s++(Y.drop t++S)))))/\Hid (w.grownBy wx (some g)))
        case first =>
         as_aux_lemma =>
         cases k1 with
         | true =>
          obtain ⟨g11,g12⟩:=of_decide_eq_true Hk1.out.symm;go_wp2_with fail;with_reducible refine (IH.out P (X.take s) (Y.take t) (X.drop s++(Y.drop t++S)) a st mid _ ?_ ?_ ?_ ?_ ?_ HA.out ?_ ?_ (pw_sub HX.out s).1 (pw_sub HY.out t).1 (fun x hx y hy=>HXY.out x (List.mem_of_mem_take hx) y (List.mem_of_mem_take hy)) (HRX.out.sub s).1 (HRY.out.sub t).1 (HC.out.on HG.out)).mono ?_
          . rw [zI,zI];have:=HCut.out.fmid;have:=HCut.out.lo;have:=HCut.out.hi;have:=HCut.out.l2;have:=HCut.out.e2;have:=HM.out;have:=HB.out;have:=Hs.out;have:=Ht.out;have:=HK.out;omega
          . rw [zI];have:=HM.out;have:=Hs.out;have:=HCut.out.hi;omega
          . rw [zI];have:=HCut.out.fnn;have:=HCut.out.fen;have:=HCut.out.e2;have:=HB.out;have:=Ht.out;omega
          . exact HO.out
          . rw [HL.out];simp only [zE,zQ,zI];have:=HM.out;have:=HB.out;have:=Hs.out;have:=Ht.out;have:=HCut.out.hi;have:=HCut.out.fnn;have:=HCut.out.fen;have:=HCut.out.e2;omega
          . rw [zI];have:=HM.out;have:=Hs.out;have:=HCut.out.hi;have:=HCut.out.lo;omega
          . rw [zI];have:=HCut.out.fnn;have:=HCut.out.fen;have:=HCut.out.e2;have:=HB.out;have:=Ht.out;have:=HCut.out.l2;omega
          rintro e wz ⟨rfl,⟨Z1,hp1,hw1,hO1⟩,hg7⟩;have HZ1:=hid (show Z1.Perm (X.take s++Y.take t)/\Z1.Pairwise lt from ⟨hp1,hw1⟩);have HOz:=hid hO1;have HGz:=hid (yAA HG.out hg7);clear hp1 hw1 hO1 hg7 HO;go_wp2_with fail;go_meet;exact ⟨_,HZ1,HOz,HGz⟩
         | false =>
          have hno:X.take s=[]\/Y.take t=[]:=by
           have:=Hs.out;have:=Ht.out;have:=HCut.out.lo;have:=HCut.out.l2;have hk:=of_decide_eq_false Hk1.out.symm;rcases Nat.lt_or_ge a st with h1 | h1
           . right;rw [List.take_eq_nil_iff];left;omega
           . left;rw [List.take_eq_nil_iff];left;omega
          have HZ1:Hid ((X.take s++Y.take t).Perm (X.take s++Y.take t)/\(X.take s++Y.take t).Pairwise lt):=hid (by
           refine ⟨List.Perm.refl _,?_⟩;rcases hno with e | e
           . rw [e,List.nil_append];exact (pw_sub HY.out t).1
           . rw [e,List.append_nil];exact (pw_sub HX.out s).1)
          clear hno;go_wp2_with fail;go_meet;exact ⟨_,HZ1,hid (by have e:=HO.out;rw [zN];exact e),HG⟩
        case rest =>
         obtain ⟨Z1,HZ1,HO,HG⟩:=hcut;as_aux_lemma =>
         obtain ⟨k2,hk2⟩:∃ z:Bool,z=decide (mid<en/\en<b):=⟨_,rfl⟩;have Hk2:=hid hk2;clear hk2;go_upto_region 43 with fail;go_cut [213] (fun c wx=>c=.bool k2/\Hid (Z1.Perm (X.take s++Y.take t)/\Z1.Pairwise lt)/\Hid (OwnInt64S base wx (.slice (some ⟨g,0,none⟩) L cap) (P++(Z1++(X.drop s++(Y.drop t++S)))))/\Hid (w.grownBy wx (some g)))
         case first =>
          as_aux_lemma =>
          by_cases q1:mid<en
          . have q1I:(mid:Int)<(en:Int):=by omega
            by_cases q2:en<b
            . have q2I:(en:Int)<(b:Int):=by omega
              have e:k2=true:=by rw [Hk2.out];exact decide_eq_true ⟨q1,q2⟩
              clear q1 q2;go_wp2_with fail;go_meet;exact ⟨by rw [e],HZ1,HO,HG⟩
            . have q2I:¬ (en:Int)<(b:Int):=by omega
              have e:k2=false:=by rw [Hk2.out];exact decide_eq_false (fun h=>q2 h.2)
              clear q1 q2;go_wp2_with fail;go_meet;exact ⟨by rw [e],HZ1,HO,HG⟩
          . have q1I:¬ (mid:Int)<(en:Int):=by omega
            have e:k2=false:=by rw [Hk2.out];exact decide_eq_false (fun h=>q1 h.1)
            clear q1;go_wp2_with fail;go_meet;exact ⟨by rw [e],HZ1,HO,HG⟩
         case rest =>
          obtain ⟨rfl,HZ1,HO,HG⟩:=hcut;as_aux_lemma =>
          cases k2 with
          | true =>
           obtain ⟨g21,g22⟩:=of_decide_eq_true Hk2.out.symm;go_wp2_with fail;with_reducible refine (IH.out (P++Z1) (X.drop s) (Y.drop t) S mid en b _ ?_ ?_ ?_ ?_ ?_ ?_ ?_ ?_ (pw_sub HX.out s).2 (pw_sub HY.out t).2 (fun x hx y hy=>HXY.out x (List.mem_of_mem_drop hx) y (List.mem_of_mem_drop hy)) (HRX.out.sub s).2 (HRY.out.sub t).2 (HC.out.on HG.out)).mono ?_
           . rw [zQ,zQ];have:=HCut.out.fmid;have:=HCut.out.lo;have:=HCut.out.hi;have:=HCut.out.l2;have:=HCut.out.e2;have:=HM.out;have:=HB.out;have:=Hs.out;have:=Ht.out;have:=HK.out;omega
           . rw [zQ];have:=HCut.out.fnn;have:=HCut.out.fen;have:=HCut.out.e1;have:=HM.out;have:=Hs.out;have:=HCut.out.lo;omega
           . rw [zQ];have:=HCut.out.fnn;have:=HCut.out.fen;have:=HCut.out.l2;have:=HCut.out.fmid;have:=HB.out;have:=Ht.out;omega
           . have e:=HO.out;rw [zN];exact e
           . rw [HL.out];have e:=HZ1.out.1.length_eq;simp only [zE,zQ,zI] at e |-;have:=HM.out;have:=HB.out;have:=Hs.out;have:=Ht.out;have:=HCut.out.lo;have:=HCut.out.hi;have:=HCut.out.fnn;have:=HCut.out.fen;have:=HCut.out.e2;have:=HCut.out.l2;omega
           . have e:=HZ1.out.1.length_eq;simp only [zE,zI] at e |-;have:=HA.out;have:=HM.out;have:=HB.out;have:=Hs.out;have:=Ht.out;have:=HCut.out.lo;have:=HCut.out.hi;have:=HCut.out.fnn;have:=HCut.out.fen;have:=HCut.out.e2;have:=HCut.out.l2;omega
           . rw [zQ];have:=HCut.out.fnn;have:=HCut.out.fen;have:=HCut.out.l2;have:=HCut.out.e1;have:=HM.out;have:=Hs.out;have:=HCut.out.lo;omega
           . rw [zQ];have:=HCut.out.fnn;have:=HCut.out.fen;have:=HCut.out.l2;have:=HCut.out.e2;have:=HB.out;have:=Ht.out;omega
           rintro e w8 ⟨rfl,⟨Z2,hp2,hw2,hO2⟩,hg8⟩;have hh:=halves (X:=X) (Y:=Y) ⟨fun a _ b _ c _=>HT.out.tr a b c⟩ HX.out HY.out (by have:=HCut.out.hA;rw [Hs.out,Ht.out];exact this) (by have:=HCut.out.hB;rw [Hs.out,Ht.out];exact this) HZ1.out.1 hp2 HZ1.out.2 hw2;have HH:=hid hh;have HO8:Hid (OwnInt64S base w8 (.slice (some ⟨g,0,none⟩) L cap) (P++((Z1++Z2)++S))):=hid (by have e:=hO2;rw [zN] at e;rw [zN];exact e);have HG8:=hid (yAA HG.out hg8);clear hp2 hw2 hO2 hg8 hh HO;go_wp2;go_end0;exact ⟨rfl,⟨_,HH.out.2,HH.out.1,HO8.out⟩,HG8.out⟩
          | false =>
           have hno:X.drop s=[]\/Y.drop t=[]:=by
            have:=HCut.out.fnn;have:=HCut.out.fen;have:=HCut.out.l2;have:=HCut.out.e1;have:=HCut.out.e2;have:=HM.out;have:=HB.out;have:=Hs.out;have:=Ht.out;have:=HCut.out.lo;have:=HCut.out.hi;have hk:=of_decide_eq_false Hk2.out.symm;rcases Nat.lt_or_ge mid en with h1 | h1
            . right;rw [List.drop_eq_nil_iff];omega
            . left;rw [List.drop_eq_nil_iff];omega
           have hh:(Z1++(X.drop s++Y.drop t)).Pairwise lt/\(Z1++(X.drop s++Y.drop t)).Perm (X++Y) :=
            halves (X:=X) (Y:=Y) ⟨fun a _ b _ c _=>HT.out.tr a b c⟩ HX.out HY.out (by have:=HCut.out.hA;rw [Hs.out,Ht.out];exact this) (by have:=HCut.out.hB;rw [Hs.out,Ht.out];exact this) HZ1.out.1 (List.Perm.refl _) HZ1.out.2 (by
             rcases hno with e | e
             . rw [e,List.nil_append];exact (pw_sub HY.out t).2
             . rw [e,List.append_nil];exact (pw_sub HX.out s).2)
           have HH:=hid hh;have HO8:=hid (show OwnInt64S base _ (.slice (some ⟨g,0,none⟩) L cap) (P++((Z1++(X.drop s++Y.drop t))++S)) by have e:=HO.out;rw [zN,zN];exact e);clear hno hh HO;go_wp2;go_end0;exact ⟨rfl,⟨_,HH.out.2,HH.out.1,HO8.out⟩,HG.out⟩
theorem symMerge_ok {cf:Int->Int->Int} {lt:Int->Int->Prop} {base g L cap N p q:Nat} (hT:CmpT cf lt N) (hl:L<=1000):∀ K,SymOK cf lt base g L cap N p q K:=by
 intro K;induction K with
 | zero=>intro P X Y S a m b w h0 h1;omega
 | succ K ih =>
  intro P X Y S a m b w hK hX0 hY0 h hL ha hm hb hX hY hXY hRX hRY hc;by_cases hX1:X.length=1
  . obtain ⟨x,rfl⟩:∃ x,X=[x]:=List.length_eq_one_iff.1 hX1
    exact symA_c h hL hl ha hm hb hY (fun y hy=>hXY x (List.mem_singleton_self _) y hy) (hRX x (List.mem_singleton_self _)) hRY hT hc
  . by_cases hY1:Y.length=1
    . obtain ⟨y,rfl⟩:∃ y,Y=[y]:=List.length_eq_one_iff.1 hY1
      exact symB_c h hL hl ha hm hb hX1 hX (fun x hx=>hXY x hx y (List.mem_singleton_self _)) (hRY y (List.mem_singleton_self _)) hRX hT hc
    . exact symC_c hT hl ih hK (by omega) (by omega) h hL ha hm hb hX hY hXY hRX hRY hc
def StPost (lt:Int->Int->Prop) (xs:List Int) (base g n cap:Nat) (w:World) (e:Ending) (w':World):Prop :=
 e=.returned (.tuple #[])/\(∃ Z,Z.Perm xs/\Z.Pairwise lt/\OwnInt64S base w' (.slice (some ⟨g,0,none⟩) n cap) Z)/\w.grownBy w' (some g)
theorem rise_sub {X:List Int} (h:X.Pairwise (·<·)) (k:Nat):(X.take k).Pairwise (·<·)/\(X.drop k).Pairwise (·<·):=⟨h.sublist (List.take_sublist _ _),h.sublist (List.drop_sublist _ _)⟩
theorem rise_two {X:List Int} (h:X.Pairwise (·<·)) (k:Nat):∀ x∈X.take k,∀ y∈X.drop k,x<y:=by
 rw [<- zP k X] at h;exact (List.pairwise_append.1 h).2.2
section
variable {xs:List Int} {base g cap n N p q:Nat} {cf:Int->Int->Int} {lt:Int->Int->Prop} {w:World}
theorem stableS_c (h:OwnInt64S base w (.slice (some ⟨g,0,none⟩) n cap) xs) (hn:n=xs.length) (hl:n<20) (hX:xs.Pairwise (·<·)) (hR:Rng N xs) (hT:CmpT cf lt N) (hc:CmpB cf N g p q w) :
 Calls Tryz.prog 153 #[.slice (some ⟨g,0,none⟩) n cap,.int .i64 (n:Int),.func (.func 115) #[] #[.pointer (some ⟨p,0,none⟩),.pointer (some ⟨q,0,none⟩)]] w (StPost lt xs base g n cap w):=by
 have hcon:=hid (insSort_c (P:=[]) (X:=xs) (S:=[]) (a:=0) (b:=n) (L:=n) (cap:=cap) (base:=base) (by rw [List.append_nil];exact h) (by simp [hn]) (by omega) rfl (by omega) hX hR hT hc);clear h hn hX hR hT hc;go_enter Tryz.func153,Tryz.ntmps153;go_wp2;refine wp_loop_rounds 1 ?_;rw [rounds_succ];go_wp2_with fail;refine hcon.out.mono ?_;rintro e w' ⟨rfl,⟨Z,h1,h2,h3⟩,h4⟩;have H:=hid (show Z.Perm xs/\Z.Pairwise lt/\OwnInt64S base w' (.slice (some ⟨g,0,none⟩) n cap) Z from ⟨h1,h2,by rw [List.append_nil] at h3;exact h3⟩);have HG:=hid h4;clear h1 h2 h3 h4;go_wp2;go_rounds 1;go_end0;exact ⟨rfl,⟨Z,H.out⟩,HG.out⟩
theorem blocks_c (h:OwnInt64S base w (.slice (some ⟨g,0,none⟩) n cap) xs) (hn:n=xs.length) (hl:20<=n/\n<=40) (hX:xs.Pairwise (·<·)) (hR:Rng N xs) (hT:CmpT cf lt N) (hc:CmpB cf N g p q w) :
 Calls Tryz.prog 170 #[.slice (some ⟨g,0,none⟩) n cap,.int .i64 0,.int .i64 20,.func (.func 115) #[] #[.pointer (some ⟨p,0,none⟩),.pointer (some ⟨q,0,none⟩)]] w fun e w1=>e=.returned (.tuple #[])/\w.grownBy w1 (some g) /\
  Calls Tryz.prog 170 #[.slice (some ⟨g,0,none⟩) n cap,.int .i64 20,.int .i64 (n:Int),.func (.func 115) #[] #[.pointer (some ⟨p,0,none⟩),.pointer (some ⟨q,0,none⟩)]] w1 fun e w2=>e=.returned (.tuple #[])/\w.grownBy w2 (some g) /\
   ∃ Z1 Z2,Z1.Perm (xs.take 20)/\Z1.Pairwise lt/\Z2.Perm (xs.drop 20)/\Z2.Pairwise lt/\OwnInt64S base w2 (.slice (some ⟨g,0,none⟩) n cap) (Z1++Z2):=by
 have hl1:(xs.take 20).length=20:=by rw [zI];omega
 have hl2:(xs.drop 20).length=n - 20:=by rw [zQ];omega
 refine (insSort_c (P:=[]) (X:=xs.take 20) (S:=xs.drop 20) (a:=0) (b:=20) (L:=n) (cap:=cap) (base:=base) (by rw [zP];exact h) (by rw [zP];exact hn) (by omega) rfl (by omega) (rise_sub hX 20).1 (hR.sub 20).1 hT hc).mono ?_;rintro e w1 ⟨rfl,⟨Z1,p1,q1,o1⟩,g1⟩;have hz1:Z1.length=20:=by rw [p1.length_eq,hl1]
 refine ⟨rfl,g1,?_⟩;refine (insSort_c (P:=Z1) (X:=xs.drop 20) (S:=[]) (a:=20) (b:=n) (L:=n) (cap:=cap) (base:=base) (by rw [List.append_nil];exact o1) (by rw [List.append_nil,zE];omega) (by omega) hz1.symm (by omega) (rise_sub hX 20).2 (hR.sub 20).2 hT (hc.on g1)).mono ?_;rintro e w2 ⟨rfl,⟨Z2,p2,q2,o2⟩,g2⟩;rw [List.append_nil] at o2;exact ⟨rfl,yAA g1 g2,Z1,Z2,p1,q1,p2,q2,o2⟩
theorem joined_c {Z1 Z2:List Int} {w2:World} (hn:n=xs.length) (hl:20<n/\n<=40) (hX:xs.Pairwise (·<·)) (hR:Rng N xs) (hT:CmpT cf lt N) (hc:CmpB cf N g p q w) (hg:w.grownBy w2 (some g)) (p1:Z1.Perm (xs.take 20)) (q1:Z1.Pairwise lt) (p2:Z2.Perm (xs.drop 20)) (q2:Z2.Pairwise lt) (o2:OwnInt64S base w2 (.slice (some ⟨g,0,none⟩) n cap) (Z1++Z2)) :
 Calls Tryz.prog 171 #[.slice (some ⟨g,0,none⟩) n cap,.int .i64 0,.int .i64 20,.int .i64 (n:Int),.func (.func 115) #[] #[.pointer (some ⟨p,0,none⟩),.pointer (some ⟨q,0,none⟩)]] w2 (StPost lt xs base g n cap w):=by
 have hl1:Z1.length=20:=by rw [p1.length_eq,zI];omega
 have hl2:Z2.length=n - 20:=by rw [p2.length_eq,zQ];omega
 refine (symMerge_ok (base:=base) (g:=g) (L:=n) (cap:=cap) (p:=p) (q:=q) hT (by omega) (Z1.length+Z2.length) [] Z1 Z2 [] 0 20 n w2 (zA _) (by omega) (by omega) (by rw [List.append_nil];exact o2) (by rw [List.append_nil,List.nil_append,zE];omega) rfl (by omega) (by omega) q1 q2 (fun x hx y hy=>rise_two hX 20 x (p1.mem_iff.1 hx) y (p2.mem_iff.1 hy)) (fun x hx=>(hR.sub 20).1 x (p1.mem_iff.1 hx)) (fun y hy=>(hR.sub 20).2 y (p2.mem_iff.1 hy)) (hc.on hg)).mono ?_;rintro e w3 ⟨rfl,⟨Z,pz,qz,oz⟩,g3⟩;rw [List.append_nil] at oz;refine ⟨rfl,⟨Z,?_,qz,oz⟩,yAA hg g3⟩;have e:=pz.trans (p1.append p2);rw [zP] at e;exact e
theorem stableM_c (h:OwnInt64S base w (.slice (some ⟨g,0,none⟩) n cap) xs) (hn:n=xs.length) (hl:20<=n/\n<40) (hX:xs.Pairwise (·<·)) (hR:Rng N xs) (hT:CmpT cf lt N) (hc:CmpB cf N g p q w) :
 Calls Tryz.prog 153 #[.slice (some ⟨g,0,none⟩) n cap,.int .i64 (n:Int),.func (.func 115) #[] #[.pointer (some ⟨p,0,none⟩),.pointer (some ⟨q,0,none⟩)]] w (StPost lt xs base g n cap w):=by
 have Hb:=hid (blocks_c h hn ⟨hl.1,by omega⟩ hX hR hT hc);have Hj:=hid (fun (h20:20<n) (Z1 Z2:List Int) (w2:World) hg p1 q1 p2 q2 o2=>joined_c (xs:=xs) (Z1:=Z1) (Z2:=Z2) (w:=w) (w2:=w2) (base:=base) (cap:=cap) hn ⟨h20,by omega⟩ hX hR hT hc hg p1 q1 p2 q2 o2);have Hn:=hid hn;obtain ⟨hl1,hl2⟩:=hl;have i1:(20:Int)<=(n:Int):=by omega
 have i2:¬ (40:Int)<=(n:Int):=by omega
 have i3:¬ (40:Int)<(n:Int):=by omega
 clear h hn hX hR hT hc;go_enter Tryz.func153,Tryz.ntmps153;go_wp2;refine wp_loop_rounds 2 ?_;rw [rounds_succ];go_wp2_with fail;refine Hb.out.mono ?_;rintro e w1 ⟨rfl,g1,hcon⟩;have Hc2:=hid hcon;clear hcon;go_wp2;rw [rounds_succ];go_wp2_with fail;refine Hc2.out.mono ?_;rintro e w2 ⟨rfl,g2,Z1,Z2,p1,q1,p2,q2,o2⟩;by_cases h20:n=20
 . have hp:Z1.Perm xs:=by rw [zH (by have:=Hn.out;omega)] at p1;exact p1
   have hz2:Z2=[]:=by rw [List.drop_of_length_le (by have:=Hn.out;omega)] at p2;exact p2.eq_nil
   have H:Hid (Z1.Perm xs/\Z1.Pairwise lt/\OwnInt64S base w2 (.slice (some ⟨g,0,none⟩) n cap) Z1):=hid ⟨hp,q1,by rw [hz2,List.append_nil] at o2;exact o2⟩;have HG:=hid g2;have i4:¬ (20:Int)<(n:Int):=by omega
   clear hp hz2 p1 q1 p2 q2 o2 g1 g2 Hj;go_wp2;go_rounds 1;go_end0;exact ⟨rfl,⟨Z1,H.out⟩,HG.out⟩
 . have i4:(20:Int)<(n:Int):=by omega
   have Hj2:=hid (Hj.out (by omega) Z1 Z2 w2 g2 p1 q1 p2 q2 o2);clear p1 q1 p2 q2 o2 g1 g2 Hj h20;go_wp2;refine wp_loop_rounds 2 ?_;rw [rounds_succ];go_wp2;refine wp_loop_rounds 1 ?_;rw [rounds_succ];go_wp2_with fail;refine Hj2.out.mono ?_;rintro e w3 ⟨rfl,hZ,g3⟩;have HZ:=hid hZ;have HG:=hid g3;clear hZ g3;go_wp2;rw [rounds_succ];go_wp2;go_end0;exact ⟨rfl,HZ.out,HG.out⟩
end
section
variable {xs:List Int} {base g cap n N p q:Nat} {cf:Int->Int->Int} {lt:Int->Int->Prop} {w:World}
theorem stableF_c (h:OwnInt64S base w (.slice (some ⟨g,0,none⟩) 40 cap) xs) (hn:40=xs.length) (hX:xs.Pairwise (·<·)) (hR:Rng N xs) (hT:CmpT cf lt N) (hc:CmpB cf N g p q w) :
 Calls Tryz.prog 153 #[.slice (some ⟨g,0,none⟩) 40 cap,.int .i64 40,.func (.func 115) #[] #[.pointer (some ⟨p,0,none⟩),.pointer (some ⟨q,0,none⟩)]] w (StPost lt xs base g 40 cap w):=by
 have Hb:=hid (blocks_c h hn ⟨by omega,by omega⟩ hX hR hT hc);have Hj:=hid (fun (Z1 Z2:List Int) (w2:World) hg p1 q1 p2 q2 o2=>joined_c (xs:=xs) (Z1:=Z1) (Z2:=Z2) (w:=w) (w2:=w2) (base:=base) (cap:=cap) hn ⟨by omega,by omega⟩ hX hR hT hc hg p1 q1 p2 q2 o2);have He:=hid (fun (Z:List Int) (w2:World) (hg:w.grownBy w2 (some g)) (hz:Z.length=40) (o2:OwnInt64S base w2 (.slice (some ⟨g,0,none⟩) 40 cap) Z) =>
  insSort_c (P:=Z) (X:=[]) (S:=[]) (a:=40) (b:=40) (L:=40) (cap:=cap) (base:=base) (w:=w2) (by rw [List.append_nil,List.append_nil];exact o2) (by simp [hz]) (by omega) hz.symm (by simp) List.Pairwise.nil (fun x hx=>by cases hx) hT (hc.on hg))
 have Hn:=hid hn;clear h hn hX hR hT hc;go_enter Tryz.func153,Tryz.ntmps153;go_wp2;refine wp_loop_rounds 3 ?_;rw [rounds_succ];go_wp2_with fail;refine Hb.out.mono ?_;rintro e w1 ⟨rfl,g1,hcon⟩;have Hc2:=hid hcon;clear hcon;go_wp2;rw [rounds_succ];go_wp2_with fail;refine Hc2.out.mono ?_;rintro e w2 ⟨rfl,g2,Z1,Z2,p1,q1,p2,q2,o2⟩;have hz:(Z1++Z2).length=40:=by rw [zE,p1.length_eq,p2.length_eq,zI,zQ];have:=Hn.out;omega
 have Hc3:=hid (He.out (Z1++Z2) w2 g2 hz o2);have HP:=hid (show Z1.Perm (xs.take 20)/\Z1.Pairwise lt/\Z2.Perm (xs.drop 20)/\Z2.Pairwise lt from ⟨p1,q1,p2,q2⟩);have HG2:=hid g2;clear p1 q1 p2 q2 o2 g1 g2 hz He;go_wp2;rw [rounds_succ];go_wp2_with fail;refine Hc3.out.mono ?_;rintro e w3 ⟨rfl,⟨Z0,p0,-,o3⟩,g3⟩;have hZ0:Z0=[]:=p0.eq_nil;subst hZ0;have o4:OwnInt64S base w3 (.slice (some ⟨g,0,none⟩) 40 cap) (Z1++Z2):=by rw [List.append_nil,List.append_nil] at o3;exact o3
 have Hj2:=hid (Hj.out Z1 Z2 w3 (yAA HG2.out g3) HP.out.1 HP.out.2.1 HP.out.2.2.1 HP.out.2.2.2 o4);clear p0 o3 o4 g3 Hj;go_wp2;refine wp_loop_rounds 2 ?_;rw [rounds_succ];go_wp2;refine wp_loop_rounds 2 ?_;rw [rounds_succ];go_wp2_with fail;refine Hj2.out.mono ?_;rintro e w4 ⟨rfl,hZ,g4⟩;have HZ:=hid hZ;have HG:=hid g4;clear hZ g4;go_wp2;rw [rounds_succ];go_wp2;rw [rounds_succ];go_wp2;go_end0;exact ⟨rfl,HZ.out,HG.out⟩
theorem stable_all (h:OwnInt64S base w (.slice (some ⟨g,0,none⟩) n cap) xs) (hn:n=xs.length) (hl:n<=40) (hX:xs.Pairwise (·<·)) (hR:Rng N xs) (hT:CmpT cf lt N) (hc:CmpB cf N g p q w) :
 Calls Tryz.prog 153 #[.slice (some ⟨g,0,none⟩) n cap,.int .i64 (n:Int),.func (.func 115) #[] #[.pointer (some ⟨p,0,none⟩),.pointer (some ⟨q,0,none⟩)]] w (StPost lt xs base g n cap w):=by
 by_cases h1:n<20
 . exact stableS_c h hn h1 hX hR hT hc
 . by_cases h2:n<40
   . exact stableM_c h hn ⟨by omega,h2⟩ hX hR hT hc
   . obtain rfl:n=40:=by omega
     exact stableF_c h hn hX hR hT hc
theorem sortStable_c (h:OwnInt64S base w (.slice (some ⟨g,0,none⟩) n cap) xs) (hn:n=xs.length) (hl:n<=40) (hX:xs.Pairwise (·<·)) (hR:Rng N xs) (hT:CmpT cf lt N) (hc:CmpB cf N g p q w) :
 Calls Tryz.prog 114 #[.slice (some ⟨g,0,none⟩) n cap,.func (.func 115) #[] #[.pointer (some ⟨p,0,none⟩),.pointer (some ⟨q,0,none⟩)]] w (StPost lt xs base g n cap w):=by
 have H:=hid (stable_all h hn hl hX hR hT hc);clear h hn hX hR hT hc;go_enter Tryz.func114,Tryz.ntmps114;go_wp2_with fail;refine H.out.mono ?_;rintro e w' ⟨rfl,hZ,hg⟩;have HZ:=hid hZ;have HG:=hid hg;clear hZ hg;go_wp2;go_end0;exact ⟨rfl,HZ.out,HG.out⟩
end
end Go.Proofs.YtmindpfmgnnieaaGreatDoor
