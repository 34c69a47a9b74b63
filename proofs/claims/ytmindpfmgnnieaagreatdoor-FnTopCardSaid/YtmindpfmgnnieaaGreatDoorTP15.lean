/- Lemmas on the way to the law FnTop. No condition. -/
import Derived.Test.YtmindpfmgnnieaaGreatDoorTP13
import Derived.Test.YtmindpfmgnnieaaGreatDoorTP3
import Derived.Test.YtmindpfmgnnieaaGreatDoorTP2
import Derived.Test.YtmindpfmgnnieaaGreatDoorTP1
import Derived.BigRegion
namespace Go.Proofs.YtmindpfmgnnieaaGreatDoor
set_option maxHeartbeats 2000000
set_option linter.unusedSimpArgs false
open Lib (hid)
open Go.ChangeShapes Go.WideShapes Go.ChangeAt Go.RowKit
set_option linter.unusedVariables false
set_option maxRecDepth 100000
open Sym
theorem yBL (w:World) (a:Addr) (u:Value):w.grownBy (w.setCell a u) (some a.block) :=
 ⟨rfl,rfl,rfl,by simp [World.setCell],fun k hk hne=>Below.heap_setCell _ _ _ _ (fun e=>hne (by rw [e]))⟩
theorem yBO (w:World) (row:Option Nat):w.grownBy w.drew row:=⟨rfl,rfl,rfl,zA _,fun _ _ _=>rfl⟩
theorem yAP {w w':World} (h:Below w.heap.size w w') (row:Option Nat):w.grownBy w' row:=⟨h.os,h.tape,h.output,h.size,fun k hk _=>h.block k hk⟩
theorem Own.atI {e:TypeId} {base g n cap i:Nat} {w:World} {xs:List Int} {x:Int} (h:Own eI e base w (.slice (some ⟨g,0,none⟩) n cap) xs) (hn:n=xs.length) (hx:xs[i]?=some x) :
 w.cell? ⟨g,i,none⟩=some (.int .i64 x)/\w.frozen? ⟨g,i,none⟩=false/\eI.ok x:=by
 subst hn;have hi:=h.ints;have hl:=yBG hx;refine ⟨?_,hi.frozenAt i,h.2 x (zC hx)⟩;rw [hi.cellAt i (by simpa using hl)];simp [hx]
theorem Own.swapI {e:TypeId} {base g n cap i j:Nat} {w:World} {xs:List Int} {x y:Int} (h:Own eI e base w (.slice (some ⟨g,0,none⟩) n cap) xs) (hn:n=xs.length) (hx:xs[i]?=some x) (hy:xs[j]?=some y) :
 Own eI e base ((w.setCell ⟨g,i,none⟩ (.int .i64 y)).setCell ⟨g,j,none⟩ (.int .i64 x)) (.slice (some ⟨g,0,none⟩) n cap) ((xs.set i y).set j x)/\w.grownBy ((w.setCell ⟨g,i,none⟩ (.int .i64 y)).setCell ⟨g,j,none⟩ (.int .i64 x)) (some g):=by
 have hi:=yBG hx;have hj:=yBG hy;obtain ⟨-,-,h1,g1⟩:=Own.storeI (x:=y) h hn (k:=i) (by omega) (h.2 y (zC hy));obtain ⟨-,-,h2,g2⟩:=Own.storeI (x:=x) h1 (by rw [List.length_set];exact hn) (k:=j) (by omega) (h.2 x (zC hx));exact ⟨h2,yAA g1 g2⟩
theorem swapRange_c {xs:List Int} {base g cap a b n L:Nat} {fv:Value} {w:World} (h:OwnInt64S base w (.slice (some ⟨g,0,none⟩) L cap) xs) (hL:L=xs.length) (hl:L<=1000) (h1:a+n<=b) (h2:b+n<=L) :
 Calls Tryz.prog 205 #[.slice (some ⟨g,0,none⟩) L cap,.int .i64 (a:Int),.int .i64 (b:Int),.int .i64 (n:Int),fv] w fun e w'=>e=.returned (.tuple #[])/\OwnInt64S base w' (.slice (some ⟨g,0,none⟩) L cap) (swapR xs a b n)/\w.grownBy w' (some g):=by
 have H:=hid h;have HL:=hid hL;clear h hL;go_enter Tryz.func205,Tryz.ntmps205;go_wp2;go_loopw [10] (fun i wr=>∃ k:Nat,k<=n/\i=.int .i64 k/\OwnInt64S base wr (.slice (some ⟨g,0,none⟩) L cap) (swapR xs a b k)/\w.grownBy wr (some g)) (fun i _=>n - (intOf i).toNat)
 case atStart=>exact ⟨0,zK _,rfl,H.out,World.grownBy.refl _ _⟩
 case round =>
  obtain ⟨k,hk,rfl,ho,hg⟩:=hrel;clear H;by_cases hkn:k<n
  . have hlen:=swapR_length xs a b k
    obtain ⟨i,hi⟩:∃ i,i=a+k:=⟨_,rfl⟩;obtain ⟨j,hj⟩:∃ j,j=b+k:=⟨_,rfl⟩;obtain ⟨x,hx⟩:∃ x,(swapR xs a b k)[i]?=some x:=⟨_,zF (by have:=HL.out;omega)⟩;obtain ⟨y,hy⟩:∃ y,(swapR xs a b k)[j]?=some y:=⟨_,zF (by have:=HL.out;omega)⟩;have hn:L=(swapR xs a b k).length:=by rw [hlen];exact HL.out
    obtain ⟨c1,f1,-⟩:=Own.atI ho hn hx;obtain ⟨c2,f2,-⟩:=Own.atI ho hn hy;obtain ⟨s1,s2⟩:=Own.swapI ho hn hx hy;have hs:=swapR_succ (xs:=xs) (a:=a) (b:=b) (n:=k) (x:=x) (y:=y) (by rw [<- hi];exact hx) (by rw [<- hj];exact hy);rw [<- hi,<- hj] at hs;rw [<- hs] at s1;have hij:i ≠ j:=by omega
    have hji:j ≠ i:=by omega
    have e1:(a:Int)+(k:Int)=(i:Int):=by omega
    have e2:(b:Int)+(k:Int)=(j:Int):=by omega
    have w1:IntKind.i64.wrap ((a:Int)+(k:Int))=(i:Int):=by rw [e1];exact IntWalk.i64_in _ (by omega)
    have w2:IntKind.i64.wrap ((b:Int)+(k:Int))=(j:Int):=by rw [e2];exact IntWalk.i64_in _ (by omega)
    have l1:(i:Int)<(L:Int):=by omega
    have l2:(j:Int)<(L:Int):=by omega
    have S1:=hid s1;have S2:=hid (yAA hg s2);clear s1 s2 hs hn hx hy hlen ho hg hi hj;go_wp2;go_region
    all_goals
     go_wp2;go_roundw
     case rel=>exact ⟨k+1,by omega,by go_num,S1.out,yAA S2.out (yBO _ _)⟩
     case measure=>simp [intOf];omega
  . obtain rfl:k=n:=by omega
    have HO:=hid ho;have HG:=hid hg;clear ho hg;go_wp2;go_end0;exact ⟨rfl,HO.out,HG.out⟩
theorem rotate_c {P A B S:List Int} {base g cap a m b L:Nat} {fv:Value} {w:World} (h:OwnInt64S base w (.slice (some ⟨g,0,none⟩) L cap) (P++(A++(B++S)))) (hL:L=(P++(A++(B++S))).length) (hl:L<=1000)
 (ha:a=P.length) (hm:m=a+A.length) (hb:b=m+B.length) (hA:0<A.length) (hB:0<B.length) :
 Calls Tryz.prog 189 #[.slice (some ⟨g,0,none⟩) L cap,.int .i64 (a:Int),.int .i64 (m:Int),.int .i64 (b:Int),fv] w fun e w'=>e=.returned (.tuple #[])/\OwnInt64S base w' (.slice (some ⟨g,0,none⟩) L cap) (P++(B++(A++S)))/\w.grownBy w' (some g):=by
 obtain ⟨T,hT⟩:∃ T,T=P++(B++(A++S)):=⟨_,rfl⟩;rw [<- hT];obtain ⟨i0,hi0⟩:∃ i,i=A.length:=⟨_,rfl⟩;obtain ⟨j0,hj0⟩:∃ j,j=B.length:=⟨_,rfl⟩;have hbL:b<=L:=by rw [hL,hb,hm,ha];simp only [zE];omega
 have d1:(m:Int) - (a:Int)=(i0:Int):=by omega
 have d2:(b:Int) - (m:Int)=(j0:Int):=by omega
 have v1:IntKind.i64.wrap ((m:Int) - (a:Int))=(i0:Int):=by rw [d1];exact IntWalk.i64_in _ (by omega)
 have v2:IntKind.i64.wrap ((b:Int) - (m:Int))=(j0:Int):=by rw [d2];exact IntWalk.i64_in _ (by omega)
 have hmL:m<=1000:=by omega
 have hij0:i0+j0<=1000:=by omega
 have HI:Hid (∃ P' A' B' S':List Int,∃ p:Nat,i0=A'.length/\j0=B'.length/\p=P'.length/\m=p+i0/\0<i0/\0<j0/\i0+j0<=1000/\P'++(B'++(A'++S'))=T/\L=(P'++(A'++(B'++S'))).length/\OwnInt64S base w (.slice (some ⟨g,0,none⟩) L cap) (P'++(A'++(B'++S')))):=hid ⟨P,A,B,S,a,hi0,hj0,ha,by omega,by omega,by omega,by omega,hT.symm,hL,h⟩;clear h hL ha hm hb hA hB hT hi0 hj0 hbL;go_enter Tryz.func189,Tryz.ntmps189;go_wp2;go_loopw [10,11] (fun iv jv wr=>∃ i j:Nat,iv=.int .i64 i/\jv=.int .i64 j/\Hid (∃ P' A' B' S':List Int,∃ p:Nat,i=A'.length/\j=B'.length/\p=P'.length/\m=p+i/\0<i/\0<j/\i+j<=1000/\P'++(B'++(A'++S'))=T/\L=(P'++(A'++(B'++S'))).length/\OwnInt64S base wr (.slice (some ⟨g,0,none⟩) L cap) (P'++(A'++(B'++S'))))/\w.grownBy wr (some g)) (fun i j _=>(intOf i).toNat+(intOf j).toNat)
 case atStart=>exact ⟨i0,j0,by first | rfl | (rw [IntWalk.wrap64_in _ (by omega)]),by first | rfl | (rw [IntWalk.wrap64_in _ (by omega)]),HI,World.grownBy.refl _ _⟩
 case round =>
  obtain ⟨i,j,rfl,rfl,HI2,hg⟩:=hrel;clear HI d1 d2 v1 v2;obtain ⟨P',A',B',S',p,hi,hj,hp,hm,hi1,hj1,hij1,hT,hL,hO⟩:=HI2.out;clear HI2;have d1:(m:Int) - (i:Int)=(p:Int):=by omega
  have v1:IntKind.i64.wrap ((m:Int) - (i:Int))=(p:Int):=by rw [d1];exact IntWalk.i64_in _ (by omega)
  have hll:p+i+j<=L:=by rw [hL];simp only [zE];omega
  have HL:=hid hL;have Hi:=hid hi;have Hj:=hid hj;have Hp:=hid hp;have Hm:=hid hm;have HT:=hid hT;have HO:=hid hO;have HG:=hid hg;clear hL hi hj hp hm hT hO hg;by_cases hij:i=j
  . subst hij
    have Hll:Hid (p+i+i<=L):=hid hll;clear hll;go_wp2_with fail;with_reducible refine (swapRange_c (a:=p) (b:=m) (n:=i) HO.out HL.out hl (by have:=Hm.out;omega) (by have:=Hm.out;have:=Hll.out;omega)).mono ?_
    rintro e w2 ⟨rfl,hO2,hg2⟩;have hO3:OwnInt64S base w2 (.slice (some ⟨g,0,none⟩) L cap) T:=by
     have e:=turn_left (P:=P') (A:=A') (B:=B') (S:=S') (by have:=Hi.out;have:=Hj.out;omega);rw [<- Hp.out,<- Hi.out,<- Hj.out,<- Hm.out] at e;rw [e,List.drop_of_length_le (by have:=Hi.out;omega),zH (by have:=Hi.out;omega),List.nil_append,zN,HT.out] at hO2;exact hO2
    have HO3:=hid hO3;have HG3:=hid (yAA HG.out hg2);clear hO2 hO3 hg2;go_wp2;go_end0;exact ⟨rfl,HO3.out,HG3.out⟩
  . by_cases hlt:j<i
    . have d2:(i:Int) - (j:Int)=((i - j:Nat):Int):=by omega
      obtain ⟨r,hr⟩:∃ r,r=i - j:=⟨_,rfl⟩;rw [<- hr] at d2;have v2:IntKind.i64.wrap ((i:Int) - (j:Int))=(r:Int):=by rw [d2];exact IntWalk.i64_in _ (by omega)
      have Hr:=hid hr;have Hll:Hid (p+i+j<=L):=hid hll;have hlt2:(j:Int)<(i:Int):=by omega
      have hne2:¬ (i:Int)=(j:Int):=by omega
      clear hr hll;go_wp2_with fail;with_reducible refine (swapRange_c (a:=p) (b:=m) (n:=j) HO.out HL.out hl (by have:=Hm.out;omega) (by have:=Hm.out;have:=Hll.out;omega)).mono ?_
      rintro e w2 ⟨rfl,hO2,hg2⟩;have hO3:OwnInt64S base w2 (.slice (some ⟨g,0,none⟩) L cap) ((P'++B')++(A'.drop j++(A'.take j++S'))):=by
       have e:=turn_left (P:=P') (A:=A') (B:=B') (S:=S') (by have:=Hi.out;have:=Hj.out;omega);rw [<- Hp.out,<- Hi.out,<- Hj.out,<- Hm.out] at e;rw [e] at hO2;exact hO2
      have HO3:=hid hO3;have HG3:=hid (yAA HG.out hg2);clear hO2 hO3 hg2;go_wp2;go_roundw
      case rel =>
       refine ⟨r,j,by first | rfl | go_num,rfl,hid ⟨P'++B',A'.drop j,A'.take j,S',p+j,?_,?_,?_,?_,?_,?_,?_,?_,?_,HO3.out⟩,HG3.out⟩
       . rw [zQ];have:=Hr.out;have:=Hi.out;omega
       . rw [zI];have:=Hi.out;omega
       . rw [zE];have:=Hp.out;have:=Hj.out;omega
       . have:=Hm.out;have:=Hr.out;omega
       . have:=Hr.out;omega
       . omega
       . have:=Hr.out;omega
       . rw [<- HT.out,zN,<- zN (A'.take j),zP]
       . rw [HL.out];simp only [zE,zQ,zI];have:=Hi.out;have:=Hj.out;omega
      case measure=>have:=Hr.out;simp [intOf];omega
    . have d2:(j:Int) - (i:Int)=((j - i:Nat):Int):=by omega
      obtain ⟨r,hr⟩:∃ r,r=j - i:=⟨_,rfl⟩;rw [<- hr] at d2;have v2:IntKind.i64.wrap ((j:Int) - (i:Int))=(r:Int):=by rw [d2];exact IntWalk.i64_in _ (by omega)
      obtain ⟨q,hq⟩:∃ q,q=p+j:=⟨_,rfl⟩;obtain ⟨z,hz⟩:∃ z,z=m+j:=⟨_,rfl⟩;have d3:(m:Int)+(j:Int)=(z:Int):=by omega
      have v3:IntKind.i64.wrap ((m:Int)+(j:Int))=(z:Int):=by rw [d3];exact IntWalk.i64_in _ (by omega)
      have d4:(z:Int) - (i:Int)=(q:Int):=by have:=Hm.out;omega
      have v4:IntKind.i64.wrap ((z:Int) - (i:Int))=(q:Int):=by rw [d4];exact IntWalk.i64_in _ (by omega)
      have Hr:=hid hr;have Hq:=hid hq;have Hll:Hid (p+i+j<=L):=hid hll;have hlt2:¬ (j:Int)<(i:Int):=by omega
      have hne2:¬ (i:Int)=(j:Int):=by omega
      clear hr hll hq hz;go_wp2_with fail;with_reducible refine (swapRange_c (a:=p) (b:=q) (n:=i) HO.out HL.out hl (by have:=Hq.out;omega) (by have:=Hq.out;have:=Hll.out;omega)).mono ?_
      rintro e w2 ⟨rfl,hO2,hg2⟩;have hO3:OwnInt64S base w2 (.slice (some ⟨g,0,none⟩) L cap) (P'++(B'.drop r++(B'.take r++(A'++S')))):=by
       have e:=turn_right (P:=P') (A:=A') (B:=B') (S:=S') (by have:=Hi.out;have:=Hj.out;omega);rw [<- Hp.out,<- Hi.out,<- Hj.out,<- Hr.out,<- Hq.out] at e;rw [e] at hO2;exact hO2
      have HO3:=hid hO3;have HG3:=hid (yAA HG.out hg2);clear hO2 hO3 hg2;go_wp2;go_roundw
      case rel =>
       refine ⟨i,r,rfl,by first | rfl | go_num,hid ⟨P',B'.drop r,B'.take r,A'++S',p,?_,?_,Hp.out,Hm.out,?_,?_,?_,?_,?_,HO3.out⟩,HG3.out⟩
       . rw [zQ];have:=Hr.out;have:=Hj.out;omega
       . rw [zI];have:=Hr.out;have:=Hj.out;omega
       . omega
       . have:=Hr.out;omega
       . have:=Hr.out;omega
       . rw [<- HT.out,<- zN (B'.take r),zP]
       . rw [HL.out];simp only [zE,zQ,zI];have:=Hi.out;have:=Hj.out;have:=Hr.out;omega
      case measure=>have:=Hr.out;simp [intOf];omega
end Go.Proofs.YtmindpfmgnnieaaGreatDoor
