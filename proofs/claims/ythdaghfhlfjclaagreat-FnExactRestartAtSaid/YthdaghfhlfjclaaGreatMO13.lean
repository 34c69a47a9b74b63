/- Lemmas on the way to the law that OfficeAt returns what the reference's returns. No condition. -/
import Derived.Test.YthdaghfhlfjclaaGreatMO10
import Derived.StillTailTactics
import Derived.Deep.RegionWith
namespace Go.Proofs.YthdaghfhlfjclaaGreat
set_option linter.unusedSimpArgs false
open Lib (hid)
open Go.ChangeShapes Go.WideShapes Go.ChangeAt Go.RowKit
set_option linter.unusedVariables false
set_option maxRecDepth 100000
def fTotal (k:Int):TotalT:=⟨mtxt k,k+1⟩
def mkTotalS (k:Int) (x:List TotalT):List TotalT:=mkL fTotal 2 k x.length
theorem fTotal_ok {k:Int} (h0:0≤k) (h1:k+2≤9223372036854775807):okTotal (fTotal k):=by unfold okTotal fTotal;refine ⟨mtxt_size _,⟨?_,?_⟩⟩ <;> dsimp only <;> omega
theorem markTotalS_c {xs:List TotalT} {base top:Nat} {v:Value} {w:World} (k:Int) (ha:OwnTTotalS base top w v xs) (hk:0≤k) (hl:k+cntTotalS xs≤9223372036854775807) :
 Calls Tryz.prog 100 #[v,.int .i64 k] w fun e w'=>e=.returned (.int .i64 (k+cntTotalS xs))∧OwnTTotalS base top w' v (mkTotalS k xs)∧Within base top w w'∧w.grownBy w' v.ownBlock:=by
 obtain ⟨hown,htop⟩:=ha;unfold cntTotalS at hl ⊢;rcases hown.1.2 with ⟨rfl,h0⟩ | ⟨g,cap,cur,rfl,hbg,hg,rest⟩
 · obtain rfl:xs=[]:=List.eq_nil_of_length_eq_zero h0
   clear hown;go_enter Tryz.func100,Tryz.ntmps100
   go_wp2
   go_rounds 1
   go_ret
   exact ⟨ret_int (by simp),⟨Own.nil _ _ _ _,htop⟩,Within.refl _ _ _,World.grownBy.refl _ _⟩
 · obtain ⟨n,hn⟩:∃ n,n=xs.length:=⟨_,rfl⟩
   unfold mkTotalS;rw [← hn] at hown hl ⊢;have Hn:=hid hn;have hl':k+2 * n≤9223372036854775807:=by omega
   have hgt:g<top:=htop g rfl;have hown0:OwnTotalS base w (.slice (some ⟨g,0,none⟩) n cap) (mkL fTotal 2 k 0++xs.drop 0):=by simpa [mkL] using hown
   clear hown hn hl hg rest htop;go_enter Tryz.func100,Tryz.ntmps100
   go_wp2
   go_loopw [1,5] (fun c i wr=>∃ j:Nat,j≤n∧i=.int .i64 j∧c=.int .i64 (k+2 * j)∧OwnTotalS base wr (.slice (some ⟨g,0,none⟩) n cap) (mkL fTotal 2 k j++xs.drop j)∧w.grownBy wr (some g)) (fun _ i _=>n - (intOf i).toNat)
   case atStart=>exact ⟨0,Nat.zero_le _,rfl,by simp,hown0,World.grownBy.refl _ _⟩
   case round =>
    obtain ⟨j,hj,rfl,rfl,hw,hgr⟩:=hrel;clear hown0;by_cases hjn:j<n
    · have hlen:n=(mkL fTotal 2 k j++xs.drop j).length:=by have:=Hn.out;rw [List.length_append,mkL_length,List.length_drop];omega
      have Hlen:=hid hlen;clear hlen;go_wp2_with fail
      with_reducible refine (markText_c (k+2 * j) wr (by omega) (by omega)).mono ?_
      rintro e w1 ⟨rfl,hb⟩
      have hw1:=hw.below hb (Nat.le_refl _);have hgr1:w.grownBy w1 (some g):=grownBy_trans hgr ⟨hb.os,hb.tape,hb.output,hb.size,fun i hi _=>hb.block i hi⟩;clear hw hgr hb;obtain ⟨⟨y0,hy0⟩,hf0⟩:=Own.cellE (E:=eTotal) hw1 Hlen.out (k:=j) (j:=0) hjn (by decide);obtain ⟨⟨y1,hy1⟩,hf1⟩:=Own.cellE (E:=eTotal) hw1 Hlen.out (k:=j) (j:=1) hjn (by decide);simp only [show eTotal.sz=2 from rfl,Nat.add_zero] at hy0 hf0 hy1 hf1
      have hst:=Own.storeE (E:=eTotal) (by decide) hw1 Hlen.out hjn (x:=fTotal (k+2 * j)) (fTotal_ok (by omega) (by omega));rw [mkL_set xs k j (by have:=Hn.out;omega)] at hst;have Hst:=hid hst;have Hgr:=hid hgr1;clear hst hw1 hgr1;go_wp2
      go_roundw
      case rel=>exact ⟨j+1,by omega,by go_num,by go_num,Hst.out.1,grownBy_trans Hgr.out Hst.out.2.1⟩
      case measure=>simp [intOf];omega
    · go_wp2
      go_ret
      obtain rfl:j=n:=by omega
      rw [List.drop_of_length_le (by have:=Hn.out;omega),List.append_nil] at hw;exact ⟨ret_int (by omega),⟨hw,fun i hi=>by cases hi;exact hgt⟩,Within.of_grown hgr fun i hi=>by cases hi;exact ⟨hbg,hgt⟩,hgr⟩
theorem heldTotalS_c {xs:List TotalT} {v:Value} {w:World} {A:Nat} (k:Int) (ha:RdTotalS A w v (mkTotalS k xs)) (hk:0≤k) (hl:k+cntTotalS xs≤9223372036854775807) :
 Calls Tryz.prog 102 #[v,.int .i64 k] w fun e w'=>e=.returned (.int .i64 (k+cntTotalS xs))∧Below w.heap.size w w':=by
 unfold cntTotalS at hl ⊢;have hlen:(mkTotalS k xs).length=xs.length:=mkL_length _ _;have hget:∀ j,j<xs.length→(mkTotalS k xs)[j]?=some (fTotal (k+2 * j)):=fun j hj=>by unfold mkTotalS;rw [mkL_get,if_pos hj]
 obtain ⟨ao,cap,rfl,ho⟩:=eTotal_open ha;obtain ⟨n,hn⟩:∃ n,n=xs.length:=⟨_,rfl⟩;rw [hlen] at ho;rw [hlen,← hn];rw [← hn] at hget hl ho;have Ho:=hid ho;have Hget:=hid hget;have hl':k+2 * n≤9223372036854775807:=by omega
 clear ho hn ha hget hlen hl;go_enter Tryz.func102,Tryz.ntmps102
 go_wp2
 go_loopw [1,5] (fun c i wr=>∃ j:Nat,j≤n∧i=.int .i64 j∧c=.int .i64 (k+2 * j)∧Below w.heap.size w wr) (fun _ i _=>n - (intOf i).toNat)
 case atStart=>exact ⟨0,Nat.zero_le _,rfl,by simp,Below.refl _ _⟩
 case round =>
  obtain ⟨j,hj,rfl,rfl,hbb⟩:=hrel;by_cases hjn:j<n
  · obtain ⟨b,off,rfl,hlt,hc⟩:=Ho.out (by omega)
    obtain ⟨x,hx,⟨c0,c1⟩,bx⟩:=hc j hjn;obtain rfl:fTotal (k+2 * j)=x:=Option.some.inj ((Hget.out j hjn).symm.trans hx);have d0:wr.cell? ⟨b,off+j * 2,none⟩=some (.string (mtxt (k+2 * j))):=(hbb.cell (p:=⟨b,off+j * 2,none⟩) hlt.2).trans c0;have d1:wr.cell? ⟨b,off+j * 2+1,none⟩=some (.int .i64 (k+2 * j+1)):=(hbb.cell (p:=⟨b,off+j * 2+1,none⟩) hlt.2).trans c1;have D0:=hid c0;have D1:=hid c1;clear hx hc bx c0 c1;have hlw:b<wr.heap.size:=by have:=hbb.size;omega
    go_upto_region 4 with fail
    go_cut [19] (fun c wx=>c=.bool false∧Below w.heap.size w wx)
    case first =>
     go_region_with ((go_at_call 58;refine (markText_c (k+2 * j) _ (by omega) (by omega)).mono ?_;rintro e w1 ⟨rfl,hb1⟩;have d0':=(hb1.cell (p:=⟨b,off+j * 2,none⟩) hlw).trans d0;have hbb1:=(Below.drew1 hbb).trans (hb1.mono hbb.size)))
     all_goals (go_wp2_with fail;go_meet;exact ⟨rfl,hbb1⟩)
    case rest =>
    obtain ⟨rfl,hbb1⟩:=hcut;clear hbb;replace d1:wc.cell? ⟨b,off+j * 2+1,none⟩=some (.int .i64 (k+2 * j+1)):=(hbb1.cell (p:=⟨b,off+j * 2+1,none⟩) hlt.2).trans D1.out;have hbb:=hbb1;clear d0 hbb1;go_wp2
    go_roundw
    case rel=>exact ⟨j+1,by omega,by go_num,by go_num,hbb⟩
    case measure=>simp [intOf];omega
  · go_wp2
    go_ret
    obtain rfl:j=n:=by omega
    exact ⟨ret_int (by omega),hbb⟩
def fStep (k:Int):StepT:=⟨k,k+1,k+1+1,k+1+1+1,k+1+1+1+1,k+1+1+1+1+1,k+1+1+1+1+1+1,k+1+1+1+1+1+1+1,mtxt (k+1+1+1+1+1+1+1+1)⟩
def mkStepS (k:Int) (x:List StepT):List StepT:=mkL fStep 9 k x.length
theorem fStep_ok {k:Int} (h0:0≤k) (h1:k+9≤9223372036854775807):okStep (fStep k):=by
 unfold okStep fStep;refine ⟨⟨?_,?_⟩,⟨?_,?_⟩,⟨?_,?_⟩,⟨?_,?_⟩,⟨?_,?_⟩,⟨?_,?_⟩,⟨?_,?_⟩,⟨?_,?_⟩,mtxt_size _⟩ <;> dsimp only <;> omega
theorem ownStep8 {base g n cap j:Nat} {w:World} {L:List StepT} {x:StepT} {t:TypeId} (h:Own eStep t base w (.slice (some ⟨g,0,none⟩) n cap) L) (hn:n=L.length) (hx:L[j]?=some x) {a0 a1 a2 a3 a4 a5 a6 a7:Int}
 (b0:-9223372036854775808≤a0∧a0≤9223372036854775807) (b1:-9223372036854775808≤a1∧a1≤9223372036854775807) (b2:-9223372036854775808≤a2∧a2≤9223372036854775807) (b3:-9223372036854775808≤a3∧a3≤9223372036854775807) (b4:-9223372036854775808≤a4∧a4≤9223372036854775807) (b5:-9223372036854775808≤a5∧a5≤9223372036854775807) (b6:-9223372036854775808≤a6∧a6≤9223372036854775807) (b7:-9223372036854775808≤a7∧a7≤9223372036854775807) :
 Own eStep t base ((((((((w.setCell ⟨g,j * 9,none⟩ (.int .i64 a0)).setCell ⟨g,j * 9+1,none⟩ (.int .i64 a1)).setCell ⟨g,j * 9+2,none⟩ (.int .i64 a2)).setCell ⟨g,j * 9+3,none⟩ (.int .i64 a3)).setCell ⟨g,j * 9+4,none⟩ (.int .i64 a4)).setCell ⟨g,j * 9+4+1,none⟩ (.int .i64 a5)).setCell ⟨g,j * 9+6,none⟩ (.int .i64 a6)).setCell ⟨g,j * 9+6+1,none⟩ (.int .i64 a7)) (.slice (some ⟨g,0,none⟩) n cap) (L.set j ⟨a0,a1,a2,a3,a4,a5,a6,a7,x.tx⟩)∧w.grownBy ((((((((w.setCell ⟨g,j * 9,none⟩ (.int .i64 a0)).setCell ⟨g,j * 9+1,none⟩ (.int .i64 a1)).setCell ⟨g,j * 9+2,none⟩ (.int .i64 a2)).setCell ⟨g,j * 9+3,none⟩ (.int .i64 a3)).setCell ⟨g,j * 9+4,none⟩ (.int .i64 a4)).setCell ⟨g,j * 9+4+1,none⟩ (.int .i64 a5)).setCell ⟨g,j * 9+6,none⟩ (.int .i64 a6)).setCell ⟨g,j * 9+6+1,none⟩ (.int .i64 a7)) (some g):=by
 have hlt:j<L.length:=at_lt hx;have hxo:=h.2 x (List.mem_of_getElem? hx);unfold okStep at hxo;have s0:=Own.store1 (E:=eStep) (by decide) h hn hx (j:=0) (y:=⟨a0,x.ta,x.tb,x.tc,x.ff,x.ft,x.sf,x.st,x.tx⟩) (v:=.int .i64 a0) (by decide) rfl ⟨b0,hxo.2⟩;have g0:(L.set j (⟨a0,x.ta,x.tb,x.tc,x.ff,x.ft,x.sf,x.st,x.tx⟩:StepT))[j]?=some ⟨a0,x.ta,x.tb,x.tc,x.ff,x.ft,x.sf,x.st,x.tx⟩:=by simp [hlt]
 have n0:n=(L.set j (⟨a0,x.ta,x.tb,x.tc,x.ff,x.ft,x.sf,x.st,x.tx⟩:StepT)).length:=by rw [List.length_set];exact hn
 have s1:=Own.store1 (E:=eStep) (by decide) s0.1 n0 g0 (j:=1) (y:=⟨a0,a1,x.tb,x.tc,x.ff,x.ft,x.sf,x.st,x.tx⟩) (v:=.int .i64 a1) (by decide) rfl ⟨b0,b1,hxo.2.2⟩;rw [List.set_set] at s1;have g1:(L.set j (⟨a0,a1,x.tb,x.tc,x.ff,x.ft,x.sf,x.st,x.tx⟩:StepT))[j]?=some ⟨a0,a1,x.tb,x.tc,x.ff,x.ft,x.sf,x.st,x.tx⟩:=by simp [hlt]
 have n1:n=(L.set j (⟨a0,a1,x.tb,x.tc,x.ff,x.ft,x.sf,x.st,x.tx⟩:StepT)).length:=by rw [List.length_set];exact hn
 have s2:=Own.store1 (E:=eStep) (by decide) s1.1 n1 g1 (j:=2) (y:=⟨a0,a1,a2,x.tc,x.ff,x.ft,x.sf,x.st,x.tx⟩) (v:=.int .i64 a2) (by decide) rfl ⟨b0,b1,b2,hxo.2.2.2⟩;rw [List.set_set] at s2;have g2:(L.set j (⟨a0,a1,a2,x.tc,x.ff,x.ft,x.sf,x.st,x.tx⟩:StepT))[j]?=some ⟨a0,a1,a2,x.tc,x.ff,x.ft,x.sf,x.st,x.tx⟩:=by simp [hlt]
 have n2:n=(L.set j (⟨a0,a1,a2,x.tc,x.ff,x.ft,x.sf,x.st,x.tx⟩:StepT)).length:=by rw [List.length_set];exact hn
 have s3:=Own.store1 (E:=eStep) (by decide) s2.1 n2 g2 (j:=3) (y:=⟨a0,a1,a2,a3,x.ff,x.ft,x.sf,x.st,x.tx⟩) (v:=.int .i64 a3) (by decide) rfl ⟨b0,b1,b2,b3,hxo.2.2.2.2⟩;rw [List.set_set] at s3;have g3:(L.set j (⟨a0,a1,a2,a3,x.ff,x.ft,x.sf,x.st,x.tx⟩:StepT))[j]?=some ⟨a0,a1,a2,a3,x.ff,x.ft,x.sf,x.st,x.tx⟩:=by simp [hlt]
 have n3:n=(L.set j (⟨a0,a1,a2,a3,x.ff,x.ft,x.sf,x.st,x.tx⟩:StepT)).length:=by rw [List.length_set];exact hn
 have s4:=Own.store1 (E:=eStep) (by decide) s3.1 n3 g3 (j:=4) (y:=⟨a0,a1,a2,a3,a4,x.ft,x.sf,x.st,x.tx⟩) (v:=.int .i64 a4) (by decide) rfl ⟨b0,b1,b2,b3,b4,hxo.2.2.2.2.2⟩;rw [List.set_set] at s4;have g4:(L.set j (⟨a0,a1,a2,a3,a4,x.ft,x.sf,x.st,x.tx⟩:StepT))[j]?=some ⟨a0,a1,a2,a3,a4,x.ft,x.sf,x.st,x.tx⟩:=by simp [hlt]
 have n4:n=(L.set j (⟨a0,a1,a2,a3,a4,x.ft,x.sf,x.st,x.tx⟩:StepT)).length:=by rw [List.length_set];exact hn
 have s5:=Own.store1 (E:=eStep) (by decide) s4.1 n4 g4 (j:=5) (y:=⟨a0,a1,a2,a3,a4,a5,x.sf,x.st,x.tx⟩) (v:=.int .i64 a5) (by decide) rfl ⟨b0,b1,b2,b3,b4,b5,hxo.2.2.2.2.2.2⟩;rw [List.set_set] at s5;have g5:(L.set j (⟨a0,a1,a2,a3,a4,a5,x.sf,x.st,x.tx⟩:StepT))[j]?=some ⟨a0,a1,a2,a3,a4,a5,x.sf,x.st,x.tx⟩:=by simp [hlt]
 have n5:n=(L.set j (⟨a0,a1,a2,a3,a4,a5,x.sf,x.st,x.tx⟩:StepT)).length:=by rw [List.length_set];exact hn
 have s6:=Own.store1 (E:=eStep) (by decide) s5.1 n5 g5 (j:=6) (y:=⟨a0,a1,a2,a3,a4,a5,a6,x.st,x.tx⟩) (v:=.int .i64 a6) (by decide) rfl ⟨b0,b1,b2,b3,b4,b5,b6,hxo.2.2.2.2.2.2.2⟩;rw [List.set_set] at s6;have g6:(L.set j (⟨a0,a1,a2,a3,a4,a5,a6,x.st,x.tx⟩:StepT))[j]?=some ⟨a0,a1,a2,a3,a4,a5,a6,x.st,x.tx⟩:=by simp [hlt]
 have n6:n=(L.set j (⟨a0,a1,a2,a3,a4,a5,a6,x.st,x.tx⟩:StepT)).length:=by rw [List.length_set];exact hn
 have s7:=Own.store1 (E:=eStep) (by decide) s6.1 n6 g6 (j:=7) (y:=⟨a0,a1,a2,a3,a4,a5,a6,a7,x.tx⟩) (v:=.int .i64 a7) (by decide) rfl ⟨b0,b1,b2,b3,b4,b5,b6,b7,hxo.2.2.2.2.2.2.2.2⟩;rw [List.set_set] at s7;have g7:(L.set j (⟨a0,a1,a2,a3,a4,a5,a6,a7,x.tx⟩:StepT))[j]?=some ⟨a0,a1,a2,a3,a4,a5,a6,a7,x.tx⟩:=by simp [hlt]
 have n7:n=(L.set j (⟨a0,a1,a2,a3,a4,a5,a6,a7,x.tx⟩:StepT)).length:=by rw [List.length_set];exact hn
 exact ⟨s7.1,(grownBy_trans (grownBy_trans (grownBy_trans (grownBy_trans (grownBy_trans (grownBy_trans (grownBy_trans s0.2 s1.2) s2.2) s3.2) s4.2) s5.2) s6.2) s7.2)⟩
theorem markStepS_c {xs:List StepT} {base top:Nat} {v:Value} {w:World} (k:Int) (ha:OwnTStepS base top w v xs) (hk:0≤k) (hl:k+cntStepS xs≤9223372036854775807) :
 Calls Tryz.prog 17 #[v,.int .i64 k] w fun e w'=>e=.returned (.int .i64 (k+cntStepS xs))∧OwnTStepS base top w' v (mkStepS k xs)∧Within base top w w'∧w.grownBy w' v.ownBlock:=by
 obtain ⟨hown,htop⟩:=ha;unfold cntStepS at hl ⊢;rcases hown.1.2 with ⟨rfl,h0⟩ | ⟨g,cap,cur,rfl,hbg,hg,rest⟩
 · obtain rfl:xs=[]:=List.eq_nil_of_length_eq_zero h0
   clear hown;go_enter Tryz.func17,Tryz.ntmps17
   go_wp2
   go_rounds 1
   go_ret
   exact ⟨ret_int (by simp),⟨Own.nil _ _ _ _,htop⟩,Within.refl _ _ _,World.grownBy.refl _ _⟩
 · obtain ⟨n,hn⟩:∃ n,n=xs.length:=⟨_,rfl⟩
   unfold mkStepS;rw [← hn] at hown hl ⊢;have Hn:=hid hn;have hl':k+9 * n≤9223372036854775807:=by omega
   have hgt:g<top:=htop g rfl;have hown0:OwnStepS base w (.slice (some ⟨g,0,none⟩) n cap) (mkL fStep 9 k 0++xs.drop 0):=by simpa [mkL] using hown
   clear hown hn hl hg rest htop;go_enter Tryz.func17,Tryz.ntmps17
   go_wp2
   go_loopw [1,5] (fun c i wr=>∃ j:Nat,j≤n∧i=.int .i64 j∧c=.int .i64 (k+9 * j)∧OwnStepS base wr (.slice (some ⟨g,0,none⟩) n cap) (mkL fStep 9 k j++xs.drop j)∧w.grownBy wr (some g)) (fun _ i _=>n - (intOf i).toNat)
   case atStart=>exact ⟨0,Nat.zero_le _,rfl,by simp,hown0,World.grownBy.refl _ _⟩
   case round =>
    obtain ⟨j,hj,rfl,rfl,hw,hgr⟩:=hrel;clear hown0;by_cases hjn:j<n
    · have hlen:n=(mkL fStep 9 k j++xs.drop j).length:=by have:=Hn.out;rw [List.length_append,mkL_length,List.length_drop];omega
      have Hlen:=hid hlen;clear hlen;obtain ⟨⟨y0,hy0⟩,hf0⟩:=Own.cellE (E:=eStep) hw Hlen.out (k:=j) (j:=0) hjn (by decide);obtain ⟨⟨y1,hy1⟩,hf1⟩:=Own.cellE (E:=eStep) hw Hlen.out (k:=j) (j:=1) hjn (by decide);obtain ⟨⟨y2,hy2⟩,hf2⟩:=Own.cellE (E:=eStep) hw Hlen.out (k:=j) (j:=2) hjn (by decide);obtain ⟨⟨y3,hy3⟩,hf3⟩:=Own.cellE (E:=eStep) hw Hlen.out (k:=j) (j:=3) hjn (by decide);obtain ⟨⟨y4,hy4⟩,hf4⟩:=Own.cellE (E:=eStep) hw Hlen.out (k:=j) (j:=4) hjn (by decide);obtain ⟨⟨y5,hy5⟩,hf5⟩:=Own.cellE (E:=eStep) hw Hlen.out (k:=j) (j:=5) hjn (by decide);obtain ⟨⟨y6,hy6⟩,hf6⟩:=Own.cellE (E:=eStep) hw Hlen.out (k:=j) (j:=6) hjn (by decide);obtain ⟨⟨y7,hy7⟩,hf7⟩:=Own.cellE (E:=eStep) hw Hlen.out (k:=j) (j:=7) hjn (by decide);obtain ⟨⟨y8,hy8⟩,hf8⟩:=Own.cellE (E:=eStep) hw Hlen.out (k:=j) (j:=8) hjn (by decide);simp only [show eStep.sz=9 from rfl,Nat.add_zero] at hy0 hf0 hy1 hf1 hy2 hf2 hy3 hf3 hy4 hf4 hy5 hf5 hy6 hf6 hy7 hf7 hy8 hf8
      have Hw:=hid hw;have Hgr:=hid hgr;clear hw hgr;obtain ⟨x,hx⟩:∃ x,(mkL fStep 9 k j++xs.drop j)[j]?=some x:=⟨(mkL fStep 9 k j++xs.drop j)[j]'(by have:=Hlen.out;omega),by simp⟩;have h8:=ownStep8 Hw.out Hlen.out hx (a0:=k+9 * (j:Int)) (a1:=k+9 * (j:Int)+1) (a2:=k+9 * (j:Int)+1+1) (a3:=k+9 * (j:Int)+1+1+1) (a4:=k+9 * (j:Int)+1+1+1+1) (a5:=k+9 * (j:Int)+1+1+1+1+1) (a6:=k+9 * (j:Int)+1+1+1+1+1+1) (a7:=k+9 * (j:Int)+1+1+1+1+1+1+1) ⟨by omega,by omega⟩ ⟨by omega,by omega⟩ ⟨by omega,by omega⟩ ⟨by omega,by omega⟩ ⟨by omega,by omega⟩ ⟨by omega,by omega⟩ ⟨by omega,by omega⟩ ⟨by omega,by omega⟩;have H8:=hid h8;have Hx:=hid hx;clear h8 hx;go_wp2_with fail
      clear hy0 hf0 hy1 hf1 hy2 hf2 hy3 hf3 hy4 hf4 hy5 hf5 hy6 hf6 hy7 hf7 hy8 hf8;with_reducible refine (markText_c (k+9 * (j:Int)+1+1+1+1+1+1+1+1) _ (by omega) (by omega)).mono ?_
      rintro e w1 ⟨rfl,hb⟩
      have hw1:=H8.out.1.below hb (Nat.le_refl _);have hgr1:w.grownBy w1 (some g):=grownBy_trans (grownBy_trans Hgr.out H8.out.2) ⟨hb.os,hb.tape,hb.output,hb.size,fun i hi _=>hb.block i hi⟩;clear hb;have hlt:j<(mkL fStep 9 k j++xs.drop j).length:=by have:=Hlen.out;omega
      have hlen2:n=((mkL fStep 9 k j++xs.drop j).set j (⟨k+9 * (j:Int),k+9 * (j:Int)+1,k+9 * (j:Int)+1+1,k+9 * (j:Int)+1+1+1,k+9 * (j:Int)+1+1+1+1,k+9 * (j:Int)+1+1+1+1+1,k+9 * (j:Int)+1+1+1+1+1+1,k+9 * (j:Int)+1+1+1+1+1+1+1,x.tx⟩:StepT)).length:=by rw [List.length_set];exact Hlen.out
      obtain ⟨⟨y8,hy8⟩,hf8⟩:=Own.cellE (E:=eStep) hw1 hlen2 (k:=j) (j:=8) hjn (by decide);simp only [show eStep.sz=9 from rfl] at hy8 hf8
      have hst:=Own.store1 (E:=eStep) (by decide) hw1 hlen2 (List.getElem?_set_self hlt) (j:=8) (y:=fStep (k+9 * (j:Int))) (v:=.string (mtxt (k+9 * (j:Int)+1+1+1+1+1+1+1+1))) (by decide) rfl (fStep_ok (by omega) (by omega));rw [List.set_set,mkL_set xs k j (by have:=Hn.out;omega)] at hst;have Hst:=hid hst;have Hgr1:=hid hgr1;clear hst hw1 hgr1 H8 Hw Hgr hlt hlen2;go_wp2
      go_roundw
      case rel=>exact ⟨j+1,by omega,by go_num,by go_num,Hst.out.1,grownBy_trans Hgr1.out Hst.out.2⟩
      case measure=>simp [intOf];omega
    · go_wp2
      go_ret
      obtain rfl:j=n:=by omega
      rw [List.drop_of_length_le (by have:=Hn.out;omega),List.append_nil] at hw;exact ⟨ret_int (by omega),⟨hw,fun i hi=>by cases hi;exact hgt⟩,Within.of_grown hgr fun i hi=>by cases hi;exact ⟨hbg,hgt⟩,hgr⟩
end Go.Proofs.YthdaghfhlfjclaaGreat
