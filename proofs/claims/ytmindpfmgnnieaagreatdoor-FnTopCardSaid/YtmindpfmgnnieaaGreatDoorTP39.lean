/- Lemmas on the way to the law FnTop. No condition. -/
import Derived.Test.YtmindpfmgnnieaaGreatDoorTP29
import Derived.Test.YtmindpfmgnnieaaGreatDoorTP7
import Derived.Test.YtmindpfmgnnieaaGreatDoorTP34
import Derived.Test.YtmindpfmgnnieaaGreatDoorTP6
import Derived.Test.YtmindpfmgnnieaaGreatDoorTP31
import Derived.Test.YtmindpfmgnnieaaGreatDoorTP16
import Derived.Test.YtmindpfmgnnieaaGreatDoorTP13
import Derived.Test.YtmindpfmgnnieaaGreatDoorTP33
import Derived.Test.YtmindpfmgnnieaaGreatDoorTP14
import Derived.Test.YtmindpfmgnnieaaGreatDoorTP19
import Derived.Test.YtmindpfmgnnieaaGreatDoorTP26
import Derived.Test.YtmindpfmgnnieaaGreatDoorTP37
import Derived.Test.YtmindpfmgnnieaaGreatDoorTP23
import Derived.Test.YtmindpfmgnnieaaGreatDoorTP25
import Derived.Test.YtmindpfmgnnieaaGreatDoorTP28
namespace Go.Proofs.YtmindpfmgnnieaaGreatDoor
set_option maxHeartbeats 2000000
set_option linter.unusedSimpArgs false
open Lib (hid)
open Go.ChangeShapes Go.WideShapes Go.ChangeAt Go.RowKit Go.Sort
set_option linter.unusedVariables false
set_option maxRecDepth 100000
def cds (s:ByteArray):List Int:=(bytesI s).map codeI
theorem cds_len (s:ByteArray):(cds s).length=s.size:=by unfold cds;rw [List.length_map,bytesI_length]
theorem cds_at {s:ByteArray} {k:Nat} (h:k<s.size):(cds s)[k]?=some (codeI (s[k].toNat:Int)):=by unfold cds;rw [List.getElem?_map,bytesI_at s k h];rfl
theorem ch_isN:∀ n:Fin 256,chI (n.val:Int)=true->∃ k:Fin 40,(n.val:Int)=chA k.val:=by decide +kernel
theorem ch_is {b:UInt8} (h:chI (b.toNat:Int)=true):∃ k:Nat,k<40/\(b.toNat:Int)=chA k:=by
 obtain ⟨k,hk⟩:=ch_isN ⟨b.toNat,b.toNat_lt⟩ h;exact ⟨k.val,k.isLt,hk⟩
theorem chS_at {s:ByteArray} {k:Nat} (hs:chS s=true) (h:k<s.size):chI (s[k].toNat:Int)=true:=by
 unfold chS at hs;exact List.all_eq_true.1 hs _ (zC (bytesI_at s k h))
theorem run_fldC (a:Option Addr) (n c:Nat) (W:World):(Instr.field 69 (.agg #[.slice a n c]) 0).run Tryz.prog W=.ok (.slice a n c) W:=by kernel_rfl
theorem codeI_bd (b:UInt8) (h:chI (b.toNat:Int)=true):eI.ok (codeI (b.toNat:Int)):=by
 have h1:∀ n:Fin 256,-9223372036854775808<=codeI (n.val:Int)/\codeI (n.val:Int)<=9223372036854775807:=by decide +kernel
 exact h1 ⟨b.toNat,b.toNat_lt⟩
theorem zerosS {e:TypeId} {base m cap g:Nat} {w:World} (h:w.ownsRow base e 1 (.slice (some ⟨g,0,none⟩) m cap) m (madeCells #[.int .i64 0] m).toList):Own eI e base w (.slice (some ⟨g,0,none⟩) m cap) (List.replicate m 0):=by
 rw [toList_madeCells_one] at h;refine Own.ofInts ?_ ?_
 . rw [List.map_replicate,List.length_replicate];exact h
 . intro x hx
   have:=List.eq_of_mem_replicate hx;subst this;show -9223372036854775808<=(0:Int)/\(0:Int)<=9223372036854775807
   omega
theorem codeOf_b {b:UInt8} (w:World) (h:chI (b.toNat:Int)=true):Calls Tryz.prog 188 #[.int .u8 (b.toNat:Int)] w fun e w'=>e=.returned (.int .i64 (codeI (b.toNat:Int)))/\w=w':=by
 obtain ⟨k,hk,e⟩:=ch_is h;rw [e];exact codeOf_c k w hk
theorem blank_c (n:Nat) (w:World) (hn:1<=n/\n<=1000):Calls Tryz.prog 216 #[.int .i64 (n:Int)] w fun e w'=>(∃ g,e=.returned (.agg #[.slice (some ⟨g,0,none⟩) n n])/\OwnInt64S w.heap.size w' (.slice (some ⟨g,0,none⟩) n n) (List.replicate n 0)/\g ≠ w.heap.size)/\Below w.heap.size w w':=by
 obtain ⟨i0,hi,hz0,hz1,hz2⟩:=info_parts Tryz.infoInt64;obtain ⟨T,hT⟩:∃ T,T=w.alloc (.cells #[.slice none 0 0] 69):=⟨_,rfl⟩;have hbT:Below w.heap.size w T:=by rw [hT];exact (zB _ _).alloc (zA _) _
 have hBT:Box T w.heap.size [.slice none 0 0]:=by rw [hT];exact Box.new w [.slice none 0 0] _
 have hTz:T.heap.size=w.heap.size+1:=by rw [hT];simp
 have HT:=hid hT;have HbT:=hid hbT;have HBT:=hid hBT;have HTz:=hid hTz;clear hT hbT hBT hTz;go_enter Tryz.func216,Tryz.ntmps216;go_upto_region 1 with fail;rw [<- HT.out];go_wp2_with (first | (at_make;refine wpList_make_full _ rfl _ _ 48 rfl T.heap.size 2 i0 (.int .i64 0) 1 Tryz.underlying48 hi hz0 hz1 _ _ _ _ n rfl rfl (by omega) (by omega) ?b1 ?b2 (zA _) ?_))
 case b1=>first | omega | (rw [hz2];omega)
 case b2=>unfold maxLen;omega
 intro w4 hown4 hg4;have hu:=zerosS hown4;have hz4:=hg4.size;have hB4:Box w4 w.heap.size [.slice none 0 0]:=HBT.out.on ((zB _ _).grown hg4 (zA _) (fun k hk=>by cases hk));have r0:=hB4.cell 0 _ rfl;have r1:=hB4.free 0;have hgl:=(hu.lt T.heap.size rfl);have HU:Hid (OwnInt64S w.heap.size (w4.setCell ⟨w.heap.size,0,none⟩ (.slice (some ⟨T.heap.size,0,none⟩) n n)) (.slice (some ⟨T.heap.size,0,none⟩) n n) (List.replicate n 0)):=hid ((hu.mono HbT.out.size).kept (yBL _ _ _) (.inr (fun e=>by have h9:=zD e;have:=HTz.out;simp only at h9;omega)));have HB:Hid (Below w.heap.size w (w4.setCell ⟨w.heap.size,0,none⟩ (.slice (some ⟨T.heap.size,0,none⟩) n n))):=hid ((HbT.out.grown hg4 HbT.out.size (fun k hk=>by cases hk)).setCell (by show w.heap.size<=w.heap.size;omega) _);have HG:Hid (T.heap.size ≠ w.heap.size):=hid (by have:=HTz.out;omega);clear hu hown4 hg4 hB4 hz4 hgl;go_wp2;exact bodyPost_ret (v:=.agg #[.slice (some ⟨T.heap.size,0,none⟩) n n]) (by simp [results,Tryz.results216,go_sem,r0]) rfl ⟨⟨_,rfl,HU.out,HG.out⟩,HB.out⟩
theorem punchText_c {s:ByteArray} (w:World) (hs:1<=s.size/\s.size<=1000) (hc:chS s=true):Calls Tryz.prog 214 #[.string s,.int .i64 (s.size:Int)] w fun e w'=>(∃ g,e=.returned (.agg #[.slice (some ⟨g,0,none⟩) s.size s.size])/\RdI w'.heap.size w' (.slice (some ⟨g,0,none⟩) s.size s.size) (cds s))/\Below w.heap.size w w':=by
 obtain ⟨n,hn⟩:∃ n,n=s.size:=⟨_,rfl⟩;obtain ⟨T,hT⟩:∃ T,T=w.alloc (.cells #[.slice none 0 0] 69):=⟨_,rfl⟩;have hbT:Below w.heap.size w T:=by rw [hT];exact (zB _ _).alloc (zA _) _
 have hBT:Box T w.heap.size [.slice none 0 0]:=by rw [hT];exact Box.new w [.slice none 0 0] _
 have hTz:T.heap.size=w.heap.size+1:=by rw [hT];simp
 rw [<- hn] at hs |-;have hbl:=blank_c n T (by omega);have Hbl:=hid hbl;have HT:=hid hT;have HbT:=hid hbT;have HBT:=hid hBT;have HTz:=hid hTz;have Hn:=hid hn;have Hc:=hid hc;clear hT hbT hBT hTz hbl hn hc;go_enter Tryz.func214,Tryz.ntmps214;go_upto_region 1 with fail;rw [<- HT.out];go_wp2_with fail;with_reducible refine Hbl.out.mono ?_
 rintro e w1 ⟨⟨g,rfl,hO,hgn⟩,hb1⟩;obtain ⟨W,hW⟩:∃ W,W=w1.alloc (.cells #[.slice (some ⟨g,0,none⟩) n n] 69):=⟨_,rfl⟩;have hbW:Below w1.heap.size w1 W:=by rw [hW];exact (zB _ _).alloc (zA _) _
 have hX:Box W w1.heap.size [.slice (some ⟨g,0,none⟩) n n]:=by rw [hW];exact Box.new w1 [.slice (some ⟨g,0,none⟩) n n] _
 have hOW:=hO.below hbW (zA _);have hglt:=hO.lt g rfl;have hR1:=(HBT.out.on hb1).on hbW;have hbA:Below w.heap.size w W:=HbT.out.trans ((hb1.trans (hbW.mono hb1.size)).mono HbT.out.size);have hb1z:=hb1.size;have g1:T.heap.size<=g:=hglt.1;have g2:g<w1.heap.size:=hglt.2;have HOW:Hid (∃ L,OwnInt64S T.heap.size W (.slice (some ⟨g,0,none⟩) n n) L/\L.length=n/\L.take 0=(cds s).take 0):=hid ⟨_,hOW,List.length_replicate,rfl⟩;have HX:=hid hX;have HW:=hid hW;have HR1:=hid hR1;have HbA:=hid hbA;clear hO hgn hb1 hW hbW hX hOW hR1 hbA hglt;go_upto_region 2 with fail;rw [<- HW.out];go_wp2;go_loopw [6] (fun iv wr=>∃ k:Nat,k<=n/\iv=.int .i64 k/\Hid (∃ L,OwnInt64S T.heap.size wr (.slice (some ⟨g,0,none⟩) n n) L/\L.length=n/\L.take k=(cds s).take k)/\Hid (Box wr w1.heap.size [.slice (some ⟨g,0,none⟩) n n])/\Hid (Box wr w.heap.size [.slice none 0 0])/\Hid (Below w.heap.size w wr)) (fun i _=>n - (intOf i).toNat)
 case atStart=>exact ⟨0,zK _,rfl,HOW,HX,HR1,HbA⟩
 case round =>
  obtain ⟨k,hk,rfl,HO,HXr,HRr,Hb⟩:=hrel;clear HOW HX HR1 HbA;by_cases hkn:k<n
  . have hkn2:k<s.size:=by have:=Hn.out;omega
    have hks:(k:Int)<(s.size:Int):=by omega
    have hch:=chS_at Hc.out hkn2;have x0:=HXr.out.cell 0 _ rfl;obtain ⟨L,hO,hL,hLk⟩:=HO.out;obtain ⟨⟨y,hy⟩,hf,hO2,hg2⟩:=Own.storeI (x:=codeI (s[k].toNat:Int)) hO hL.symm hkn (codeI_bd _ hch);have HO2:Hid (∃ L,OwnInt64S T.heap.size (wr.setCell ⟨g,k,none⟩ (.int .i64 (codeI (s[k].toNat:Int)))) (.slice (some ⟨g,0,none⟩) n n) L/\L.length=n/\L.take (k+1)=(cds s).take (k+1)):=hid ⟨_,hO2,by rw [List.length_set];exact hL,by
     rw [yAD (cds_at hkn2),List.take_add_one,List.take_set_of_le (zA k),List.getElem?_set_self (by omega),hLk];rfl⟩
    have HX2:Hid (Box (wr.setCell ⟨g,k,none⟩ (.int .i64 (codeI (s[k].toNat:Int)))) w1.heap.size [.slice (some ⟨g,0,none⟩) n n]):=hid (HXr.out.other (by show g ≠ w1.heap.size;omega) _);have HR2:Hid (Box (wr.setCell ⟨g,k,none⟩ (.int .i64 (codeI (s[k].toNat:Int)))) w.heap.size [.slice none 0 0]):=hid (HRr.out.other (by show g ≠ w.heap.size;have:=HTz.out;omega) _);have HB2:Hid (Below w.heap.size w (wr.setCell ⟨g,k,none⟩ (.int .i64 (codeI (s[k].toNat:Int))))):=hid (Hb.out.setCell (by show w.heap.size<=g;have:=HTz.out;omega) _);have Hcb:=hid (fun w=>codeOf_b w hch);clear hO hL hLk hO2 hg2 hch HO HXr HRr Hb;go_wp2;go_region_law (go_simp;go_at_call 188;with_reducible refine (Hcb.out _).mono ?_;rintro e w9 ⟨rfl,rfl⟩)
    all_goals
     obtain ⟨W9,hW9⟩:∃ W9,W9=(wr.setCell ⟨g,k,none⟩ (.int .i64 (codeI (s[k].toNat:Int)))).drew:=⟨_,rfl⟩;have HO9:Hid (∃ L,OwnInt64S T.heap.size W9 (.slice (some ⟨g,0,none⟩) n n) L/\L.length=n/\L.take (k+1)=(cds s).take (k+1)):=hid (by rw [hW9];exact HO2.out);have HX9:Hid (Box W9 w1.heap.size [.slice (some ⟨g,0,none⟩) n n]):=hid (by rw [hW9];exact HX2.out.drew1);have HR9:Hid (Box W9 w.heap.size [.slice none 0 0]):=hid (by rw [hW9];exact HR2.out.drew1);have HB9:Hid (Below w.heap.size w W9):=hid (by rw [hW9];exact HB2.out.drewNy 1);rw [<- hW9];clear hW9 HO2 HX2 HR2 HB2 x0 hy hf;go_wp2;go_roundw
     case rel=>exact ⟨k+1,by omega,by go_num,HO9,HX9,HR9,HB9⟩
     case measure=>simp [intOf];omega
  . obtain rfl:k=n:=by omega
    have hks:¬ (k:Int)<(s.size:Int):=by have:=Hn.out;omega
    obtain ⟨L,hO,hL,hLk⟩:=HO.out;have hLe:L=cds s:=by rw [zH (by omega),zH (by rw [cds_len];have:=Hn.out;omega)] at hLk;exact hLk
    subst hLe;have x0:=HXr.out.cell 0 _ rfl;have r0:=HRr.out.cell 0 _ rfl;have r1:=HRr.out.free 0;have hO9:=hO.kept (yBL wr ⟨w.heap.size,0,none⟩ (.slice (some ⟨g,0,none⟩) k k)) (.inr (fun e=>by have h9:=zD e;simp only at h9;have:=HTz.out;omega));have HO9:=hid hO9.rds;have HB9:Hid (Below w.heap.size w (wr.setCell ⟨w.heap.size,0,none⟩ (.slice (some ⟨g,0,none⟩) k k))):=hid (Hb.out.setCell (by show w.heap.size<=w.heap.size;omega) _);clear hO hO9 hL hLk HO HXr HRr Hb;go_wp2;exact bodyPost_ret (v:=.agg #[.slice (some ⟨g,0,none⟩) k k]) (by simp [results,Tryz.results214,go_sem,r0]) rfl ⟨⟨_,rfl,HO9.out⟩,HB9.out⟩
theorem compareText_c {c:List Int} {s:ByteArray} {b off n cap:Nat} {W0:World} {A:Nat} (x y:Int) (hx:0<=x) (hxy:x<y) (hy:y<=n) (ha:RdI A W0 (.slice (some ⟨b,off,none⟩) n cap) c) (hs:(s.size:Int)=y - x) (hs2:s.size<=1000) (hc:chS s=true) :
 Calls Tryz.prog 210 #[.agg #[.slice (some ⟨b,off,none⟩) n cap],.agg #[.int .i64 x,.int .i64 y],.string s] W0 fun e' W0'=>e'=.returned (.int .i64 (cmpN (rks (partC c x y)) (rks (cds s))))/\Below W0.heap.size W0 W0':=by
 obtain ⟨lo,rfl⟩:=zG hx;obtain ⟨hi,rfl⟩:=zG (show 0<=y by omega);obtain ⟨W,hW⟩:∃ W,W=(W0.alloc (.cells #[.slice (some ⟨b,off,none⟩) n cap] 69)).alloc (.cells #[.int .i64 lo,.int .i64 hi] 27):=⟨_,rfl⟩;have z1:(W0.alloc (.cells #[.slice (some ⟨b,off,none⟩) n cap] 69)).heap.size=W0.heap.size+1:=by simp
 have hP:Box W W0.heap.size [.slice (some ⟨b,off,none⟩) n cap]:=by rw [hW];exact (Box.new W0 [.slice (some ⟨b,off,none⟩) n cap] _).alloc _
 have hQ:Box W (W0.heap.size+1) [.int .i64 lo,.int .i64 hi]:=by
  have h:=Box.new (W0.alloc (.cells #[.slice (some ⟨b,off,none⟩) n cap] 69)) [.int .i64 lo,.int .i64 hi] 27;rw [z1,<- hW] at h;exact h
 have hb0:Below W0.heap.size W0 W:=by rw [hW];exact ((zB _ _).alloc (zA _) _).alloc (by rw [z1];omega) _
 have ca:=Rds.cap ha;have ca2:=ca.2.2 (by omega);have ha1:=Rds.onn ha hb0;obtain ⟨N,hN⟩:∃ N,N=s.size:=⟨_,rfl⟩;have hNl:N=hi - lo:=by omega
 have hpc:(partC c (lo:Int) (hi:Int)).length=(cds s).length:=by rw [yAN hx hxy (by omega),cds_len];simp only [zR];omega
 obtain ⟨R,hRR⟩:∃ R,cmpN (rks (partC c (lo:Int) (hi:Int))) (rks (cds s))=R:=⟨_,rfl⟩;rw [hRR];have HP:Hid (∀ w:World,Calls Tryz.prog 214 #[.string s,.int .i64 (N:Int)] w fun e w'=>(∃ g,e=.returned (.agg #[.slice (some ⟨g,0,none⟩) N N])/\RdI w'.heap.size w' (.slice (some ⟨g,0,none⟩) N N) (cds s))/\Below w.heap.size w w'):=hid (fun w=>by have h:=punchText_c (s:=s) w (by omega) hc;rw [<- hN] at h;exact h);have HCm:Hid (∀ (w:World) (v:Value),Below W.heap.size W w->RdI w.heap.size w v (cds s)->Calls Tryz.prog 154 #[.slice (some ⟨b,off+lo,none⟩) (hi - lo) (cap - lo),v] w fun e' w'=>e'=.returned (.int .i64 R)/\Below w.heap.size w w'):=hid (fun w v hb hr=>by
  have h:=compareHoles_c (w:=w) (Rds.part (Rds.onn ha1 hb) hx hxy hy) hr hpc;rw [hRR] at h;simp only [zR] at h;exact h.mono (fun e w' h=>⟨h.1,by obtain ⟨m,rfl⟩:=h.2;exact (zB _ _).drewNy m⟩))
 have c0:=hP.cell 0 _ rfl;have c1:=hQ.cell 0 _ rfl;have c2:=hQ.cell 1 _ rfl;have Hb0:=hid hb0;have HW:=hid hW;have q1:lo<hi:=by omega
 have q2:hi<=n:=by omega
 have q4:hi<=cap:=by omega
 have q6:¬ cap=lo:=by omega
 have q8:lo<=hi:=by omega
 have q9:(hi:Int) - (lo:Int)=(N:Int):=by omega
 have q10:IntKind.i64.wrap ((hi:Int) - (lo:Int))=(N:Int):=by rw [q9];exact IntWalk.i64_in _ (by omega)
 clear hP hQ hb0 hW ha ha1 hRR ca hs hc hpc hNl z1 hN q9;go_enter Tryz.func210,Tryz.ntmps210;go_upto_region 1 with fail;rw [<- HW.out];refine yAZ (fun i v w=>match i with | 0=>v=.pointer (some ⟨W0.heap.size,0,none⟩) | 1=>v=.slice (some ⟨b,off,none⟩) n cap | 2=>v=.pointer (some ⟨W0.heap.size+1,0,none⟩) | 3=>v=.int .i64 (lo:Int) | 4=>v=.pointer (some ⟨W0.heap.size+1,1,none⟩) | 5=>v=.int .i64 (hi:Int) | 6=>v=.slice (some ⟨b,off+lo,none⟩) (hi - lo) (cap - lo) | 7=>v=.string s | 8=>v=.pointer (some ⟨W0.heap.size+1,1,none⟩) | 9=>v=.int .i64 (hi:Int) | 10=>v=.pointer (some ⟨W0.heap.size+1,0,none⟩) | 11=>v=.int .i64 (lo:Int) | 12=>v=.int .i64 (N:Int) | 13=>∃ g,v=.agg #[.slice (some ⟨g,0,none⟩) N N]/\RdI w.heap.size w (.slice (some ⟨g,0,none⟩) N N) (cds s) | 14=>RdI w.heap.size w v (cds s) | 15=>v=.int .i64 R | 16=>v=.int .i64 R | _=>True) (by kernel_rfl) (by kernel_rfl) (by kernel_rfl) ?_ ?_ ?_
 . intro i v w w' h hb
   iterate 17 (obtain _ | i:=i;· first | exact h | (obtain ⟨g,h1,h2⟩:=h;exact ⟨g,h1,Rds.onn h2 hb⟩) | exact Rds.onn h hb)
   exact h
 . intro vs hvs
   match vs,hvs with
   | [v0,v1,v2,v3,v4,v5,v6,v7,v8,v9,v10,v11,v12,v13,v14,v15,v16],_ =>
    refine ⟨?_,?_,?_,?_,?_,?_,?_,?_,?_,?_,?_,?_,?_,?_,?_,?_,?_,trivial⟩
    . intro wr hC hd
      clear hd;unfold relAt;simp only [putAll];go_simp;simp only [relUpon];exact ⟨zB _ _,by first | rfl | trivial⟩
    . intro wr hC hd
      have d0:v0=.pointer (some ⟨W0.heap.size,0,none⟩):=yAF 0 (by kernel_rfl) hd;subst d0;clear hd;have e:=(hC.cell (p:=⟨W0.heap.size,0,none⟩) (World.block_lt_of_cell? _ _ c0)).trans c0;unfold relAt;simp only [putAll];go_simp;simp only [relUpon];exact ⟨zB _ _,by first | rfl | trivial⟩
    . intro wr hC hd
      clear hd;unfold relAt;simp only [putAll];go_simp;simp only [relUpon];exact ⟨zB _ _,by first | rfl | trivial⟩
    . intro wr hC hd
      have d2:v2=.pointer (some ⟨W0.heap.size+1,0,none⟩):=yAF 2 (by kernel_rfl) hd;subst d2;clear hd;have e:=(hC.cell (p:=⟨W0.heap.size+1,0,none⟩) (World.block_lt_of_cell? _ _ c1)).trans c1;unfold relAt;simp only [putAll];go_simp;simp only [relUpon];exact ⟨zB _ _,by first | rfl | trivial⟩
    . intro wr hC hd
      clear hd;unfold relAt;simp only [putAll];go_simp;simp only [relUpon];exact ⟨zB _ _,by first | rfl | trivial⟩
    . intro wr hC hd
      have d4:v4=.pointer (some ⟨W0.heap.size+1,1,none⟩):=yAF 4 (by kernel_rfl) hd;subst d4;clear hd;have e:=(hC.cell (p:=⟨W0.heap.size+1,1,none⟩) (World.block_lt_of_cell? _ _ c2)).trans c2;unfold relAt;simp only [putAll];go_simp;simp only [relUpon];exact ⟨zB _ _,by first | rfl | trivial⟩
    . intro wr hC hd
      have d1:v1=.slice (some ⟨b,off,none⟩) n cap:=yAF 1 (by kernel_rfl) hd;subst d1;have d3:v3=.int .i64 (lo:Int):=yAF 3 (by kernel_rfl) hd;subst d3;have d5:v5=.int .i64 (hi:Int):=yAF 5 (by kernel_rfl) hd;subst d5;clear hd;unfold relAt;simp only [putAll];go_simp;simp only [relUpon];exact ⟨zB _ _,by first | rfl | trivial⟩
    . intro wr hC hd
      clear hd;unfold relAt;simp only [putAll];go_simp;simp only [relUpon];exact ⟨zB _ _,by first | rfl | trivial⟩
    . intro wr hC hd
      clear hd;unfold relAt;simp only [putAll];go_simp;simp only [relUpon];exact ⟨zB _ _,by first | rfl | trivial⟩
    . intro wr hC hd
      have d8:v8=.pointer (some ⟨W0.heap.size+1,1,none⟩):=yAF 8 (by kernel_rfl) hd;subst d8;clear hd;have e:=(hC.cell (p:=⟨W0.heap.size+1,1,none⟩) (World.block_lt_of_cell? _ _ c2)).trans c2;unfold relAt;simp only [putAll];go_simp;simp only [relUpon];exact ⟨zB _ _,by first | rfl | trivial⟩
    . intro wr hC hd
      clear hd;unfold relAt;simp only [putAll];go_simp;simp only [relUpon];exact ⟨zB _ _,by first | rfl | trivial⟩
    . intro wr hC hd
      have d10:v10=.pointer (some ⟨W0.heap.size+1,0,none⟩):=yAF 10 (by kernel_rfl) hd;subst d10;clear hd;have e:=(hC.cell (p:=⟨W0.heap.size+1,0,none⟩) (World.block_lt_of_cell? _ _ c1)).trans c1;unfold relAt;simp only [putAll];go_simp;simp only [relUpon];exact ⟨zB _ _,by first | rfl | trivial⟩
    . intro wr hC hd
      have d9:v9=.int .i64 (hi:Int):=yAF 9 (by kernel_rfl) hd;subst d9;have d11:v11=.int .i64 (lo:Int):=yAF 11 (by kernel_rfl) hd;subst d11;clear hd;unfold relAt;simp only [putAll];go_simp;simp only [relUpon];exact ⟨zB _ _,by first | rfl | trivial⟩
    . intro wr hC hd
      have d7:v7=.string s:=yAF 7 (by kernel_rfl) hd;subst d7;have d12:v12=.int .i64 (N:Int):=yAF 12 (by kernel_rfl) hd;subst d12;clear hd;unfold relAt;simp only [putAll];go_simp;simp only [relUpon];with_reducible refine (HP.out wr).mono ?_
      rintro e w9 ⟨⟨g,rfl,hg⟩,hb9⟩;exact ⟨_,rfl,hb9,g,rfl,hg⟩
    . intro wr hC hd
      have d13:∃ g,v13=.agg #[.slice (some ⟨g,0,none⟩) N N]/\RdI wr.heap.size wr (.slice (some ⟨g,0,none⟩) N N) (cds s):=yAF 13 (by kernel_rfl) hd;clear hd;have h8:=d13.choose_spec.1;have h9:=d13.choose_spec.2;generalize d13.choose=g9 at h8 h9;clear d13;subst h8;have hfd:=run_fldC (some ⟨g9,0,none⟩) N N;unfold relAt;simp only [putAll];go_simp;simp only [relUpon];exact ⟨zB _ _,h9⟩
    . intro wr hC hd
      have d6:v6=.slice (some ⟨b,off+lo,none⟩) (hi - lo) (cap - lo):=yAF 6 (by kernel_rfl) hd;subst d6;have d14:RdI wr.heap.size wr v14 (cds s):=yAF 14 (by kernel_rfl) hd;clear hd;unfold relAt;simp only [putAll];go_simp;simp only [relUpon];with_reducible refine (HCm.out wr _ hC d14).mono ?_
      rintro e w9 ⟨rfl,hb9⟩;exact ⟨_,rfl,hb9,rfl⟩
    . intro wr hC hd
      have d15:v15=.int .i64 R:=yAF 15 (by kernel_rfl) hd;subst d15;clear hd;unfold relAt;simp only [putAll];go_simp;simp only [relUpon];exact ⟨zB _ _,by first | rfl | trivial⟩
 . intro vs wq hvs hC hI
   match vs,hvs,hI with
   | [v0,v1,v2,v3,v4,v5,v6,v7,v8,v9,v10,v11,v12,v13,v14,v15,v16],_,hI =>
    have d0:v0=.pointer (some ⟨W0.heap.size,0,none⟩):=hI 0 (by decide);subst d0;have d1:v1=.slice (some ⟨b,off,none⟩) n cap:=hI 1 (by decide);subst d1;have d2:v2=.pointer (some ⟨W0.heap.size+1,0,none⟩):=hI 2 (by decide);subst d2;have d3:v3=.int .i64 (lo:Int):=hI 3 (by decide);subst d3;have d4:v4=.pointer (some ⟨W0.heap.size+1,1,none⟩):=hI 4 (by decide);subst d4;have d5:v5=.int .i64 (hi:Int):=hI 5 (by decide);subst d5;have d6:v6=.slice (some ⟨b,off+lo,none⟩) (hi - lo) (cap - lo):=hI 6 (by decide);subst d6;have d7:v7=.string s:=hI 7 (by decide);subst d7;have d8:v8=.pointer (some ⟨W0.heap.size+1,1,none⟩):=hI 8 (by decide);subst d8;have d9:v9=.int .i64 (hi:Int):=hI 9 (by decide);subst d9;have d10:v10=.pointer (some ⟨W0.heap.size+1,0,none⟩):=hI 10 (by decide);subst d10;have d11:v11=.int .i64 (lo:Int):=hI 11 (by decide);subst d11;have d12:v12=.int .i64 (N:Int):=hI 12 (by decide);subst d12;have d13:∃ g,v13=.agg #[.slice (some ⟨g,0,none⟩) N N]/\RdI wq.heap.size wq (.slice (some ⟨g,0,none⟩) N N) (cds s):=hI 13 (by decide);have d14:RdI wq.heap.size wq v14 (cds s):=hI 14 (by decide);have d15:v15=.int .i64 R:=hI 15 (by decide);subst d15;have d16:v16=.int .i64 R:=hI 16 (by decide);subst d16;clear hI;simp only [putAll];go_simp;have Hb1:=hid (Hb0.out.trans (hC.mono Hb0.out.size));clear hC d13 d14;go_wp2;go_ret;exact ⟨rfl,Hb1.out⟩
theorem ch_rk:∀ k:Fin 40,rkI (codeI (chA k.val))=(k.val:Int):=by decide +kernel
theorem chI_chA:∀ k:Fin 40,chI (chA k.val)=true:=by decide +kernel
theorem ch_back:∀ n:Fin 256,chI (n.val:Int)=true->chA (rkI (codeI (n.val:Int))).toNat=(n.val:Int):=by decide +kernel
def rkC (c:Int):Int:=if chI c=true then rkI (codeI c) else -1
def rkS (s:ByteArray):List Int:=(bytesI s).map rkC
theorem rkS_len (s:ByteArray):(rkS s).length=s.size:=by unfold rkS;rw [List.length_map,bytesI_length]
theorem rkC_ch {c:Int} (h:chI c=true):rkC c=rkI (codeI c):=by unfold rkC;rw [if_pos h]
theorem rkS_cds {s:ByteArray} (h:chS s=true):rkS s=rks (cds s):=by
 unfold rkS rks cds;rw [List.map_map];refine List.map_congr_left fun c hc=>?_;exact rkC_ch (List.all_eq_true.1 h c hc)
theorem okTx_at {h:List Int} (ho:okTx h=true) {m:Int} (hm:m∈h):¬ rkI m<0:=by
 unfold okTx at ho;have h1:h.any noCh=false:=by simpa using ho
 have h2:=List.any_eq_false.1 h1 m hm;unfold noCh at h2;simpa using h2
theorem rkC_chr {m:Int} (h:¬ rkI m<0):rkC (chrI m)=rkI m/\chI (chrI m)=true:=by
 obtain ⟨k,hk,h1,h2⟩:=rk_neg h;have h3:=chI_chA ⟨k,hk⟩;have h4:=ch_rk ⟨k,hk⟩;rw [h2];exact ⟨by rw [rkC_ch h3,h1];exact h4,h3⟩
theorem rkS_txt {h:List Int} (ho:okTx h=true):rkS (toB (txI h))=rks h:=by
 unfold rkS rks;rw [bytesI_toB (txI_bd ho)];unfold txI;rw [List.map_map];exact List.map_congr_left fun m hm=>(rkC_chr (okTx_at ho hm)).1
theorem chS_txt {h:List Int} (ho:okTx h=true):chS (toB (txI h))=true:=by
 unfold chS;rw [bytesI_toB (txI_bd ho)];unfold txI;refine List.all_eq_true.2 fun c hc=>?_;obtain ⟨m,hm,rfl⟩:=List.mem_map.1 hc;exact (rkC_chr (okTx_at ho hm)).2
theorem map_inj_on {α β:Type} {f:α->β}:∀ {a b:List α},(∀ x∈a,∀ y∈b,f x=f y->x=y)->a.map f=b.map f->a=b
 | [],[],_,_=>rfl
 | [],_ :: _,_,h=>by cases h
 | _ :: _,[],_,h=>by cases h
 | x :: a,y :: b,hi,h=>by
  rw [List.map_cons,List.map_cons] at h;injection h with h1 h2;rw [hi x (List.mem_cons_self ..) y (List.mem_cons_self ..) h1,map_inj_on (fun x hx y hy=>hi x (List.mem_cons_of_mem _ hx) y (List.mem_cons_of_mem _ hy)) h2]
theorem rkS_inj {s u:ByteArray} (h:chS s=true) (k:chS u=true) (e:rkS s=rkS u):s=u:=by
 have h1:bytesI s=bytesI u:=by
  refine map_inj_on (fun x hx y hy he=>?_) e;have hx1:=List.all_eq_true.1 h x hx;have hy1:=List.all_eq_true.1 k y hy;rw [rkC_ch hx1,rkC_ch hy1] at he;unfold bytesI at hx hy;obtain ⟨a,-,rfl⟩:=List.mem_map.1 hx;obtain ⟨b,-,rfl⟩:=List.mem_map.1 hy;have h2:=ch_back ⟨a.toNat,a.toNat_lt⟩ hx1;have h3:=ch_back ⟨b.toNat,b.toNat_lt⟩ hy1;rw [<- h2,<- h3,he]
 rw [<- toB_bytesI s,h1,toB_bytesI]
theorem rkS_iff {s u:ByteArray} (h:chS s=true) (k:chS u=true):rkS s=rkS u ↔ s=u:=⟨rkS_inj h k,fun e=>by rw [e]⟩
theorem lexL_irr:∀ {a:List Int},¬ lexL a a
 | [],h=>by unfold lexL at h;exact h
 | x :: a,h=>by
  unfold lexL at h;rcases h with h | ⟨-,h⟩
  . omega
  . exact lexL_irr h
theorem ltK_irr {d:List (List Int)} {f t:Int} (a b:Int) (h:ltK d f t a b) (k:ltK d f t b a):False:=by
 unfold ltK at h k;rcases h with h | ⟨e,h⟩ <;> rcases k with k | ⟨e',k⟩
 . exact lexL_irr (lexL_trans h k)
 . rw [e'] at h;exact lexL_irr h
 . rw [e] at k;exact lexL_irr k
 . omega
open Classical in
noncomputable def ordD (d:List (List Int)) (f t:Int):List Int:=if h:∃ Z,IsOrd d f t Z then h.choose else []
theorem IsOrd.eq {d:List (List Int)} {f t:Int} {Z:List Int} (h:IsOrd d f t Z):Z=ordD d f t:=by
 have h1:∃ Z,IsOrd d f t Z:=⟨Z,h⟩;unfold ordD;rw [dif_pos h1];have h2:=h1.choose_spec;exact Sym.sorted_unique (lt:=ltK d f t) ltK_irr (h.1.trans h2.1.symm) h.2 h2.2
def keyT (d:List (List Int)) (f t:Int):List ByteArray:=d.map (fun c=>toB (txI (partC c f t)))
theorem keyT_len (d:List (List Int)) (f t:Int):(keyT d f t).length=d.length:=by unfold keyT;simp
theorem keyT_at {d:List (List Int)} {f t:Int} {i:Nat} {c:List Int} (h:d[i]?=some c):(keyT d f t)[i]?=some (toB (txI (partC c f t))):=by unfold keyT;rw [List.getElem?_map,h];rfl
theorem hasD_at {d:List (List Int)} {f t:Int} (h:hasD d f t=true) {c:List Int} (hc:c∈d):okTx (partC c f t)=true:=by
 unfold hasD at h;have h1:d.any (notF f t)=false:=by simpa using h
 have h2:=List.any_eq_false.1 h1 c hc;unfold notF at h2;simpa using h2
theorem l02Own_c {xs:List Int} {w:World} {A b off:Nat} {ro:Option Addr} {rc n:Nat} (hn:n=xs.length) (hcell:w.cell? ⟨b,off,none⟩=some (.slice ro n rc)) (ha:RdI A w (.slice ro n rc) xs) (hl:n<=2097152) :
 Calls Tryz.prog 28 #[.pointer (some ⟨b,off,none⟩)] w fun e w'=>(∃ u,e=.returned (.agg #[u])/\OwnInt64S w.heap.size w' u xs)/\Below w.heap.size w w':=by
 obtain ⟨W,hW⟩:∃ W,W=w.alloc (.cells #[.slice none 0 0] 69):=⟨_,rfl⟩;have hQ:Box W w.heap.size [.slice none 0 0]:=by rw [hW];exact Box.new w [.slice none 0 0] _
 have hb0:Below w.heap.size w W:=by rw [hW];exact (zB _ _).alloc (zA _) _
 have hb:=World.block_lt_of_cell? _ _ hcell;have c0:=(hb0.cell (p:=⟨b,off,none⟩) hb).trans hcell;have Ha:=hid (Rds.onn ha hb0);have HQ:=hid hQ;have Hb0:=hid hb0;have HW:=hid hW;have hl2:xs.length<=2097152:=by omega
 clear hQ hb0 hW ha hcell hb hn;go_enter Tryz.func28,Tryz.ntmps28;go_upto_region 1 with fail;rw [<- HW.out];go_wp2_with fail;with_reducible refine (l00Own_c Ha.out hl2).mono ?_
 rintro e w1 ⟨u,rfl,hu,hb⟩;obtain ⟨uo,uc,hsu⟩:=hu.shape;subst hsu;have hQ1:=HQ.out.on hb;have r0:=hQ1.cell 0 _ rfl;have r1:=hQ1.free 0;have hlt:=HQ.out.lt;have HU:=hid hu;have Hb:=hid (Hb0.out.trans (hb.mono Hb0.out.size));clear hu hb hQ1 c0;go_wp2;refine bodyPost_ret (v:=.agg #[.slice uo xs.length uc]) (by simp [results,Tryz.results28,go_sem,r0]) rfl ⟨⟨_,rfl,?_⟩,Hb.out.setCell (by show w.heap.size<=w.heap.size;omega) _⟩;exact (HU.out.kept (yBL _ _ _) (.inr (fun e=>by have h:=(HU.out.lt _ e).1;simp only at h;omega))).mono (by omega)
theorem l02Copy_c {d:List (List Int)} {v:Value} {w:World} {A:Nat} (hd:RdInt64SS A w v d) (hr:RowsOk d) :
 Calls Tryz.prog 128 #[v] w fun e w'=>(∃ r,e=.returned r/\OwnCardS w.heap.size w' r d)/\Below w.heap.size w w':=by
 obtain ⟨i0,hi,hz0,hz1,hz2c⟩:=info_parts Tryz.infoCard;have hB0:BldG eI 2 69 w.heap.size w.heap.size (w.alloc (.cells #[] 69)).heap.size (w.alloc (.cells #[] 69)) (.slice (some ⟨w.heap.size,0,none⟩) 0 0) (d.take 0):=BldG.empty (B:=w.heap.size) rfl (Own.lit (E:=eS) (xs:=[]) (cs:=#[]) (zA _) rfl rfl (by decide) (fun x hx=>by cases hx)) (by simp);obtain ⟨vo,vc,rfl,ho⟩:=hd.tight.open;have Ho:=hid ho;have HB0:=hid hB0;have HRw:=hid hr.2;have hl:=hr.1;obtain ⟨n,hn⟩:∃ n,n=d.length:=⟨_,rfl⟩;rw [<- hn] at hl |-;have Hn:=hid hn;clear hd ho hB0 hr hn;go_enter Tryz.func128,Tryz.ntmps128;go_wp2;go_loopw [3,4] (fun ov iv wr=>∃ k:Nat,k<=n/\iv=.int .i64 k/\Hid (BldG eI 2 69 w.heap.size w.heap.size wr.heap.size wr ov (d.take k))/\Hid (Below w.heap.size w wr)) (fun _ i _=>n - (intOf i).toNat)
 case atStart=>exact ⟨0,zK _,rfl,HB0,hid ((zB _ _).alloc (zA _) _)⟩
 case round =>
  obtain ⟨k,hk,rfl,HB,Hb⟩:=hrel;clear HB0;by_cases hkn:k<n
  . obtain ⟨b,off,rfl,hlt,hc⟩:=Ho.out (by have:=Hn.out;omega)
    obtain ⟨x,ro,rc,hx,hcell,hrd⟩:=hc k (by have:=Hn.out;omega);have hxl:=HRw.out x (zC hx);have d1:=(Hb.out.cell (p:=⟨b,off+k,none⟩) hlt.2).trans hcell;have hrw:=Rds.onn hrd Hb.out;have hcon:=l02Own_c rfl d1 hrw (by omega);have Hcon:=hid hcon;have Htk:Hid (d.take (k+1)=d.take k++[x]):=hid (yAD hx);have Hxl:Hid ((d.take k).length<=100):=hid (by rw [zI];omega);obtain ⟨oo,oc,hov⟩:=HB.out.shape;subst hov;clear hc hcell hrd hx hrw hcon d1;generalize d.take k=Tk at *
    go_wp2_with fail;with_reducible refine Hcon.out.mono ?_
    rintro e w2 ⟨⟨u,rfl,hu⟩,hb2⟩;obtain ⟨tp,htp⟩:∃ tp,tp=wr.heap.size:=⟨_,rfl⟩;have htb:w.heap.size<=tp:=by have:=Hb.out.size;omega
    have hz2:tp<=w2.heap.size:=by have:=hb2.size;omega
    have hB2:BldG eI 2 69 w.heap.size w.heap.size tp w2 (.slice oo Tk.length oc) Tk:=by rw [htp];exact HB.out.below hb2 (zA _)
    have hb2':=Hb.out.trans (hb2.mono (by omega));clear hb2;have hR9:=hu.mono (base':=tp) (by omega);obtain ⟨hs',xh,hval,hokx,hlen,hO,hfn⟩:=hB2.app hR9 htb hz2;obtain ⟨rao,rcap,hsh⟩:=hR9.shape;subst hsh;have hcells:(#[.slice rao x.length rcap]:Array Value)=(eS.cells xh).toArray:=by rw [show eS.cells xh=[xh.val] from rfl,hval]
    have HO:=hid hO;have Hfn:=hid hfn;have Hlen:=hid hlen;have Hcells:=hid hcells;have hl0:=HO.out.lt;have Hl0:=hid hl0;have Hb2:=hid hb2';have hszr:w.heap.size<=w2.heap.size:=hb2'.size;clear hR9 hu hB2 hval hlen hO hfn hcells hl0 hb2';go_wp2_with (first | (at_builtin;refine yAB (E:=eS) rfl _ _ 24 rfl Tryz.underlying24 hi hz0 hz1 hz2c rfl (by decide) rfl rfl (HO.out.alloc _) (yAH (E:=eS) (x:=xh) hokx Hcells.out) ?b1 ?b2 ?b3 ?_))
    case b1=>rw [Hlen.out];have:=Hxl.out;unfold maxLen;simp;omega
    case b2=>rw [Hlen.out];have:=Hxl.out;simp;omega
    case b3=>simp;omega
    intro v' w6 hO6 hg6;have hg6':=hg6.alloc;have HB6:=hid (Hfn.out w6 v' hO6 hg6');have Hb6:=hid (Hb2.out.grown hg6'.1 hszr (fun q hq=>(Hl0.out q hq).1));clear hO6 hg6 hg6';go_wp2;go_roundw
    case rel=>exact ⟨k+1,by omega,by go_num,by rw [Htk.out];exact HB6,Hb6⟩
    case measure=>simp [intOf];omega
  . obtain rfl:k=n:=by omega
    have hM:=HB.out.toM (zA _);rw [zH (by have:=Hn.out;omega)] at hM;have HM:=hid hM;clear hM;go_wp2;go_ret;exact ⟨⟨_,rfl,HM.out⟩,Hb.out⟩
theorem l07Width_c {d:List (List Int)} {v:Value} {w:World} {A:Nat} (hd:RdInt64SS A w v d) :
 Calls Tryz.prog 63 #[v] w fun e w'=>e=.returned (.int .i64 (colsD d))/\w=w':=by
 obtain ⟨ao,cap,rfl,ho⟩:=hd.open;obtain ⟨n,hn⟩:∃ n,n=d.length:=⟨_,rfl⟩;rw [<- hn];by_cases h0:n=0
 . have e1:colsD d=20:=by unfold colsD;rw [if_pos (List.eq_nil_of_length_eq_zero (by omega))]
   rw [e1];subst h0;clear hd ho e1 hn;go_enter Tryz.func63,Tryz.ntmps63;go_wp2;go_ret;exact ⟨rfl,rfl⟩
 . obtain ⟨b,off,rfl,hlt,hc⟩:=ho (by omega)
   obtain ⟨x,ro,rc,hx,hcell,hrd⟩:=hc 0 (by omega);have e1:colsD d=(x.length:Int):=by unfold colsD;rw [if_neg (fun e=>by rw [e] at hx;cases hx),head_of hx]
   rw [e1];have h1:((n:Int) == 0)=false:=beq_eq_false_iff_ne.2 (by omega);have h2:0<n:=by omega
   clear hd ho e1 hn hc hx hrd;generalize x.length=m at *
   rw [Nat.add_zero] at hcell;go_enter Tryz.func63,Tryz.ntmps63;go_wp2;go_ret;exact ⟨rfl,rfl⟩
theorem l03Key_c {c:List Int} {b off cb co n cap:Nat} {w:World} {A:Nat} (x y:Int) (hx:0<=x) (hxy:x<y) (hy:y<=n) (hn:n<=1000) (hcell:w.cell? ⟨b,off,none⟩=some (.slice (some ⟨cb,co,none⟩) n cap)) (ha:RdI A w (.slice (some ⟨cb,co,none⟩) n cap) c) :
 Calls Tryz.prog 64 #[.pointer (some ⟨b,off,none⟩),.agg #[.int .i64 x,.int .i64 y]] w fun e w'=>e=.returned (.tuple #[.string (txV (partC c x y)),.bool (okTx (partC c x y))])/\Below w.heap.size w w':=by
 obtain ⟨W,hW⟩:∃ W,W=w.alloc (.cells #[.int .i64 x,.int .i64 y] 27):=⟨_,rfl⟩;have hb0:Below w.heap.size w W:=by rw [hW];exact (zB _ _).alloc (zA _) _
 have hF:Box W w.heap.size [.int .i64 x,.int .i64 y]:=by rw [hW];exact Box.new w [.int .i64 x,.int .i64 y] _
 have hb:=World.block_lt_of_cell? _ _ hcell;have c0:=(hb0.cell (p:=⟨b,off,none⟩) hb).trans hcell;have ca:=Rds.cap ha;have hp:=l02Part_c (w:=W) x y hx hxy hy ca.1 (ca.2.2 (by omega)) c0 (World.block_lt_of_cell? _ _ c0);have haW:=Rds.onn ha hb0;have Hp:=hid hp;have Ha:=hid (Rds.part haW hx hxy hy);have Hpl:Hid ((partC c x y).length<=1000):=hid (by rw [yAN hx hxy (by have:=ca.2.1;omega)];omega);have f0:=hF.cell 0 _ rfl;have f1:=hF.cell 1 _ rfl;have HW:=hid hW;have Hb0:=hid hb0;clear hW hb0 hF hb c0 ca hp haW ha hcell;go_enter Tryz.func64,Tryz.ntmps64;go_upto_region 1 with fail;rw [<- HW.out];go_wp2_with fail;with_reducible refine Hp.out.mono ?_
 rintro e w1 ⟨rfl,hb1⟩;have htx:=l03Text_c Hpl.out (Rds.onn Ha.out hb1);have Htx:=hid htx;have Hb1:=hid (Hb0.out.trans (hb1.mono Hb0.out.size));clear hb1 htx f0 f1;obtain ⟨r,hr⟩:∃ r,r=txV (partC c x y):=⟨_,rfl⟩;obtain ⟨p,hp⟩:∃ p,p=okTx (partC c x y):=⟨_,rfl⟩;rw [<- hr,<- hp] at Htx;have Hr:=hid hr;have Hpp:=hid hp;clear hr hp;go_wp2_with fail;with_reducible refine Htx.out.mono ?_
 rintro e w2 ⟨rfl,hb2⟩;have Hb2:=hid (Hb1.out.trans (hb2.mono Hb1.out.size));clear hb2;go_wp2;go_ret2;exact ⟨by rw [<- Hr.out,<- Hpp.out];rfl,Hb2.out⟩
theorem rkC_at {k:Nat} (hk:k<40):rkC (chA k)=(k:Int):=by
 have h3:=chI_chA ⟨k,hk⟩;have h4:=ch_rk ⟨k,hk⟩;rw [rkC_ch h3];exact h4
theorem rkC_no {c:Int} (hc:0<=c/\c<=255) (h:∀ j,j<40->chA j ≠ c):rkC c=-1:=by
 unfold rkC;rw [if_neg];intro h1;obtain ⟨k,hk⟩:=ch_isN ⟨c.toNat,by omega⟩ (by rw [show ((c.toNat:Nat):Int)=c by omega];exact h1);exact h k.val k.isLt (by rw [<- hk];show ((c.toNat:Nat):Int)=c;omega)
theorem l03Rank_c (c:Int) (w:World) (hc:0<=c/\c<=255):Calls Tryz.prog 110 #[.int .u8 c] w fun e w'=>e=.returned (.int .i64 (rkC c))/\w=w':=by
 obtain ⟨S,hS⟩:∃ S,S=charsB:=⟨_,rfl⟩;have hsz:S.size=40:=by rw [hS];decide +kernel
 have hix0:∀ (k:Nat),k<40->∀ w,(Instr.index 9 (.string S) (.int .i64 (k:Int))).run Tryz.prog w=.ok (.int .u8 (chA k)) w:=by intro k hk w;rw [hS];exact chars_run hk w
 have Hix:=hid hix0;have ho:=l03Order_c w;rw [<- hS] at ho;have Ho:=hid ho;obtain ⟨r,hr⟩:∃ r,r=rkC c:=⟨_,rfl⟩;rw [<- hr];have Hr:=hid hr;have Hc:=hid hc;clear ho hS hix0 hr hc;go_enter Tryz.func110,Tryz.ntmps110;go_wp2_with fail;with_reducible refine Ho.out.mono ?_
 rintro e w' ⟨rfl,rfl⟩;go_wp2;go_loop [4] (fun i=>∃ k:Nat,k<=40/\i=.int .i64 k/\Hid (∀ j,j<k->chA j ≠ c)) (fun i=>40 - (intOf i).toNat)
 case atStart=>exact ⟨0,by decide,rfl,fun j hj=>absurd hj (Nat.not_lt_zero _)⟩
 case round =>
  obtain ⟨k,hk,rfl,hp⟩:=hrel;by_cases hkn:k<40
  . have hix:=Hix.out k hkn
    have hki:(k:Int)<40:=by omega
    obtain ⟨c2,hc2⟩:∃ c2,c2=chA k:=⟨_,rfl⟩;rw [<- hc2] at hix;have Hc2:=hid hc2;clear hc2;by_cases hq:c2=c
    . have HE:Hid (r=(k:Int)):=hid (by rw [Hr.out,<- hq,Hc2.out];exact rkC_at hkn)
      have hq2:(c2 == c)=true:=by simpa using hq
      clear hq;go_wp2;go_ret;exact ⟨yAJ HE.out.symm,rfl⟩
    . have Hq:=hid hq
      have hq2:(c2 == c)=false:=beq_eq_false_iff_ne.2 hq;clear hq;go_wp2;clear hix;go_round
      case rel=>exact ⟨k+1,by omega,by go_num,fun j hj=>by rcases Nat.lt_succ_iff_lt_or_eq.1 hj with hj | rfl;exact hp.out j hj;rw [<- Hc2.out];exact Hq.out⟩
      case measure=>simp [intOf];omega
  . obtain rfl:k=40:=by omega
    have HE:Hid (r=-1):=hid (by rw [Hr.out];exact rkC_no Hc.out hp.out);go_wp2;go_ret;exact ⟨yAJ HE.out.symm,rfl⟩
theorem rkC_bd (c:Int):-1<=rkC c/\rkC c<40:=by
 unfold rkC;split
 . exact rk_lt _
 . omega
theorem rkS_at {s:ByteArray} {k:Nat} (h:k<s.size):(rkS s)[k]?=some (rkC (s[k].toNat:Int)):=by unfold rkS;rw [List.getElem?_map,bytesI_at s k h];rfl
theorem cmpN_at {x y:List Int} {i:Nat} {a b:Int} (hx:x[i]?=some a) (hy:y[i]?=some b):cmpN (x.drop i) (y.drop i)=if a<b then -1 else if b<a then 1 else cmpN (x.drop (i+1)) (y.drop (i+1)):=by
 obtain ⟨h1,e1⟩:=zS.1 hx;obtain ⟨h2,e2⟩:=zS.1 hy;rw [List.drop_eq_getElem_cons h1,List.drop_eq_getElem_cons h2,e1,e2,cmpN]
theorem l03Compare_c {s u:ByteArray} (w:World) (hl:s.size=u.size) (hs:s.size<=1000) :
 Calls Tryz.prog 65 #[.string s,.string u] w fun e w'=>e=.returned (.int .i64 (cmpN (rkS s) (rkS u)))/\w=w':=by
 obtain ⟨R,hR⟩:∃ R,cmpN (rkS s) (rkS u)=R:=⟨_,rfl⟩;rw [hR];have HR:=hid hR;have Hl:=hid hl;obtain ⟨n,hn⟩:∃ n,n=s.size:=⟨_,rfl⟩;have Hn:=hid hn;clear hl hR hn;go_enter Tryz.func65,Tryz.ntmps65;go_wp2;go_loop [5] (fun iv=>∃ i:Nat,i<=n/\iv=.int .i64 i/\Hid (R=cmpN ((rkS s).drop i) ((rkS u).drop i))) (fun i=>n - (intOf i).toNat)
 case atStart=>exact ⟨0,zK _,rfl,hid HR.out.symm⟩
 case round =>
  obtain ⟨i,hi,rfl,hp⟩:=hrel;by_cases hin:i<n
  . have h1:i<s.size:=by have:=Hn.out;omega
    have h2:i<u.size:=by have:=Hl.out;omega
    have hst:=cmpN_at (rkS_at h1) (rkS_at h2);have Hst:=hid (hp.out.trans hst);have c1:=rkC_bd (s[i].toNat:Int);have c2:=rkC_bd (u[i].toNat:Int);have b1:0<=(s[i].toNat:Int)/\(s[i].toNat:Int)<=255:=by have:=s[i].toNat_lt;omega
    have b2:0<=(u[i].toNat:Int)/\(u[i].toNat:Int)<=255:=by have:=u[i].toNat_lt;omega
    have Hc1:=hid (fun W=>l03Rank_c (s[i].toNat:Int) W b1);have Hc2:=hid (fun W=>l03Rank_c (u[i].toNat:Int) W b2);obtain ⟨rx,hrx⟩:∃ r,rkC (s[i].toNat:Int)=r:=⟨_,rfl⟩;obtain ⟨ry,hry⟩:∃ r,rkC (u[i].toNat:Int)=r:=⟨_,rfl⟩;rw [hrx] at Hc1 Hst c1;rw [hry] at Hc2 Hst c2;have i1:(i:Int)<(s.size:Int):=by omega
    have i2:(i:Int)<(u.size:Int):=by omega
    clear hst b1 b2 hrx hry hp;go_wp2_with fail;with_reducible refine (Hc1.out _).mono ?_
    rintro e w1 ⟨rfl,rfl⟩;go_wp2_with fail;with_reducible refine (Hc2.out _).mono ?_
    rintro e w1 ⟨rfl,rfl⟩;by_cases q1:rx<ry
    . have HE:Hid (R=-1):=hid (by have:=Hst.out;rw [if_pos q1] at this;exact this)
      go_wp2;go_ret;exact ⟨yAJ HE.out.symm,rfl⟩
    . by_cases q2:ry<rx
      . have HE:Hid (R=1):=hid (by have:=Hst.out;rw [if_neg q1,if_pos q2] at this;exact this)
        go_wp2;go_ret;exact ⟨yAJ HE.out.symm,rfl⟩
      . have HE:Hid (R=cmpN ((rkS s).drop (i+1)) ((rkS u).drop (i+1))):=hid (by have:=Hst.out;rw [if_neg q1,if_neg q2] at this;exact this)
        go_wp2;go_round
        case rel=>exact ⟨i+1,by omega,by go_num,HE⟩
        case measure=>simp [intOf];omega
  . obtain rfl:i=n:=by omega
    have i1:¬ (i:Int)<(s.size:Int):=by have:=Hn.out;omega
    have e:=hp.out;rw [List.drop_of_length_le (by rw [rkS_len];have:=Hn.out;omega)] at e;have HE:Hid (R=0):=hid (by rw [e];rfl);clear e;go_wp2;go_ret;exact ⟨yAJ HE.out.symm,rfl⟩
def CardC (n:Nat) (c:List Int):Prop:=c.length=n/\∀ x∈c,noCh x=false/\0<=x/\x<=4095
def DeckC (n:Nat) (d:List (List Int)):Prop:=d.length<=8/\∀ c∈d,CardC n c
theorem cardC_of {s:ByteArray} {xs:List Int} {n:Nat} (hs:s.size=n) (hl:xs.length=s.size) (hx:∀ x∈xs,∃ (j:Nat) (h:j<s.size),x=codeI (s[j].toNat:Int)) (hg:∀ (j:Nat) (h:j<s.size),GoodC (s[j].toNat:Int)):CardC n xs :=
 ⟨by rw [hl,hs],fun x h=>by obtain ⟨j,hj,rfl⟩:=hx x h;exact hg j hj⟩
theorem l07Draw_c {w:World} {b N:Nat} {n:Nat} (hs:Src w b N) (hN:N<=10000) (hn:1<=n/\n<=3) :
 Calls Tryz.prog 22 #[.pointer (some ⟨b,0,none⟩),.int .i64 n,.int .i64 8] w fun e w'=>(∃ u d,e=.returned u/\OwnCardS w.heap.size w' u d/\DeckC n d)/\Src w' b (N+400)/\w.grownBy w' (some b):=by
 obtain ⟨i0,hi,hz0,hz1,hz2⟩:=info_parts Tryz.infoCard;have hbl:=hs.lt;have hlit:Own eS 69 w.heap.size (w.alloc (.cells #[] 69)) (.slice (some ⟨w.heap.size,0,none⟩) 0 0) []:=Own.lit (E:=eS) (xs:=[]) (cs:=#[]) (zA _) rfl rfl (by decide) (fun x hx=>by cases hx);go_enter Tryz.func22,Tryz.ntmps22;go_wp2_with fail;refine (yAO 9 (hs.alloc _) (by omega) (by omega)).mono ?_;rintro e w4 ⟨⟨p,rfl,hp0,hp1,_⟩,hs4,hg4,hz4⟩;have hp2:=hp1 (by omega);have hB4:BldG eI 2 69 w.heap.size w.heap.size w4.heap.size w4 (.slice (some ⟨w.heap.size,0,none⟩) 0 0) ([]:List (List Int)):=BldG.empty (B:=w.heap.size) rfl (hlit.keptS hg4 hbl) (by rw [hz4];simp);have hg4':=yAA (World.grownBy_alloc _ _ _) hg4;clear hp1 hz4 hg4 hlit hs;go_wp2;go_loopw [7,8] (fun v k wr=>∃ (kk:Int) (xss:List (List Int)),0<=kk/\kk+xss.length<=8/\k=.int .i64 kk/\BldG eI 2 69 w.heap.size w.heap.size wr.heap.size wr v xss/\Hid (∀ c∈xss,CardC n c)/\Src wr b (N+2+40 * xss.length)/\w.grownBy wr (some b)) (fun _ k _=>(intOf k).toNat)
 case atStart=>exact ⟨p,[],by omega,by simp;omega,rfl,hB4,hid (fun c hc=>by cases hc),hs4.mono (by (try simp) <;> omega),hg4'⟩
 case round =>
  obtain ⟨kk,xss,hk0,hkj,rfl,hB,HV,hsr,hgr⟩:=hrel;clear hB4 hs4 hg4';have hsz:w.heap.size<=wr.heap.size:=hgr.size;by_cases hk:0<kk
  . obtain ⟨vo,vc,hv⟩:=hB.shape
    subst hv;go_upto_region 5 with fail;go_cut [24] from 14 to 41 (fun c wx=>∃ q:Bool,c=.bool q/\(q=true->0<xss.length)/\BldG eI 2 69 w.heap.size w.heap.size wx.heap.size wx (.slice vo xss.length vc) xss/\Src wx b (N+2+40 * xss.length+2)/\w.grownBy wx (some b))
    case first =>
     by_cases h0:0<xss.length
     . have h0i:(0:Int)<(xss.length:Int):=by omega
       go_wp2_with fail;with_reducible refine (one_any 4 hsr (by omega) (by omega)).mono ?_
       rintro e w5 ⟨⟨q,rfl⟩,hs5,hg5,-⟩;have hB5:=(hB.keepS hg5 hbl hbl).mono hg5.size;have hgr5:=yAA hgr hg5;go_wp2;go_meet;exact ⟨_,rfl,fun _=>h0,hB5,hs5,hgr5⟩
     . have h0i:¬ (0:Int)<(xss.length:Int):=by omega
       go_wp2;go_meet;exact ⟨_,rfl,fun h=>(by simp at h),hB,hsr.mono (by omega),hgr⟩
    case rest =>
     obtain ⟨q,rfl,hq,hB5,hs5,hg5⟩:=hcut;generalize wc=w5 at hB5 hs5 hg5 |-;clear hB hsr hgr;cases q with
     | true =>
      have h0:=hq rfl;clear hq;go_wp2_with fail;with_reducible refine (yAO (xss.length:Int) hs5 (by omega) (by omega)).mono ?_
      rintro e w6 ⟨⟨r,rfl,hr0,hr1,_⟩,hs6,hg6,-⟩;have hr2:=hr1 (by omega);obtain ⟨j,rfl⟩:=zG hr0;have hB6:=(hB5.keepS hg6 hbl hbl).mono hg6.size;have hgr6:=yAA hg5 hg6;have hRd:=OwnCardS.rds (hB6.toM (zA _));obtain ⟨ao,ac,hsh0,ho⟩:=hRd.open;injection hsh0 with h1 h2 h3;subst h1;obtain ⟨bb,off,rfl,hlt,hc⟩:=ho h0;obtain ⟨xs,xo,xc,hx,hcell,hrx⟩:=hc j (by omega);have hCc:=HV.out xs (zC hx);have Hcon:=hid (l02Own_c rfl hcell hrx (by have:=hCc.1;omega));have hji:(j:Int)<(xss.length:Int):=by omega
      have hsz6:w.heap.size<=w6.heap.size:=hgr6.size;have HB6:=hid hB6;have Hs6:=hid hs6;have Hgr6:=hid hgr6;clear hB5 hs5 hg5 hs6 hg6 hB6 hgr6 hRd ho hc hx hrx hr1 h2 h3;go_wp2_with fail;with_reducible refine Hcon.out.mono ?_
      rintro e w7 ⟨⟨u,rfl,hR⟩,hb7⟩;have hB7:=HB6.out.below hb7 (zA _);have hsz7:w6.heap.size<=w7.heap.size:=hb7.size;have Hs7:Hid (Src w7 b (N+2+40 * xss.length+2+2)):=hid (Hs6.out.kept (yAT hb7 none) (fun k hk=>by cases hk));have Hg7:=hid (yAA Hgr6.out (yAT hb7 (some b)));obtain ⟨hs',xh,hval,hokx,hlen,hO,hfn⟩:=hB7.app hR hsz6 hsz7;obtain ⟨rao,rcap,hsh⟩:=hR.shape;subst hsh;have hcells:(#[.slice rao xs.length rcap]:Array Value)=(eS.cells xh).toArray:=by rw [<- hval];rfl
      have HO:=hid hO;have Hfn:=hid hfn;have Hlen:=hid hlen;have Hcells:=hid hcells;have Hl0:=hid hO.lt;have Hxl:Hid (xss.length<=8):=hid (by omega);have hszr:w.heap.size<=w7.heap.size:=Hg7.out.size;have HV7:Hid (∀ c∈xss++[xs],CardC n c):=hid (fun c hc=>(List.mem_append.1 hc).elim (HV.out c) (fun h=>by rw [List.mem_singleton.1 h];exact hCc));clear hR hB7 hval hlen hO hfn hcells hcell Hcon HB6 Hs6 Hgr6 hb7;go_wp2_with (first | (at_builtin;refine yAB (E:=eS) rfl _ _ 24 rfl Tryz.underlying24 hi hz0 hz1 hz2 rfl (by decide) rfl rfl (HO.out.alloc _) (yAH (E:=eS) (x:=xh) hokx Hcells.out) ?b1 ?b2 ?b3 ?_))
      case b1=>rw [Hlen.out];have:=Hxl.out;unfold maxLen;simp;omega
      case b2=>rw [Hlen.out];have:=Hxl.out;simp;omega
      case b3=>simp;omega
      intro v' w8 hO8 hg8;have hg8':=hg8.alloc;have HB8:=hid (Hfn.out w8 v' hO8 hg8');have hs8:=Hs7.out.kept hg8'.1 (fun q hq=>by have:=(Hl0.out q hq).1;omega);have hgr8:=yAW Hg7.out hg8'.1 (fun q hq=>(Hl0.out q hq).1);clear hO8 hg8 hg8' HO;go_wp2;go_roundw
      case rel=>exact ⟨kk - 1,_,by omega,by simp;omega,by go_num,HB8.out,HV7,hs8.mono (by simp;omega),hgr8⟩
      case measure=>simp [intOf];omega
     | false =>
      clear hq;go_wp2_with fail;with_reducible refine (l03DrawText_c n hs5 (by omega) (by omega)).mono ?_
      rintro e w6 ⟨⟨s,rfl,hsn,hsg⟩,hs6,hg6⟩;have HB6:=hid ((hB5.keepS hg6 hbl hbl).mono hg6.size);have Hgr6:=hid (yAA hg5 hg6);have hsz6:w.heap.size<=w6.heap.size:=Hgr6.out.size;have Hs6:=hid hs6;have Hsg:=hid hsg;have Hsn:=hid hsn;clear hB5 hs5 hg5 hs6 hg6 hsg hsn;go_wp2_with fail;with_reducible refine (l03Card_v s _ (by have:=Hsn.out;omega)).mono ?_
      rintro e w7 ⟨⟨u,xs,rfl,hR,hxl,hxe⟩,hb7⟩;have hCc:=cardC_of Hsn.out hxl hxe Hsg.out;have hB7:=HB6.out.below hb7 (zA _);have hsz7:w6.heap.size<=w7.heap.size:=hb7.size;have Hs7:Hid (Src w7 b (N+2+40 * xss.length+2+4 * n)):=hid (Hs6.out.kept (yAT hb7 none) (fun k hk=>by cases hk));have Hg7:=hid (yAA Hgr6.out (yAT hb7 (some b)));obtain ⟨hs',xh,hval,hokx,hlen,hO,hfn⟩:=hB7.app hR hsz6 hsz7;obtain ⟨rao,rcap,hsh⟩:=hR.shape;subst hsh;have hcells:(#[.slice rao xs.length rcap]:Array Value)=(eS.cells xh).toArray:=by rw [<- hval];rfl
      have HO:=hid hO;have Hfn:=hid hfn;have Hlen:=hid hlen;have Hcells:=hid hcells;have Hl0:=hid hO.lt;have Hxl:Hid (xss.length<=8):=hid (by omega);have hszr:w.heap.size<=w7.heap.size:=Hg7.out.size;have HV7:Hid (∀ c∈xss++[xs],CardC n c):=hid (fun c hc=>(List.mem_append.1 hc).elim (HV.out c) (fun h=>by rw [List.mem_singleton.1 h];exact hCc));clear hR hB7 hval hlen hO hfn hcells HB6 Hs6 Hgr6 hb7 hxl hxe hCc;go_wp2_with (first | (at_builtin;refine yAB (E:=eS) rfl _ _ 24 rfl Tryz.underlying24 hi hz0 hz1 hz2 rfl (by decide) rfl rfl (HO.out.alloc _) (yAH (E:=eS) (x:=xh) hokx Hcells.out) ?b1 ?b2 ?b3 ?_))
      case b1=>rw [Hlen.out];have:=Hxl.out;unfold maxLen;simp;omega
      case b2=>rw [Hlen.out];have:=Hxl.out;simp;omega
      case b3=>simp;omega
      intro v' w8 hO8 hg8;have hg8':=hg8.alloc;have HB8:=hid (Hfn.out w8 v' hO8 hg8');have hs8:=Hs7.out.kept hg8'.1 (fun q hq=>by have:=(Hl0.out q hq).1;omega);have hgr8:=yAW Hg7.out hg8'.1 (fun q hq=>(Hl0.out q hq).1);clear hO8 hg8 hg8' HO;go_wp2;go_roundw
      case rel=>exact ⟨kk - 1,_,by omega,by simp;omega,by go_num,HB8.out,HV7,hs8.mono (by simp;omega),hgr8⟩
      case measure=>simp [intOf];omega
  . have hM:=hB.toM (zA _)
    have hl2:xss.length<=8:=by omega
    clear hB;go_wp2;go_ret;exact ⟨⟨_,rfl,xss,hM,hl2,HV.out⟩,hsr.mono (by omega),hgr⟩
def DrawnK (base:Nat) (e:Ending) (w':World):Prop:=∃ u d n,e=.returned u/\OwnCardS base w' u d/\(1<=n/\n<=3)/\DeckC n d
theorem A2Deck_c {w:World} {A:Nat} {v:Value} {xs:List Int} (ha:Rds eB A w v xs) (hA:A<=w.heap.size) :
 Calls Tryz.prog 5 #[v] w fun e w'=>DrawnK w.heap.size e w'/\Below w.heap.size w w':=by
 have Ha:=hid ha;obtain ⟨ao,cap,rfl⟩:=ha.shape;clear ha;go_enter Tryz.func5,Tryz.ntmps5;go_wp2_with fail;refine (l00From_any Ha.out hA).mono ?_;rintro e w1 ⟨rfl,hs1,hb1⟩;have hz1:w.heap.size<w1.heap.size:=hs1.lt;have Hb1:=hid hb1;clear hb1;go_wp2_with fail;refine (yAO 3 hs1 (by omega) (by omega)).mono ?_;rintro e w2 ⟨⟨r,rfl,hr0,hr1,_⟩,hs2,hg2,-⟩;have hr2:=hr1 (by omega);obtain ⟨k,rfl⟩:=zG hr0;have hb2:=grown_below Hb1.out hg2 (zA _) (by omega);have Hb2:=hid hb2;have hz2:=hb2.size;have hk2:k<3:=by omega
 have Hs2:=hid hs2;have hcon:=l07Draw_c (n:=k+1) hs2 (by omega) (by omega);rw [show ((k+1:Nat):Int)=1+(k:Int) by omega] at hcon;have Hcon:=hid hcon;clear hb2 hs1 hg2 hr1 hr2 hs2 hcon;go_wp2_with fail;with_reducible refine Hcon.out.mono ?_
 rintro e w3 ⟨⟨u,d,rfl,hd,hC⟩,hs3,hg3⟩;have HD:=hid (OwnTM.low hd (show w.heap.size<=w2.heap.size by omega));have Hb3:=hid (grown_below Hb2.out hg3 (zA _) (by omega));have HC:=hid hC;clear hd hC hs3 hg3;go_wp2;go_ret;exact ⟨⟨_,_,k+1,rfl,HD.out,by omega,HC.out⟩,Hb3.out⟩
structure OffT where
 trays:List (List (List Int))
 totals:List (List TotalT)
def RdTs (B:Nat) (w:World) (v:Value) (x:List TotalT):Prop:=Rds eTotal B w v x
theorem rowK_T:RowK RdTs:=⟨fun h hb hB=>Rds.below h hb hB,fun h hB=>Rds.mono h hB,fun h=>Rds.tight h,fun h=>Rds.shape h⟩
abbrev RdTL (B:Nat) (w:World) (v:Value) (xs:List (List TotalT)):Prop:=RdL RdTs B w v xs
def RdOff (B:Nat) (w:World) (u v:Value) (o:OffT):Prop:=RdDs B w u o.trays/\RdTL B w v o.totals
theorem RdOff.onn {B:Nat} {w w':World} {u v:Value} {o:OffT} (h:RdOff B w u v o) (hb:Below w.heap.size w w'):RdOff w'.heap.size w' u v o:=⟨RdL.onn rowK_D h.1 hb,RdL.onn rowK_T h.2 hb⟩
theorem RdOff.below {B B':Nat} {w w':World} {u v:Value} {o:OffT} (h:RdOff B w u v o) (hb:Below B' w w') (hB:B<=B'):RdOff B w' u v o:=⟨RdL.below rowK_D h.1 hb hB,RdL.below rowK_T h.2 hb hB⟩
theorem RdOff.tight {B:Nat} {w:World} {u v:Value} {o:OffT} (h:RdOff B w u v o):RdOff w.heap.size w u v o:=⟨RdL.tight rowK_D h.1,RdL.tight rowK_T h.2⟩
def RwsG {β:Type} (R:World->Value->List β->Prop) (S:Nat->Prop) (w:World) (hs:List SlV) (xs:List (List β)):Prop :=
 hs.length=xs.length/\∀ (i:Nat) (h:SlV) (x:List β),hs[i]?=some h->xs[i]?=some x->FrS R S w h.val x
section
variable {β:Type} {R:World->Value->List β->Prop} {S S' S'':Nat->Prop} {w w':World} {hs:List SlV} {xs:List (List β)}
end
theorem FrS.of_own {β:Type} {R:Nat->World->Value->List β->Prop} {S:Nat->Prop} {e:TypeId} {base:Nat} {w:World} {v:Value} {hs:List SlV} {xs:List (List β)} (h:Own eS e base w v hs) (hr:RwsG (fun w v x=>R w.heap.size w v x) S w hs xs)
 (hn:∀ k,v.ownBlock=some k->¬ S k):FrS (fun w v x=>RdL R w.heap.size w v x) S w v xs:=by
 intro w' hA;have h1:=OwnT.agr (Own.top h) hA hn;exact ⟨hs,h1.1.rds,hr.1,fun i x y e1 e2=>hr.2 i x y e1 e2 w' hA⟩
structure RowO {β:Type} (Q:(Nat->Prop)->World->Value->List β->Prop):Prop where
 agr:∀ {S S':Nat->Prop} {w w':World} {v:Value} {x:List β},Q S w v x->Agr S' w w'->(∀ k,S k->¬ S' k)->Q S w' v x
 shape:∀ {S:Nat->Prop} {w:World} {v:Value} {x:List β},Q S w v x->∃ ao cap,v=.slice ao x.length cap
def OwnL {β:Type} (Q:(Nat->Prop)->World->Value->List β->Prop) (e:TypeId) (S:Nat->Prop) (w:World) (v:Value) (xs:List (List β)):Prop :=
 ∃ (hs:List SlV) (T:Nat->Nat->Prop),Own eS e 0 w v hs/\(∀ q,v.ownBlock=some q->S q)/\hs.length=xs.length/\(∀ (i:Nat) (h:SlV) (x:List β),hs[i]?=some h->xs[i]?=some x->Q (T i) w h.val x) /\
  (∀ i,i<xs.length->∀ k,T i k->S k/\v.ownBlock ≠ some k)/\∀ i j,i<xs.length->j<xs.length->i ≠ j->∀ k,T i k->¬ T j k
section
variable {β:Type} {Q:(Nat->Prop)->World->Value->List β->Prop} {R:Nat->World->Value->List β->Prop} {e:TypeId} {S S':Nat->Prop} {w w':World} {v:Value} {xs:List (List β)}
theorem OwnL.agr (K:RowO Q) (h:OwnL Q e S w v xs) (hA:Agr S' w w') (hn:∀ k,S k->¬ S' k):OwnL Q e S w' v xs:=by
 obtain ⟨hs,T,h1,h2,h3,h4,h5,h6⟩:=h;exact ⟨hs,T,(OwnT.agr (Own.top h1) hA (fun k hk=>hn k (h2 k hk))).1,h2,h3,fun i h x e1 e2=>K.agr (h4 i h x e1 e2) hA (fun k hk=>hn k (h5 i (yBG e2) k hk).1),h5,h6⟩
theorem OwnL.sub (h:OwnL Q e S w v xs) (hs:∀ k,S k->S' k):OwnL Q e S' w v xs:=by
 obtain ⟨hs',T,h1,h2,h3,h4,h5,h6⟩:=h;exact ⟨hs',T,h1,fun q hq=>hs q (h2 q hq),h3,h4,fun i hi k hk=>⟨hs k (h5 i hi k hk).1,(h5 i hi k hk).2⟩,h6⟩
theorem OwnL.rd (h:OwnL Q e S w v xs) (hQ:∀ (S:Nat->Prop) (v:Value) (x:List β),Q S w v x->R w.heap.size w v x):RdL R w.heap.size w v xs:=by
 obtain ⟨hs',T,h1,h2,h3,h4,h5,h6⟩:=h;exact ⟨hs',h1.rds,h3,fun i h x e1 e2=>hQ _ _ _ (h4 i h x e1 e2)⟩
theorem OwnL.shape (h:OwnL Q e S w v xs):∃ a c,v=.slice a xs.length c:=by
 obtain ⟨hs',T,h1,h2,h3,-⟩:=h;rw [<- h3];exact h1.shape
theorem OwnL.addr (h:OwnL Q e S w v xs) (h0:0<xs.length):∃ g cap,v=.slice (some ⟨g,0,none⟩) xs.length cap/\S g/\g<w.heap.size:=by
 obtain ⟨hs,T,h1,h2,h3,-⟩:=h;obtain ⟨g,cap,hv,h4,h5⟩:=h1.addr (by omega);exact ⟨g,cap,by rw [<- h3];exact hv,h2 g (by rw [hv];rfl),h5⟩
theorem OwnL.put (K:RowO Q) {g n cap k:Nat} {x:List β} {u:Value} {Tn:Nat->Prop} (h:OwnL Q e S w (.slice (some ⟨g,0,none⟩) n cap) xs) (hn:n=xs.length) (hk:k<n) (hu:Q Tn w u x) (hT:∀ q,Tn q->¬ S q) :
 (∃ y,w.cell? ⟨g,k,none⟩=some y)/\w.frozen? ⟨g,k,none⟩=false/\OwnL Q e (fun q=>S q\/Tn q) (w.setCell ⟨g,k,none⟩ u) (.slice (some ⟨g,0,none⟩) n cap) (xs.set k x)/\Agr (fun q=>q=g) w (w.setCell ⟨g,k,none⟩ u):=by
 obtain ⟨hs,T,h1,h2,h3,h4,h5,h6⟩:=h;obtain ⟨ao,c,hu2⟩:=K.shape hu;have hg:S g:=h2 g rfl;have hk2:hs[k]?=some (hs[k]'(by omega)):=zF (by omega);have hst:=Own.store1 (E:=eS) (by decide) h1 (by omega) (x:=hs[k]'(by omega)) (y:=⟨ao,x.length,c⟩) (v:=u) hk2 (j:=0) (by decide) (by rw [hu2];rfl) trivial;have hc:=Own.cellE (E:=eS) h1 (by omega) (k:=k) (j:=0) hk (by decide);simp only [show eS.sz=1 from rfl,Nat.mul_one,Nat.add_zero] at hst hc;have hval:SlV.val ⟨ao,x.length,c⟩=u:=hu2.symm;have hA:Agr (fun q=>q=g) w (w.setCell ⟨g,k,none⟩ u):=Agr.set _ _ _ rfl;refine ⟨hc.1,hc.2,⟨hs.set k ⟨ao,x.length,c⟩,fun i=>if i=k then Tn else T i,hst.1,fun q hq=>.inl (h2 q hq),by rw [List.length_set,List.length_set];exact h3,fun i y z e1 e2=>?_,fun i hi q hq=>?_,fun i j hi hj hij q h1q h2q=>?_⟩,hA⟩
 . rw [List.getElem?_set] at e1 e2
   by_cases hki:k=i
   . subst hki
     rw [if_pos rfl,if_pos (by omega)] at e1 e2;cases e1;cases e2;rw [hval];simp only [if_true];exact K.agr hu hA (fun q hq e=>hT q hq (by rw [e];exact hg))
   . rw [if_neg hki] at e1 e2
     simp only [if_neg (show ¬ i=k from fun e=>hki e.symm)];exact K.agr (h4 i y z e1 e2) hA (fun q hq e=>(h5 i (yBG e2) q hq).2 (by rw [e];rfl))
 . rw [List.length_set] at hi
   by_cases hki:i=k
   . simp only [if_pos hki] at hq
     exact ⟨.inr hq,fun e=>hT q hq (h2 q e)⟩
   . simp only [if_neg hki] at hq
     exact ⟨.inl (h5 i hi q hq).1,(h5 i hi q hq).2⟩
 . rw [List.length_set] at hi hj
   by_cases hki:i=k
   . have hkj:¬ j=k:=fun e=>hij (hki.trans e.symm)
     simp only [if_pos hki] at h1q;simp only [if_neg hkj] at h2q;exact hT q h1q (h5 j hj q h2q).1
   . simp only [if_neg hki] at h1q
     by_cases hkj:j=k
     . simp only [if_pos hkj] at h2q
       exact hT q h2q (h5 i hi q h1q).1
     . simp only [if_neg hkj] at h2q
       exact h6 i j hi hj hij q h1q h2q
theorem OwnL.snoc (K:RowO Q) {x:List β} {u v':Value} {hx:SlV} {hs:List SlV} {T:Nat->Nat->Prop} {Tn S2:Nat->Prop} (h3:hs.length=xs.length)
 (h4:∀ (i:Nat) (h:SlV) (x:List β),hs[i]?=some h->xs[i]?=some x->Q (T i) w h.val x) (h5:∀ i,i<xs.length->∀ k,T i k->S2 k/\v'.ownBlock ≠ some k) (h6:∀ i j,i<xs.length->j<xs.length->i ≠ j->∀ k,T i k->¬ T j k)
 (ho:Own eS e 0 w v' (hs++[hx])) (hv:∀ q,v'.ownBlock=some q->S2 q) (hu:Q Tn w hx.val x) (hT:∀ k,Tn k->S2 k/\v'.ownBlock ≠ some k) (hd:∀ i,i<xs.length->∀ k,T i k->¬ Tn k):OwnL Q e S2 w v' (xs++[x]):=by
 refine ⟨hs++[hx],fun i=>if i=xs.length then Tn else T i,ho,hv,by simp [h3],fun i y z e1 e2=>?_,fun i hi q hq=>?_,fun i j hi hj hij q h1q h2q=>?_⟩
 . rcases Nat.lt_or_ge i hs.length with hi | hi
   . rw [zL hi] at e1
     rw [zL (by rw [<- h3];exact hi)] at e2;simp only [if_neg (show ¬ i=xs.length by omega)];exact h4 i y z e1 e2
   . rw [zJ hi] at e1
     rw [zJ (by rw [<- h3];exact hi)] at e2;have h0:i - hs.length=0:=by have:=yBG e1;simp at this;omega
     rw [h0] at e1;rw [show i - xs.length=0 by rw [<- h3];exact h0] at e2;cases e1;cases e2;simp only [if_pos (show i=xs.length by omega)];exact hu
 . rw [zE] at hi
   by_cases hki:i=xs.length
   . simp only [if_pos hki] at hq;exact hT q hq
   . simp only [if_neg hki] at hq;exact h5 i (by simp at hi;omega) q hq
 . rw [zE] at hi hj
   simp only [List.length_cons,List.length_nil] at hi hj;by_cases hki:i=xs.length
   . have hkj:¬ j=xs.length:=fun e=>hij (hki.trans e.symm)
     simp only [if_pos hki] at h1q;simp only [if_neg hkj] at h2q;exact hd j (by omega) q h2q h1q
   . simp only [if_neg hki] at h1q
     by_cases hkj:j=xs.length
     . simp only [if_pos hkj] at h2q
       exact hd i (by omega) q h1q h2q
     . simp only [if_neg hkj] at h2q
       exact h6 i j (by omega) (by omega) hij q h1q h2q
end
theorem OwnTM.agr {e:TypeId} {base tp:Nat} {S:Nat->Prop} {w w':World} {v:Value} {x:List (List Int)} (h:OwnTM e base tp w v x) (hA:Agr S w w') (hS:∀ k,base<=k->k<tp->¬ S k):OwnTM e base tp w' v x:=by
 obtain ⟨hs,h1,h2,h3,h4⟩:=h;exact ⟨hs,OwnT.agr h1 hA (fun k hk=>hS k (h1.1.lt k hk).1 (h1.2 k hk)),h2,fun i h y e1 e2=>OwnT.agr (h3 i h y e1 e2) hA (fun k hk=>hS k ((h3 i h y e1 e2).1.lt k hk).1 ((h3 i h y e1 e2).2 k hk)),h4⟩
def QD (S:Nat->Prop) (w:World) (v:Value) (x:List (List Int)):Prop:=∃ lo hi,OwnTCardS lo hi w v x/\hi<=w.heap.size/\∀ k,lo<=k->k<hi->S k
def QT (S:Nat->Prop) (w:World) (v:Value) (x:List TotalT):Prop:=∃ lo hi,OwnTTotalS lo hi w v x/\hi<=w.heap.size/\∀ k,lo<=k->k<hi->S k
theorem rowO_D:RowO QD:=⟨fun ⟨lo,hi,h1,h2,h3⟩ hA hn=>⟨lo,hi,OwnTM.agr h1 hA (fun k a b=>hn k (h3 k a b)),zO h2 hA.size,h3⟩,fun ⟨lo,hi,h1,h2,h3⟩=>h1.shape⟩
theorem rowO_T:RowO QT:=⟨fun ⟨lo,hi,h1,h2,h3⟩ hA hn=>⟨lo,hi,OwnT.agr h1 hA (fun k hk=>hn k (h3 k (h1.1.lt k hk).1 (h1.2 k hk))),zO h2 hA.size,h3⟩,fun ⟨lo,hi,h1,h2,h3⟩=>h1.1.shape⟩
theorem QD.rd {S:Nat->Prop} {w:World} {v:Value} {x:List (List Int)} (h:QD S w v x):RdInt64SS w.heap.size w v x:=by
 obtain ⟨lo,hi,h1,h2,h3⟩:=h;exact h1.rds.mono h2
theorem QT.rd {S:Nat->Prop} {w:World} {v:Value} {x:List TotalT} (h:QT S w v x):RdTs w.heap.size w v x:=by
 obtain ⟨lo,hi,h1,h2,h3⟩:=h;exact (OwnT.rds h1).mono h2
abbrev OwnDs (S:Nat->Prop) (w:World) (v:Value) (x:List (List (List Int))):Prop:=OwnL QD 24 S w v x
abbrev OwnTs (S:Nat->Prop) (w:World) (v:Value) (x:List (List TotalT)):Prop:=OwnL QT 43 S w v x
theorem OwnDs.rds {S:Nat->Prop} {w:World} {v:Value} {x:List (List (List Int))} (h:OwnDs S w v x):RdDs w.heap.size w v x:=OwnL.rd h (fun _ _ _ h=>h.rd)
theorem OwnTs.rds {S:Nat->Prop} {w:World} {v:Value} {x:List (List TotalT)} (h:OwnTs S w v x):RdTL w.heap.size w v x:=OwnL.rd h (fun _ _ _ h=>h.rd)
def OwnO (S:Nat->Prop) (w:World) (u v:Value) (o:OffT):Prop:=∃ Su Sv,OwnDs Su w u o.trays/\OwnTs Sv w v o.totals/\(∀ k,Su k->S k)/\(∀ k,Sv k->S k)/\∀ k,Su k->¬ Sv k
theorem OwnO.rds {S:Nat->Prop} {w:World} {u v:Value} {o:OffT} (h:OwnO S w u v o):RdOff w.heap.size w u v o:=by
 obtain ⟨Su,Sv,h1,h2,-⟩:=h;exact ⟨OwnDs.rds h1,OwnTs.rds h2⟩
theorem OwnO.agr {S S':Nat->Prop} {w w':World} {u v:Value} {o:OffT} (h:OwnO S w u v o) (hA:Agr S' w w') (hn:∀ k,S k->¬ S' k):OwnO S w' u v o:=by
 obtain ⟨Su,Sv,h1,h2,h3,h4,h5⟩:=h;exact ⟨Su,Sv,OwnL.agr rowO_D h1 hA (fun k hk=>hn k (h3 k hk)),OwnL.agr rowO_T h2 hA (fun k hk=>hn k (h4 k hk)),h3,h4,h5⟩
section
variable {β:Type} {mk:Int->List β->List β} {cnt:List β->Int}
end
section
variable {α β:Type}
def gat (ps:List Int) (g:α->Int) (l:List α):List α:=ps.flatMap fun p=>l.filter fun a=>g a == p
theorem gat_cons (p:Int) (ps:List Int) (g:α->Int) (l:List α):gat (p :: ps) g l=(l.filter fun a=>g a == p)++gat ps g l:=by
 unfold gat;rw [List.flatMap_cons]
theorem gat_mem {ps:List Int} {g:α->Int} {l:List α} {a:α} (h:a∈gat ps g l):a∈l/\g a∈ps:=by
 unfold gat at h;obtain ⟨p,hp,ha⟩:=List.mem_flatMap.1 h;obtain ⟨h1,h2⟩:=List.mem_filter.1 ha;exact ⟨h1,by rw [beq_iff_eq.1 h2];exact hp⟩
theorem split_perm (P:α->Bool):∀ l:List α,(l.filter P++l.filter (fun a=>!P a)).Perm l
 | []=>List.Perm.refl _
 | a :: l=>by
  cases h:P a with
  | true =>
   rw [List.filter_cons_of_pos h,List.filter_cons_of_neg (by simp [h])];exact (split_perm P l).cons a
  | false =>
   rw [List.filter_cons_of_neg (by simp [h]),List.filter_cons_of_pos (by simp [h])];exact List.perm_middle.trans ((split_perm P l).cons a)
theorem gat_skip {p:Int} {g:α->Int} {l:List α}:∀ {ps:List Int},p ∉ ps->gat ps g l=gat ps g (l.filter fun a=>!(g a == p))
 | [],_=>rfl
 | q :: ps,h=>by
  have h1:p ≠ q:=fun e=>h (by rw [e];simp);have h2:p ∉ ps:=fun e=>h (List.mem_cons_of_mem _ e);rw [gat_cons,gat_cons,gat_skip h2,List.filter_filter];congr 1;refine List.filter_congr fun a _=>?_;by_cases e:g a=q
  . simp [e,Ne.symm h1]
  . simp [e]
theorem gat_perm {g:α->Int}:∀ {ps:List Int} {l:List α},ps.Nodup->(∀ a∈l,g a∈ps)->(gat ps g l).Perm l
 | [],l,_,h=>by
  cases l with
  | nil=>exact List.Perm.refl _
  | cons a l=>exact absurd (h a (by simp)) (by simp)
 | p :: ps,l,hn,h=>by
  have hn2:=List.nodup_cons.1 hn;rw [gat_cons,gat_skip hn2.1];refine (List.Perm.append_left _ (gat_perm hn2.2 fun a ha=>?_)).trans (split_perm (fun a=>g a == p) l);obtain ⟨h1,h2⟩:=List.mem_filter.1 ha;rcases List.mem_cons.1 (h a h1) with e | e
  . rw [e] at h2;simp at h2
  . exact e
def plc (ps:List Int) (p:Int):Nat:=ps.idxOf p
theorem plc_eq (p:Int) (ps:List Int):plc (p :: ps) p=0:=by unfold plc;simp
theorem plc_ne {p q:Int} (ps:List Int) (h:q ≠ p):plc (p :: ps) q=plc ps q+1:=by
 unfold plc;rw [List.idxOf_cons];have:(p == q)=false:=by simpa using fun e:p=q=>h e.symm
 rw [this];rfl
theorem gat_pw {R:α->α->Prop} {g:α->Int} {l:List α} (hR:l.Pairwise R):∀ {ps:List Int},ps.Nodup->(gat ps g l).Pairwise fun a b=>plc ps (g a)<plc ps (g b)\/(g a=g b/\R a b)
 | [],_=>List.Pairwise.nil
 | p :: ps,hn=>by
  have hn2:=List.nodup_cons.1 hn;rw [gat_cons];refine List.pairwise_append.2 ⟨?_,?_,?_⟩
  . refine List.Pairwise.imp_of_mem ?_ (hR.filter _)
    intro a b ha hb h;have h1:=beq_iff_eq.1 (List.mem_filter.1 ha).2;have h2:=beq_iff_eq.1 (List.mem_filter.1 hb).2;exact .inr ⟨by rw [h1,h2],h⟩
  . refine List.Pairwise.imp_of_mem ?_ (gat_pw hR hn2.2)
    intro a b ha hb h;have h1:g a ≠ p:=fun e=>hn2.1 (by rw [<- e];exact (gat_mem ha).2);have h2:g b ≠ p:=fun e=>hn2.1 (by rw [<- e];exact (gat_mem hb).2);rw [plc_ne ps h1,plc_ne ps h2];rcases h with h | h
    . exact .inl (by omega)
    . exact .inr h
  . intro a ha b hb
    have h1:=beq_iff_eq.1 (List.mem_filter.1 ha).2;have h2:g b ≠ p:=fun e=>hn2.1 (by rw [<- e];exact (gat_mem hb).2);rw [h1,plc_eq,plc_ne ps h2];exact .inl (by omega)
theorem gat_map (f:β->α) (g:α->Int) (l:List β):∀ ps:List Int,gat ps g (l.map f)=(gat ps (fun b=>g (f b)) l).map f
 | []=>rfl
 | p :: ps=>by
  rw [gat_cons,gat_cons,List.map_append,gat_map f g l ps,List.filter_map];rfl
end
def ordM (m:Int):List Int:=if m=2 then [12,11,10,0,1] else [12,0,1,2,3,4,5,6,7,8,9]
def digB (x d:Int):Bool:=bits BinOp.and IntKind.i64 (x / 8 / 2 ^ (d - 1).toNat) 1 == 1
def digF (x:Int):Int:=if digB x 9 then 9 else if digB x 8 then 8 else if digB x 7 then 7 else if digB x 6 then 6 else if digB x 5 then 5 else if digB x 4 then 4 else if digB x 3 then 3 else if digB x 2 then 2 else if digB x 1 then 1 else if x=4 then 0 else 12
def holB (x b:Int):Bool:=bits BinOp.and IntKind.i64 x b != 0
def zonF (x:Int):Int:=if holB x 1 then 11 else if holB x 2 then 10 else if holB x 4 && x / 8 != 0 then 0 else if x != 0 then 1 else 12
theorem digF_found {x:Int} {k:Nat} (hk:1<=k/\k<=9) (h:digB x (k:Int)=true) (hno:∀ j:Nat,k<j->j<=9->digB x (j:Int)=false):digF x=(k:Int):=by
 have n9:=hno 9;have n8:=hno 8;have n7:=hno 7;have n6:=hno 6;have n5:=hno 5;have n4:=hno 4;have n3:=hno 3;have n2:=hno 2;obtain rfl | rfl | rfl | rfl | rfl | rfl | rfl | rfl | rfl:k=1\/k=2\/k=3\/k=4\/k=5\/k=6\/k=7\/k=8\/k=9:=by omega
 all_goals simp_all [digF]
theorem digF_none {x:Int} (hno:∀ j:Nat,0<j->j<=9->digB x (j:Int)=false):digF x=if x=4 then 0 else 12:=by
 have n9:=hno 9;have n8:=hno 8;have n7:=hno 7;have n6:=hno 6;have n5:=hno 5;have n4:=hno 4;have n3:=hno 3;have n2:=hno 2;have n1:=hno 1;simp_all [digF]
def pkt (m x:Int):Int:=if m=1 then digF x else zonF x
theorem pkt_in:∀ k:Fin 40,pkt 1 (codeI (chA k.val))∈ordM 1/\pkt 2 (codeI (chA k.val))∈ordM 2:=by decide +kernel
theorem pkt_lt:∀ a b:Fin 40,(plc (ordM 2) (pkt 2 (codeI (chA a.val)))<plc (ordM 2) (pkt 2 (codeI (chA b.val)))->a.val<b.val) /\
 (pkt 2 (codeI (chA a.val))=pkt 2 (codeI (chA b.val))->(plc (ordM 1) (pkt 1 (codeI (chA a.val)))<plc (ordM 1) (pkt 1 (codeI (chA b.val)))->a.val<b.val)/\(pkt 1 (codeI (chA a.val))=pkt 1 (codeI (chA b.val))->a.val=b.val)):=by decide +kernel
theorem ordM_nd:(ordM 1).Nodup/\(ordM 2).Nodup:=by decide
theorem rk_code {m:Int} (h:¬ rkI m<0):∃ k:Fin 40,m=codeI (chA k.val)/\rkI m=(k.val:Int):=by
 by_cases hx:∃ j,j<40/\codeI (chA j)=m
 . obtain ⟨j,hj,e⟩:=hx
   have h2:=ch_rk ⟨j,hj⟩;exact ⟨⟨j,hj⟩,e.symm,by rw [<- e];exact h2⟩
 . exact absurd (rk_none fun j hj e=>hx ⟨j,hj,e⟩) (by intro e;rw [e] at h;exact h (by decide))
structure PsT where
 pc:Int
 pm:Int
def colI (c:List Int) (k:Int):Int:=c.getD k.toNat 0
def passD (d:List (List Int)) (p:PsT):List (List Int):=gat (ordM p.pm) (fun c=>pkt p.pm (colI c p.pc)) d
def runPD (d:List (List Int)) (ps:List PsT):List (List Int):=ps.foldl passD d
def passI (d:List (List Int)) (l:List Int) (p:PsT):List Int:=gat (ordM p.pm) (fun i=>pkt p.pm (colI (d.getD i.toNat []) p.pc)) l
theorem pass_pick (d:List (List Int)) (l:List Int) (p:PsT):passD (pickD d l) p=pickD d (passI d l p):=gat_map (fun i:Int=>d.getD i.toNat []) (fun c=>pkt p.pm (colI c p.pc)) l (ordM p.pm)
theorem run_pick (d:List (List Int)):∀ (ps:List PsT) (l:List Int),runPD (pickD d l) ps=pickD d (ps.foldl (passI d) l)
 | [],l=>rfl
 | p :: ps,l=>by
  show runPD (passD (pickD d l) p) ps=_
  rw [pass_pick,run_pick d ps];rfl
theorem pick_all (d:List (List Int)):pickD d (rangeN d.length)=d:=by
 refine List.ext_getElem? fun i=>?_;unfold pickD rangeN;rw [List.map_map,List.getElem?_map];by_cases h:i<d.length
 . rw [List.getElem?_range h]
   simp [zF h,List.getD_eq_getElem?_getD]
 . rw [List.getElem?_eq_none (by simpa using h),List.getElem?_eq_none (by omega)];rfl
def fullQ (f:Int):Nat->List PsT
 | 0=>[]
 | n+1=>⟨f+n,1⟩ :: ⟨f+n,2⟩ :: fullQ f n
theorem fullQ_len (f:Int):∀ n,(fullQ f n).length=2 * n
 | 0=>rfl
 | n+1=>by
  show (fullQ f n).length+1+1=_
  rw [fullQ_len f n];omega
theorem partC_head {c:List Int} {f t:Int} (hf:0<=f) (ht:f<t) (hc:t<=c.length):partC c f t=colI c f :: partC c (f+1) t:=by
 unfold partC colI;have h1:f.toNat<(c.take t.toNat).length:=by rw [zI];omega
 rw [List.drop_eq_getElem_cons h1,show (f+1).toNat=f.toNat+1 by omega];congr 1;rw [List.getElem_take,List.getD_eq_getElem?_getD,zF (by omega)];rfl
def ChD (d:List (List Int)) (f t:Int):Prop:=∀ c∈d,t<=(c.length:Int)/\okTx (partC c f t)=true
theorem ChD.ch {d:List (List Int)} {f t:Int} (h:ChD d f t) {i:Int} (hi:∃ k:Nat,k<d.length/\i=(k:Int)) {c:Int} (hf:0<=f) (hc:f<=c/\c<t):∃ k:Fin 40,colI (d.getD i.toNat []) c=codeI (chA k.val)/\rkI (colI (d.getD i.toNat []) c)=(k.val:Int):=by
 obtain ⟨k,hk,rfl⟩:=hi;rw [zR,List.getD_eq_getElem?_getD,zF hk];obtain ⟨h1,h2⟩:=h _ (List.getElem_mem hk);refine rk_code (okTx_at h2 ?_);show colI d[k] c∈_
 have h3:(partC d[k] f t)[(c - f).toNat]?=some (colI d[k] c):=by
  unfold partC colI;rw [List.getElem?_drop,List.getElem?_take,if_pos (by omega),show f.toNat+(c - f).toNat=c.toNat by omega,zF (by omega),List.getD_eq_getElem?_getD,zF (by omega)];rfl
 exact zC h3
theorem passI_perm {d:List (List Int)} {f t c:Int} (h:ChD d f t) (hf:0<=f) (hc:f<=c/\c<t) {l:List Int} (hl:∀ i∈l,∃ k:Nat,k<d.length/\i=(k:Int)) {m:Int} (hm:m=1\/m=2):(passI d l ⟨c,m⟩).Perm l:=by
 unfold passI;refine gat_perm ?_ fun i hi=>?_
 . rcases hm with rfl | rfl
   . exact ordM_nd.1
   . exact ordM_nd.2
 . obtain ⟨k,e,-⟩:=h.ch (hl i hi) hf hc
   simp only [e];rcases hm with rfl | rfl
   . exact (pkt_in k).1
   . exact (pkt_in k).2
theorem two_passes {d:List (List Int)} {f t c:Int} (h:ChD d f t) (hf:0<=f) (hc:f<=c/\c<t) {l:List Int} (hl:∀ i∈l,∃ k:Nat,k<d.length/\i=(k:Int)) (hp:l.Pairwise (ltK d (c+1) t)) :
 (passI d (passI d l ⟨c,1⟩) ⟨c,2⟩).Pairwise (ltK d c t):=by
 have h1:(passI d l ⟨c,1⟩).Perm l:=passI_perm h hf hc hl (.inl rfl);have hl1:∀ i∈passI d l ⟨c,1⟩,∃ k:Nat,k<d.length/\i=(k:Int):=fun i hi=>hl i (h1.mem_iff.1 hi);have h2:=gat_pw (g:=fun i=>pkt 2 (colI (d.getD i.toNat []) c)) (gat_pw (g:=fun i=>pkt 1 (colI (d.getD i.toNat []) c)) hp ordM_nd.1) ordM_nd.2;refine List.Pairwise.imp_of_mem ?_ h2;intro a b ha hb hab;have ha1:=hl1 a (gat_mem ha).1;have hb1:=hl1 b (gat_mem hb).1;obtain ⟨x,ex,rx⟩:=h.ch ha1 hf hc;obtain ⟨y,ey,ry⟩:=h.ch hb1 hf hc;rw [ex,ey] at hab;have hk:=pkt_lt x y;have hkey:∀ i:Int,(∃ k:Nat,k<d.length/\i=(k:Int))->keyC d c t i.toNat=colI (d.getD i.toNat []) c :: keyC d (c+1) t i.toNat:=fun i hi=>by
  obtain ⟨k,hk,rfl⟩:=hi;unfold keyC;refine partC_head (by omega) hc.2 ?_;rw [zR,List.getD_eq_getElem?_getD,zF hk];exact (h _ (List.getElem_mem hk)).1
 unfold ltK;rw [hkey a ha1,hkey b hb1];unfold rks;rw [List.map_cons,List.map_cons,rx,ry];unfold lexL;rcases hab with hab | ⟨e2,hab⟩
 . exact .inl (.inl (by have:=hk.1 hab;omega))
 . rcases hab with hab | ⟨e1,hab⟩
   . exact .inl (.inl (by have:=(hk.2 e2).1 hab;omega))
   . have exy:x.val=y.val:=(hk.2 e2).2 e1
     unfold ltK rks at hab;rcases hab with hab | ⟨e3,hab⟩
     . exact .inl (.inr ⟨by rw [exy],hab⟩)
     . exact .inr ⟨by rw [e3,exy],hab⟩
theorem full_sorts {d:List (List Int)} {f t:Int} (h:ChD d f t) (hf:0<=f):∀ (n:Nat),f+n<=t->∀ l:List Int,(∀ i∈l,∃ k:Nat,k<d.length/\i=(k:Int))->l.Pairwise (ltK d (f+n) t)->((fullQ f n).foldl (passI d) l).Perm l/\((fullQ f n).foldl (passI d) l).Pairwise (ltK d f t)
 | 0,_,l,_,hp=>⟨List.Perm.refl _,by simpa [fullQ] using hp⟩
 | n+1,hn,l,hl,hp=>by
  have hc:f<=f+n/\f+(n:Int)<t:=by omega
  have h1:(passI d l ⟨f+n,1⟩).Perm l:=passI_perm h hf hc hl (.inl rfl);have hl1:∀ i∈passI d l ⟨f+n,1⟩,∃ k:Nat,k<d.length/\i=(k:Int):=fun i hi=>hl i (h1.mem_iff.1 hi);have h2:=(passI_perm h hf hc hl1 (m:=2) (.inr rfl)).trans h1;have hl2:∀ i∈passI d (passI d l ⟨f+n,1⟩) ⟨f+n,2⟩,∃ k:Nat,k<d.length/\i=(k:Int):=fun i hi=>hl i (h2.mem_iff.1 hi);have h3:=two_passes h hf hc hl (by rw [show f+(n:Int)+1=f+((n+1:Nat):Int) by omega];exact hp);have h4:=full_sorts h hf n (by omega) _ hl2 h3;exact ⟨h4.1.trans h2,h4.2⟩
theorem full_plan {d:List (List Int)} {f:Int} {n:Nat} (h:ChD d f (f+n)) (hf:0<=f):runPD d (fullQ f n)=pickD d (ordD d f (f+n)):=by
 have hl:∀ i∈rangeN d.length,∃ k:Nat,k<d.length/\i=(k:Int):=fun i hi=>yBJ d.length i hi;have hp:(rangeN d.length).Pairwise (ltK d (f+n) (f+n)):=by
  refine (rangeN_rise d.length).imp fun {a b} hab=>?_;unfold ltK keyC;have e:∀ c:List Int,partC c (f+n) (f+n)=[]:=fun c=>by
   unfold partC;rw [List.drop_eq_nil_of_le (by rw [zI];omega)]
  rw [e,e];exact .inr ⟨rfl,hab⟩
 have h1:=full_sorts h hf n (Int.le_refl _) _ hl hp;have h2:=run_pick d (fullQ f n) (rangeN d.length);rw [pick_all] at h2;rw [h2,IsOrd.eq (d:=d) (f:=f) (t:=f+n) ⟨h1.1,h1.2⟩]
abbrev vPs (x:PsT):Value:=.agg #[.int .i64 x.pc,.int .i64 x.pm]
def okPs (x:PsT):Prop:=I64 x.pc/\I64 x.pm
def ePs:Elt PsT:={ sz:=2,cells:=fun x=>[.int .i64 x.pc,.int .i64 x.pm],ok:=okPs,len:=fun _=>rfl,one:=fun x u hu=>by simp at hu;rcases hu with rfl | rfl <;> rfl }
theorem Tryz.infoPs:(Tryz.prog.info? 80).map (fun i=>(i.zero,i.size,i.bytes))=some (some (vPs ⟨0,0⟩),2,16):=by kernel_rfl
abbrev RdPsS (B:Nat) (w:World) (v:Value) (x:List PsT):Prop:=Rds ePs B w v x
abbrev OwnPsS (base:Nat) (w:World) (v:Value) (x:List PsT):Prop:=Own ePs 80 base w v x
theorem fullPlan_c {f:Int} {N:Nat} (w:World) (hf:0<=f/\f+N<=20) :
 Calls Tryz.prog 30 #[.agg #[.int .i64 f,.int .i64 (f+N)]] w fun e w'=>(∃ u,e=.returned u/\OwnPsS w.heap.size w' u (fullQ f N))/\Below w.heap.size w w':=by
 obtain ⟨i0,hi,hz0,hz1,hz2⟩:=info_parts Tryz.infoPs;obtain ⟨t,ht⟩:∃ t,t=f+(N:Int):=⟨_,rfl⟩;obtain ⟨W,hW⟩:∃ W,W=(w.alloc (.cells #[.int .i64 f,.int .i64 t] 27)).alloc (.cells #[] 80):=⟨_,rfl⟩;have z1:(w.alloc (.cells #[.int .i64 f,.int .i64 t] 27)).heap.size=w.heap.size+1:=by simp
 have hX:Box W w.heap.size [.int .i64 f,.int .i64 t]:=by rw [hW];exact (Box.new w [.int .i64 f,.int .i64 t] _).alloc _
 have hO:OwnPsS (w.heap.size+1) W (.slice (some ⟨w.heap.size+1,0,none⟩) 0 0) []:=by
  have h:=Own.lit (E:=ePs) (e:=80) (base:=w.heap.size+1) (w:=w.alloc (.cells #[.int .i64 f,.int .i64 t] 27)) (xs:=[]) (cs:=#[]) (n:=0) (by rw [z1];omega) rfl rfl (by decide) (fun x hx=>by cases hx);rw [z1,<- hW] at h;exact h
 have hb:Below w.heap.size w W:=by rw [hW];exact ((zB _ _).alloc (zA _) _).alloc (by rw [z1];omega) _
 rw [<- ht];have HW:=hid hW;have HX:=hid hX;have HO:=hid hO;have HB:=hid hb;have Ht:=hid ht;have x1:=hX.cell 1 _ rfl;clear hW z1 hX hO hb ht;go_enter Tryz.func30,Tryz.ntmps30;go_upto_region 2 with fail;rw [<- HW.out];clear HW;go_wp2;go_loopw [3,4] (fun v kv wr=>∃ (n:Nat) (k:Int) (ao:Option Addr) (c m:Nat) (xs:List PsT),n<=N/\Hid (k=f+n - 1)/\kv=.int .i64 k/\v=.slice ao m c/\Hid (m=xs.length/\xs++fullQ f n=fullQ f N)/\OwnPsS (w.heap.size+1) wr (.slice ao m c) xs/\Box wr w.heap.size [.int .i64 f,.int .i64 t]/\Below w.heap.size w wr) (fun _ k _=>(intOf k - f+1).toNat)
 case atStart=>exact ⟨N,t - 1,_,_,0,[],zA _,hid (by rw [Ht.out]),by rw [IntWalk.wrap64_in _ (by have:=Ht.out;omega)],rfl,hid ⟨rfl,rfl⟩,HO.out,HX.out,HB.out⟩
 case round =>
  obtain ⟨n,k,ao,c,m,xs,hn,Hk,rfl,rfl,Hxs,hO,hX,hb⟩:=hrel;clear HO HX HB x1;have x0:=hX.cell 0 _ rfl;have hk1:f - 1<=k/\k<=19:=by have:=Hk.out;omega
  have hm:m<=40:=by
   have h1:=congrArg List.length Hxs.out.2;rw [zE,fullQ_len,fullQ_len] at h1;have:=Hxs.out.1;omega
  by_cases hkf:f<=k
  . obtain ⟨n',rfl⟩:∃ n',n=n'+1:=⟨n - 1,by have:=Hk.out;omega⟩
    have hok:∀ x∈[(⟨k,1⟩:PsT),⟨k,2⟩],okPs x:=fun x hx=>by
     simp only [List.mem_cons,List.not_mem_nil,or_false] at hx;rcases hx with rfl | rfl
     . exact ⟨by unfold I64;simp only;omega,by unfold I64;simp only;omega⟩
     . exact ⟨by unfold I64;simp only;omega,by unfold I64;simp only;omega⟩
    have hlit:=(Own.lit (E:=ePs) (e:=80) (base:=0) (w:=wr) (xs:=[⟨k,1⟩,⟨k,2⟩]) (cs:=#[.int .i64 k,.int .i64 1,.int .i64 k,.int .i64 2]) (n:=2) (zK _) rfl rfl (by decide) hok).rds;have hXa:=hX;have HO:=hid hO;have HL:=hid hlit;have HX:=hid hX;have HB:=hid hb;have hsz:=hX.lt;clear hO hX hb hlit hok hXa;go_wp2_with (first | (at_builtin;refine yAB (E:=ePs) rfl _ _ 31 rfl Tryz.underlying31 hi hz0 hz1 hz2 rfl (by decide) rfl rfl (HO.out.alloc _) HL.out ?b1 ?b2 ?b3 ?_))
    case b1=>rw [<- Hxs.out.1];unfold maxLen;simp;omega
    case b2=>rw [<- Hxs.out.1];simp;omega
    case b3=>simp;omega
    intro v3 w3 hO3 hg3;obtain ⟨ao3,c3,hv3⟩:=hO3.shape;have hl3:(xs++[(⟨k,1⟩:PsT),⟨k,2⟩]).length=m+2:=by rw [zE,<- Hxs.out.1];rfl
    rw [hl3] at hv3;subst hv3;have hg:=hg3.alloc.1;have hne:∀ q,(Value.slice ao m c).ownBlock=some q->w.heap.size+1<=q:=fun q hq=>(HO.out.lt q hq).1;have HX3:=hid (HX.out.keptB hg (fun e=>by have:=hne _ e;omega));have HB3:=hid (HB.out.grown hg HB.out.size (fun q hq=>by have:=hne q hq;omega));have HO3:=hid hO3;have Hxs3:Hid (m+2=(xs++[(⟨k,1⟩:PsT),⟨k,2⟩]).length/\(xs++[(⟨k,1⟩:PsT),⟨k,2⟩])++fullQ f n'=fullQ f N):=hid ⟨hl3.symm,by
     rw [<- Hxs.out.2,zN];have e:k=f+(n':Int):=by have:=Hk.out;omega
     rw [e];rfl⟩
    have Hk3:Hid (k - 1=f+n' - 1):=hid (by have:=Hk.out;omega);clear hO3 hg3 hg hne hl3 HO HX HB;go_wp2;go_roundw
    case rel=>exact ⟨n',k - 1,ao3,c3,m+2,_,by omega,Hk3,by first | rfl | go_num,rfl,Hxs3,HO3.out,HX3.out,HB3.out⟩
    case measure=>simp [intOf];omega
  . obtain rfl:n=0:=by have:=Hk.out;omega
    have HF:Hid (OwnPsS w.heap.size wr (.slice ao m c) (fullQ f N)):=hid (by
     have e:=Hxs.out.2;rw [show fullQ f 0=[] from rfl,List.append_nil] at e;rw [<- e];exact hO.mono (by omega))
    have HB:=hid hb;clear hO hX hb;go_wp2;go_ret;exact ⟨⟨_,rfl,HF.out⟩,HB.out⟩
theorem FullPlan_c {f:Int} {N:Nat} (w:World) (hN:1<=N) (hf:0<=f/\f+N<=20) :
 Calls Tryz.prog 8 #[.agg #[.int .i64 f,.int .i64 (f+N)]] w fun e w'=>(∃ u,e=.returned (.tuple #[u,.int .i64 0])/\OwnPsS w.heap.size w' u (fullQ f N))/\Below w.heap.size w w':=by
 have Hfp:=hid (fun w=>fullPlan_c (f:=f) (N:=N) w hf);have hb1:fieldP f (f+N) 20:=⟨hf.1,by omega,hf.2⟩;obtain ⟨t,ht⟩:∃ t,t=f+(N:Int):=⟨_,rfl⟩;rw [<- ht] at hb1 |-;rw [<- ht] at Hfp;have hcf:=fun w=>yBN f t 20 w (by omega);rw [decide_eq_true hb1] at hcf;have Hcf:=hid hcf;clear hcf hb1 ht;go_enter Tryz.func8,Tryz.ntmps8;go_upto_region 1 with fail;go_wp2_with fail;with_reducible refine (Hcf.out _).mono ?_
 rintro e w1 ⟨rfl,hb1⟩;have hP:=((Box.new w [.int .i64 f,.int .i64 t] 27).on hb1);have hb2:Below w.heap.size w w1:=((zB _ _).alloc (zA _) _).trans (hb1.mono (by simp));have x0:=hP.cell 0 _ rfl;have x1:=hP.cell 1 _ rfl;have HB:=hid hb2;clear hP hb1 hb2;go_wp2_with fail;with_reducible refine (Hfp.out _).mono ?_
 rintro e w2 ⟨⟨u,rfl,hu⟩,hb⟩;have HU:=hid (hu.mono HB.out.size);have HB2:=hid (HB.out.trans (hb.mono HB.out.size));obtain ⟨uo,uc,hsu⟩:=hu.shape;subst hsu;clear hu hb;go_wp2;go_ret2;exact ⟨⟨_,rfl,HU.out⟩,HB2.out⟩
theorem isMode_c (m:Int) (w:World):Calls Tryz.prog 83 #[.int .i64 m] w fun e w'=>e=.returned (.bool (decide (m=1\/m=2)))/\w'=w:=by
 obtain ⟨p,hp⟩:∃ p,p=decide (m=1\/m=2):=⟨_,rfl⟩;rw [<- hp];have Hp:=hid hp;clear hp;by_cases h1:m=1
 . go_enter Tryz.func83,Tryz.ntmps83
   go_wp2;go_ret;exact ⟨yAC (by rw [Hp.out];exact (decide_eq_true (Or.inl h1)).symm),rfl⟩
 . by_cases h2:m=2
   . go_enter Tryz.func83,Tryz.ntmps83
     go_wp2;go_ret;exact ⟨yAC (by rw [Hp.out];exact (decide_eq_true (Or.inr h2)).symm),rfl⟩
   . go_enter Tryz.func83,Tryz.ntmps83
     go_wp2;go_ret;exact ⟨yAC (by rw [Hp.out];simp [h1,h2]),rfl⟩
theorem gatherOrder_c (m:Int) (w:World):Calls Tryz.prog 120 #[.int .i64 m] w fun e w'=>(∃ u,e=.returned u/\OwnInt64S w.heap.size w' u (ordM m))/\Below w.heap.size w w':=by
 by_cases h2:m=2
 . subst h2
   have hO:=Own.lit (E:=eI) (e:=2) (base:=w.heap.size) (w:=w) (xs:=ordM 2) (cs:=#[.int .i64 12,.int .i64 11,.int .i64 10,.int .i64 0,.int .i64 1]) (n:=5) (zA _) rfl rfl (by decide) (fun x hx=>by
    have h:∀ y∈ordM 2,(0:Int)<=y/\y<=12:=by decide
    have:=h x hx;exact (by unfold I64;omega:I64 x))
   have HO:=hid hO;have HB:=hid ((zB w.heap.size w).alloc (zA _) (.cells #[.int .i64 12,.int .i64 11,.int .i64 10,.int .i64 0,.int .i64 1] 2));clear hO;go_enter Tryz.func120,Tryz.ntmps120;go_wp2;go_ret;exact ⟨⟨_,rfl,HO.out⟩,HB.out⟩
 . have he:ordM m=ordM 1:=by unfold ordM;rw [if_neg h2,if_neg (by decide)]
   rw [he];have hO:=Own.lit (E:=eI) (e:=2) (base:=w.heap.size) (w:=w) (xs:=ordM 1) (cs:=#[.int .i64 12,.int .i64 0,.int .i64 1,.int .i64 2,.int .i64 3,.int .i64 4,.int .i64 5,.int .i64 6,.int .i64 7,.int .i64 8,.int .i64 9]) (n:=11) (zA _) rfl rfl (by decide) (fun x hx=>by
    have h:∀ y∈ordM 1,(0:Int)<=y/\y<=12:=by decide
    have:=h x hx;exact (by unfold I64;omega:I64 x))
   have HO:=hid hO;have HB:=hid ((zB w.heap.size w).alloc (zA _) (.cells #[.int .i64 12,.int .i64 0,.int .i64 1,.int .i64 2,.int .i64 3,.int .i64 4,.int .i64 5,.int .i64 6,.int .i64 7,.int .i64 8,.int .i64 9] 2));clear hO he;go_enter Tryz.func120,Tryz.ntmps120;go_wp2;go_ret;exact ⟨⟨_,rfl,HO.out⟩,HB.out⟩
theorem pkt1 (x:Int):pkt 1 x=digF x:=by unfold pkt;rw [if_pos rfl]
theorem pkt2 (x:Int):pkt 2 x=zonF x:=by unfold pkt;rw [if_neg (by decide)]
theorem bit12 (w:World):Calls Tryz.prog 155 #[.int .i64 12] w fun e w'=>e=.returned (.int .i64 1)/\w=w':=bitOf_c 12 w (.inl rfl)
theorem bit11 (w:World):Calls Tryz.prog 155 #[.int .i64 11] w fun e w'=>e=.returned (.int .i64 2)/\w=w':=bitOf_c 11 w (.inr (.inl rfl))
theorem bit00 (w:World):Calls Tryz.prog 155 #[.int .i64 0] w fun e w'=>e=.returned (.int .i64 4)/\w=w':=bitOf_c 0 w (.inr (.inr ⟨by decide,by decide⟩))
theorem pocketD_c (x:Int) (hx:0<=x/\x<=4095) (w:World):Calls Tryz.prog 121 #[.int .i64 x,.int .i64 1] w fun e w'=>e=.returned (.int .i64 (pkt 1 x))/\w=w':=by
 obtain ⟨R,hR⟩:∃ R,R=pkt 1 x:=⟨_,rfl⟩;rw [<- hR];have HR:Hid (R=digF x):=hid (by rw [hR,pkt1]);clear hR;go_enter Tryz.func121,Tryz.ntmps121;go_wp2;go_loop [6] (fun i=>∃ k:Nat,k<=9/\i=.int .i64 k/\Hid (∀ j:Nat,k<j->j<=9->digB x (j:Int)=false)) (fun i=>(intOf i).toNat)
 case atStart=>exact ⟨9,by decide,rfl,hid (fun j h1 h2=>by omega)⟩
 case round =>
  obtain ⟨k,hk,rfl,Hno⟩:=hrel;by_cases hk0:1<=k
  . have hki:(1:Int)<=(k:Int):=by omega
    cases hd:digB x (k:Int) with
    | true =>
     have HE:Hid (R=(k:Int)):=hid (HR.out.trans (digF_found ⟨hk0,hk⟩ hd Hno.out));unfold digB at hd;rw [show ((k:Int) - 1).toNat=k - 1 by omega] at hd;go_wp2;go_ret;exact ⟨by rw [HE.out];rfl,rfl⟩
    | false =>
     have Hno2:Hid (∀ j:Nat,k - 1<j->j<=9->digB x (j:Int)=false):=hid (fun j h1 h2=>by
      by_cases e:j=k
      . rw [e];exact hd
      . exact Hno.out j (by omega) h2)
     unfold digB at hd;rw [show ((k:Int) - 1).toNat=k - 1 by omega] at hd;go_wp2;go_round
     case rel=>exact ⟨k - 1,by omega,by first | rfl | go_num | (congr 1;omega),Hno2⟩
     case measure=>simp [intOf];omega
  . obtain rfl:k=0:=by omega
    have HE:Hid (R=if x=4 then 0 else 12):=hid (HR.out.trans (digF_none Hno.out));go_wp2_with fail;with_reducible refine (bit00 _).mono ?_
    rintro e w1 ⟨rfl,rfl⟩;by_cases h4:x=4
    . subst h4
      go_wp2;go_ret;exact ⟨by rw [HE.out];rfl,rfl⟩
    . go_wp2
      go_ret;exact ⟨by rw [HE.out,if_neg h4];rfl,rfl⟩
theorem pocketZ_c (x:Int) (hx:0<=x/\x<=4095) (w:World):Calls Tryz.prog 121 #[.int .i64 x,.int .i64 2] w fun e w'=>e=.returned (.int .i64 (pkt 2 x))/\w=w':=by
 obtain ⟨R,hR⟩:∃ R,R=pkt 2 x:=⟨_,rfl⟩;rw [<- hR];have HR:Hid (R=zonF x):=hid (by rw [hR,pkt2]);clear hR;go_enter Tryz.func121,Tryz.ntmps121;go_wp2_with fail;with_reducible refine (bit12 _).mono ?_
 rintro e w1 ⟨rfl,rfl⟩;cases h1:holB x 1 with
 | true =>
  have HE:Hid (R=11):=hid (by rw [HR.out];unfold zonF;rw [h1];rfl);unfold holB at h1;go_wp2;go_ret;exact ⟨by rw [HE.out];rfl,rfl⟩
 | false =>
  have H1:=hid h1;unfold holB at h1;go_upto_region 13 with fail;clear h1;as_aux_lemma =>
  go_wp2_with fail;with_reducible refine (bit11 _).mono ?_
  rintro e w1 ⟨rfl,rfl⟩;cases h2:holB x 2 with
  | true =>
   have HE:Hid (R=10):=hid (by rw [HR.out];unfold zonF;rw [H1.out,h2];rfl);unfold holB at h2;go_wp2;go_ret;exact ⟨by rw [HE.out];rfl,rfl⟩
  | false =>
   have H2:=hid h2;unfold holB at h2;go_upto_region 15 with fail;clear h2;as_aux_lemma =>
   go_wp2_with fail;with_reducible refine (bit00 _).mono ?_
   rintro e w1 ⟨rfl,rfl⟩;cases h3:holB x 4 with
   | true =>
    have H3:=hid h3;unfold holB at h3;by_cases h8:x / 8=0
    . have h8':(x / 8 != 0)=false:=by rw [h8];rfl
      by_cases hx0:x=0
      . subst hx0;exact absurd H3.out (by unfold holB;decide)
      have hx0':(x != 0)=true:=by simpa using hx0
      have HE:Hid (R=1):=hid (by rw [HR.out];unfold zonF;rw [H1.out,H2.out,H3.out,h8',hx0'];rfl);go_wp2;go_ret;exact ⟨by rw [HE.out];rfl,rfl⟩
    . have h8':(x / 8 != 0)=true:=by simpa using h8
      have HE:Hid (R=0):=hid (by rw [HR.out];unfold zonF;rw [H1.out,H2.out,H3.out,h8'];rfl);go_wp2;go_ret;exact ⟨by rw [HE.out];rfl,rfl⟩
   | false =>
    have H3:=hid h3;unfold holB at h3;by_cases hx0:x=0
    . have hx0':(x != 0)=false:=by rw [hx0];rfl
      have HE:Hid (R=12):=hid (by rw [HR.out];unfold zonF;rw [H1.out,H2.out,H3.out,hx0'];rfl);go_wp2;go_ret;exact ⟨by rw [HE.out];rfl,rfl⟩
    . have hx0':(x != 0)=true:=by simpa using hx0
      have HE:Hid (R=1):=hid (by rw [HR.out];unfold zonF;rw [H1.out,H2.out,H3.out,hx0'];rfl);go_wp2;go_ret;exact ⟨by rw [HE.out];rfl,rfl⟩
theorem pocketOf_c (m x:Int) (hm:m=1\/m=2) (hx:0<=x/\x<=4095) (w:World):Calls Tryz.prog 121 #[.int .i64 x,.int .i64 m] w fun e w'=>e=.returned (.int .i64 (pkt m x))/\w=w':=by
 rcases hm with rfl | rfl
 . exact pocketD_c x hx w
 . exact pocketZ_c x hx w
theorem ePs_open {w:World} {B:Nat} {v:Value} {xs:List PsT} (h:Rds ePs B w v xs):∃ ao cap,v=.slice ao xs.length cap /\
 (0<xs.length->∃ b off,ao=some ⟨b,off,none⟩/\(b<B/\b<w.heap.size)/\∀ k,k<xs.length->∃ x,xs[k]?=some x/\(w.cell? ⟨b,off+k * 2,none⟩=some (.int .i64 x.pc)/\w.cell? ⟨b,off+k * 2+1,none⟩=some (.int .i64 x.pm))/\okPs x):=by
 rcases Rds.cases h with ⟨rfl,ao,cap,rfl,_⟩ | ⟨b,off,cap,rfl,hlt,hc⟩
 . exact ⟨ao,cap,rfl,fun h=>absurd h (by simp)⟩
 . refine ⟨_,cap,rfl,fun _=>⟨b,off,rfl,hlt,fun k hk=>?_⟩⟩
   obtain ⟨h1,h2⟩:=hc k xs[k] (by simp [hk]);refine ⟨xs[k],by simp [hk],⟨?_,?_⟩,h1⟩
   . exact h2 0 (by decide)
   . have:=h2 1 (by decide);rw [<- Nat.add_assoc] at this;exact this
abbrev C9p (c:Int):Prop:=1<=c/\c<=1000
def badP (c:Int) (x:PsT):Bool:=!(decide (0<=x.pc/\x.pc<=c - 1)) || !(decide (x.pm=1\/x.pm=2))
theorem clo_Ps (c9:Int) (y:PsT) (w:World) (hc:C9p c9) (hy:okPs y) {c:Nat} (hcc:w.cell? ⟨c,0,none⟩=some (.int .i64 c9)) (hlt:c<w.heap.size) :
 Calls Tryz.prog 81 #[vPs y,.pointer (some ⟨c,0,none⟩)] w fun e w'=>e=.returned (.bool (badP c9 y))/\Below w.heap.size w w':=by
 have hne:c ≠ w.heap.size:=by omega
 have hc1:-1000<=c9:=by omega
 have hc2:c9<=1000:=hc.2;have hb9:Below w.heap.size w (w.alloc (.cells #[.int .i64 y.pc,.int .i64 y.pm] 80)):=(zB w.heap.size w).alloc (zA _) _;have Hb9:=hid hb9;clear hc hy hb9;by_cases h1:0<=y.pc/\y.pc<=c9 - 1
 . have Hi:=hid (fun w=>yBD y.pc 0 (c9 - 1) w h1.1 h1.2)
   have Hm:=hid (fun w=>isMode_c y.pm w);have e1:badP c9 y=!(decide (y.pm=1\/y.pm=2)):=by unfold badP;rw [decide_eq_true h1];rfl
   rw [e1];generalize decide (y.pm=1\/y.pm=2)=bm at Hm |-;clear h1 e1;go_enter Tryz.func81,Tryz.ntmps81;go_wp2_with fail;with_reducible refine (Hi.out _).mono ?_
   rintro e w1 ⟨rfl,rfl⟩;go_wp2_with fail;with_reducible refine (Hm.out _).mono ?_
   rintro e w1 ⟨rfl,rfl⟩;go_wp2;go_ret;exact ⟨rfl,Hb9.out⟩
 . have Hi:=hid (fun w=>inside_no y.pc 0 (c9 - 1) w (by omega))
   have e1:badP c9 y=true:=by unfold badP;rw [decide_eq_false h1];rfl
   rw [e1];clear h1 e1;go_enter Tryz.func81,Tryz.ntmps81;go_wp2_with fail;with_reducible refine (Hi.out _).mono ?_
   rintro e w1 ⟨rfl,rfl⟩;go_wp2;go_ret;exact ⟨rfl,Hb9.out⟩
theorem indexPs_c {xs:List PsT} {v:Value} {w:World} {A:Nat} (c9:Int) (h9:Hid (C9p c9)) {c:Nat} (hcc:w.cell? ⟨c,0,none⟩=some (.int .i64 c9)) (hlc:c<w.heap.size) (ha:RdPsS A w v xs) :
 Calls Tryz.prog 124 #[v,.func (.func 81) #[] #[.pointer (some ⟨c,0,none⟩)]] w fun e w'=>(∃ r:Int,e=.returned (.int .i64 r)/\-1<=r/\(0<=r ↔ xs.any (badP c9)=true))/\Below w.heap.size w w':=by
 have hle:=ha.le;obtain ⟨ao,cap,rfl,ho⟩:=ePs_open ha;obtain ⟨n,hn⟩:∃ n,n=xs.length:=⟨_,rfl⟩;rw [<- hn];have Hn:=hid hn;have Ho:=hid ho;have Hcc:=hid hcc;clear hcc;have hle':n<=9223372036854775807:=by omega
 clear ho hn hle ha;go_enter Tryz.func124,Tryz.ntmps124;go_wp2;go_loopw [8] (fun i wr=>∃ k:Nat,k<=n/\i=.int .i64 k/\Hid ((xs.take k).any (badP c9)=false)/\Below w.heap.size w wr) (fun i _=>n - (intOf i).toNat)
 case atStart=>exact ⟨0,zK _,rfl,rfl,zB _ _⟩
 case round =>
  obtain ⟨k,hk,rfl,hp,hbb⟩:=hrel;by_cases hkn:k<n
  . obtain ⟨b,off,rfl,hlt,hc⟩:=Ho.out (by have:=Hn.out;omega)
    obtain ⟨y,hy,⟨c0,c1⟩,bx⟩:=hc k (by have:=Hn.out;omega);have Hy:=hid hy;have Hbx:=hid bx;have d0:=(hbb.cell (p:=⟨b,off+k * 2,none⟩) hlt.2).trans c0;have d1:=(hbb.cell (p:=⟨b,off+k * 2+1,none⟩) hlt.2).trans c1;have hcw:=(hbb.cell (p:=⟨c,0,none⟩) hlc).trans Hcc.out;have hlw:c<wr.heap.size:=by have:=hbb.size;omega
    have Hcw:=hid hcw;clear hcw;clear hy hc bx c0 c1;go_wp2_with fail;with_reducible refine (clo_Ps c9 y wr h9.out Hbx.out Hcw.out hlw).mono ?_
    cases hq:(badP c9) y with
    | true =>
     have Hq:=hid hq;clear hq;rintro e w1 ⟨rfl,hb1⟩;have hb2:=hbb.trans (hb1.mono hbb.size);go_wp2;go_ret;refine ⟨⟨_,rfl,by omega,?_⟩,hb2⟩;have:xs.any (badP c9)=true:=List.any_eq_true.2 ⟨y,zC Hy.out,Hq.out⟩;simp [this]
    | false =>
     have Hq:=hid hq;clear hq;rintro e w1 ⟨rfl,hb1⟩;have hb2:=hbb.trans (hb1.mono hbb.size);clear d0 d1 hb1 hbb;go_wp2;go_roundw
     case rel=>exact ⟨k+1,by omega,by go_num,by show _=false;rw [yAD Hy.out,List.any_append,hp.out];simp [Hq.out],hb2⟩
     case measure=>simp [intOf];omega
  . go_wp2
    go_ret;refine ⟨⟨_,rfl,by omega,?_⟩,hbb⟩;have hq:=hp.out;rw [zH (by have:=Hn.out;omega)] at hq;exact any_endT hq
theorem containsPs_c {xs:List PsT} {v:Value} {w:World} {A:Nat} (c9:Int) (h9:Hid (C9p c9)) {c:Nat} (hcc:w.cell? ⟨c,0,none⟩=some (.int .i64 c9)) (hlc:c<w.heap.size) (ha:RdPsS A w v xs) :
 Calls Tryz.prog 80 #[v,.func (.func 81) #[] #[.pointer (some ⟨c,0,none⟩)]] w fun e w'=>e=.returned (.bool (xs.any (badP c9)))/\Below w.heap.size w w':=by
 have Ha:=hid ha;have Hcc:=hid hcc;clear hcc;obtain ⟨ao,cap,rfl⟩:=ha.shape;clear ha;go_enter Tryz.func80,Tryz.ntmps80;go_wp2_with fail;with_reducible refine (indexPs_c c9 h9 Hcc.out hlc Ha.out).mono ?_
 rintro e w' ⟨⟨r,rfl,hr,hi⟩,hb⟩;have Hi:=hid hi;clear hi;go_wp2;go_ret;refine ⟨yAC ?_,hb⟩;rw [Bool.eq_iff_iff,decide_eq_true_iff];exact Hi.out
theorem arePasses_c {xs:List PsT} {v:Value} {w:World} {A:Nat} (c9:Int) (hc:C9p c9) (ha:RdPsS A w v xs) (h40:xs.length<=40) (hp:∀ p∈xs,badP c9 p=false) :
 Calls Tryz.prog 38 #[v,.int .i64 c9] w fun e w'=>e=.returned (.bool true)/\Below w.heap.size w w':=by
 have hb1:Below w.heap.size w (w.alloc (.cells #[.int .i64 c9] 2)):=(zB _ _).alloc (zA _) _;have hR:=Rds.onn ha hb1;have hX:=Box.new w [.int .i64 c9] 2;have hcon:=containsPs_c c9 (hid hc) (hX.cell 0 _ rfl) hX.lt hR;have e1:xs.any (badP c9)=false:=List.any_eq_false.2 fun p h=>by simp [hp p h]
 rw [e1] at hcon;have Hcon:=hid hcon;have Hb1:=hid hb1;obtain ⟨ao,cap,rfl⟩:=ha.shape;clear ha hp e1 hcon hX hR hb1 hc;generalize xs.length=n at *
 go_enter Tryz.func38,Tryz.ntmps38;go_wp2_with fail;with_reducible refine Hcon.out.mono ?_
 rintro e w2 ⟨rfl,hb2⟩;have hb3:=Hb1.out.trans (hb2.mono Hb1.out.size);clear hb2;go_wp2;go_ret;exact ⟨rfl,hb3⟩
def outB (f t:Int) (lo hi:ByteArray) (y:List Int):Bool:=decide (cmpN (rks (partC y f t)) (rks (cds lo))<0) || decide (0<cmpN (rks (partC y f t)) (rks (cds hi)))
def eqF (f t:Int) (y x:List Int):Bool:=decide (cmpN (rks (partC x f t)) (rks (partC y f t))=0)
def hasE (b:List (List Int)) (f t:Int) (y:List Int):Bool:=b.any (eqF f t y)
def selC (a:List (List Int)) (f t:Int) (lo hi:ByteArray):Int:=colC [a] f t [lo,hi]
def firC (a:List (List Int)) (f t:Int):Int:=colC [a] f t []
def matC (a b:List (List Int)) (f t:Int):Int:=if twoC a b f t ≠ 0 then twoC a b f t else if ¬ (ascB a f t=true/\ascB b f t=true) then 6 else 0
def firD (a:List (List Int)) (f t:Int):List (List Int):=pickD a (selI (grpP a f t) a.length)
def numC (sf st:Int) (c:List Int):Int:=(numR (partC c sf st)).1
def noNum (sf st:Int) (c:List Int):Bool:=!(numR (partC c sf st)).2
def strD (d:List (List Int)) (G:List Int) (i:Nat):List (List Int):=(d.take ((G++[(d.length:Int)]).getD (i+1) 0).toNat).drop (G.getD i 0).toNat
def sumC (sf st:Int) (d:List (List Int)):Int:=(d.map (numC sf st)).sum
def totOf (d:List (List Int)) (G:List Int) (f t sf st:Int) (i:Nat):TotalT:=⟨toB (txI (partC (d.getD (G.getD i 0).toNat []) f t)),sumC sf st (strD d G i)⟩
def totD (d:List (List Int)) (f t sf st:Int):List TotalT:=(List.range (selI (grpP d f t) d.length).length).map (totOf d (selI (grpP d f t) d.length) f t sf st)
def totC (d:List (List Int)) (f t sf st:Int):Int:=if d.any (noNum sf st)=true\/hasD d f t=false then 8 else 0
def trD (o:OffT) (k:Int):List (List Int):=o.trays.getD k.toNat []
def dkC (o:OffT) (x:StepT):Int :=
 if x.kd=1 then sortC (trD o x.ta) x.ff x.ft else if x.kd=2 then merC (trD o x.ta) (trD o x.tb) x.ff x.ft else if x.kd=5 then selC (trD o x.ta) x.ff x.ft x.tx x.tx else if x.kd=6 then firC (trD o x.ta) x.ff x.ft else matC (trD o x.ta) (trD o x.tb) x.ff x.ft
noncomputable def dkD (o:OffT) (x:StepT):List (List Int) :=
 if x.kd=1 then pickD (trD o x.ta) (ordD (trD o x.ta) x.ff x.ft) else if x.kd=2 then pickD (trD o x.ta++trD o x.tb) (ordD (trD o x.ta++trD o x.tb) x.ff x.ft) else if x.kd=5 then (trD o x.ta).filter (fun y=>!outB x.ff x.ft x.tx x.tx y)
 else if x.kd=6 then firD (trD o x.ta) x.ff x.ft else if x.kd=3 then (trD o x.ta).filter (hasE (trD o x.tb) x.ff x.ft) else (trD o x.ta).filter (fun y=>!hasE (trD o x.tb) x.ff x.ft y)
def colO:List (List (List Int))->Int
 | []=>20
 | [] :: ts=>colO ts
 | (c :: _) :: _=>c.length
def offB (o:OffT):Bool:=decide (o.trays.length=6) && decide (o.totals.length<=20) && o.trays.all (fun d=>deckB d && (decide (d=[]) || decide (colsD d=colO o.trays)))
def stpC (o:OffT) (x:StepT):Int:=if stB x (colO o.trays)=false then 2 else if x.kd=7 then (if o.totals.length=20 then 5 else totC (trD o x.ta) x.ff x.ft x.sf x.st) else dkC o x
noncomputable def stpD (o:OffT) (x:StepT):OffT:=if x.kd=7 then ⟨o.trays,o.totals++[totD (trD o x.ta) x.ff x.ft x.sf x.st]⟩ else ⟨o.trays.set x.tc.toNat (dkD o x),o.totals⟩
theorem colO_bd:∀ {ts:List (List (List Int))},(∀ d∈ts,deckB d=true)->1<=colO ts/\colO ts<=20
 | [],_=>by unfold colO;omega
 | [] :: ts,h=>by unfold colO;exact colO_bd (fun d hd=>h d (List.mem_cons_of_mem _ hd))
 | (c :: r) :: ts,h=>by
  unfold colO;have h1:=(yAE (h (c :: r) (List.mem_cons_self ..))).2 c (List.mem_cons_self ..);have h2:=card_len h1.1;omega
theorem offB_parts {o:OffT} (h:offB o=true):o.trays.length=6/\o.totals.length<=20/\∀ d∈o.trays,deckB d=true/\(d=[]\/colsD d=colO o.trays):=by
 unfold offB at h;rw [Bool.and_eq_true,Bool.and_eq_true,decide_eq_true_iff,decide_eq_true_iff] at h;refine ⟨h.1.1,h.1.2,fun d hd=>?_⟩;have h1:=List.all_eq_true.1 h.2 d hd;rw [Bool.and_eq_true,Bool.or_eq_true,decide_eq_true_iff,decide_eq_true_iff] at h1;exact h1
theorem trD_at {o:OffT} {k:Int} (h:o.trays.length=6) (hk:trayP k):o.trays[k.toNat]?=some (trD o k):=by
 unfold trD;rw [List.getD_eq_getElem?_getD,zF (by unfold trayP at hk;omega)];rfl
def digM (x:Int):Prop:=∃ k:Fin 10,x=4 * 2 ^ k.val
def sgnM (r s:Int):Prop:=∃ k l:Fin 10,¬ (k.val=0/\l.val=0)/\r=4 * 2 ^ k.val/\s=bits BinOp.or IntKind.i64 (4 * 2 ^ l.val) 2
def Card13 (c:List Int):Prop:=∃ a p q r s:Int,c=[a,p,q,r,s]/\(noCh a=false/\0<=a/\a<=4095)/\digM p/\digM q/\(digM r/\digM s\/sgnM r s)
theorem dig_ok:∀ k:Fin 10,(0<=(4 * 2 ^ k.val:Int)/\(4 * 2 ^ k.val:Int)<=4095)/\noCh (4 * 2 ^ k.val)=false:=by decide +kernel
theorem sgn_ok:∀ k:Fin 10,0<=bits BinOp.or IntKind.i64 (4 * 2 ^ k.val) 2/\bits BinOp.or IntKind.i64 (4 * 2 ^ k.val) 2<=4095:=by decide +kernel
theorem num_ok:∀ a b:Fin 10,(numR [4 * 2 ^ a.val,4 * 2 ^ b.val]).2=true/\(¬ (a.val=0/\b.val=0)->(numR [4 * 2 ^ a.val,bits BinOp.or IntKind.i64 (4 * 2 ^ b.val) 2]).2=true):=by decide +kernel
theorem Card13.holes {c:List Int} (h:Card13 c):c.length=5/\∀ x∈c,0<=x/\x<=4095:=by
 obtain ⟨a,p,q,r,s,rfl,ha,⟨i,rfl⟩,⟨j,rfl⟩,hs⟩:=h;refine ⟨rfl,fun x hx=>?_⟩;simp only [List.mem_cons,List.not_mem_nil,or_false] at hx;rcases hx with rfl | rfl | rfl | rfl | rfl
 . exact ha.2
 . exact (dig_ok i).1
 . exact (dig_ok j).1
 . rcases hs with ⟨⟨k,rfl⟩,-⟩ | ⟨k,l,-,rfl,-⟩
   . exact (dig_ok k).1
   . exact (dig_ok k).1
 . rcases hs with ⟨-,⟨l,rfl⟩⟩ | ⟨k,l,-,-,rfl⟩
   . exact (dig_ok l).1
   . exact sgn_ok l
theorem Card13.chars {c:List Int} (h:Card13 c):okTx (partC c 0 1)=true/\okTx (partC c 1 2)=true/\okTx (partC c 2 3)=true:=by
 obtain ⟨a,p,q,r,s,rfl,ha,⟨i,rfl⟩,⟨j,rfl⟩,hs⟩:=h;have h1:=(dig_ok i).2;have h2:=(dig_ok j).2;have h0:=ha.1;unfold okTx partC;simp [h0,h1,h2]
theorem Card13.nums {c:List Int} (h:Card13 c):noNum 1 3 c=false/\noNum 3 5 c=false:=by
 obtain ⟨a,p,q,r,s,rfl,ha,⟨i,rfl⟩,⟨j,rfl⟩,hs⟩:=h;unfold noNum partC;refine ⟨by rw [show (([a,4 * 2 ^ i.val,4 * 2 ^ j.val,r,s]:List Int).take (3:Int).toNat).drop (1:Int).toNat=[4 * 2 ^ i.val,4 * 2 ^ j.val] from rfl,(num_ok i j).1];rfl,?_⟩;rw [show (([a,4 * 2 ^ i.val,4 * 2 ^ j.val,r,s]:List Int).take (5:Int).toNat).drop (3:Int).toNat=[r,s] from rfl];rcases hs with ⟨⟨k,rfl⟩,⟨l,rfl⟩⟩ | ⟨k,l,hn,rfl,rfl⟩
 . rw [(num_ok k l).1];rfl
 . rw [(num_ok k l).2 hn];rfl
def bitM (n:Int):Int:=4 * 2 ^ n.toNat
theorem bitM_dig {n:Int} (h:0<=n/\n<=9):digM (bitM n):=⟨⟨n.toNat,by omega⟩,rfl⟩
def putL (n:Int):List Int:=if n<0 then [bitM (-n / 10),bits BinOp.or IntKind.i64 (bitM (-n % 10)) 2] else [bitM (n / 10),bitM (n % 10)]
def PutPost (n:Int) (w:World) (e:Ending) (w':World):Prop:=(∃ (u:Value) (q:Bool),e=.returned (.tuple #[u,.bool q])/\OwnInt64S w.heap.size w' u (putL n))/\Below w.heap.size w w'
theorem l03Put2p_w (n:Int) (w:World) (hn:0<=n/\n<100) :
 Calls Tryz.prog 125 #[.int .i64 n,.int .i64 2] w fun e w'=>PutPost n w e w':=by
 obtain ⟨i0,hi,hz0,hz1,hz2⟩:=info_parts Tryz.infoInt64;have hn0:¬ n<0:=by omega
 have hput:putL n=[bitM (n / 10),bitM (n % 10)]:=if_neg hn0;have Hput:=hid hput;clear hput;obtain ⟨m,hm⟩:∃ m,m=n:=⟨_,rfl⟩;have hm2:0<=m/\m<100:=by omega
 have Hm:=hid hm;clear hm;go_enter Tryz.func125,Tryz.ntmps125;go_wp2_with (first | (at_make;refine wpList_make_full _ rfl _ _ 48 rfl w.heap.size 2 i0 (.int .i64 0) 1 Tryz.underlying48 hi hz0 hz1 _ _ _ _ 2 rfl rfl rfl rfl (by first | omega | (rw [hz2];omega)) (by unfold maxLen;omega) (zA _) ?_));intro w1 hown hgr;have hF0:OwnInt64S w.heap.size w1 (.slice (some ⟨w.heap.size,0,none⟩) 2 2) (List.replicate 2 0):=zerosI hown;have hb1:Below w.heap.size w w1:=(zB _ _).grown hgr (zA _) (fun k hk=>by cases hk);have HF0:=hid hF0;have Hb1:=hid hb1;clear hown hgr hF0 hb1;go_wp2;go_loopw [7,8] (fun xv kv wr=>∃ (x k:Int) (xs:List Int),xv=.int .i64 x/\kv=.int .i64 k/\Hid (k=1/\x=m/\xs=[0,0]\/k=0/\x=m / 10/\xs=[0,bitM (m % 10)]\/k=-1/\x=m / 10 / 10/\xs=[bitM (m / 10 % 10),bitM (m % 10)])/\OwnInt64S w.heap.size wr (.slice (some ⟨w.heap.size,0,none⟩) 2 2) xs/\Below w.heap.size w wr) (fun _ k _=>(intOf k+1).toNat)
 case atStart=>exact ⟨m,1,_,by rw [Hm.out],by first | rfl | go_num,hid (.inl ⟨rfl,rfl,rfl⟩),HF0.out,Hb1.out⟩
 case round =>
  obtain ⟨x,k,xs,rfl,rfl,Hl,hF,hb⟩:=hrel;clear HF0 Hb1;have hl2:2=xs.length:=by rcases Hl.out with ⟨-,-,rfl⟩ | ⟨-,-,rfl⟩ | ⟨-,-,rfl⟩ <;> rfl
  have hx:0<=x/\x<100:=by rcases Hl.out with ⟨-,h,-⟩ | ⟨-,h,-⟩ | ⟨-,h,-⟩ <;> omega
  have hk:-1<=k/\k<=1:=by rcases Hl.out with ⟨h,-⟩ | ⟨h,-⟩ | ⟨h,-⟩ <;> omega
  by_cases hk0:0<=k
  . obtain ⟨kk,rfl⟩:=zG hk0
    have hm0:0<=x % 10/\x % 10<=9:=by omega
    have hok:=bit_ok hm0;have hst:=Own.storeI (x:=4 * 2 ^ (x % 10).toNat) hF hl2 (k:=kk) (by omega) hok;obtain ⟨⟨y0,hc0⟩,hfz,hF2,hg2⟩:=hst;have hb2:=hb.setCell (p:=⟨w.heap.size,kk,none⟩) (zA _) (.int .i64 (4 * 2 ^ (x % 10).toNat));have Hm0:=hid hm0;have HF2:=hid hF2;have Hb2:=hid hb2;have HD:Hid ((kk:Int) - 1=1/\x / 10=m/\xs.set kk (4 * 2 ^ (x % 10).toNat)=[0,0]\/(kk:Int) - 1=0/\x / 10=m / 10/\xs.set kk (4 * 2 ^ (x % 10).toNat)=[0,bitM (m % 10)]\/(kk:Int) - 1=-1/\x / 10=m / 10 / 10/\xs.set kk (4 * 2 ^ (x % 10).toNat)=[bitM (m / 10 % 10),bitM (m % 10)]):=hid (by
     rcases Hl.out with ⟨h,rfl,rfl⟩ | ⟨h,rfl,rfl⟩ | ⟨h,-⟩
     . obtain rfl:kk=1:=by omega
       exact .inr (.inl ⟨rfl,rfl,rfl⟩)
     . obtain rfl:kk=0:=by omega
       exact .inr (.inr ⟨rfl,rfl,rfl⟩)
     . omega)
    clear hF hb hF2 hg2 hb2 hok hl2;go_wp2_with fail;with_reducible refine (l02Bit_c _ _ Hm0.out).mono ?_
    rintro e w1 ⟨rfl,rfl⟩;go_wp2;go_roundw
    case rel=>exact ⟨x / 10,(kk:Int) - 1,_,rfl,by first | rfl | go_num,HD,HF2.out,Hb2.out⟩
    case measure=>simp [intOf] <;> omega
  . have HF:Hid (OwnInt64S w.heap.size wr (.slice (some ⟨w.heap.size,0,none⟩) 2 2) [bitM (m / 10),bitM (m % 10)]):=hid (by
     rcases Hl.out with ⟨h,-⟩ | ⟨h,-⟩ | ⟨h,-,rfl⟩
     . omega
     . omega
     . rw [show m / 10=m / 10 % 10 by omega];exact hF)
    have Hb:=hid hb;clear hF hb hl2;go_wp2;go_ret2;exact ⟨⟨_,_,rfl,by rw [Hput.out,<- Hm.out];exact HF.out⟩,Hb.out⟩
theorem l03Put2n_w (n:Int) (w:World) (hn:-100<n/\n<0) :
 Calls Tryz.prog 125 #[.int .i64 n,.int .i64 2] w fun e w'=>PutPost n w e w':=by
 obtain ⟨i0,hi,hz0,hz1,hz2⟩:=info_parts Tryz.infoInt64;have hn0:n<0:=by omega
 have hwn:IntKind.i64.wrap (-n)=-n:=IntWalk.i64_in _ (by omega);have hput:putL n=[bitM (-n / 10),bits BinOp.or IntKind.i64 (bitM (-n % 10)) 2]:=if_pos hn0;have Hput:=hid hput;clear hput;obtain ⟨m,hm⟩:∃ m,m=-n:=⟨_,rfl⟩;have hm2:0<=m/\m<100:=by omega
 have Hm:=hid hm;clear hm;go_enter Tryz.func125,Tryz.ntmps125;go_wp2_with (first | (at_make;refine wpList_make_full _ rfl _ _ 48 rfl w.heap.size 2 i0 (.int .i64 0) 1 Tryz.underlying48 hi hz0 hz1 _ _ _ _ 2 rfl rfl rfl rfl (by first | omega | (rw [hz2];omega)) (by unfold maxLen;omega) (zA _) ?_));intro w1 hown hgr;have hF0:OwnInt64S w.heap.size w1 (.slice (some ⟨w.heap.size,0,none⟩) 2 2) (List.replicate 2 0):=zerosI hown;have hb1:Below w.heap.size w w1:=(zB _ _).grown hgr (zA _) (fun k hk=>by cases hk);have HF0:=hid hF0;have Hb1:=hid hb1;clear hown hgr hF0 hb1;go_wp2;go_loopw [7,8] (fun xv kv wr=>∃ (x k:Int) (xs:List Int),xv=.int .i64 x/\kv=.int .i64 k/\Hid (k=1/\x=m/\xs=[0,0]\/k=0/\x=m / 10/\xs=[0,bitM (m % 10)]\/k=-1/\x=m / 10 / 10/\xs=[bitM (m / 10 % 10),bitM (m % 10)])/\OwnInt64S w.heap.size wr (.slice (some ⟨w.heap.size,0,none⟩) 2 2) xs/\Below w.heap.size w wr) (fun _ k _=>(intOf k+1).toNat)
 case atStart=>exact ⟨m,1,_,by rw [Hm.out],by first | rfl | go_num,hid (.inl ⟨rfl,rfl,rfl⟩),HF0.out,Hb1.out⟩
 case round =>
  obtain ⟨x,k,xs,rfl,rfl,Hl,hF,hb⟩:=hrel;clear HF0 Hb1;have hl2:2=xs.length:=by rcases Hl.out with ⟨-,-,rfl⟩ | ⟨-,-,rfl⟩ | ⟨-,-,rfl⟩ <;> rfl
  have hx:0<=x/\x<100:=by rcases Hl.out with ⟨-,h,-⟩ | ⟨-,h,-⟩ | ⟨-,h,-⟩ <;> omega
  have hk:-1<=k/\k<=1:=by rcases Hl.out with ⟨h,-⟩ | ⟨h,-⟩ | ⟨h,-⟩ <;> omega
  by_cases hk0:0<=k
  . obtain ⟨kk,rfl⟩:=zG hk0
    have hm0:0<=x % 10/\x % 10<=9:=by omega
    have hok:=bit_ok hm0;have hst:=Own.storeI (x:=4 * 2 ^ (x % 10).toNat) hF hl2 (k:=kk) (by omega) hok;obtain ⟨⟨y0,hc0⟩,hfz,hF2,hg2⟩:=hst;have hb2:=hb.setCell (p:=⟨w.heap.size,kk,none⟩) (zA _) (.int .i64 (4 * 2 ^ (x % 10).toNat));have Hm0:=hid hm0;have HF2:=hid hF2;have Hb2:=hid hb2;have HD:Hid ((kk:Int) - 1=1/\x / 10=m/\xs.set kk (4 * 2 ^ (x % 10).toNat)=[0,0]\/(kk:Int) - 1=0/\x / 10=m / 10/\xs.set kk (4 * 2 ^ (x % 10).toNat)=[0,bitM (m % 10)]\/(kk:Int) - 1=-1/\x / 10=m / 10 / 10/\xs.set kk (4 * 2 ^ (x % 10).toNat)=[bitM (m / 10 % 10),bitM (m % 10)]):=hid (by
     rcases Hl.out with ⟨h,rfl,rfl⟩ | ⟨h,rfl,rfl⟩ | ⟨h,-⟩
     . obtain rfl:kk=1:=by omega
       exact .inr (.inl ⟨rfl,rfl,rfl⟩)
     . obtain rfl:kk=0:=by omega
       exact .inr (.inr ⟨rfl,rfl,rfl⟩)
     . omega)
    clear hF hb hF2 hg2 hb2 hok hl2;go_wp2_with fail;with_reducible refine (l02Bit_c _ _ Hm0.out).mono ?_
    rintro e w1 ⟨rfl,rfl⟩;go_wp2;go_roundw
    case rel=>exact ⟨x / 10,(kk:Int) - 1,_,rfl,by first | rfl | go_num,HD,HF2.out,Hb2.out⟩
    case measure=>simp [intOf] <;> omega
  . have HF:Hid (OwnInt64S w.heap.size wr (.slice (some ⟨w.heap.size,0,none⟩) 2 2) [bitM (m / 10),bitM (m % 10)]):=hid (by
     rcases Hl.out with ⟨h,-⟩ | ⟨h,-⟩ | ⟨h,-,rfl⟩
     . omega
     . omega
     . rw [show m / 10=m / 10 % 10 by omega];exact hF)
    have Hb:=hid hb;clear hF hb hl2;have ho9:eI.ok (bits BinOp.or IntKind.i64 (bitM (m % 10)) 2):=okSm (by
     obtain ⟨q,hq⟩:=bitM_dig (n:=m % 10) (by omega);rw [hq];have:=sgn_ok q;omega)
    have c1:=(Own.atI HF.out rfl (i:=1) (x:=bitM (m % 10)) rfl).1;obtain ⟨-,hfz,hF2,hg2⟩:=Own.storeI (x:=bits BinOp.or IntKind.i64 (bitM (m % 10)) 2) HF.out rfl (k:=1) (by omega) ho9;have Hb2:=hid (Hb.out.setCell (p:=⟨w.heap.size,1,none⟩) (zA _) (.int .i64 (bits BinOp.or IntKind.i64 (bitM (m % 10)) 2)));have HF2:=hid hF2;clear hF2 hg2 ho9 HF;go_wp2;go_ret2;exact ⟨⟨_,_,rfl,by rw [Hput.out,<- Hm.out];exact HF2.out⟩,Hb2.out⟩
theorem l03Put2_w (n:Int) (w:World) (hn:-100<n/\n<100):Calls Tryz.prog 125 #[.int .i64 n,.int .i64 2] w fun e w'=>PutPost n w e w':=by
 by_cases h:0<=n
 . exact l03Put2p_w n w ⟨h,hn.2⟩
 . exact l03Put2n_w n w ⟨hn.1,by omega⟩
theorem putL_dig {n:Int} (h:0<=n/\n<100):∃ a b,putL n=[a,b]/\digM a/\digM b:=⟨_,_,if_neg (by omega),bitM_dig (by omega),bitM_dig (by omega)⟩
theorem putL_any {n:Int} (h:-100<n/\n<100):∃ a b,putL n=[a,b]/\(digM a/\digM b\/sgnM a b):=by
 by_cases h0:0<=n
 . obtain ⟨a,b,e,h1,h2⟩:=putL_dig (n:=n) ⟨h0,h.2⟩
   exact ⟨a,b,e,.inl ⟨h1,h2⟩⟩
 . refine ⟨_,_,if_pos (by omega),.inr ⟨⟨(-n / 10).toNat,by omega⟩,⟨(-n % 10).toNat,by omega⟩,fun h9=>?_,rfl,rfl⟩⟩
   have:=h9.1;have:=h9.2;simp only at *
   omega
theorem goods_all {s t:ByteArray} (h:s=t) (hc:t.data.toList.all (fun c=>decide (noCh (codeI (c.toNat:Int))=false/\0<=codeI (c.toNat:Int)/\codeI (c.toNat:Int)<=4095))=true):∀ (j:Nat) (hj:j<s.size),GoodC (s[j].toNat:Int):=by
 subst h;exact good_all _ hc
def ColP (ys zs:List Int) (k:Nat) (xs:List Int):Prop:=noCh (xs.getD 0 0)=false/\(1<=k->xs.getD 1 0=ys.getD 0 0/\xs.getD 3 0=zs.getD 0 0)/\(2<=k->xs.getD 2 0=ys.getD 1 0/\xs.getD 4 0=zs.getD 1 0)
theorem five_of {xs:List Int} (h:5=xs.length):∃ a b c d e,xs=[a,b,c,d,e]:=by
 match xs,h with
 | [a,b,c,d,e],_=>exact ⟨a,b,c,d,e,rfl⟩
theorem ColP.set {ys zs xs:List Int} {k:Nat} (h:ColP ys zs k xs) (hl:5=xs.length) (hk:k<2) {i j:Nat} (hj:j=1+k) (hi:i=3+k):ColP ys zs (k+1) ((xs.set j (ys.getD k 0)).set i (zs.getD k 0)):=by
 obtain ⟨a,b,c,d,e,rfl⟩:=five_of hl;obtain ⟨h1,h2,h3⟩:=h;subst hj;subst hi;obtain rfl | rfl:k=0\/k=1:=by omega
 . exact ⟨h1,fun _=>⟨rfl,rfl⟩,fun h=>by omega⟩
 . obtain ⟨h4,h5⟩:=h2 (by omega)
   exact ⟨h1,fun _=>⟨h4,h5⟩,fun _=>⟨rfl,rfl⟩⟩
theorem ColP.fin {n m:Int} {xs:List Int} (h:ColP (putL n) (putL m) 2 xs) (hl:5=xs.length) (hok:∀ x∈xs,0<=x/\x<=4095) (hn:0<=n/\n<100) (hm:-100<m/\m<100):Card13 xs:=by
 obtain ⟨a,b,c,d,e,rfl⟩:=five_of hl;obtain ⟨h1,h2,h3⟩:=h;obtain ⟨h4,h5⟩:=h2 (by omega);obtain ⟨h6,h7⟩:=h3 (by omega);obtain ⟨p,q,e1,g1,g2⟩:=putL_dig hn;obtain ⟨r,s,e2,g3⟩:=putL_any hm;rw [e1] at h4 h6;rw [e2] at h5 h7;have i1:b=p:=h4;have i2:c=q:=h6;have i3:d=r:=h5;have i4:e=s:=h7;subst i1;subst i2;subst i3;subst i4;exact ⟨a,b,c,d,e,rfl,⟨h1,hok a (by simp)⟩,g1,g2,g3⟩
theorem putL_two (n:Int):(putL n).length=2:=by unfold putL;split <;> rfl
theorem putL_ok {n:Int} (h:-100<n/\n<100):∀ y∈putL n,0<=y/\y<=4095:=fun y hy=>by
 obtain ⟨r,s,e,g⟩:=putL_any h;rw [e] at hy;simp only [List.mem_cons,List.not_mem_nil,or_false] at hy;rcases hy with rfl | rfl
 . rcases g with ⟨⟨k,rfl⟩,-⟩ | ⟨k,l,-,rfl,-⟩
   . exact (dig_ok k).1
   . exact (dig_ok k).1
 . rcases g with ⟨-,⟨l,rfl⟩⟩ | ⟨k,l,-,-,rfl⟩
   . exact (dig_ok l).1
   . exact sgn_ok l
structure KInv (w W:World) (b N R D g c:Nat) (xs:List Int):Prop where
 src:Src W b N
 gr:w.grownBy W (some b)
 hR:Box W R [.slice none 0 0]
 hD:Box W D [.slice (some ⟨g,0,none⟩) 5 c]
 row:OwnInt64S w.heap.size W (.slice (some ⟨g,0,none⟩) 5 c) xs
 len:5=xs.length
 ok:∀ x∈xs,0<=x/\x<=4095
 bb:b<w.heap.size
 bR:w.heap.size<=R
 bD:w.heap.size<=D
 ne:g ≠ R/\g ≠ D/\R ≠ D
section
variable {w W W':World} {b N M R D g c:Nat} {xs:List Int}
theorem KInv.kept (h:KInv w W b N R D g c xs) (hs:Src W' b M) (hg:W.grownBy W' (some b)):KInv w W' b M R D g c xs:=by
 have h1:=h.bR;have h2:=h.bD;have h3:=h.bb;exact ⟨hs,yAA h.gr hg,h.hR.keptB hg (fun e=>by have:=zD e;omega),h.hD.keptB hg (fun e=>by have:=zD e;omega),h.row.keptS hg h.bb,h.len,h.ok,h.bb,h.bR,h.bD,h.ne⟩
theorem KInv.on (h:KInv w W b N R D g c xs) (hb:Below W.heap.size W W'):KInv w W' b N R D g c xs:=h.kept (h.src.kept (yAT hb none) (fun k hk=>by cases hk)) (yAT hb _)
theorem KInv.drew (h:KInv w W b N R D g c xs):KInv w W.drew b N R D g c xs:=h.on ((zB _ _).drew1)
theorem KInv.set {j:Nat} {y:Int} (h:KInv w W b N R D g c xs) (hj:j<5) (hy:0<=y/\y<=4095) :
 (∃ z,W.cell? ⟨g,j,none⟩=some z)/\W.frozen? ⟨g,j,none⟩=false/\KInv w (W.setCell ⟨g,j,none⟩ (.int .i64 y)) b N R D g c (xs.set j y):=by
 obtain ⟨⟨y0,hc0⟩,hfz,hO2,hg2⟩:=Own.storeI (x:=y) h.row h.len (k:=j) hj (okSm (by omega));have hgb:=(h.row.lt g rfl).1;have h3:=h.bb;refine ⟨⟨_,hc0⟩,hfz,h.src.kept hg2 (fun k hk=>by have:=zD hk;omega),yAW h.gr hg2 (fun k hk=>by have:=zD hk;omega),h.hR.keptB hg2 (fun e=>h.ne.1 (zD e)),h.hD.keptB hg2 (fun e=>h.ne.2.1 (zD e)),hO2,by rw [List.length_set];exact h.len,fun x hx=>?_,h.bb,h.bR,h.bD,h.ne⟩;rcases List.mem_or_eq_of_mem_set hx with h | h
 . rename_i h';exact h'.ok x h
 . rw [h];exact hy
def Col2 (W:World) (base g:Nat) (v:Value) (ys:List Int):Prop:=∃ p c,v=.slice (some ⟨p,0,none⟩) 2 c/\OwnInt64S base W v ys/\ys.length=2/\(∀ y∈ys,0<=y/\y<=4095)/\p ≠ g
theorem Col2.at {base:Nat} {v:Value} {ys:List Int} (h:Col2 W base g v ys):∃ p c,v=.slice (some ⟨p,0,none⟩) 2 c/\p ≠ g/\∀ k,k<2->W.cell? ⟨p,k,none⟩=some (.int .i64 (ys.getD k 0))/\0<=ys.getD k 0/\ys.getD k 0<=4095:=by
 obtain ⟨p,c,rfl,ho,hl,hy,hp⟩:=h;refine ⟨p,c,rfl,hp,fun k hk=>?_⟩;obtain ⟨y,e⟩:∃ y,ys[k]?=some y:=⟨_,zF (by omega)⟩;rw [List.getD_eq_getElem?_getD,e];exact ⟨(Own.atI ho hl.symm e).1,hy y (zC e)⟩
theorem Col2.grown {base:Nat} {v:Value} {ys:List Int} {row:Option Nat} (h:Col2 W base g v ys) (hg:W.grownBy W' row) (hr:∀ k,row=some k->k=g\/k<base):Col2 W' base g v ys:=by
 obtain ⟨p,c,rfl,ho,hl,hy,hp⟩:=h;refine ⟨p,c,rfl,ho.kept hg (.inr (fun e=>?_)),hl,hy,hp⟩;have h1:=(ho.lt p rfl).1;rcases hr p e.symm with h | h
 . exact hp h
 . omega
end
theorem l13Card_c {w:World} {b N:Nat} (hs:Src w b N) (hN:N<=100000) :
 Calls Tryz.prog 84 #[.pointer (some ⟨b,0,none⟩)] w fun e w'=>(∃ u xs,e=.returned (.agg #[u])/\OwnInt64S w.heap.size w' u xs/\Card13 xs)/\Src w' b (N+10)/\w.grownBy w' (some b):=by
 have hbl:=hs.lt;go_enter Tryz.func84,Tryz.ntmps84;go_upto_region 1 with fail;obtain ⟨W0,hW0⟩:∃ W0,W0=w.alloc (.cells #[.slice none 0 0] 69):=⟨_,rfl⟩;have hs0:Src W0 b N:=by rw [hW0];exact hs.alloc _
 have hR0:Box W0 w.heap.size [.slice none 0 0]:=by rw [hW0];exact Box.new w [.slice none 0 0] _
 have hg0:w.grownBy W0 (some b):=by rw [hW0];exact World.grownBy_alloc _ _ _
 rw [<- hW0];clear hW0;obtain ⟨R,hR⟩:∃ R,R=w.heap.size:=⟨_,rfl⟩;rw [<- hR] at hR0;rw [show (Value.pointer (some ⟨w.heap.size,0,none⟩))=.pointer (some ⟨R,0,none⟩) from by rw [hR]];have HR:=hid hR;clear hs hR;go_cut [3] (fun v wx=>∃ D g c xs,v=.pointer (some ⟨D,0,none⟩)/\KInv w wx b (N+2) R D g c xs/\Hid (noCh (xs.getD 0 0)=false))
 case first =>
  go_wp2_with fail;with_reducible refine (yAO 3 hs0 (by omega) (by omega)).mono ?_
  rintro e w1 ⟨⟨r,rfl,hr0,hr1,_⟩,hs1,hg1,-⟩;have hr2:=hr1 (by omega);have hr3:r=0\/r=1\/r=2:=by omega
  have hR1:=hR0.keptB hg1 (fun e=>by have:=zD e;have:=HR.out;omega);have hg1':=yAA hg0 hg1;clear hr1 hr0 hr2 hR0 hg0 hg1 hs0;rcases hr3 with rfl | rfl | rfl;all_goals
   go_wp2_with fail;generalize hS:(ByteArray.extract (ByteArray.extract ⟨#[65,66,49]⟩ _ 3) 0 1++(⟨#[48,48,48,48]⟩:ByteArray))=S;have hS5:S.size=5:=by rw [<- hS];rfl
   have hSc:∀ (j:Nat) (hj:j<S.size),GoodC (S[j].toNat:Int):=goods_all hS.symm (by decide +kernel);clear hS;with_reducible refine (l03Card_v S w1 (by omega)).mono ?_
   rintro e w2 ⟨⟨u,xs,rfl,ho,hl,hx⟩,hb2⟩;obtain ⟨g,c,hv,hg5,-⟩:=ho.addr (by omega);rw [hl,hS5] at hv;subst hv;have hgs:=ho.lt g rfl;have hsz1:=hR1.lt;have hz1:=hg1'.size;have K0:KInv w (w2.alloc (.cells #[.slice (some ⟨g,0,none⟩) 5 c] 69)) b (N+2) R w2.heap.size g c xs:=by
    have hs2:=hs1.kept (yAT hb2 none) (fun k hk=>by cases hk);have hg2:=yAA hg1' (yAT hb2 (some b));refine ⟨hs2.alloc _,yAA hg2 (World.grownBy_alloc _ _ _),(hR1.on hb2).alloc _,Box.new w2 [.slice (some ⟨g,0,none⟩) 5 c] _,(ho.alloc _).mono hz1,by rw [hl,hS5],fun x hxm=>?_,hbl,by have:=HR.out;omega,by have:=hb2.size;omega,by omega,by omega,by have:=hb2.size;omega⟩;obtain ⟨j,hj,e⟩:=hx x hxm;rw [e];exact (hSc j hj).2
   have HN:Hid (noCh (xs.getD 0 0)=false):=hid (by
    have h0:0<xs.length:=by rw [hl,hS5];omega
    obtain ⟨j,hj,e⟩:=hx xs[0] (List.getElem_mem h0);rw [List.getD_eq_getElem?_getD,zF h0];show noCh xs[0]=false
    rw [e];exact (hSc j hj).1)
   have HK:=hid K0;clear K0 ho hl hx hb2 hs1 hg1' hgs hS5 hSc;go_wp2_with fail;go_meet;exact ⟨_,_,_,_,rfl,HK.out,HN⟩
 case rest =>
  obtain ⟨D,g,c,xs,rfl,K1,HN⟩:=hcut;clear hs0 hR0 hg0;go_wp2_with fail;with_reducible refine (yAO 100 K1.src (by omega) (by omega)).mono ?_
  rintro e w3 ⟨⟨n,rfl,hn0,hn1,_⟩,hs3,hg3,-⟩;have hn2:=hn1 (by omega);have K3:=K1.kept hs3 hg3;clear K1 hs3 hg3 hn1;go_wp2_with fail;with_reducible refine (l03Put2_w n _ (by omega)).mono ?_
  rintro e w4 ⟨⟨u,q,rfl,ho⟩,hb4⟩;obtain ⟨ys,hys⟩:∃ ys,ys=putL n:=⟨_,rfl⟩;have hl:ys.length=2:=by rw [hys];exact putL_two n
  have hy:∀ y∈ys,0<=y/\y<=4095:=by rw [hys];exact putL_ok (by omega)
  rw [<- hys] at ho;have Hys:=hid hys;clear hys;have C4:Col2 w4 w.heap.size g u ys:=by
   obtain ⟨p,c',hv,h5,-⟩:=ho.addr (by omega);rw [hl] at hv;subst hv;have:=(K3.row.lt g rfl).2;exact ⟨p,c',rfl,ho.mono K3.gr.size,hl,hy,by omega⟩
  have K4:=K3.on hb4;clear K3 ho hl hy hb4;go_wp2_with fail;with_reducible refine (yAO 130 K4.src (by omega) (by omega)).mono ?_
  rintro e w5 ⟨⟨m,rfl,hm0,hm1,_⟩,hs5,hg5,-⟩;have hm2:=hm1 (by omega);have K5:=K4.kept hs5 hg5;have C5:=C4.grown hg5 (fun k hk=>.inr (by have:=zD hk;omega));clear K4 C4 hs5 hg5 hm1;go_wp2_with fail;with_reducible refine (l03Put2_w (m - 30) _ (by omega)).mono ?_
  rintro e w6 ⟨⟨u2,q2,rfl,ho⟩,hb6⟩;obtain ⟨zs,hzs⟩:∃ zs,zs=putL (m - 30):=⟨_,rfl⟩;have hl:zs.length=2:=by rw [hzs];exact putL_two _
  have hy:∀ y∈zs,0<=y/\y<=4095:=by rw [hzs];exact putL_ok (by omega)
  rw [<- hzs] at ho;have Hzs:=hid hzs;clear hzs;have D6:Col2 w6 w.heap.size g u2 zs:=by
   obtain ⟨p,c',hv,h5,-⟩:=ho.addr (by omega);rw [hl] at hv;subst hv;have:=(K5.row.lt g rfl).2;exact ⟨p,c',rfl,ho.mono K5.gr.size,hl,hy,by omega⟩
  have K6:=K5.on hb6;have C6:=C5.grown (yAT hb6 none) (fun k hk=>by cases hk);have HK:=hid K6;have HC:=hid C6;have HD:=hid D6;clear K5 C5 ho hl hy hb6 K6 C6 D6;obtain ⟨p,pc,e1,-⟩:=HC.out;subst e1;obtain ⟨p2,pc2,e2,-⟩:=HD.out;subst e2;go_wp2;go_loopw [8] (fun i wr=>∃ (k:Nat) (xs:List Int),k<=2/\i=.int .i64 k/\KInv w wr b (N+8) R D g c xs/\Hid (ColP ys zs k xs)/\Col2 wr w.heap.size g (.slice (some ⟨p,0,none⟩) 2 pc) ys/\Col2 wr w.heap.size g (.slice (some ⟨p2,0,none⟩) 2 pc2) zs) (fun i _=>2 - (intOf i).toNat)
  case atStart=>exact ⟨0,xs,by omega,rfl,⟨HK.out.src.mono (by omega),HK.out.gr,HK.out.hR,HK.out.hD,HK.out.row,HK.out.len,HK.out.ok,HK.out.bb,HK.out.bR,HK.out.bD,HK.out.ne⟩,hid ⟨HN.out,fun h=>by omega,fun h=>by omega⟩,HC.out,HD.out⟩
  case round =>
   obtain ⟨k,xs,hk,rfl,K,HP,C,D2⟩:=hrel;clear HK HC HD;by_cases hk2:k<2
   . obtain ⟨p',c',e1,hp,hat⟩:=C.at
     cases e1;obtain ⟨p2',c2',e2,hp2,hat2⟩:=D2.at
     cases e2;have hat3:=hat k hk2;obtain ⟨y,hye⟩:∃ y,y=ys.getD k 0:=⟨_,rfl⟩;rw [<- hye] at hat3;have hy:=hat3.1;have hy0:=hat3.2;obtain ⟨z,hze⟩:∃ z,z=zs.getD k 0:=⟨_,rfl⟩;have Hl5:=hid K.len;have d0:=K.hD.cell 0 _ rfl;have Hye:=hid hye;have Hze:=hid hze;have K9:=K.drew;have C9:Col2 wr.drew w.heap.size g (.slice (some ⟨p,0,none⟩) 2 pc) ys:=C.grown (grownBy_drew _ none) (fun k hk=>by cases hk);have D9:Col2 wr.drew w.heap.size g (.slice (some ⟨p2,0,none⟩) 2 pc2) zs:=D2.grown (grownBy_drew _ none) (fun k hk=>by cases hk);clear K C D2 hat hat2 hat3 hye hze;obtain ⟨j,hj⟩:∃ j,j=1+k:=⟨_,rfl⟩;have hwr:IntKind.i64.wrap (1+(k:Int))=(j:Int):=by rw [IntWalk.i64_in _ (by omega)];omega
     have hj5:j<5:=by omega
     have hji:(j:Int)<5:=by omega
     have Hj:=hid hj;clear hj;go_upto_region 7 with fail;go_still_tail 9,(by kernel_rfl);change wpList _ _ _ _ _ wr.drew;generalize wr.drew=w7 at K9 C9 D9 |-;obtain ⟨⟨q1,c1⟩,f1,K1⟩:=K9.set hj5 hy0;have hg1:w7.grownBy (w7.setCell ⟨g,j,none⟩ (.int .i64 y)) (some g):=yAS _ _ _;have C1:=C9.grown hg1 (fun k hk=>.inl (zD hk).symm);have D1:=D9.grown hg1 (fun k hk=>.inl (zD hk).symm);clear K9 C9 D9 hg1 hy d0;go_upto_region 8 with fail;clear hwr hji c1 f1;generalize w7.setCell ⟨g,j,none⟩ (.int .i64 y)=w8 at K1 C1 D1 |-;obtain ⟨xs1,hxs1⟩:∃ xs1,xs1=xs.set j y:=⟨_,rfl⟩;rw [<- hxs1] at K1;have Hxs1:=hid hxs1;clear hxs1;obtain ⟨i,hi⟩:∃ i,i=3+k:=⟨_,rfl⟩;have hwr:IntKind.i64.wrap (3+(k:Int))=(i:Int):=by rw [IntWalk.i64_in _ (by omega)];omega
     have hi5:i<5:=by omega
     have hii:(i:Int)<5:=by omega
     have Hi:=hid hi;clear hi;obtain ⟨p2',c2',e2,-,hat2⟩:=D1.at
     cases e2;have hat4:=hat2 k hk2;rw [<- Hze.out] at hat4;have hz:=hat4.1;have hz0:=hat4.2;have d0:=K1.hD.cell 0 _ rfl;have K9:=K1.drew;have C9:Col2 w8.drew w.heap.size g (.slice (some ⟨p,0,none⟩) 2 pc) ys:=C1.grown (grownBy_drew _ none) (fun k hk=>by cases hk);have D9:Col2 w8.drew w.heap.size g (.slice (some ⟨p2,0,none⟩) 2 pc2) zs:=D1.grown (grownBy_drew _ none) (fun k hk=>by cases hk);clear K1 C1 D1 hat2 hat4;go_still_tail 9,(by kernel_rfl);change wpList _ _ _ _ _ w8.drew;generalize w8.drew=w9 at K9 C9 D9 |-;obtain ⟨⟨q1,c1⟩,f1,K1⟩:=K9.set hi5 hz0;have hg1:w9.grownBy (w9.setCell ⟨g,i,none⟩ (.int .i64 z)) (some g):=yAS _ _ _;have HK:=hid K1;have HC:=hid (C9.grown hg1 (fun k hk=>.inl (zD hk).symm));have HD:=hid (D9.grown hg1 (fun k hk=>.inl (zD hk).symm));clear K9 C9 D9 hg1 hz d0 K1;go_wp2;go_roundw
     case rel=>exact ⟨k+1,_,by omega,by go_num,HK.out,hid (by rw [Hxs1.out,Hye.out,Hze.out];exact HP.out.set Hl5.out hk2 Hj.out Hi.out),HC.out,HD.out⟩
     case measure=>simp [intOf];omega
   . have r0:=K.hR.cell 0 _ rfl
     have s0:=K.hR.free 0;have d0:=K.hD.cell 0 _ rfl;have hF:FinP w wr b (N+8):=⟨K.src,K.gr⟩;have hF2:=hid (hF.set (R:=R) (j:=0) (v:=.slice (some ⟨g,0,none⟩) 5 c) K.bb K.bR);have HO:=hid (K.row.kept (yAS wr ⟨R,0,none⟩ (.slice (some ⟨g,0,none⟩) 5 c)) (.inr (fun e=>K.ne.1 (zD e))));obtain rfl:k=2:=by omega
     have HX:Hid (Card13 xs):=hid (by
      have h9:=HP.out;rw [Hys.out,Hzs.out] at h9;exact h9.fin K.len K.ok (by omega) (by omega))
     clear K C D2 hF;go_wp2;exact bodyPost_ret (v:=.agg #[.slice (some ⟨g,0,none⟩) 5 c]) (by simp [results,Tryz.results84,go_sem,r0]) rfl ⟨⟨_,xs,rfl,HO.out,HX.out⟩,hF2.out.more (by omega)⟩
def Deck13 (d:List (List Int)):Prop:=d.length<=8/\∀ c∈d,Card13 c
theorem Deck13.ok {d:List (List Int)} (h:Deck13 d):deckB d=true:=by
 unfold deckB;rw [Bool.and_eq_true,List.all_eq_true];refine ⟨fun c hc=>?_,decide_eq_true (by have:=h.1;omega)⟩;have h0:(d.headD []).length=5:=by
  cases d with
  | nil=>cases hc
  | cons y ys=>exact (h.2 y (by simp)).holes.1
 obtain ⟨h1,h2⟩:=(h.2 c hc).holes;unfold okAt cardB;rw [h0,h1];simp only [decide_true,Bool.and_true,Bool.and_eq_true,Bool.not_eq_true'];refine ⟨decide_eq_true (by omega),?_⟩;rw [List.any_eq_false];intro x hx;unfold badHole;rw [decide_eq_true (h2 x hx)];simp
theorem l13Deck_c {w:World} {b N:Nat} (hs:Src w b N) (hN:N<=10000) :
 Calls Tryz.prog 41 #[.pointer (some ⟨b,0,none⟩),.int .i64 8] w fun e w'=>(∃ u d,e=.returned u/\OwnCardS w.heap.size w' u d/\Deck13 d)/\Src w' b (N+200)/\w.grownBy w' (some b):=by
 obtain ⟨i0,hi,hz0,hz1,hz2⟩:=info_parts Tryz.infoCard;have hbl:=hs.lt;have hlit:Own eS 69 w.heap.size (w.alloc (.cells #[] 69)) (.slice (some ⟨w.heap.size,0,none⟩) 0 0) []:=Own.lit (E:=eS) (xs:=[]) (cs:=#[]) (zA _) rfl rfl (by decide) (fun x hx=>by cases hx);go_enter Tryz.func41,Tryz.ntmps41;go_wp2_with fail;refine (yAO 9 (hs.alloc _) (by omega) (by omega)).mono ?_;rintro e w4 ⟨⟨p,rfl,hp0,hp1,_⟩,hs4,hg4,hz4⟩;have hp2:=hp1 (by omega);have hB4:BldG eI 2 69 w.heap.size w.heap.size w4.heap.size w4 (.slice (some ⟨w.heap.size,0,none⟩) 0 0) ([]:List (List Int)):=BldG.empty (B:=w.heap.size) rfl (hlit.keptS hg4 hbl) (by rw [hz4];simp);have hg4':=yAA (World.grownBy_alloc _ _ _) hg4;clear hp1 hz4 hg4 hlit hs;go_wp2;go_loopw [5,6] (fun v k wr=>∃ (kk:Int) (xss:List (List Int)),0<=kk/\kk+xss.length<=8/\k=.int .i64 kk/\BldG eI 2 69 w.heap.size w.heap.size wr.heap.size wr v xss/\Hid (∀ c∈xss,Card13 c)/\Src wr b (N+2+20 * xss.length)/\w.grownBy wr (some b)) (fun _ k _=>(intOf k).toNat)
 case atStart=>exact ⟨p,[],by omega,by simp;omega,rfl,hB4,hid (fun c hc=>by cases hc),hs4.mono (by (try simp) <;> omega),hg4'⟩
 case round =>
  obtain ⟨kk,xss,hk0,hkj,rfl,hB,HV,hsr,hgr⟩:=hrel;clear hB4 hs4 hg4';have hsz:w.heap.size<=wr.heap.size:=hgr.size;by_cases hk:0<kk
  . obtain ⟨vo,vc,hv⟩:=hB.shape
    subst hv;go_wp2_with fail;refine (l13Card_c hsr (by omega)).mono ?_;rintro e w5 ⟨⟨u,xs,rfl,hR,hxv⟩,hs5,hg5⟩;have hlx:=hxv.holes.1;have hB5:=hB.keepS hg5 hbl hbl;have hgr5:=yAA hgr hg5;have hsz5:=hg5.size;obtain ⟨hs',xh,hval,hokx,hlen,hO,hfn⟩:=hB5.app hR (by omega) hsz5;obtain ⟨rao,rcap,hsh⟩:=hR.shape;subst hsh;have hcells:(#[.slice rao xs.length rcap]:Array Value)=(eS.cells xh).toArray:=by rw [<- hval];rfl
    have HO:=hid hO;have Hfn:=hid hfn;have Hlen:=hid hlen;have Hcells:=hid hcells;have hl0:=HO.out.lt;have Hl0:=hid hl0;have Hxl:Hid (xss.length<=8):=hid (by omega);have hszr:w.heap.size<=w5.heap.size:=hgr5.size;have HV5:Hid (∀ c∈xss++[xs],Card13 c):=hid (fun c hc=>(List.mem_append.1 hc).elim (HV.out c) (fun h=>by rw [List.mem_singleton.1 h];exact hxv));clear hR hB hB5 hval hlen hO hfn hcells hl0 hlx hxv hg5 hsr hgr hsz5;go_wp2_with (first | (at_builtin;refine yAB (E:=eS) rfl _ _ 24 rfl Tryz.underlying24 hi hz0 hz1 hz2 rfl (by decide) rfl rfl (HO.out.alloc _) (yAH (E:=eS) (x:=xh) hokx Hcells.out) ?b1 ?b2 ?b3 ?_))
    case b1=>rw [Hlen.out];have:=Hxl.out;unfold maxLen;simp;omega
    case b2=>rw [Hlen.out];have:=Hxl.out;simp;omega
    case b3=>simp;omega
    intro v' w6 hO6 hg6;have hg6':=hg6.alloc;have hB6:=Hfn.out w6 v' hO6 hg6';have hs6:=hs5.kept hg6'.1 (fun q hq=>by have:=(Hl0.out q hq).1;omega);have hgr6:=yAW hgr5 hg6'.1 (fun q hq=>(Hl0.out q hq).1);have HB6:=hid hB6;clear hO6 hg6 hg6' hB6 hs5 hgr5;go_wp2;go_roundw
    case rel=>exact ⟨kk - 1,_,by omega,by simp;omega,by go_num,HB6.out,HV5,hs6.mono (by simp;omega),hgr6⟩
    case measure=>simp [intOf];omega
  . have hM:=hB.toM (zA _)
    have hl2:xss.length<=8:=by omega
    clear hB;go_wp2;go_ret;exact ⟨⟨_,rfl,xss,hM,hl2,HV.out⟩,hsr.mono (by omega),hgr⟩
def Drawn13 (base:Nat) (e:Ending) (w':World):Prop:=∃ u d,e=.returned u/\OwnCardS base w' u d/\Deck13 d
theorem A2Cards_c {w:World} {A:Nat} {v:Value} {xs:List Int} (ha:Rds eB A w v xs) (hA:A<=w.heap.size) :
 Calls Tryz.prog 12 #[v] w fun e w'=>Drawn13 w.heap.size e w'/\Below w.heap.size w w':=by
 have Ha:=hid ha;obtain ⟨ao,cap,rfl⟩:=ha.shape;clear ha;go_enter Tryz.func12,Tryz.ntmps12;go_wp2_with fail;refine (l00From_any Ha.out hA).mono ?_;rintro e w1 ⟨rfl,hs1,hb1⟩;have hz1:w.heap.size<w1.heap.size:=hs1.lt;have Hb1:=hid hb1;clear hb1;go_wp2_with fail;with_reducible refine (l13Deck_c hs1 (by omega)).mono ?_
 rintro e w3 ⟨⟨u,d,rfl,hd,hC⟩,hs3,hg3⟩;have HD:=hid (OwnTM.low hd (show w.heap.size<=w1.heap.size by omega));have Hb3:=hid (grown_below Hb1.out hg3 (zA _) (by omega));have HC:=hid hC;clear hd hC hs3 hg3;go_wp2;go_ret;exact ⟨⟨_,_,rfl,HD.out,HC.out⟩,Hb3.out⟩
end Go.Proofs.YtmindpfmgnnieaaGreatDoor
