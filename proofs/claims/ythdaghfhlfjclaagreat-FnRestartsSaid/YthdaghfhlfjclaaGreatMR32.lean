/- Lemmas on the way to the law FnRestarts. No condition. -/
import Derived.Test.YthdaghfhlfjclaaGreatMR27
import Derived.Test.YthdaghfhlfjclaaGreatMR8
import Derived.Test.YthdaghfhlfjclaaGreatMR29
import Derived.Test.YthdaghfhlfjclaaGreatMR7
import Derived.Test.YthdaghfhlfjclaaGreatMR28
import Derived.Test.YthdaghfhlfjclaaGreatMR15
import Derived.Test.YthdaghfhlfjclaaGreatMR12
import Derived.Test.YthdaghfhlfjclaaGreatMR13
import Derived.Test.YthdaghfhlfjclaaGreatMR31
import Derived.Test.YthdaghfhlfjclaaGreatMR22
import Derived.Test.YthdaghfhlfjclaaGreatMR5
namespace Go.Proofs.YthdaghfhlfjclaaGreat
set_option maxHeartbeats 2000000
set_option linter.unusedSimpArgs false
open Lib (hid)
open Go.ChangeShapes Go.WideShapes Go.ChangeAt Go.RowKit Go.Sort
set_option linter.unusedVariables false
set_option maxRecDepth 100000
def cds (s:ByteArray):List Int:=(bytesI s).map codeI
theorem cds_len (s:ByteArray):(cds s).length=s.size:=by unfold cds;rw [List.length_map,bytesI_length]
theorem cds_at {s:ByteArray} {k:Nat} (h:k<s.size):(cds s)[k]?=some (codeI (s[k].toNat:Int)):=by unfold cds;rw [List.getElem?_map,bytesI_at s k h];rfl
theorem ch_isN:∀ n:Fin 256,chI (n.val:Int)=true->∃ k:Fin 40,(n.val:Int)=chA k.val:=by decide +kernel
theorem ch_is {b:UInt8} (h:chI (b.toNat:Int)=true):∃ k:Nat,k<40/\(b.toNat:Int)=chA k:=by
 obtain ⟨k,hk⟩:=ch_isN ⟨b.toNat,b.toNat_lt⟩ h;exact ⟨k.val,k.isLt,hk⟩
theorem chS_at {s:ByteArray} {k:Nat} (hs:chS s=true) (h:k<s.size):chI (s[k].toNat:Int)=true:=by
 unfold chS at hs;exact List.all_eq_true.1 hs _ (zC (bytesI_at s k h))
theorem run_fldC (a:Option Addr) (n c:Nat) (W:World):(Instr.field 88 (.agg #[.slice a n c]) 0).run Tryz.prog W=.ok (.slice a n c) W:=by kernel_rfl
theorem codeI_bd (b:UInt8) (h:chI (b.toNat:Int)=true):eI.ok (codeI (b.toNat:Int)):=by
 have h1:∀ n:Fin 256,-9223372036854775808<=codeI (n.val:Int)/\codeI (n.val:Int)<=9223372036854775807:=by decide +kernel
 exact h1 ⟨b.toNat,b.toNat_lt⟩
theorem zerosS {e:TypeId} {base m cap g:Nat} {w:World} (h:w.ownsRow base e 1 (.slice (some ⟨g,0,none⟩) m cap) m (madeCells #[.int .i64 0] m).toList):Own eI e base w (.slice (some ⟨g,0,none⟩) m cap) (List.replicate m 0):=by
 rw [toList_madeCells_one] at h;refine Own.ofInts ?_ ?_
 . rw [List.map_replicate,List.length_replicate];exact h
 . intro x hx
   have:=List.eq_of_mem_replicate hx;subst this;show -9223372036854775808<=(0:Int)/\(0:Int)<=9223372036854775807
   omega
theorem codeOf_b {b:UInt8} (w:World) (h:chI (b.toNat:Int)=true):Calls Tryz.prog 227 #[.int .u8 (b.toNat:Int)] w fun e w'=>e=.returned (.int .i64 (codeI (b.toNat:Int)))/\w=w':=by
 obtain ⟨k,hk,e⟩:=ch_is h;rw [e];exact codeOf_c k w hk
theorem blank_c (n:Nat) (w:World) (hn:1<=n/\n<=1000):Calls Tryz.prog 235 #[.int .i64 (n:Int)] w fun e w'=>(∃ g,e=.returned (.agg #[.slice (some ⟨g,0,none⟩) n n])/\OwnInt64S w.heap.size w' (.slice (some ⟨g,0,none⟩) n n) (List.replicate n 0)/\g ≠ w.heap.size)/\Below w.heap.size w w':=by
 obtain ⟨i0,hi,hz0,hz1,hz2⟩:=info_parts Tryz.infoInt64;obtain ⟨T,hT⟩:∃ T,T=w.alloc (.cells #[.slice none 0 0] 88):=⟨_,rfl⟩;have hbT:Below w.heap.size w T:=by rw [hT];exact (zB _ _).alloc (zA _) _
 have hBT:Box T w.heap.size [.slice none 0 0]:=by rw [hT];exact Box.new w [.slice none 0 0] _
 have hTz:T.heap.size=w.heap.size+1:=by rw [hT];simp
 have HT:=hid hT;have HbT:=hid hbT;have HBT:=hid hBT;have HTz:=hid hTz;clear hT hbT hBT hTz;go_enter Tryz.func235,Tryz.ntmps235;go_upto_region 1 with fail;rw [<- HT.out];go_wp2_with (first | (at_make;refine wpList_make_full _ rfl _ _ 29 rfl T.heap.size 2 i0 (.int .i64 0) 1 Tryz.underlying29 hi hz0 hz1 _ _ _ _ n rfl rfl (by omega) (by omega) ?b1 ?b2 (zA _) ?_))
 case b1=>first | omega | (rw [hz2];omega)
 case b2=>unfold maxLen;omega
 intro w4 hown4 hg4;have hu:=zerosS hown4;have hz4:=hg4.size;have hB4:Box w4 w.heap.size [.slice none 0 0]:=HBT.out.on ((zB _ _).grown hg4 (zA _) (fun k hk=>by cases hk));have r0:=hB4.cell 0 _ rfl;have r1:=hB4.free 0;have hgl:=(hu.lt T.heap.size rfl);have HU:Hid (OwnInt64S w.heap.size (w4.setCell ⟨w.heap.size,0,none⟩ (.slice (some ⟨T.heap.size,0,none⟩) n n)) (.slice (some ⟨T.heap.size,0,none⟩) n n) (List.replicate n 0)):=hid ((hu.mono HbT.out.size).kept (yBS _ _ _) (.inr (fun e=>by have h9:=zD e;have:=HTz.out;simp only at h9;omega)));have HB:Hid (Below w.heap.size w (w4.setCell ⟨w.heap.size,0,none⟩ (.slice (some ⟨T.heap.size,0,none⟩) n n))):=hid ((HbT.out.grown hg4 HbT.out.size (fun k hk=>by cases hk)).setCell (by show w.heap.size<=w.heap.size;omega) _);have HG:Hid (T.heap.size ≠ w.heap.size):=hid (by have:=HTz.out;omega);clear hu hown4 hg4 hB4 hz4 hgl;go_wp2;exact bodyPost_ret (v:=.agg #[.slice (some ⟨T.heap.size,0,none⟩) n n]) (by simp [results,Tryz.results235,go_sem,r0]) rfl ⟨⟨_,rfl,HU.out,HG.out⟩,HB.out⟩
theorem punchText_c {s:ByteArray} (w:World) (hs:1<=s.size/\s.size<=1000) (hc:chS s=true):Calls Tryz.prog 230 #[.string s,.int .i64 (s.size:Int)] w fun e w'=>(∃ g,e=.returned (.agg #[.slice (some ⟨g,0,none⟩) s.size s.size])/\RdI w'.heap.size w' (.slice (some ⟨g,0,none⟩) s.size s.size) (cds s))/\Below w.heap.size w w':=by
 obtain ⟨n,hn⟩:∃ n,n=s.size:=⟨_,rfl⟩;obtain ⟨T,hT⟩:∃ T,T=w.alloc (.cells #[.slice none 0 0] 88):=⟨_,rfl⟩;have hbT:Below w.heap.size w T:=by rw [hT];exact (zB _ _).alloc (zA _) _
 have hBT:Box T w.heap.size [.slice none 0 0]:=by rw [hT];exact Box.new w [.slice none 0 0] _
 have hTz:T.heap.size=w.heap.size+1:=by rw [hT];simp
 rw [<- hn] at hs |-;have hbl:=blank_c n T (by omega);have Hbl:=hid hbl;have HT:=hid hT;have HbT:=hid hbT;have HBT:=hid hBT;have HTz:=hid hTz;have Hn:=hid hn;have Hc:=hid hc;clear hT hbT hBT hTz hbl hn hc;go_enter Tryz.func230,Tryz.ntmps230;go_upto_region 1 with fail;rw [<- HT.out];go_wp2_with fail;with_reducible refine Hbl.out.mono ?_
 rintro e w1 ⟨⟨g,rfl,hO,hgn⟩,hb1⟩;obtain ⟨W,hW⟩:∃ W,W=w1.alloc (.cells #[.slice (some ⟨g,0,none⟩) n n] 88):=⟨_,rfl⟩;have hbW:Below w1.heap.size w1 W:=by rw [hW];exact (zB _ _).alloc (zA _) _
 have hX:Box W w1.heap.size [.slice (some ⟨g,0,none⟩) n n]:=by rw [hW];exact Box.new w1 [.slice (some ⟨g,0,none⟩) n n] _
 have hOW:=hO.below hbW (zA _);have hglt:=hO.lt g rfl;have hR1:=(HBT.out.on hb1).on hbW;have hbA:Below w.heap.size w W:=HbT.out.trans ((hb1.trans (hbW.mono hb1.size)).mono HbT.out.size);have hb1z:=hb1.size;have g1:T.heap.size<=g:=hglt.1;have g2:g<w1.heap.size:=hglt.2;have HOW:Hid (∃ L,OwnInt64S T.heap.size W (.slice (some ⟨g,0,none⟩) n n) L/\L.length=n/\L.take 0=(cds s).take 0):=hid ⟨_,hOW,List.length_replicate,rfl⟩;have HX:=hid hX;have HW:=hid hW;have HR1:=hid hR1;have HbA:=hid hbA;clear hO hgn hb1 hW hbW hX hOW hR1 hbA hglt;go_upto_region 2 with fail;rw [<- HW.out];go_wp2;go_loopw [6] (fun iv wr=>∃ k:Nat,k<=n/\iv=.int .i64 k/\Hid (∃ L,OwnInt64S T.heap.size wr (.slice (some ⟨g,0,none⟩) n n) L/\L.length=n/\L.take k=(cds s).take k)/\Hid (Box wr w1.heap.size [.slice (some ⟨g,0,none⟩) n n])/\Hid (Box wr w.heap.size [.slice none 0 0])/\Hid (Below w.heap.size w wr)) (fun i _=>n - (intOf i).toNat)
 case atStart=>exact ⟨0,zK _,rfl,HOW,HX,HR1,HbA⟩
 case round =>
  obtain ⟨k,hk,rfl,HO,HXr,HRr,Hb⟩:=hrel;clear HOW HX HR1 HbA;by_cases hkn:k<n
  . have hkn2:k<s.size:=by have:=Hn.out;omega
    have hks:(k:Int)<(s.size:Int):=by omega
    have hch:=chS_at Hc.out hkn2;have x0:=HXr.out.cell 0 _ rfl;obtain ⟨L,hO,hL,hLk⟩:=HO.out;obtain ⟨⟨y,hy⟩,hf,hO2,hg2⟩:=Own.storeI (x:=codeI (s[k].toNat:Int)) hO hL.symm hkn (codeI_bd _ hch);have HO2:Hid (∃ L,OwnInt64S T.heap.size (wr.setCell ⟨g,k,none⟩ (.int .i64 (codeI (s[k].toNat:Int)))) (.slice (some ⟨g,0,none⟩) n n) L/\L.length=n/\L.take (k+1)=(cds s).take (k+1)):=hid ⟨_,hO2,by rw [List.length_set];exact hL,by
     rw [yAE (cds_at hkn2),List.take_add_one,List.take_set_of_le (zA k),List.getElem?_set_self (by omega),hLk];rfl⟩
    have HX2:Hid (Box (wr.setCell ⟨g,k,none⟩ (.int .i64 (codeI (s[k].toNat:Int)))) w1.heap.size [.slice (some ⟨g,0,none⟩) n n]):=hid (HXr.out.other (by show g ≠ w1.heap.size;omega) _);have HR2:Hid (Box (wr.setCell ⟨g,k,none⟩ (.int .i64 (codeI (s[k].toNat:Int)))) w.heap.size [.slice none 0 0]):=hid (HRr.out.other (by show g ≠ w.heap.size;have:=HTz.out;omega) _);have HB2:Hid (Below w.heap.size w (wr.setCell ⟨g,k,none⟩ (.int .i64 (codeI (s[k].toNat:Int))))):=hid (Hb.out.setCell (by show w.heap.size<=g;have:=HTz.out;omega) _);have Hcb:=hid (fun w=>codeOf_b w hch);clear hO hL hLk hO2 hg2 hch HO HXr HRr Hb;go_wp2;go_region_law (go_simp;go_at_call 227;with_reducible refine (Hcb.out _).mono ?_;rintro e w9 ⟨rfl,rfl⟩)
    all_goals
     obtain ⟨W9,hW9⟩:∃ W9,W9=(wr.setCell ⟨g,k,none⟩ (.int .i64 (codeI (s[k].toNat:Int)))).drew:=⟨_,rfl⟩;have HO9:Hid (∃ L,OwnInt64S T.heap.size W9 (.slice (some ⟨g,0,none⟩) n n) L/\L.length=n/\L.take (k+1)=(cds s).take (k+1)):=hid (by rw [hW9];exact HO2.out);have HX9:Hid (Box W9 w1.heap.size [.slice (some ⟨g,0,none⟩) n n]):=hid (by rw [hW9];exact HX2.out.drew1);have HR9:Hid (Box W9 w.heap.size [.slice none 0 0]):=hid (by rw [hW9];exact HR2.out.drew1);have HB9:Hid (Below w.heap.size w W9):=hid (by rw [hW9];exact HB2.out.drewNy 1);rw [<- hW9];clear hW9 HO2 HX2 HR2 HB2 x0 hy hf;go_wp2;go_roundw
     case rel=>exact ⟨k+1,by omega,by go_num,HO9,HX9,HR9,HB9⟩
     case measure=>simp [intOf];omega
  . obtain rfl:k=n:=by omega
    have hks:¬ (k:Int)<(s.size:Int):=by have:=Hn.out;omega
    obtain ⟨L,hO,hL,hLk⟩:=HO.out;have hLe:L=cds s:=by rw [zH (by omega),zH (by rw [cds_len];have:=Hn.out;omega)] at hLk;exact hLk
    subst hLe;have x0:=HXr.out.cell 0 _ rfl;have r0:=HRr.out.cell 0 _ rfl;have r1:=HRr.out.free 0;have hO9:=hO.kept (yBS wr ⟨w.heap.size,0,none⟩ (.slice (some ⟨g,0,none⟩) k k)) (.inr (fun e=>by have h9:=zD e;simp only at h9;have:=HTz.out;omega));have HO9:=hid hO9.rds;have HB9:Hid (Below w.heap.size w (wr.setCell ⟨w.heap.size,0,none⟩ (.slice (some ⟨g,0,none⟩) k k))):=hid (Hb.out.setCell (by show w.heap.size<=w.heap.size;omega) _);clear hO hO9 hL hLk HO HXr HRr Hb;go_wp2;exact bodyPost_ret (v:=.agg #[.slice (some ⟨g,0,none⟩) k k]) (by simp [results,Tryz.results230,go_sem,r0]) rfl ⟨⟨_,rfl,HO9.out⟩,HB9.out⟩
theorem compareText_c {c:List Int} {s:ByteArray} {b off n cap:Nat} {W0:World} {A:Nat} (x y:Int) (hx:0<=x) (hxy:x<y) (hy:y<=n) (ha:RdI A W0 (.slice (some ⟨b,off,none⟩) n cap) c) (hs:(s.size:Int)=y - x) (hs2:s.size<=1000) (hc:chS s=true) :
 Calls Tryz.prog 218 #[.agg #[.slice (some ⟨b,off,none⟩) n cap],.agg #[.int .i64 x,.int .i64 y],.string s] W0 fun e' W0'=>e'=.returned (.int .i64 (cmpN (rks (partC c x y)) (rks (cds s))))/\Below W0.heap.size W0 W0':=by
 obtain ⟨lo,rfl⟩:=zG hx;obtain ⟨hi,rfl⟩:=zG (show 0<=y by omega);obtain ⟨W,hW⟩:∃ W,W=(W0.alloc (.cells #[.slice (some ⟨b,off,none⟩) n cap] 88)).alloc (.cells #[.int .i64 lo,.int .i64 hi] 73):=⟨_,rfl⟩;have z1:(W0.alloc (.cells #[.slice (some ⟨b,off,none⟩) n cap] 88)).heap.size=W0.heap.size+1:=by simp
 have hP:Box W W0.heap.size [.slice (some ⟨b,off,none⟩) n cap]:=by rw [hW];exact (Box.new W0 [.slice (some ⟨b,off,none⟩) n cap] _).alloc _
 have hQ:Box W (W0.heap.size+1) [.int .i64 lo,.int .i64 hi]:=by
  have h:=Box.new (W0.alloc (.cells #[.slice (some ⟨b,off,none⟩) n cap] 88)) [.int .i64 lo,.int .i64 hi] 73;rw [z1,<- hW] at h;exact h
 have hb0:Below W0.heap.size W0 W:=by rw [hW];exact ((zB _ _).alloc (zA _) _).alloc (by rw [z1];omega) _
 have ca:=Rds.cap ha;have ca2:=ca.2.2 (by omega);have ha1:=Rds.onn ha hb0;obtain ⟨N,hN⟩:∃ N,N=s.size:=⟨_,rfl⟩;have hNl:N=hi - lo:=by omega
 have hpc:(partC c (lo:Int) (hi:Int)).length=(cds s).length:=by rw [yAP hx hxy (by omega),cds_len];simp only [zR];omega
 obtain ⟨R,hRR⟩:∃ R,cmpN (rks (partC c (lo:Int) (hi:Int))) (rks (cds s))=R:=⟨_,rfl⟩;rw [hRR];have HP:Hid (∀ w:World,Calls Tryz.prog 230 #[.string s,.int .i64 (N:Int)] w fun e w'=>(∃ g,e=.returned (.agg #[.slice (some ⟨g,0,none⟩) N N])/\RdI w'.heap.size w' (.slice (some ⟨g,0,none⟩) N N) (cds s))/\Below w.heap.size w w'):=hid (fun w=>by have h:=punchText_c (s:=s) w (by omega) hc;rw [<- hN] at h;exact h);have HCm:Hid (∀ (w:World) (v:Value),Below W.heap.size W w->RdI w.heap.size w v (cds s)->Calls Tryz.prog 226 #[.slice (some ⟨b,off+lo,none⟩) (hi - lo) (cap - lo),v] w fun e' w'=>e'=.returned (.int .i64 R)/\Below w.heap.size w w'):=hid (fun w v hb hr=>by
  have h:=compareHoles_c (w:=w) (Rds.part (Rds.onn ha1 hb) hx hxy hy) hr hpc;rw [hRR] at h;simp only [zR] at h;exact h.mono (fun e w' h=>⟨h.1,by obtain ⟨m,rfl⟩:=h.2;exact (zB _ _).drewNy m⟩))
 have c0:=hP.cell 0 _ rfl;have c1:=hQ.cell 0 _ rfl;have c2:=hQ.cell 1 _ rfl;have Hb0:=hid hb0;have HW:=hid hW;have q1:lo<hi:=by omega
 have q2:hi<=n:=by omega
 have q4:hi<=cap:=by omega
 have q6:¬ cap=lo:=by omega
 have q8:lo<=hi:=by omega
 have q9:(hi:Int) - (lo:Int)=(N:Int):=by omega
 have q10:IntKind.i64.wrap ((hi:Int) - (lo:Int))=(N:Int):=by rw [q9];exact IntWalk.i64_in _ (by omega)
 clear hP hQ hb0 hW ha ha1 hRR ca hs hc hpc hNl z1 hN q9;go_enter Tryz.func218,Tryz.ntmps218;go_upto_region 1 with fail;rw [<- HW.out];refine yBU (fun i v w=>match i with | 0=>v=.pointer (some ⟨W0.heap.size,0,none⟩) | 1=>v=.slice (some ⟨b,off,none⟩) n cap | 2=>v=.pointer (some ⟨W0.heap.size+1,0,none⟩) | 3=>v=.int .i64 (lo:Int) | 4=>v=.pointer (some ⟨W0.heap.size+1,1,none⟩) | 5=>v=.int .i64 (hi:Int) | 6=>v=.slice (some ⟨b,off+lo,none⟩) (hi - lo) (cap - lo) | 7=>v=.string s | 8=>v=.pointer (some ⟨W0.heap.size+1,1,none⟩) | 9=>v=.int .i64 (hi:Int) | 10=>v=.pointer (some ⟨W0.heap.size+1,0,none⟩) | 11=>v=.int .i64 (lo:Int) | 12=>v=.int .i64 (N:Int) | 13=>∃ g,v=.agg #[.slice (some ⟨g,0,none⟩) N N]/\RdI w.heap.size w (.slice (some ⟨g,0,none⟩) N N) (cds s) | 14=>RdI w.heap.size w v (cds s) | 15=>v=.int .i64 R | 16=>v=.int .i64 R | _=>True) (by kernel_rfl) (by kernel_rfl) (by kernel_rfl) ?_ ?_ ?_
 . intro i v w w' h hb
   iterate 17 (obtain _ | i:=i;· first | exact h | (obtain ⟨g,h1,h2⟩:=h;exact ⟨g,h1,Rds.onn h2 hb⟩) | exact Rds.onn h hb)
   exact h
 . intro vs hvs
   match vs,hvs with
   | [v0,v1,v2,v3,v4,v5,v6,v7,v8,v9,v10,v11,v12,v13,v14,v15,v16],_ =>
    refine ⟨?_,?_,?_,?_,?_,?_,?_,?_,?_,?_,?_,?_,?_,?_,?_,?_,?_,trivial⟩
    . intro wr hC hd
      clear hd;unfold relAt;simp only [putAll];go_simp;simp only [relUpon];exact ⟨zB _ _,by first | rfl | trivial⟩
    . intro wr hC hd
      have d0:v0=.pointer (some ⟨W0.heap.size,0,none⟩):=yAC 0 (by kernel_rfl) hd;subst d0;clear hd;have e:=(hC.cell (p:=⟨W0.heap.size,0,none⟩) (World.block_lt_of_cell? _ _ c0)).trans c0;unfold relAt;simp only [putAll];go_simp;simp only [relUpon];exact ⟨zB _ _,by first | rfl | trivial⟩
    . intro wr hC hd
      clear hd;unfold relAt;simp only [putAll];go_simp;simp only [relUpon];exact ⟨zB _ _,by first | rfl | trivial⟩
    . intro wr hC hd
      have d2:v2=.pointer (some ⟨W0.heap.size+1,0,none⟩):=yAC 2 (by kernel_rfl) hd;subst d2;clear hd;have e:=(hC.cell (p:=⟨W0.heap.size+1,0,none⟩) (World.block_lt_of_cell? _ _ c1)).trans c1;unfold relAt;simp only [putAll];go_simp;simp only [relUpon];exact ⟨zB _ _,by first | rfl | trivial⟩
    . intro wr hC hd
      clear hd;unfold relAt;simp only [putAll];go_simp;simp only [relUpon];exact ⟨zB _ _,by first | rfl | trivial⟩
    . intro wr hC hd
      have d4:v4=.pointer (some ⟨W0.heap.size+1,1,none⟩):=yAC 4 (by kernel_rfl) hd;subst d4;clear hd;have e:=(hC.cell (p:=⟨W0.heap.size+1,1,none⟩) (World.block_lt_of_cell? _ _ c2)).trans c2;unfold relAt;simp only [putAll];go_simp;simp only [relUpon];exact ⟨zB _ _,by first | rfl | trivial⟩
    . intro wr hC hd
      have d1:v1=.slice (some ⟨b,off,none⟩) n cap:=yAC 1 (by kernel_rfl) hd;subst d1;have d3:v3=.int .i64 (lo:Int):=yAC 3 (by kernel_rfl) hd;subst d3;have d5:v5=.int .i64 (hi:Int):=yAC 5 (by kernel_rfl) hd;subst d5;clear hd;unfold relAt;simp only [putAll];go_simp;simp only [relUpon];exact ⟨zB _ _,by first | rfl | trivial⟩
    . intro wr hC hd
      clear hd;unfold relAt;simp only [putAll];go_simp;simp only [relUpon];exact ⟨zB _ _,by first | rfl | trivial⟩
    . intro wr hC hd
      clear hd;unfold relAt;simp only [putAll];go_simp;simp only [relUpon];exact ⟨zB _ _,by first | rfl | trivial⟩
    . intro wr hC hd
      have d8:v8=.pointer (some ⟨W0.heap.size+1,1,none⟩):=yAC 8 (by kernel_rfl) hd;subst d8;clear hd;have e:=(hC.cell (p:=⟨W0.heap.size+1,1,none⟩) (World.block_lt_of_cell? _ _ c2)).trans c2;unfold relAt;simp only [putAll];go_simp;simp only [relUpon];exact ⟨zB _ _,by first | rfl | trivial⟩
    . intro wr hC hd
      clear hd;unfold relAt;simp only [putAll];go_simp;simp only [relUpon];exact ⟨zB _ _,by first | rfl | trivial⟩
    . intro wr hC hd
      have d10:v10=.pointer (some ⟨W0.heap.size+1,0,none⟩):=yAC 10 (by kernel_rfl) hd;subst d10;clear hd;have e:=(hC.cell (p:=⟨W0.heap.size+1,0,none⟩) (World.block_lt_of_cell? _ _ c1)).trans c1;unfold relAt;simp only [putAll];go_simp;simp only [relUpon];exact ⟨zB _ _,by first | rfl | trivial⟩
    . intro wr hC hd
      have d9:v9=.int .i64 (hi:Int):=yAC 9 (by kernel_rfl) hd;subst d9;have d11:v11=.int .i64 (lo:Int):=yAC 11 (by kernel_rfl) hd;subst d11;clear hd;unfold relAt;simp only [putAll];go_simp;simp only [relUpon];exact ⟨zB _ _,by first | rfl | trivial⟩
    . intro wr hC hd
      have d7:v7=.string s:=yAC 7 (by kernel_rfl) hd;subst d7;have d12:v12=.int .i64 (N:Int):=yAC 12 (by kernel_rfl) hd;subst d12;clear hd;unfold relAt;simp only [putAll];go_simp;simp only [relUpon];with_reducible refine (HP.out wr).mono ?_
      rintro e w9 ⟨⟨g,rfl,hg⟩,hb9⟩;exact ⟨_,rfl,hb9,g,rfl,hg⟩
    . intro wr hC hd
      have d13:∃ g,v13=.agg #[.slice (some ⟨g,0,none⟩) N N]/\RdI wr.heap.size wr (.slice (some ⟨g,0,none⟩) N N) (cds s):=yAC 13 (by kernel_rfl) hd;clear hd;have h8:=d13.choose_spec.1;have h9:=d13.choose_spec.2;generalize d13.choose=g9 at h8 h9;clear d13;subst h8;have hfd:=run_fldC (some ⟨g9,0,none⟩) N N;unfold relAt;simp only [putAll];go_simp;simp only [relUpon];exact ⟨zB _ _,h9⟩
    . intro wr hC hd
      have d6:v6=.slice (some ⟨b,off+lo,none⟩) (hi - lo) (cap - lo):=yAC 6 (by kernel_rfl) hd;subst d6;have d14:RdI wr.heap.size wr v14 (cds s):=yAC 14 (by kernel_rfl) hd;clear hd;unfold relAt;simp only [putAll];go_simp;simp only [relUpon];with_reducible refine (HCm.out wr _ hC d14).mono ?_
      rintro e w9 ⟨rfl,hb9⟩;exact ⟨_,rfl,hb9,rfl⟩
    . intro wr hC hd
      have d15:v15=.int .i64 R:=yAC 15 (by kernel_rfl) hd;subst d15;clear hd;unfold relAt;simp only [putAll];go_simp;simp only [relUpon];exact ⟨zB _ _,by first | rfl | trivial⟩
 . intro vs wq hvs hC hI
   match vs,hvs,hI with
   | [v0,v1,v2,v3,v4,v5,v6,v7,v8,v9,v10,v11,v12,v13,v14,v15,v16],_,hI =>
    have d0:v0=.pointer (some ⟨W0.heap.size,0,none⟩):=hI 0 (by decide);subst d0;have d1:v1=.slice (some ⟨b,off,none⟩) n cap:=hI 1 (by decide);subst d1;have d2:v2=.pointer (some ⟨W0.heap.size+1,0,none⟩):=hI 2 (by decide);subst d2;have d3:v3=.int .i64 (lo:Int):=hI 3 (by decide);subst d3;have d4:v4=.pointer (some ⟨W0.heap.size+1,1,none⟩):=hI 4 (by decide);subst d4;have d5:v5=.int .i64 (hi:Int):=hI 5 (by decide);subst d5;have d6:v6=.slice (some ⟨b,off+lo,none⟩) (hi - lo) (cap - lo):=hI 6 (by decide);subst d6;have d7:v7=.string s:=hI 7 (by decide);subst d7;have d8:v8=.pointer (some ⟨W0.heap.size+1,1,none⟩):=hI 8 (by decide);subst d8;have d9:v9=.int .i64 (hi:Int):=hI 9 (by decide);subst d9;have d10:v10=.pointer (some ⟨W0.heap.size+1,0,none⟩):=hI 10 (by decide);subst d10;have d11:v11=.int .i64 (lo:Int):=hI 11 (by decide);subst d11;have d12:v12=.int .i64 (N:Int):=hI 12 (by decide);subst d12;have d13:∃ g,v13=.agg #[.slice (some ⟨g,0,none⟩) N N]/\RdI wq.heap.size wq (.slice (some ⟨g,0,none⟩) N N) (cds s):=hI 13 (by decide);have d14:RdI wq.heap.size wq v14 (cds s):=hI 14 (by decide);have d15:v15=.int .i64 R:=hI 15 (by decide);subst d15;have d16:v16=.int .i64 R:=hI 16 (by decide);subst d16;clear hI;simp only [putAll];go_simp;have Hb1:=hid (Hb0.out.trans (hC.mono Hb0.out.size));clear hC d13 d14;go_wp2;go_ret;exact ⟨rfl,Hb1.out⟩
theorem ch_rk:∀ k:Fin 40,rkI (codeI (chA k.val))=(k.val:Int):=by decide +kernel
theorem chI_chA:∀ k:Fin 40,chI (chA k.val)=true:=by decide +kernel
theorem ch_back:∀ n:Fin 256,chI (n.val:Int)=true->chA (rkI (codeI (n.val:Int))).toNat=(n.val:Int):=by decide +kernel
def rkC (c:Int):Int:=if chI c=true then rkI (codeI c) else -1
def rkS (s:ByteArray):List Int:=(bytesI s).map rkC
theorem rkS_len (s:ByteArray):(rkS s).length=s.size:=by unfold rkS;rw [List.length_map,bytesI_length]
theorem rkC_ch {c:Int} (h:chI c=true):rkC c=rkI (codeI c):=by unfold rkC;rw [if_pos h]
theorem rkS_cds {s:ByteArray} (h:chS s=true):rkS s=rks (cds s):=by
 unfold rkS rks cds;rw [List.map_map];refine List.map_congr_left fun c hc=>?_;exact rkC_ch (List.all_eq_true.1 h c hc)
theorem okTx_at {h:List Int} (ho:okTx h=true) {m:Int} (hm:m∈h):¬ rkI m<0:=by
 unfold okTx at ho;have h1:h.any noCh=false:=by simpa using ho
 have h2:=List.any_eq_false.1 h1 m hm;unfold noCh at h2;simpa using h2
theorem rkC_chr {m:Int} (h:¬ rkI m<0):rkC (chrI m)=rkI m/\chI (chrI m)=true:=by
 obtain ⟨k,hk,h1,h2⟩:=rk_neg h;have h3:=chI_chA ⟨k,hk⟩;have h4:=ch_rk ⟨k,hk⟩;rw [h2];exact ⟨by rw [rkC_ch h3,h1];exact h4,h3⟩
theorem rkS_txt {h:List Int} (ho:okTx h=true):rkS (toB (txI h))=rks h:=by
 unfold rkS rks;rw [bytesI_toB (txI_bd ho)];unfold txI;rw [List.map_map];exact List.map_congr_left fun m hm=>(rkC_chr (okTx_at ho hm)).1
theorem chS_txt {h:List Int} (ho:okTx h=true):chS (toB (txI h))=true:=by
 unfold chS;rw [bytesI_toB (txI_bd ho)];unfold txI;refine List.all_eq_true.2 fun c hc=>?_;obtain ⟨m,hm,rfl⟩:=List.mem_map.1 hc;exact (rkC_chr (okTx_at ho hm)).2
theorem map_inj_on {α β:Type} {f:α->β}:∀ {a b:List α},(∀ x∈a,∀ y∈b,f x=f y->x=y)->a.map f=b.map f->a=b
 | [],[],_,_=>rfl
 | [],_ :: _,_,h=>by cases h
 | _ :: _,[],_,h=>by cases h
 | x :: a,y :: b,hi,h=>by
  rw [List.map_cons,List.map_cons] at h;injection h with h1 h2;rw [hi x (List.mem_cons_self ..) y (List.mem_cons_self ..) h1,map_inj_on (fun x hx y hy=>hi x (List.mem_cons_of_mem _ hx) y (List.mem_cons_of_mem _ hy)) h2]
theorem rkS_inj {s u:ByteArray} (h:chS s=true) (k:chS u=true) (e:rkS s=rkS u):s=u:=by
 have h1:bytesI s=bytesI u:=by
  refine map_inj_on (fun x hx y hy he=>?_) e;have hx1:=List.all_eq_true.1 h x hx;have hy1:=List.all_eq_true.1 k y hy;rw [rkC_ch hx1,rkC_ch hy1] at he;unfold bytesI at hx hy;obtain ⟨a,-,rfl⟩:=List.mem_map.1 hx;obtain ⟨b,-,rfl⟩:=List.mem_map.1 hy;have h2:=ch_back ⟨a.toNat,a.toNat_lt⟩ hx1;have h3:=ch_back ⟨b.toNat,b.toNat_lt⟩ hy1;rw [<- h2,<- h3,he]
 rw [<- toB_bytesI s,h1,toB_bytesI]
theorem rkS_iff {s u:ByteArray} (h:chS s=true) (k:chS u=true):rkS s=rkS u ↔ s=u:=⟨rkS_inj h k,fun e=>by rw [e]⟩
theorem lexL_irr:∀ {a:List Int},¬ lexL a a
 | [],h=>by unfold lexL at h;exact h
 | x :: a,h=>by
  unfold lexL at h;rcases h with h | ⟨-,h⟩
  . omega
  . exact lexL_irr h
theorem ltK_irr {d:List (List Int)} {f t:Int} (a b:Int) (h:ltK d f t a b) (k:ltK d f t b a):False:=by
 unfold ltK at h k;rcases h with h | ⟨e,h⟩ <;> rcases k with k | ⟨e',k⟩
 . exact lexL_irr (lexL_trans h k)
 . rw [e'] at h;exact lexL_irr h
 . rw [e] at k;exact lexL_irr k
 . omega
open Classical in
noncomputable def ordD (d:List (List Int)) (f t:Int):List Int:=if h:∃ Z,IsOrd d f t Z then h.choose else []
theorem IsOrd.eq {d:List (List Int)} {f t:Int} {Z:List Int} (h:IsOrd d f t Z):Z=ordD d f t:=by
 have h1:∃ Z,IsOrd d f t Z:=⟨Z,h⟩;unfold ordD;rw [dif_pos h1];have h2:=h1.choose_spec;exact Sym.sorted_unique (lt:=ltK d f t) ltK_irr (h.1.trans h2.1.symm) h.2 h2.2
def keyT (d:List (List Int)) (f t:Int):List ByteArray:=d.map (fun c=>toB (txI (partC c f t)))
theorem yAZ (d:List (List Int)) (f t:Int):(keyT d f t).length=d.length:=by unfold keyT;simp
theorem keyT_at {d:List (List Int)} {f t:Int} {i:Nat} {c:List Int} (h:d[i]?=some c):(keyT d f t)[i]?=some (toB (txI (partC c f t))):=by unfold keyT;rw [List.getElem?_map,h];rfl
theorem hasD_at {d:List (List Int)} {f t:Int} (h:hasD d f t=true) {c:List Int} (hc:c∈d):okTx (partC c f t)=true:=by
 unfold hasD at h;have h1:d.any (notF f t)=false:=by simpa using h
 have h2:=List.any_eq_false.1 h1 c hc;unfold notF at h2;simpa using h2
theorem l02Own_c {xs:List Int} {w:World} {A b off:Nat} {ro:Option Addr} {rc n:Nat} (hn:n=xs.length) (hcell:w.cell? ⟨b,off,none⟩=some (.slice ro n rc)) (ha:RdI A w (.slice ro n rc) xs) (hl:n<=2097152) :
 Calls Tryz.prog 119 #[.pointer (some ⟨b,off,none⟩)] w fun e w'=>(∃ u,e=.returned (.agg #[u])/\OwnInt64S w.heap.size w' u xs)/\Below w.heap.size w w':=by
 obtain ⟨W,hW⟩:∃ W,W=w.alloc (.cells #[.slice none 0 0] 88):=⟨_,rfl⟩;have hQ:Box W w.heap.size [.slice none 0 0]:=by rw [hW];exact Box.new w [.slice none 0 0] _
 have hb0:Below w.heap.size w W:=by rw [hW];exact (zB _ _).alloc (zA _) _
 have hb:=World.block_lt_of_cell? _ _ hcell;have c0:=(hb0.cell (p:=⟨b,off,none⟩) hb).trans hcell;have Ha:=hid (Rds.onn ha hb0);have HQ:=hid hQ;have Hb0:=hid hb0;have HW:=hid hW;have hl2:xs.length<=2097152:=by omega
 clear hQ hb0 hW ha hcell hb hn;go_enter Tryz.func119,Tryz.ntmps119;go_upto_region 1 with fail;rw [<- HW.out];go_wp2_with fail;with_reducible refine (l00Own_c Ha.out hl2).mono ?_
 rintro e w1 ⟨u,rfl,hu,hb⟩;obtain ⟨uo,uc,hsu⟩:=hu.shape;subst hsu;have hQ1:=HQ.out.on hb;have r0:=hQ1.cell 0 _ rfl;have r1:=hQ1.free 0;have hlt:=HQ.out.lt;have HU:=hid hu;have Hb:=hid (Hb0.out.trans (hb.mono Hb0.out.size));clear hu hb hQ1 c0;go_wp2;refine bodyPost_ret (v:=.agg #[.slice uo xs.length uc]) (by simp [results,Tryz.results119,go_sem,r0]) rfl ⟨⟨_,rfl,?_⟩,Hb.out.setCell (by show w.heap.size<=w.heap.size;omega) _⟩;exact (HU.out.kept (yBS _ _ _) (.inr (fun e=>by have h:=(HU.out.lt _ e).1;simp only at h;omega))).mono (by omega)
theorem l02Copy_c {d:List (List Int)} {v:Value} {w:World} {A:Nat} (hd:RdInt64SS A w v d) (hr:RowsOk d) :
 Calls Tryz.prog 80 #[v] w fun e w'=>(∃ r,e=.returned r/\OwnCardS w.heap.size w' r d)/\Below w.heap.size w w':=by
 obtain ⟨i0,hi,hz0,hz1,hz2c⟩:=info_parts Tryz.infoCard;have hB0:BldG eI 2 88 w.heap.size w.heap.size (w.alloc (.cells #[] 88)).heap.size (w.alloc (.cells #[] 88)) (.slice (some ⟨w.heap.size,0,none⟩) 0 0) (d.take 0):=BldG.empty (B:=w.heap.size) rfl (Own.lit (E:=eS) (xs:=[]) (cs:=#[]) (zA _) rfl rfl (by decide) (fun x hx=>by cases hx)) (by simp);obtain ⟨vo,vc,rfl,ho⟩:=hd.tight.open;have Ho:=hid ho;have HB0:=hid hB0;have HRw:=hid hr.2;have hl:=hr.1;obtain ⟨n,hn⟩:∃ n,n=d.length:=⟨_,rfl⟩;rw [<- hn] at hl |-;have Hn:=hid hn;clear hd ho hB0 hr hn;go_enter Tryz.func80,Tryz.ntmps80;go_wp2;go_loopw [3,4] (fun ov iv wr=>∃ k:Nat,k<=n/\iv=.int .i64 k/\Hid (BldG eI 2 88 w.heap.size w.heap.size wr.heap.size wr ov (d.take k))/\Hid (Below w.heap.size w wr)) (fun _ i _=>n - (intOf i).toNat)
 case atStart=>exact ⟨0,zK _,rfl,HB0,hid ((zB _ _).alloc (zA _) _)⟩
 case round =>
  obtain ⟨k,hk,rfl,HB,Hb⟩:=hrel;clear HB0;by_cases hkn:k<n
  . obtain ⟨b,off,rfl,hlt,hc⟩:=Ho.out (by have:=Hn.out;omega)
    obtain ⟨x,ro,rc,hx,hcell,hrd⟩:=hc k (by have:=Hn.out;omega);have hxl:=HRw.out x (zC hx);have d1:=(Hb.out.cell (p:=⟨b,off+k,none⟩) hlt.2).trans hcell;have hrw:=Rds.onn hrd Hb.out;have hcon:=l02Own_c rfl d1 hrw (by omega);have Hcon:=hid hcon;have Htk:Hid (d.take (k+1)=d.take k++[x]):=hid (yAE hx);have Hxl:Hid ((d.take k).length<=100):=hid (by rw [zI];omega);obtain ⟨oo,oc,hov⟩:=HB.out.shape;subst hov;clear hc hcell hrd hx hrw hcon d1;generalize d.take k=Tk at *
    go_wp2_with fail;with_reducible refine Hcon.out.mono ?_
    rintro e w2 ⟨⟨u,rfl,hu⟩,hb2⟩;obtain ⟨tp,htp⟩:∃ tp,tp=wr.heap.size:=⟨_,rfl⟩;have htb:w.heap.size<=tp:=by have:=Hb.out.size;omega
    have hz2:tp<=w2.heap.size:=by have:=hb2.size;omega
    have hB2:BldG eI 2 88 w.heap.size w.heap.size tp w2 (.slice oo Tk.length oc) Tk:=by rw [htp];exact HB.out.below hb2 (zA _)
    have hb2':=Hb.out.trans (hb2.mono (by omega));clear hb2;have hR9:=hu.mono (base':=tp) (by omega);obtain ⟨hs',xh,hval,hokx,hlen,hO,hfn⟩:=hB2.app hR9 htb hz2;obtain ⟨rao,rcap,hsh⟩:=hR9.shape;subst hsh;have hcells:(#[.slice rao x.length rcap]:Array Value)=(eS.cells xh).toArray:=by rw [show eS.cells xh=[xh.val] from rfl,hval]
    have HO:=hid hO;have Hfn:=hid hfn;have Hlen:=hid hlen;have Hcells:=hid hcells;have hl0:=HO.out.lt;have Hl0:=hid hl0;have Hb2:=hid hb2';have hszr:w.heap.size<=w2.heap.size:=hb2'.size;clear hR9 hu hB2 hval hlen hO hfn hcells hl0 hb2';go_wp2_with (first | (at_builtin;refine yAB (E:=eS) rfl _ _ 78 rfl Tryz.underlying78 hi hz0 hz1 hz2c rfl (by decide) rfl rfl (HO.out.alloc _) (yAJ (E:=eS) (x:=xh) hokx Hcells.out) ?b1 ?b2 ?b3 ?_))
    case b1=>rw [Hlen.out];have:=Hxl.out;unfold maxLen;simp;omega
    case b2=>rw [Hlen.out];have:=Hxl.out;simp;omega
    case b3=>simp;omega
    intro v' w6 hO6 hg6;have hg6':=hg6.alloc;have HB6:=hid (Hfn.out w6 v' hO6 hg6');have Hb6:=hid (Hb2.out.grown hg6'.1 hszr (fun q hq=>(Hl0.out q hq).1));clear hO6 hg6 hg6';go_wp2;go_roundw
    case rel=>exact ⟨k+1,by omega,by go_num,by rw [Htk.out];exact HB6,Hb6⟩
    case measure=>simp [intOf];omega
  . obtain rfl:k=n:=by omega
    have hM:=HB.out.toM (zA _);rw [zH (by have:=Hn.out;omega)] at hM;have HM:=hid hM;clear hM;go_wp2;go_ret;exact ⟨⟨_,rfl,HM.out⟩,Hb.out⟩
theorem l07Width_c {d:List (List Int)} {v:Value} {w:World} {A:Nat} (hd:RdInt64SS A w v d) :
 Calls Tryz.prog 160 #[v] w fun e w'=>e=.returned (.int .i64 (colsD d))/\w=w':=by
 obtain ⟨ao,cap,rfl,ho⟩:=hd.open;obtain ⟨n,hn⟩:∃ n,n=d.length:=⟨_,rfl⟩;rw [<- hn];by_cases h0:n=0
 . have e1:colsD d=20:=by unfold colsD;rw [if_pos (List.eq_nil_of_length_eq_zero (by omega))]
   rw [e1];subst h0;clear hd ho e1 hn;go_enter Tryz.func160,Tryz.ntmps160;go_wp2;go_ret;exact ⟨rfl,rfl⟩
 . obtain ⟨b,off,rfl,hlt,hc⟩:=ho (by omega)
   obtain ⟨x,ro,rc,hx,hcell,hrd⟩:=hc 0 (by omega);have e1:colsD d=(x.length:Int):=by unfold colsD;rw [if_neg (fun e=>by rw [e] at hx;cases hx),head_of hx]
   rw [e1];have h1:((n:Int) == 0)=false:=beq_eq_false_iff_ne.2 (by omega);have h2:0<n:=by omega
   clear hd ho e1 hn hc hx hrd;generalize x.length=m at *
   rw [Nat.add_zero] at hcell;go_enter Tryz.func160,Tryz.ntmps160;go_wp2;go_ret;exact ⟨rfl,rfl⟩
theorem l03Key_c {c:List Int} {b off cb co n cap:Nat} {w:World} {A:Nat} (x y:Int) (hx:0<=x) (hxy:x<y) (hy:y<=n) (hn:n<=1000) (hcell:w.cell? ⟨b,off,none⟩=some (.slice (some ⟨cb,co,none⟩) n cap)) (ha:RdI A w (.slice (some ⟨cb,co,none⟩) n cap) c) :
 Calls Tryz.prog 201 #[.pointer (some ⟨b,off,none⟩),.agg #[.int .i64 x,.int .i64 y]] w fun e w'=>e=.returned (.tuple #[.string (txV (partC c x y)),.bool (okTx (partC c x y))])/\Below w.heap.size w w':=by
 obtain ⟨W,hW⟩:∃ W,W=w.alloc (.cells #[.int .i64 x,.int .i64 y] 73):=⟨_,rfl⟩;have hb0:Below w.heap.size w W:=by rw [hW];exact (zB _ _).alloc (zA _) _
 have hF:Box W w.heap.size [.int .i64 x,.int .i64 y]:=by rw [hW];exact Box.new w [.int .i64 x,.int .i64 y] _
 have hb:=World.block_lt_of_cell? _ _ hcell;have c0:=(hb0.cell (p:=⟨b,off,none⟩) hb).trans hcell;have ca:=Rds.cap ha;have hp:=l02Part_c (w:=W) x y hx hxy hy ca.1 (ca.2.2 (by omega)) c0 (World.block_lt_of_cell? _ _ c0);have haW:=Rds.onn ha hb0;have Hp:=hid hp;have Ha:=hid (Rds.part haW hx hxy hy);have Hpl:Hid ((partC c x y).length<=1000):=hid (by rw [yAP hx hxy (by have:=ca.2.1;omega)];omega);have f0:=hF.cell 0 _ rfl;have f1:=hF.cell 1 _ rfl;have HW:=hid hW;have Hb0:=hid hb0;clear hW hb0 hF hb c0 ca hp haW ha hcell;go_enter Tryz.func201,Tryz.ntmps201;go_upto_region 1 with fail;rw [<- HW.out];go_wp2_with fail;with_reducible refine Hp.out.mono ?_
 rintro e w1 ⟨rfl,hb1⟩;have htx:=l03Text_c Hpl.out (Rds.onn Ha.out hb1);have Htx:=hid htx;have Hb1:=hid (Hb0.out.trans (hb1.mono Hb0.out.size));clear hb1 htx f0 f1;obtain ⟨r,hr⟩:∃ r,r=txV (partC c x y):=⟨_,rfl⟩;obtain ⟨p,hp⟩:∃ p,p=okTx (partC c x y):=⟨_,rfl⟩;rw [<- hr,<- hp] at Htx;have Hr:=hid hr;have Hpp:=hid hp;clear hr hp;go_wp2_with fail;with_reducible refine Htx.out.mono ?_
 rintro e w2 ⟨rfl,hb2⟩;have Hb2:=hid (Hb1.out.trans (hb2.mono Hb1.out.size));clear hb2;go_wp2;go_ret2;exact ⟨by rw [<- Hr.out,<- Hpp.out];rfl,Hb2.out⟩
theorem rkC_at {k:Nat} (hk:k<40):rkC (chA k)=(k:Int):=by
 have h3:=chI_chA ⟨k,hk⟩;have h4:=ch_rk ⟨k,hk⟩;rw [rkC_ch h3];exact h4
theorem rkC_no {c:Int} (hc:0<=c/\c<=255) (h:∀ j,j<40->chA j ≠ c):rkC c=-1:=by
 unfold rkC;rw [if_neg];intro h1;obtain ⟨k,hk⟩:=ch_isN ⟨c.toNat,by omega⟩ (by rw [show ((c.toNat:Nat):Int)=c by omega];exact h1);exact h k.val k.isLt (by rw [<- hk];show ((c.toNat:Nat):Int)=c;omega)
theorem l03Rank_c (c:Int) (w:World) (hc:0<=c/\c<=255):Calls Tryz.prog 223 #[.int .u8 c] w fun e w'=>e=.returned (.int .i64 (rkC c))/\w=w':=by
 obtain ⟨S,hS⟩:∃ S,S=charsB:=⟨_,rfl⟩;have hsz:S.size=40:=by rw [hS];decide +kernel
 have hix0:∀ (k:Nat),k<40->∀ w,(Instr.index 9 (.string S) (.int .i64 (k:Int))).run Tryz.prog w=.ok (.int .u8 (chA k)) w:=by intro k hk w;rw [hS];exact chars_run hk w
 have Hix:=hid hix0;have ho:=l03Order_c w;rw [<- hS] at ho;have Ho:=hid ho;obtain ⟨r,hr⟩:∃ r,r=rkC c:=⟨_,rfl⟩;rw [<- hr];have Hr:=hid hr;have Hc:=hid hc;clear ho hS hix0 hr hc;go_enter Tryz.func223,Tryz.ntmps223;go_wp2_with fail;with_reducible refine Ho.out.mono ?_
 rintro e w' ⟨rfl,rfl⟩;go_wp2;go_loop [4] (fun i=>∃ k:Nat,k<=40/\i=.int .i64 k/\Hid (∀ j,j<k->chA j ≠ c)) (fun i=>40 - (intOf i).toNat)
 case atStart=>exact ⟨0,by decide,rfl,fun j hj=>absurd hj (Nat.not_lt_zero _)⟩
 case round =>
  obtain ⟨k,hk,rfl,hp⟩:=hrel;by_cases hkn:k<40
  . have hix:=Hix.out k hkn
    have hki:(k:Int)<40:=by omega
    obtain ⟨c2,hc2⟩:∃ c2,c2=chA k:=⟨_,rfl⟩;rw [<- hc2] at hix;have Hc2:=hid hc2;clear hc2;by_cases hq:c2=c
    . have HE:Hid (r=(k:Int)):=hid (by rw [Hr.out,<- hq,Hc2.out];exact rkC_at hkn)
      have hq2:(c2 == c)=true:=by simpa using hq
      clear hq;go_wp2;go_ret;exact ⟨yAO HE.out.symm,rfl⟩
    . have Hq:=hid hq
      have hq2:(c2 == c)=false:=beq_eq_false_iff_ne.2 hq;clear hq;go_wp2;clear hix;go_round
      case rel=>exact ⟨k+1,by omega,by go_num,fun j hj=>by rcases Nat.lt_succ_iff_lt_or_eq.1 hj with hj | rfl;exact hp.out j hj;rw [<- Hc2.out];exact Hq.out⟩
      case measure=>simp [intOf];omega
  . obtain rfl:k=40:=by omega
    have HE:Hid (r=-1):=hid (by rw [Hr.out];exact rkC_no Hc.out hp.out);go_wp2;go_ret;exact ⟨yAO HE.out.symm,rfl⟩
theorem rkC_bd (c:Int):-1<=rkC c/\rkC c<40:=by
 unfold rkC;split
 . exact rk_lt _
 . omega
theorem rkS_at {s:ByteArray} {k:Nat} (h:k<s.size):(rkS s)[k]?=some (rkC (s[k].toNat:Int)):=by unfold rkS;rw [List.getElem?_map,bytesI_at s k h];rfl
theorem cmpN_at {x y:List Int} {i:Nat} {a b:Int} (hx:x[i]?=some a) (hy:y[i]?=some b):cmpN (x.drop i) (y.drop i)=if a<b then -1 else if b<a then 1 else cmpN (x.drop (i+1)) (y.drop (i+1)):=by
 obtain ⟨h1,e1⟩:=zS.1 hx;obtain ⟨h2,e2⟩:=zS.1 hy;rw [List.drop_eq_getElem_cons h1,List.drop_eq_getElem_cons h2,e1,e2,cmpN]
theorem l03Compare_c {s u:ByteArray} (w:World) (hl:s.size=u.size) (hs:s.size<=1000) :
 Calls Tryz.prog 203 #[.string s,.string u] w fun e w'=>e=.returned (.int .i64 (cmpN (rkS s) (rkS u)))/\w=w':=by
 obtain ⟨R,hR⟩:∃ R,cmpN (rkS s) (rkS u)=R:=⟨_,rfl⟩;rw [hR];have HR:=hid hR;have Hl:=hid hl;obtain ⟨n,hn⟩:∃ n,n=s.size:=⟨_,rfl⟩;have Hn:=hid hn;clear hl hR hn;go_enter Tryz.func203,Tryz.ntmps203;go_wp2;go_loop [5] (fun iv=>∃ i:Nat,i<=n/\iv=.int .i64 i/\Hid (R=cmpN ((rkS s).drop i) ((rkS u).drop i))) (fun i=>n - (intOf i).toNat)
 case atStart=>exact ⟨0,zK _,rfl,hid HR.out.symm⟩
 case round =>
  obtain ⟨i,hi,rfl,hp⟩:=hrel;by_cases hin:i<n
  . have h1:i<s.size:=by have:=Hn.out;omega
    have h2:i<u.size:=by have:=Hl.out;omega
    have hst:=cmpN_at (rkS_at h1) (rkS_at h2);have Hst:=hid (hp.out.trans hst);have c1:=rkC_bd (s[i].toNat:Int);have c2:=rkC_bd (u[i].toNat:Int);have b1:0<=(s[i].toNat:Int)/\(s[i].toNat:Int)<=255:=by have:=s[i].toNat_lt;omega
    have b2:0<=(u[i].toNat:Int)/\(u[i].toNat:Int)<=255:=by have:=u[i].toNat_lt;omega
    have Hc1:=hid (fun W=>l03Rank_c (s[i].toNat:Int) W b1);have Hc2:=hid (fun W=>l03Rank_c (u[i].toNat:Int) W b2);obtain ⟨rx,hrx⟩:∃ r,rkC (s[i].toNat:Int)=r:=⟨_,rfl⟩;obtain ⟨ry,hry⟩:∃ r,rkC (u[i].toNat:Int)=r:=⟨_,rfl⟩;rw [hrx] at Hc1 Hst c1;rw [hry] at Hc2 Hst c2;have i1:(i:Int)<(s.size:Int):=by omega
    have i2:(i:Int)<(u.size:Int):=by omega
    clear hst b1 b2 hrx hry hp;go_wp2_with fail;with_reducible refine (Hc1.out _).mono ?_
    rintro e w1 ⟨rfl,rfl⟩;go_wp2_with fail;with_reducible refine (Hc2.out _).mono ?_
    rintro e w1 ⟨rfl,rfl⟩;by_cases q1:rx<ry
    . have HE:Hid (R=-1):=hid (by have:=Hst.out;rw [if_pos q1] at this;exact this)
      go_wp2;go_ret;exact ⟨yAO HE.out.symm,rfl⟩
    . by_cases q2:ry<rx
      . have HE:Hid (R=1):=hid (by have:=Hst.out;rw [if_neg q1,if_pos q2] at this;exact this)
        go_wp2;go_ret;exact ⟨yAO HE.out.symm,rfl⟩
      . have HE:Hid (R=cmpN ((rkS s).drop (i+1)) ((rkS u).drop (i+1))):=hid (by have:=Hst.out;rw [if_neg q1,if_neg q2] at this;exact this)
        go_wp2;go_round
        case rel=>exact ⟨i+1,by omega,by go_num,HE⟩
        case measure=>simp [intOf];omega
  . obtain rfl:i=n:=by omega
    have i1:¬ (i:Int)<(s.size:Int):=by have:=Hn.out;omega
    have e:=hp.out;rw [List.drop_of_length_le (by rw [rkS_len];have:=Hn.out;omega)] at e;have HE:Hid (R=0):=hid (by rw [e];rfl);clear e;go_wp2;go_ret;exact ⟨yAO HE.out.symm,rfl⟩
structure OffT where
 trays:List (List (List Int))
 totals:List (List TotalT)
def RdTs (B:Nat) (w:World) (v:Value) (x:List TotalT):Prop:=Rds eTotal B w v x
theorem rowK_T:RowK RdTs:=⟨fun h hb hB=>Rds.below h hb hB,fun h hB=>Rds.mono h hB,fun h=>Rds.tight h,fun h=>Rds.shape h⟩
abbrev RdTL (B:Nat) (w:World) (v:Value) (xs:List (List TotalT)):Prop:=RdL RdTs B w v xs
def RdOff (B:Nat) (w:World) (u v:Value) (o:OffT):Prop:=RdDs B w u o.trays/\RdTL B w v o.totals
theorem RdOff.onn {B:Nat} {w w':World} {u v:Value} {o:OffT} (h:RdOff B w u v o) (hb:Below w.heap.size w w'):RdOff w'.heap.size w' u v o:=⟨RdL.onn yBH h.1 hb,RdL.onn rowK_T h.2 hb⟩
theorem RdOff.below {B B':Nat} {w w':World} {u v:Value} {o:OffT} (h:RdOff B w u v o) (hb:Below B' w w') (hB:B<=B'):RdOff B w' u v o:=⟨RdL.below yBH h.1 hb hB,RdL.below rowK_T h.2 hb hB⟩
theorem RdOff.mono {B B':Nat} {w:World} {u v:Value} {o:OffT} (h:RdOff B w u v o) (hB:B<=B'):RdOff B' w u v o:=⟨RdL.mono yBH h.1 hB,RdL.mono rowK_T h.2 hB⟩
theorem RdOff.tight {B:Nat} {w:World} {u v:Value} {o:OffT} (h:RdOff B w u v o):RdOff w.heap.size w u v o:=⟨RdL.tight yBH h.1,RdL.tight rowK_T h.2⟩
def RwsG {β:Type} (R:World->Value->List β->Prop) (S:Nat->Prop) (w:World) (hs:List SlV) (xs:List (List β)):Prop :=
 hs.length=xs.length/\∀ (i:Nat) (h:SlV) (x:List β),hs[i]?=some h->xs[i]?=some x->FrS R S w h.val x
section
variable {β:Type} {R:World->Value->List β->Prop} {S S' S'':Nat->Prop} {w w':World} {hs:List SlV} {xs:List (List β)}
theorem RwsG.nil (R:World->Value->List β->Prop) (S:Nat->Prop) (w:World):RwsG R S w [] []:=⟨rfl,fun i h x e=>by simp at e⟩
theorem RwsG.snoc {h:SlV} {x:List β} (hr:RwsG R S w hs xs) (hx:FrS R S w h.val x):RwsG R S w (hs++[h]) (xs++[x]):=by
 refine ⟨by simp [hr.1],fun i h' x' e1 e2=>?_⟩;rcases Nat.lt_or_ge i hs.length with hi | hi
 . rw [zL hi] at e1
   rw [zL (by rw [<- hr.1];exact hi)] at e2;exact hr.2 i h' x' e1 e2
 . rw [zJ hi] at e1
   rw [zJ (by rw [<- hr.1];exact hi)] at e2;have h0:i - hs.length=0:=by have:=yBK e1;simp at this;omega
   rw [h0] at e1;rw [show i - xs.length=0 by rw [<- hr.1];exact h0] at e2;cases e1;cases e2;exact hx
theorem RwsG.set {h:SlV} {x:List β} (hr:RwsG R S w hs xs) (hx:FrS R S w h.val x) (i:Nat):RwsG R S w (hs.set i h) (xs.set i x):=by
 refine ⟨by simp [hr.1],fun j h' x' e1 e2=>?_⟩;rw [List.getElem?_set] at e1 e2;by_cases hij:i=j
 . rw [if_pos hij] at e1 e2
   split at e1
   . split at e2
     . cases e1;cases e2;exact hx
     . cases e2
   . cases e1
 . rw [if_neg hij] at e1 e2
   exact hr.2 j h' x' e1 e2
theorem RwsG.step (hr:RwsG R S w hs xs) (hA:Agr S' w w') (h1:∀ k,S' k->k<w.heap.size->S k) (h2:∀ k,S'' k->k<w.heap.size->S k):RwsG R S'' w' hs xs :=
 ⟨hr.1,fun i h x e1 e2=>(hr.2 i h x e1 e2).step hA h1 h2⟩
end
theorem RdL.of_own {β:Type} {R:Nat->World->Value->List β->Prop} {S:Nat->Prop} {e:TypeId} {base:Nat} {w:World} {v:Value} {hs:List SlV} {xs:List (List β)} (h:Own eS e base w v hs) (hr:RwsG (fun w v x=>R w.heap.size w v x) S w hs xs) :
 RdL R w.heap.size w v xs:=⟨hs,h.rds,hr.1,fun i x y e1 e2=>(hr.2 i x y e1 e2).now⟩
theorem FrS.of_own {β:Type} {R:Nat->World->Value->List β->Prop} {S:Nat->Prop} {e:TypeId} {base:Nat} {w:World} {v:Value} {hs:List SlV} {xs:List (List β)} (h:Own eS e base w v hs) (hr:RwsG (fun w v x=>R w.heap.size w v x) S w hs xs)
 (hn:∀ k,v.ownBlock=some k->¬ S k):FrS (fun w v x=>RdL R w.heap.size w v x) S w v xs:=by
 intro w' hA;have h1:=OwnT.agr (Own.top h) hA hn;exact ⟨hs,h1.1.rds,hr.1,fun i x y e1 e2=>hr.2 i x y e1 e2 w' hA⟩
def outB (f t:Int) (lo hi:ByteArray) (y:List Int):Bool:=decide (cmpN (rks (partC y f t)) (rks (cds lo))<0) || decide (0<cmpN (rks (partC y f t)) (rks (cds hi)))
def eqF (f t:Int) (y x:List Int):Bool:=decide (cmpN (rks (partC x f t)) (rks (partC y f t))=0)
def hasE (b:List (List Int)) (f t:Int) (y:List Int):Bool:=b.any (eqF f t y)
def selC (a:List (List Int)) (f t:Int) (lo hi:ByteArray):Int:=colC [a] f t [lo,hi]
def firC (a:List (List Int)) (f t:Int):Int:=colC [a] f t []
def matC (a b:List (List Int)) (f t:Int):Int:=if twoC a b f t ≠ 0 then twoC a b f t else if ¬ (ascB a f t=true/\ascB b f t=true) then 6 else 0
def firD (a:List (List Int)) (f t:Int):List (List Int):=pickD a (selI (grpP a f t) a.length)
def numC (sf st:Int) (c:List Int):Int:=(numR (partC c sf st)).1
def noNum (sf st:Int) (c:List Int):Bool:=!(numR (partC c sf st)).2
def strD (d:List (List Int)) (G:List Int) (i:Nat):List (List Int):=(d.take ((G++[(d.length:Int)]).getD (i+1) 0).toNat).drop (G.getD i 0).toNat
def sumC (sf st:Int) (d:List (List Int)):Int:=(d.map (numC sf st)).sum
def totOf (d:List (List Int)) (G:List Int) (f t sf st:Int) (i:Nat):TotalT:=⟨toB (txI (partC (d.getD (G.getD i 0).toNat []) f t)),sumC sf st (strD d G i)⟩
def totD (d:List (List Int)) (f t sf st:Int):List TotalT:=(List.range (selI (grpP d f t) d.length).length).map (totOf d (selI (grpP d f t) d.length) f t sf st)
def totC (d:List (List Int)) (f t sf st:Int):Int:=if d.any (noNum sf st)=true\/hasD d f t=false then 8 else 0
def trD (o:OffT) (k:Int):List (List Int):=o.trays.getD k.toNat []
def dkC (o:OffT) (x:StepT):Int :=
 if x.kd=1 then sortC (trD o x.ta) x.ff x.ft else if x.kd=2 then merC (trD o x.ta) (trD o x.tb) x.ff x.ft else if x.kd=5 then selC (trD o x.ta) x.ff x.ft x.tx x.tx else if x.kd=6 then firC (trD o x.ta) x.ff x.ft else matC (trD o x.ta) (trD o x.tb) x.ff x.ft
noncomputable def dkD (o:OffT) (x:StepT):List (List Int) :=
 if x.kd=1 then pickD (trD o x.ta) (ordD (trD o x.ta) x.ff x.ft) else if x.kd=2 then pickD (trD o x.ta++trD o x.tb) (ordD (trD o x.ta++trD o x.tb) x.ff x.ft) else if x.kd=5 then (trD o x.ta).filter (fun y=>!outB x.ff x.ft x.tx x.tx y)
 else if x.kd=6 then firD (trD o x.ta) x.ff x.ft else if x.kd=3 then (trD o x.ta).filter (hasE (trD o x.tb) x.ff x.ft) else (trD o x.ta).filter (fun y=>!hasE (trD o x.tb) x.ff x.ft y)
def colO:List (List (List Int))->Int
 | []=>20
 | [] :: ts=>colO ts
 | (c :: _) :: _=>c.length
def offB (o:OffT):Bool:=decide (o.trays.length=6) && decide (o.totals.length<=20) && o.trays.all (fun d=>deckB d && (decide (d=[]) || decide (colsD d=colO o.trays)))
def stpC (o:OffT) (x:StepT):Int:=if stB x (colO o.trays)=false then 2 else if x.kd=7 then (if o.totals.length=20 then 5 else totC (trD o x.ta) x.ff x.ft x.sf x.st) else dkC o x
noncomputable def stpD (o:OffT) (x:StepT):OffT:=if x.kd=7 then ⟨o.trays,o.totals++[totD (trD o x.ta) x.ff x.ft x.sf x.st]⟩ else ⟨o.trays.set x.tc.toNat (dkD o x),o.totals⟩
noncomputable def runD (o:OffT):List StepT->Option OffT
 | []=>some o
 | x :: xs=>if stpC o x=0 then runD (stpD o x) xs else none
def minO (o:OffT) (x:StepT) (m:Int):Int :=
 if twoP x.kd then ((trD o x.ta).length+(trD o x.tb).length:Nat) * m else if x.kd=1 then (trD o x.ta).length * m * (2 * (x.ft - x.ff)) else (trD o x.ta).length * m
noncomputable def minL (o:OffT) (m:Int):List StepT->Option (List Int)
 | []=>some []
 | x :: xs=>if stpC o x=0 then (minL (stpD o x) m xs).map (fun l=>minO o x m :: l) else none
theorem colO_bd:∀ {ts:List (List (List Int))},(∀ d∈ts,deckB d=true)->1<=colO ts/\colO ts<=20
 | [],_=>by unfold colO;omega
 | [] :: ts,h=>by unfold colO;exact colO_bd (fun d hd=>h d (List.mem_cons_of_mem _ hd))
 | (c :: r) :: ts,h=>by
  unfold colO;have h1:=(yAF (h (c :: r) (List.mem_cons_self ..))).2 c (List.mem_cons_self ..);have h2:=yBY h1.1;omega
theorem yBF {o:OffT} (h:offB o=true):o.trays.length=6/\o.totals.length<=20/\∀ d∈o.trays,deckB d=true/\(d=[]\/colsD d=colO o.trays):=by
 unfold offB at h;rw [Bool.and_eq_true,Bool.and_eq_true,decide_eq_true_iff,decide_eq_true_iff] at h;refine ⟨h.1.1,h.1.2,fun d hd=>?_⟩;have h1:=List.all_eq_true.1 h.2 d hd;rw [Bool.and_eq_true,Bool.or_eq_true,decide_eq_true_iff,decide_eq_true_iff] at h1;exact h1
theorem trD_at {o:OffT} {k:Int} (h:o.trays.length=6) (hk:trayP k):o.trays[k.toNat]?=some (trD o k):=by
 unfold trD;rw [List.getD_eq_getElem?_getD,zF (by unfold trayP at hk;omega)];rfl
theorem Tryz.infoDk:(Tryz.prog.info? 78).map (fun i=>(i.zero,i.size,i.bytes))=some (some (.slice none 0 0),1,24):=by kernel_rfl
theorem selI_rise (p:Int->Bool):∀ k,(selI p k).Pairwise (·<·)
 | 0=>List.Pairwise.nil
 | k+1=>by
  rw [yAX];rw [List.pairwise_append];refine ⟨selI_rise p k,by split <;> simp,fun x hx y hy=>?_⟩;obtain ⟨m,h1,h2,-⟩:=selI_rng p k x hx;split at hy
  . have:y=(k:Int):=by simpa using hy
    omega
  . cases hy
theorem grp_places {d:List (List Int)} {f t:Int} {G:List Int} (hG:G=selI (grpP d f t) d.length) {i:Nat} (hi:i<G.length) :
 ∃ lo hi:Nat,G[i]?=some (lo:Int)/\(G++[(d.length:Int)]).getD (i+1) 0=(hi:Int)/\G.getD i 0=(lo:Int)/\lo<hi/\hi<=d.length/\(i+1<G.length->G[i+1]?=some (hi:Int))/\(¬ i+1<G.length->hi=d.length):=by
 have hm:∀ j:Nat,j<G.length->∃ m:Nat,m<d.length/\G[j]?=some (m:Int):=by
  intro j hj;have e:G[j]?=some (G[j]'hj):=zF hj;obtain ⟨m,h1,h2,-⟩:=selI_rng (grpP d f t) d.length (G[j]'hj) (by rw [<- hG];exact zC e);exact ⟨m,h1,by rw [e,h2]⟩
 obtain ⟨lo,l1,l2⟩:=hm i hi;by_cases h:i+1<G.length
 . obtain ⟨hi2,k1,k2⟩:=hm (i+1) h
   have hr:=selI_rise (grpP d f t) d.length;rw [<- hG] at hr;have e1:G[i]'hi=(lo:Int):=by rw [zF hi] at l2;exact zD l2
   have e2:G[i+1]'h=(hi2:Int):=by rw [zF h] at k2;exact zD k2
   have hlt:=List.pairwise_iff_getElem.1 hr i (i+1) hi h (by omega);rw [e1,e2] at hlt;refine ⟨lo,hi2,l2,?_,?_,by omega,by omega,fun _=>k2,fun q=>absurd h q⟩
   . rw [List.getD_eq_getElem?_getD,zL h,k2];rfl
   . rw [List.getD_eq_getElem?_getD,l2];rfl
 . refine ⟨lo,d.length,l2,?_,?_,l1,zA _,fun q=>absurd q h,fun _=>rfl⟩
   . rw [List.getD_eq_getElem?_getD,zJ (by omega),show i+1 - G.length=0 by omega];rfl
   . rw [List.getD_eq_getElem?_getD,l2];rfl
theorem strD_eq {d:List (List Int)} {G:List Int} {i lo hi:Nat} (h1:(G++[(d.length:Int)]).getD (i+1) 0=(hi:Int)) (h2:G.getD i 0=(lo:Int)):strD d G i=(d.take hi).drop lo:=by
 unfold strD;rw [h1,h2,zR,zR]
theorem RdInt64SS.sub {w:World} {B b off n cap lo hi:Nat} {d:List (List Int)} (h:RdInt64SS B w (.slice (some ⟨b,off,none⟩) n cap) d) (hhi:hi<=d.length) (hlt:lo<hi) (hc:hi<=cap) (hcap:cap<=9223372036854775807) :
 RdInt64SS B w (.slice (some ⟨b,off+lo,none⟩) (hi - lo) (cap - lo)) ((d.take hi).drop lo):=by
 obtain ⟨hs,h1,h2,h3⟩:=h;have h4:=Rds.sub (lo:=lo) (hi:=hi) (cap':=cap - lo) h1 (by omega) hlt ⟨by omega,by omega⟩;rw [show lo * eS.sz=lo from Nat.mul_one _] at h4;refine ⟨_,h4,by simp [h2],fun i x xs e1 e2=>?_⟩;have hil:lo+i<hi:=by
  have:=yBK e2;rw [zQ,zI] at this;omega
 rw [List.getElem?_drop,List.getElem?_take,if_pos hil] at e1 e2;exact h3 _ x xs e1 e2
def grsD (d:List (List Int)) (f t:Int):List (List (List Int)):=(List.range (selI (grpP d f t) d.length).length).map (strD d (selI (grpP d f t) d.length))
theorem grsD_at {d:List (List Int)} {f t:Int} {G:List Int} (hG:G=selI (grpP d f t) d.length) {i:Nat} (hi:i<G.length):(grsD d f t)[i]?=some (strD d G i):=by
 unfold grsD;rw [<- hG,List.getElem?_map,List.getElem?_range hi];rfl
theorem grsD_len (d:List (List Int)) (f t:Int):(grsD d f t).length=(selI (grpP d f t) d.length).length:=by unfold grsD;simp
def RdGs (w:World) (v:Value) (x:List (List (List Int))):Prop:=RdDs w.heap.size w v x
theorem sizeC_c {ao:Option Addr} {n cap:Nat} {w:World} (hn:n<=9223372036854775807) :
 Calls Tryz.prog 51 #[.slice ao n cap] w fun e w'=>e=.returned (.int .i64 n)/\w=w':=by
 go_enter Tryz.func51,Tryz.ntmps51;go_wp2;go_ret;exact ⟨rfl,rfl⟩
theorem groups_c {d:List (List Int)} {v:Value} {w:World} {S:Nat->Prop} {f t:Int} (hd:FrS RdD S w v d) (hS:∀ k,S k->k<w.heap.size) (hC:ColsOk d f t) (hl:d.length<=1000) :
 Calls Tryz.prog 140 #[v,.agg #[.int .i64 f,.int .i64 t]] w fun e w'=>(∃ r,e=.returned r/\FrS RdGs S w' r (grsD d f t))/\Below w.heap.size w w':=by
 obtain ⟨i0,hi,hz0,hz1,hz2⟩:=info_parts Tryz.infoDk;have hd0:RdInt64SS w.heap.size w v d:=hd.now;obtain ⟨vo,vc,rfl,ho⟩:=hd0.open;obtain ⟨T,hT⟩:∃ T,T=w.alloc (.cells #[.int .i64 f,.int .i64 t] 73):=⟨_,rfl⟩;have hbT:Below w.heap.size w T:=by rw [hT];exact (zB _ _).alloc (zA _) _
 have hBT:Box T w.heap.size [.int .i64 f,.int .i64 t]:=by rw [hT];exact Box.new w [.int .i64 f,.int .i64 t] _
 obtain ⟨W,hW⟩:∃ W,W=T.alloc (.cells #[] 78):=⟨_,rfl⟩;have hbW:Below T.heap.size T W:=by rw [hW];exact (zB _ _).alloc (zA _) _
 have hO0:Own eS 78 w.heap.size W (.slice (some ⟨T.heap.size,0,none⟩) 0 0) ([]:List SlV):=by
  rw [hW];exact Own.lit (E:=eS) (xs:=[]) (cs:=#[]) hbT.size rfl rfl (by decide) (fun x hx=>by cases hx)
 have hbA:=hbT.trans (hbW.mono hbT.size);have hgr:=groupsOf_c (RdInt64SS.onn hd0 hbA) hC hl;have hTz:T.heap.size=w.heap.size+1:=by rw [hT];simp
 have hWz:W.heap.size=w.heap.size+2:=by rw [hW];simp [hTz]
 have hcap:=(show ∀ {ao:Option Addr} {n cap:Nat},RdInt64SS w.heap.size w (.slice ao n cap) d->n<=cap/\(0<n->cap<=9223372036854775807) from fun h=>by obtain ⟨hs,h1,h2,-⟩:=h;exact ⟨h1.cap.1,h1.cap.2.2⟩) hd0;have c0:=(hBT.alloc (.cells #[] 78)).cell 0 _ rfl;have c1:=(hBT.alloc (.cells #[] 78)).cell 1 _ rfl;have HT:=hid hT;have HW:=hid hW;have HbA:=hid hbA;have HO0:=hid hO0;have Hgr:=hid hgr;have Hd:=hid hd;have HS:=hid hS;have Ho:=hid ho;have HTz:=hid hTz;have HWz:=hid hWz;obtain ⟨n,hn⟩:∃ n,n=d.length:=⟨_,rfl⟩;rw [<- hn] at Hd Hgr hl hcap |-;have Hn:=hid hn;have Hcap:=hid hcap;clear hd hS ho hT hW hbT hbW hO0 hbA hgr hTz hWz hBT hd0 hn hcap;go_enter Tryz.func140,Tryz.ntmps140;go_upto_region 1 with fail;rw [<- HT.out];go_wp2_with fail;rw [<- HW.out];with_reducible refine Hgr.out.mono ?_
 rintro e w2 ⟨⟨r,rfl,hG⟩,hb2⟩;obtain ⟨G,hGe⟩:∃ G,G=selI (grpP d f t) d.length:=⟨_,rfl⟩;have hG':=hG;rw [Hn.out,<- hGe] at hG';obtain ⟨m,hm⟩:∃ m,m=G.length:=⟨_,rfl⟩;obtain ⟨zo,zc,hzo,hzop⟩:=RdI.open hG'.rds;rw [<- hm] at hzo hzop;subst hzo;have hmn:m<=n:=by rw [hm,hGe,Hn.out];exact yBE _ _
 have HO1:Hid (∃ hs,Own eS 78 w.heap.size w2 (.slice (some ⟨T.heap.size,0,none⟩) 0 0) hs/\hs.length=0/\∀ (i:Nat) (h:SlV),hs[i]?=some h->FrS RdD S w h.val (strD d G i)):=hid ⟨[],HO0.out.below hb2 (zA _),rfl,fun i h e=>by simp at e⟩;have HbL:Hid (Below w.heap.size w w2):=hid (HbA.out.trans (hb2.mono HbA.out.size));have HZo:=hid hzop;have HZlt:Hid (∀ q,(Value.slice zo m zc).ownBlock=some q->w.heap.size+2<=q):=hid (fun q hq=>by have h:=(hG'.lt q hq).1;have:=HWz.out;omega);have Hm:=hid hm;have HGe:=hid hGe;clear hG hG' hb2 hzop HO0 c0 c1 hm hGe;go_wp2;go_loopw [5,16] (fun ov iv wr=>∃ k:Nat,k<=m/\iv=.int .i64 k/\Hid (∃ hs,Own eS 78 w.heap.size wr ov hs/\hs.length=k/\∀ (i:Nat) (h:SlV),hs[i]?=some h->FrS RdD S w h.val (strD d G i))/\Hid (Below w.heap.size w wr)/\Hid (Within (w.heap.size+1) (w.heap.size+2) w2 wr)/\Hid (∀ q,ov.ownBlock=some q->q=w.heap.size+1\/w2.heap.size<=q)) (fun _ i _=>m - (intOf i).toNat)
 case atStart=>exact ⟨0,zK _,rfl,HO1,HbL,hid (Within.refl _ _ _),hid (fun q hq=>by have h9:T.heap.size=q:=zD hq;have:=HTz.out;omega)⟩
 case round =>
  obtain ⟨k,hk,rfl,HO,Hb,Hc,Hq⟩:=hrel;clear HO1 HbL;by_cases hkm:k<m
  . obtain ⟨lo,hi2,g1,g2,g3,g4,g5,g6,g7⟩:=grp_places (i:=k) HGe.out (by have:=Hm.out;omega)
    obtain ⟨zb,zoff,rfl,zlt,zc1⟩:=HZo.out (by omega);obtain ⟨z,hz,hzc,-⟩:=zc1 k hkm;rw [g1] at hz;obtain rfl:=zD hz;have hwi:∀ {p:Addr} {u:Value},w2.cell? p=some u->p.block=zb->wr.cell? p=some u:=fun {p u} hp hpb=>(within_cell Hc.out (p:=p) (by rw [hpb];exact zlt.2) (by have:=HZlt.out zb rfl;rw [hpb];omega)).trans hp;have d0:=hwi hzc rfl;have h9:=Ho.out (by have:=Hn.out;omega);obtain ⟨b,off,rfl,-⟩:=h9;have hcap:=Hcap.out;have hcap2:=hcap.2 (by have:=Hn.out;omega);have hcap1:=hcap.1;have hsub:FrS RdD S w (.slice (some ⟨b,off+lo,none⟩) (hi2 - lo) (vc - lo)) (strD d G k):=fun w' hA=>by
     rw [strD_eq g2 g3];exact RdInt64SS.sub (Hd.out w' hA) g5 g4 (by have:=Hn.out;omega) hcap2
    have Hsub:=hid hsub;have hg5:hi2<=n:=by have:=Hn.out;omega
    obtain ⟨hs,hO,hhl,hrows⟩:=HO.out;obtain ⟨oo,oc,hov⟩:=hO.shape;rw [hhl] at hov;subst hov;have HOh:=hid hO;have Hhl:=hid hhl;have Hrows:=hid hrows;have hl0:=hO.lt;have Hl0:=hid hl0;have e1:(k:Int)+1<=1000:=by omega
    have e2:lo<hi2:=g4;have e3:¬ vc=lo:=by omega
    have e4:lo<=hi2:=by omega
    have e5:hi2<=vc:=by omega
    have hszr:w.heap.size<=wr.heap.size:=Hb.out.size;have hsn:n<=9223372036854775807:=by omega
    have Hx:=hid (show FrS RdD S w (SlV.val ⟨some ⟨b,off+lo,none⟩,hi2 - lo,vc - lo⟩) (strD d G k) from hsub);by_cases hk1:k+1<m
    . have g8:=g6 (by have:=Hm.out;omega)
      obtain ⟨z2,hz2',hzc2,-⟩:=zc1 (k+1) hk1;rw [g8] at hz2';obtain rfl:=zD hz2';have d1:=hwi hzc2 rfl;have e6:(k:Int)+1<(m:Int):=by omega
      clear zc1 hzc hzc2 hwi g1 g2 g3 g6 g7 g8 hO hhl hrows hl0 hsub HO hz hz2' hcap;go_wp2_with (first | (go_at_call 51;with_reducible refine (sizeC_c hsn).mono ?_;rintro e w9 ⟨rfl,rfl⟩) | (at_builtin;refine yAB (E:=eS) rfl _ _ 32 rfl Tryz.underlying32 hi hz0 hz1 hz2 rfl (by decide) rfl rfl (HOh.out.alloc _) (yAJ (E:=eS) (x:=⟨some ⟨b,off+lo,none⟩,hi2 - lo,vc - lo⟩) trivial rfl) ?b1 ?b2 ?b3 ?_))
      case b1=>rw [Hhl.out];unfold maxLen;simp;omega
      case b2=>rw [Hhl.out];simp;omega
      case b3=>simp;omega
      intro v' w6 hO6 hg6;have hg6':=hg6.alloc;have HO6:Hid (∃ hs,Own eS 78 w.heap.size w6 v' hs/\hs.length=k+1/\∀ (i:Nat) (h:SlV),hs[i]?=some h->FrS RdD S w h.val (strD d G i)):=hid ⟨_,hO6,by simp [Hhl.out],fun i h e=>by
       rcases Nat.lt_or_ge i hs.length with hi | hi
       . rw [zL hi] at e;exact Hrows.out i h e
       . rw [zJ hi] at e
         have h0:i - hs.length=0:=by have:=yBK e;simp at this;omega
         rw [h0] at e;cases e;rw [show i=k by have:=Hhl.out;omega];exact Hx.out⟩
      have Hb6:=hid (Hb.out.grown hg6'.1 hszr (fun q hq=>(Hl0.out q hq).1));have Hc6:=hid (within_grown Hc.out hg6'.1 (fun q hq=>by have:=Hq.out q hq;omega));have Hq6:=hid (own_or Hq.out Hc.out.size hg6'.2);clear hO6 hg6 hg6';go_wp2;go_roundw
      case rel=>exact ⟨k+1,by omega,by go_num,HO6,Hb6,Hc6,Hq6⟩
      case measure=>simp [intOf];omega
    . have g8:=g7 (by have:=Hm.out;omega)
      have e8:hi2=n:=by rw [g8];exact Hn.out.symm
      have e6:¬ (k:Int)+1<(m:Int):=by omega
      clear zc1 hzc hwi g1 g2 g3 g6 g7 g8 hO hhl hrows hl0 hsub HO hz hcap;subst e8;go_wp2_with (first | (go_at_call 51;with_reducible refine (sizeC_c hsn).mono ?_;rintro e w9 ⟨rfl,rfl⟩) | (at_builtin;refine yAB (E:=eS) rfl _ _ 32 rfl Tryz.underlying32 hi hz0 hz1 hz2 rfl (by decide) rfl rfl (HOh.out.alloc _) (yAJ (E:=eS) (x:=⟨some ⟨b,off+lo,none⟩,hi2 - lo,vc - lo⟩) trivial rfl) ?b1 ?b2 ?b3 ?_))
      case b1=>rw [Hhl.out];unfold maxLen;simp;omega
      case b2=>rw [Hhl.out];simp;omega
      case b3=>simp;omega
      intro v' w6 hO6 hg6;have hg6':=hg6.alloc;have HO6:Hid (∃ hs,Own eS 78 w.heap.size w6 v' hs/\hs.length=k+1/\∀ (i:Nat) (h:SlV),hs[i]?=some h->FrS RdD S w h.val (strD d G i)):=hid ⟨_,hO6,by simp [Hhl.out],fun i h e=>by
       rcases Nat.lt_or_ge i hs.length with hi | hi
       . rw [zL hi] at e;exact Hrows.out i h e
       . rw [zJ hi] at e
         have h0:i - hs.length=0:=by have:=yBK e;simp at this;omega
         rw [h0] at e;cases e;rw [show i=k by have:=Hhl.out;omega];exact Hx.out⟩
      have Hb6:=hid (Hb.out.grown hg6'.1 hszr (fun q hq=>(Hl0.out q hq).1));have Hc6:=hid (within_grown Hc.out hg6'.1 (fun q hq=>by have:=Hq.out q hq;omega));have Hq6:=hid (own_or Hq.out Hc.out.size hg6'.2);clear hO6 hg6 hg6';go_wp2;go_roundw
      case rel=>exact ⟨k+1,by omega,by go_num,HO6,Hb6,Hc6,Hq6⟩
      case measure=>simp [intOf];omega
  . obtain rfl:k=m:=by omega
    obtain ⟨hs,hO,hhl,hrows⟩:=HO.out;have hF:FrS RdGs S wr _ (grsD d f t):=FrS.of_own (R:=fun B w v (x:List (List Int))=>RdInt64SS B w v x) hO ⟨by rw [hhl,grsD_len,<- HGe.out];exact Hm.out,fun i h x e1 e2=>by
     have hi:i<G.length:=by have:=yBK e1;have:=Hm.out;omega
     rw [grsD_at HGe.out hi] at e2;cases e2;exact (hrows i h e1).on Hb.out⟩ (fun q hq hSq=>by have h1:=(hO.lt q hq).1;have h2:=HS.out q hSq;omega)
    have HF:=hid hF;clear hF hO hhl hrows HO;go_wp2;go_ret;exact ⟨⟨_,rfl,HF.out⟩,Hb.out⟩
theorem fieldText_c {c:List Int} {b off n cap:Nat} {w:World} {A:Nat} (x y:Int) (hx:0<=x) (hxy:x<y) (hy:y<=n) (hn:n<=1000) (ha:RdI A w (.slice (some ⟨b,off,none⟩) n cap) c) (ho:okTx (partC c x y)=true) :
 Calls Tryz.prog 141 #[.agg #[.slice (some ⟨b,off,none⟩) n cap],.agg #[.int .i64 x,.int .i64 y]] w fun e' w'=>e'=.returned (.string (toB (txI (partC c x y))))/\Below w.heap.size w w':=by
 obtain ⟨lo,rfl⟩:=zG hx;obtain ⟨hi,rfl⟩:=zG (show 0<=y by omega);obtain ⟨W,hW⟩:∃ W,W=(w.alloc (.cells #[.slice (some ⟨b,off,none⟩) n cap] 88)).alloc (.cells #[.int .i64 lo,.int .i64 hi] 73):=⟨_,rfl⟩;have z1:(w.alloc (.cells #[.slice (some ⟨b,off,none⟩) n cap] 88)).heap.size=w.heap.size+1:=by simp
 have hP:Box W w.heap.size [.slice (some ⟨b,off,none⟩) n cap]:=by rw [hW];exact (Box.new w [.slice (some ⟨b,off,none⟩) n cap] _).alloc _
 have hQ:Box W (w.heap.size+1) [.int .i64 lo,.int .i64 hi]:=by
  have h:=Box.new (w.alloc (.cells #[.slice (some ⟨b,off,none⟩) n cap] 88)) [.int .i64 lo,.int .i64 hi] 73;rw [z1,<- hW] at h;exact h
 have hb0:Below w.heap.size w W:=by rw [hW];exact ((zB _ _).alloc (zA _) _).alloc (by rw [z1];omega) _
 have ca:=Rds.cap ha;have ca2:=ca.2.2 (by omega);have hpl:=yAP (c:=c) hx hxy (by have:=ca.2.1;omega);have hcon:=textOf_c ho (by rw [hpl];omega) (Rds.part (Rds.onn ha hb0) hx hxy hy);simp only [zR] at hcon;have Hcon:=hid hcon;have c0:=hP.cell 0 _ rfl;have c1:=hQ.cell 0 _ rfl;have c2:=hQ.cell 1 _ rfl;have Hb0:=hid hb0;have HW:=hid hW;have q1:lo<hi:=by omega
 have q2:hi<=n:=by omega
 have q4:hi<=cap:=by omega
 have q6:¬ cap=lo:=by omega
 have q8:lo<=hi:=by omega
 obtain ⟨S,hS⟩:∃ S,S=toB (txI (partC c (lo:Int) (hi:Int))):=⟨_,rfl⟩;rw [<- hS] at Hcon |-;clear hP hQ hb0 hW ha ca z1 hcon hpl ho hS;go_enter Tryz.func141,Tryz.ntmps141;go_upto_region 1 with fail;rw [<- HW.out];go_wp2_with fail;with_reducible refine Hcon.out.mono ?_
 rintro e w1 ⟨rfl,hb1⟩;have Hb1:=hid (Hb0.out.trans (hb1.mono Hb0.out.size));clear hb1 c0 c1 c2;go_wp2;go_ret;exact ⟨rfl,Hb1.out⟩
theorem sumC_take {sf st:Int} {d:List (List Int)} {j:Nat} {x:List Int} (h:d[j]?=some x):sumC sf st (d.take (j+1))=sumC sf st (d.take j)+numC sf st x:=by
 unfold sumC;rw [yAE h,List.map_append,List.sum_append];simp
theorem sumC_bd {sf st:Int}:∀ {d:List (List Int)},(∀ c∈d,(partC c sf st).length<=12)->-1000000000000 * (d.length:Int)<=sumC sf st d/\sumC sf st d<=1000000000000 * (d.length:Int)
 | [],_=>by unfold sumC;simp
 | c :: d,h=>by
  have h1:=sumC_bd (fun x hx=>h x (List.mem_cons_of_mem _ hx));have h2:=numR_bd _ (h c (List.mem_cons_self ..));have e:sumC sf st (c :: d)=numC sf st c+sumC sf st d:=by unfold sumC;simp
  rw [e,List.length_cons];unfold numC;omega
theorem any_take_no {α:Type} {p:α->Bool} {xs:List α} (j:Nat) {x:α} (hx:xs[j]?=some x) (h:p x=true):xs.any p=true:=List.any_eq_true.2 ⟨x,zC hx,h⟩
structure NumOk (d:List (List Int)) (sf st:Int):Prop where
 cols:ColsOk d sf st
 w12:st - sf<=12
 cells:∀ c∈d,∀ m∈c,0<=m/\m<=4095
theorem NumOk.part {d:List (List Int)} {sf st:Int} (h:NumOk d sf st):∀ c∈d,(partC c sf st).length<=12:=fun c hc=>by
 rw [yAP h.cols.1.1 h.cols.1.2 (h.cols.2 c hc)];have:=h.cols.1;have:=h.w12;omega
theorem NumOk.take {d:List (List Int)} {sf st:Int} (h:NumOk d sf st) (j:Nat):NumOk (d.take j) sf st:=⟨⟨h.cols.1,fun c hc=>h.cols.2 c (List.mem_of_mem_take hc)⟩,h.w12,fun c hc=>h.cells c (List.mem_of_mem_take hc)⟩
theorem NumOk.drop {d:List (List Int)} {sf st:Int} (h:NumOk d sf st) (j:Nat):NumOk (d.drop j) sf st:=⟨⟨h.cols.1,fun c hc=>h.cols.2 c (List.mem_of_mem_drop hc)⟩,h.w12,fun c hc=>h.cells c (List.mem_of_mem_drop hc)⟩
theorem sumsOf_c {d:List (List Int)} {v:Value} {w:World} {A g:Nat} {sf st:Int} (hF:Box w g [.int .i64 sf,.int .i64 st]) (hd:RdInt64SS A w v d) (hN:NumOk d sf st) (hl:d.length<=100) :
 Calls Tryz.prog 138 #[.slice (some ⟨g,0,none⟩) 1 1,v] w fun e w'=>(∃ r,e=.returned (.tuple #[r,.bool (!d.any (noNum sf st))])/\(d.any (noNum sf st)=false->OwnInt64S w.heap.size w' r [sumC sf st d]))/\Below w.heap.size w w':=by
 obtain ⟨i0,hi,hz0,hz1,hz2⟩:=info_parts Tryz.infoInt64;obtain ⟨vo,vc,rfl,ho⟩:=hd.tight.open;have hO0:OwnInt64S w.heap.size (w.alloc (.cells #[] 2)) (.slice (some ⟨w.heap.size,0,none⟩) 0 0) ([sumC sf st d].take 0):=Own.lit (E:=eI) (xs:=[]) (cs:=#[]) (zA _) rfl rfl (by decide) (fun x hx=>by cases hx);have hB0:Below w.heap.size w (w.alloc (.cells #[] 2)):=(zB _ _).alloc (zA _) _;have HO0:=hid hO0;have HB0:=hid hB0;have Ho:=hid ho;have HF:=hid hF;have HN:=hid hN;obtain ⟨n,hn⟩:∃ n,n=d.length:=⟨_,rfl⟩;rw [<- hn] at hl |-;have Hn:=hid hn;obtain ⟨p,hp⟩:∃ p,p=d.any (noNum sf st):=⟨_,rfl⟩;rw [<- hp];have Hp:=hid hp;obtain ⟨S,hS⟩:∃ S,S=sumC sf st d:=⟨_,rfl⟩;rw [<- hS] at HO0 |-;have HS:=hid hS;have hSb:=sumC_bd hN.part;rw [<- hS,<- hn] at hSb;have hokS:eI.ok S:=by show -9223372036854775808<=S/\S<=9223372036854775807;omega
 have HokS:=hid hokS;clear hF hd ho hO0 hB0 hN hn hp hS hokS hSb;go_enter Tryz.func138,Tryz.ntmps138;go_wp2;go_loopw [6,17] (fun ov iv wr=>∃ k:Nat,k<=1/\iv=.int .i64 k/\Hid (OwnInt64S w.heap.size wr ov ([S].take k))/\Hid (k=1->p=false)/\Hid (Below w.heap.size w wr)) (fun _ i _=>1 - (intOf i).toNat)
 case atStart=>exact ⟨0,by omega,rfl,HO0,hid (fun h=>by omega),HB0⟩
 case round =>
  obtain ⟨k,hk,rfl,HO,Hk,HB⟩:=hrel;clear HO0 HB0;by_cases hk1:k<1
  . obtain rfl:k=0:=by omega
    have hFr:=HF.out.on HB.out;have f0:=hFr.cell 0 _ rfl;have f1:=hFr.cell 1 _ rfl;obtain ⟨T,hT⟩:∃ T,T=wr.alloc (.cells #[.int .i64 sf,.int .i64 st] 73):=⟨_,rfl⟩;have hbT:Below wr.heap.size wr T:=by rw [hT];exact (zB _ _).alloc (zA _) _
    have hX:Box T wr.heap.size [.int .i64 sf,.int .i64 st]:=by rw [hT];exact Box.new wr [.int .i64 sf,.int .i64 st] _
    have HOT:=hid (HO.out.below hbT (zA _));have HbT:=hid (HB.out.trans (hbT.mono HB.out.size));have HX:=hid hX;have HT:=hid hT;obtain ⟨oo,oc,hov⟩:∃ oo oc,_=Value.slice oo 0 oc:=HO.out.shape;subst hov;rw [show ((0:Nat):Int)=0 from rfl];clear hFr hT hbT hX HO Hk HB;go_upto_region 6 with fail;rw [<- HT.out];clear f0 f1;go_wp2;go_loopw [9,23] (fun sv iv wr=>∃ j:Nat,j<=n/\iv=.int .i64 j/\sv=.int .i64 (sumC sf st (d.take j))/\Hid ((d.take j).any (noNum sf st)=false)/\Hid (Below T.heap.size T wr)) (fun _ i _=>n - (intOf i).toNat)
    case atStart=>exact ⟨0,zK _,rfl,rfl,hid rfl,hid (zB _ _)⟩
    case round =>
     obtain ⟨j,hj,rfl,rfl,HA,HB⟩:=hrel;by_cases hjn:j<n
     . obtain ⟨b,off,rfl,hlt,hc⟩:=Ho.out (by have:=Hn.out;omega)
       obtain ⟨x,ro,rc,hx,hcell,hrd⟩:=hc j (by have:=Hn.out;omega);have hm:=zC hx;have hcx:=HN.out.cols.2 x hm;have hc0:=HN.out.cols.1;have hba:=HbT.out.trans (HB.out.mono HbT.out.size);have d1:=(hba.cell (p:=⟨b,off+j,none⟩) hlt.2).trans hcell;have hrw:=Rds.onn hrd hba;obtain ⟨ro',rc',hvs,hin⟩:=RdI.open hrw;injection hvs with q1 q2 q3;subst q1;subst q3;clear q2;obtain ⟨cb,co,rfl,_⟩:=hin (by omega);obtain ⟨W,hW⟩:∃ W,W=wr.alloc (.cells #[.slice (some ⟨cb,co,none⟩) x.length rc] 88):=⟨_,rfl⟩;have hbW:Below wr.heap.size wr W:=by rw [hW];exact (zB _ _).alloc (zA _) _
       have hY:Box W wr.heap.size [.slice (some ⟨cb,co,none⟩) x.length rc]:=by rw [hW];exact Box.new wr [.slice (some ⟨cb,co,none⟩) x.length rc] _
       have hXW:=(HX.out.on HB.out).on hbW;have y0:=hY.cell 0 _ rfl;have x0:=hXW.cell 0 _ rfl;have x1:=hXW.cell 1 _ rfl;have hcon:=numberIn_c (w:=W) sf st hc0.1 hc0.2 hcx HN.out.w12 (HN.out.cells x hm) (Rds.onn hrw hbW);have hsn:=sumC_take (sf:=sf) (st:=st) hx;have hb1:=sumC_bd ((HN.out.take j).part);have hb2:=numR_bd _ (HN.out.part x hm);have hlt3:(d.take j).length<=100:=by rw [zI];omega
       obtain ⟨s0,hs0⟩:∃ s,s=sumC sf st (d.take j):=⟨_,rfl⟩;rw [<- hs0] at hsn hb1 |-;unfold numC at hsn;have Hany:=hid (fun h=>any_take_no (p:=noNum sf st) j hx h);have Hsno:=hid (fun h=>any_snoc hx HA.out h (p:=noNum sf st));have Hno:Hid (noNum sf st x=!(numR (partC x sf st)).2):=hid rfl;obtain ⟨N1,hN1⟩:∃ N1,N1=(numR (partC x sf st)).1:=⟨_,rfl⟩;obtain ⟨N2,hN2⟩:∃ N2,N2=(numR (partC x sf st)).2:=⟨_,rfl⟩;rw [<- hN1,<- hN2] at hcon;rw [<- hN1] at hsn hb2;rw [<- hN2] at Hno;have Hsn:=hid hsn;have Hcon:=hid hcon;have HW:=hid hW;have Hbx:=hid (HB.out.trans (hbW.mono HB.out.size));have e1:-9223372036854775808<=s0+N1/\s0+N1<=9223372036854775807:=by omega
       clear hc hx hrd hm hba hrw hin hbW hY hXW hcon hsn hb1 hb2 hlt3 hs0 hN1 hN2 hW hcell HA HB hcx hc0;generalize x.length=xl at *
       go_upto_region 9 with fail;rw [<- HW.out];clear d1;go_wp2_with fail;with_reducible refine Hcon.out.mono ?_
       rintro e w1 ⟨rfl,hb1⟩;have Hb1:=hid (Hbx.out.trans (hb1.mono Hbx.out.size));clear hb1 y0 x0 x1;cases N2 with
       | false =>
        have HE:Hid (p=true):=hid (by rw [Hp.out];exact Hany.out Hno.out);have Hbz:=hid (HbT.out.trans (Hb1.out.mono HbT.out.size));go_wp2;go_ret2;exact ⟨⟨_,by rw [HE.out];rfl,fun h=>by rw [HE.out] at h;cases h⟩,Hbz.out⟩
       | true =>
        have HA2:=hid (Hsno.out Hno.out);go_wp2;go_roundw
        case rel=>exact ⟨j+1,by omega,by go_num,by rw [Hsn.out],HA2,Hb1⟩
        case measure=>simp [intOf];omega
     . obtain rfl:j=n:=by omega
       have hT9:d.take j=d:=zH (by have:=Hn.out;omega);rw [hT9,<- HS.out];have HE:Hid (p=false):=hid (by rw [Hp.out,<- HA.out,hT9]);have HOq:=hid (HOT.out.below HB.out (zA _));have HBq:=hid (HbT.out.trans (HB.out.mono HbT.out.size));clear HA HB hT9;go_wp2_with (first | (at_builtin;refine yAB (E:=eI) rfl _ _ 29 rfl Tryz.underlying29 hi hz0 hz1 hz2 rfl (by decide) rfl rfl (HOq.out.alloc _) (yAJ (E:=eI) (x:=S) HokS.out rfl) ?b1 ?b2 ?b3 ?_))
       case b1=>unfold maxLen;simp
       case b2=>simp
       case b3=>have:=HBq.out.size;simp;omega
       intro v3 w3 hO3 hg3;have HO3:=hid hO3;have HB3:=hid (HBq.out.grown hg3.alloc.1 HBq.out.size (fun q hq=>(HOq.out.lt q hq).1));clear hO3 hg3;go_wp2;go_roundw
       case rel=>exact ⟨0+1,by omega,by go_num,HO3,hid (fun _=>HE.out),HB3⟩
       case measure=>simp [intOf]
  . obtain rfl:k=1:=by omega
    have HE:=hid (Hk.out rfl);obtain ⟨oo,oc,hov⟩:=HO.out.shape;subst hov;go_wp2;go_ret2;exact ⟨⟨_,by rw [HE.out];rfl,fun _=>HO.out⟩,HB.out⟩
theorem colO_cons (d:List (List Int)) (ts:List (List (List Int))):colO (d :: ts)=if d=[] then colO ts else colsD d:=by
 cases d with
 | nil=>rw [if_pos rfl];rfl
 | cons c r=>rw [if_neg (by simp)];rfl
theorem colO_at {ts:List (List (List Int))} {k:Nat} {d:List (List Int)} (h:ts[k]?=some d):colO (ts.drop k)=if d=[] then colO (ts.drop (k+1)) else colsD d:=by
 obtain ⟨h1,e⟩:=zS.1 h;rw [List.drop_eq_getElem_cons h1,e,colO_cons]
theorem officeColumns_c {o:OffT} {u v:Value} {w:World} {B:Nat} (ho:RdOff B w u v o) :
 Calls Tryz.prog 91 #[.agg #[u,v]] w fun e w'=>e=.returned (.int .i64 (colO o.trays))/\Below w.heap.size w w':=by
 have hle:=RdL.le ho.1;obtain ⟨uo,uc,rfl⟩:=RdL.shape ho.1;obtain ⟨vo,vc,rfl⟩:=RdL.shape ho.2;obtain ⟨T,hT⟩:∃ T,T=w.alloc (.cells #[.slice uo o.trays.length uc,.slice vo o.totals.length vc] 35):=⟨_,rfl⟩;have hbT:Below w.heap.size w T:=by rw [hT];exact (zB _ _).alloc (zA _) _
 have hBT:Box T w.heap.size [.slice uo o.trays.length uc,.slice vo o.totals.length vc]:=by rw [hT];exact Box.new w [.slice uo o.trays.length uc,.slice vo o.totals.length vc] _
 have h1:=RdL.onn yBH ho.1 hbT;obtain ⟨uo',uc',hs,hop⟩:=RdL.open yBH h1;injection hs with e1 e2 e3;subst e1;subst e3;clear e2;have c0:=hBT.cell 0 _ rfl;have Hop:=hid hop;have HT:=hid hT;have HbT:=hid hbT;obtain ⟨ts,hts⟩:∃ ts,ts=o.trays:=⟨_,rfl⟩;rw [<- hts] at Hop HT c0 hle |-;obtain ⟨n,hn⟩:∃ n,n=ts.length:=⟨_,rfl⟩;rw [<- hn] at Hop HT c0 hle |-;have Hn:=hid hn;obtain ⟨R,hR⟩:∃ R,R=colO ts:=⟨_,rfl⟩;rw [<- hR];have HR:=hid hR;clear hT hbT hBT ho h1 hop hn hR;generalize o.totals.length=m at *
 go_enter Tryz.func91,Tryz.ntmps91;go_upto_region 1 with fail;rw [<- HT.out];go_wp2;go_loopw [8] (fun iv wr=>∃ k:Nat,k<=n/\iv=.int .i64 k/\Hid (R=colO (ts.drop k))/\Hid (Below T.heap.size T wr)) (fun i _=>n - (intOf i).toNat)
 case atStart=>exact ⟨0,zK _,rfl,hid (by rw [List.drop_zero];exact HR.out),hid (zB _ _)⟩
 case round =>
  obtain ⟨k,hk,rfl,HK,Hb⟩:=hrel;by_cases hkn:k<n
  . obtain ⟨b,off,rfl,hlt,hc⟩:=Hop.out (by omega)
    obtain ⟨d,ro,rc,hd,hcell,hrd⟩:=hc k hkn;have d1:=(Hb.out.cell (p:=⟨b,off+k,none⟩) hlt.2).trans hcell;have hK:=HK.out;rw [colO_at hd] at hK;by_cases h0:d.length=0
    . have HK2:Hid (R=colO (ts.drop (k+1))):=hid (by rw [hK,if_pos (List.eq_nil_of_length_eq_zero h0)])
      rw [h0] at d1;clear hc hcell hrd hK c0 HK;go_wp2;go_roundw
      case rel=>exact ⟨k+1,by omega,by go_num,HK2,Hb⟩
      case measure=>simp [intOf];omega
    . obtain ⟨ro',rc',hs,hop2⟩:=RdInt64SS.open (RdInt64SS.onn hrd Hb.out)
      injection hs with e1 e2 e3;subst e1;subst e3;clear e2;obtain ⟨b2,off2,rfl,hlt2,hc2⟩:=hop2 (by omega);obtain ⟨x,xo,xc,hx,hxc,hxr⟩:=hc2 0 (by omega);have hxl:=hxr.le;have HE:Hid (R=(x.length:Int)):=hid (by rw [hK,if_neg (fun e=>h0 (by rw [e];rfl))];unfold colsD;rw [if_neg (fun e=>h0 (by rw [e];rfl)),head_of hx]);rw [Nat.add_zero] at hxc;obtain ⟨dl,hdl⟩:∃ q,q=d.length:=⟨_,rfl⟩;rw [<- hdl] at d1 h0;have i1:0<dl:=by omega
      have i2:(0:Int)<(dl:Int):=by omega
      have hcc:=fun W=>columns_c (ao:=xo) (n:=x.length) (cap:=xc) (w:=W) (by omega);have Hcc:=hid hcc;clear hc hcell hrd hK c0 HK hop2 hc2 hx hxr hcc hdl hxl;generalize x.length=xl at *
      go_wp2_with fail;with_reducible refine (Hcc.out _).mono ?_
      rintro e w2 ⟨rfl,hb2⟩;have Hb2:=hid (HbT.out.trans ((Hb.out.trans (hb2.mono Hb.out.size)).mono HbT.out.size));clear hb2;go_wp2;go_ret;exact ⟨yAO HE.out.symm,Hb2.out⟩
  . obtain rfl:k=n:=by omega
    have HE:Hid (R=20):=hid (by rw [HK.out,List.drop_of_length_le (by have:=Hn.out;omega)];rfl);have Hb2:=hid (HbT.out.trans (Hb.out.mono HbT.out.size));clear HK;go_wp2;go_ret;exact ⟨yAO HE.out.symm,Hb2.out⟩
def trayB (C:Int) (d:List (List Int)):Bool:=deckB d && (decide (d=[]) || decide (colsD d=C))
theorem offB_eq (o:OffT):offB o=(decide (o.trays.length=6) && decide (o.totals.length<=20) && o.trays.all (trayB (colO o.trays))):=rfl
theorem ValidOffice_c {o:OffT} {u v:Value} {w:World} {B:Nat} (ho:RdOff B w u v o) :
 Calls Tryz.prog 48 #[.agg #[u,v]] w fun e w'=>e=.returned (.bool (offB o))/\Below w.heap.size w w':=by
 have hle:=RdL.le ho.1;obtain ⟨uo,uc,rfl⟩:=RdL.shape ho.1;obtain ⟨vo,vc,rfl⟩:=RdL.shape ho.2;obtain ⟨T,hT⟩:∃ T,T=w.alloc (.cells #[.slice uo o.trays.length uc,.slice vo o.totals.length vc] 35):=⟨_,rfl⟩;have hbT:Below w.heap.size w T:=by rw [hT];exact (zB _ _).alloc (zA _) _
 have hBT:Box T w.heap.size [.slice uo o.trays.length uc,.slice vo o.totals.length vc]:=by rw [hT];exact Box.new w [.slice uo o.trays.length uc,.slice vo o.totals.length vc] _
 have h1:=RdL.onn yBH ho.1 hbT;have hoT:=RdOff.onn ho hbT;obtain ⟨uo',uc',hs,hop⟩:=RdL.open yBH h1;injection hs with e1 e2 e3;subst e1;subst e3;clear e2;have c0:=hBT.cell 0 _ rfl;have c1:=hBT.cell 1 _ rfl;have Hop:=hid hop;have HT:=hid hT;have HbT:=hid hbT;have HBT:=hid hBT;have hoc:=fun (W:World) (hW:Below T.heap.size T W)=>officeColumns_c (w:=W) (RdOff.onn hoT hW);obtain ⟨C,hC⟩:∃ C,C=colO o.trays:=⟨_,rfl⟩;rw [<- hC] at hoc;have Hoc:=hid hoc;obtain ⟨R,hR⟩:∃ R,R=offB o:=⟨_,rfl⟩;rw [<- hR];have HR:Hid (R=(decide (o.trays.length=6) && decide (o.totals.length<=20) && o.trays.all (trayB C))):=hid (by rw [hR,offB_eq,hC]);obtain ⟨ts,hts⟩:∃ ts,ts=o.trays:=⟨_,rfl⟩;rw [<- hts] at Hop HT HBT c0 hle HR Hoc |-;obtain ⟨n,hn⟩:∃ n,n=ts.length:=⟨_,rfl⟩;rw [<- hn] at Hop HT HBT c0 hle HR Hoc |-;have Hn:=hid hn;obtain ⟨m,hm⟩:∃ m,m=o.totals.length:=⟨_,rfl⟩;rw [<- hm] at HT HBT c1 HR Hoc |-;clear hT hbT hBT ho h1 hop hn hR hoT hoc hC hm hts;go_enter Tryz.func48,Tryz.ntmps48;go_upto_region 1 with fail;rw [<- HT.out];by_cases hn6:n=6
 . by_cases hm20:m<=20
   . have i1:¬ (20:Int)<(m:Int):=by omega
     have HR2:Hid (R=ts.all (trayB C)):=hid (by rw [HR.out,decide_eq_true hn6,decide_eq_true hm20];rfl);subst hn6;clear HR;go_wp2;go_loopw [18] (fun iv wr=>∃ k:Nat,k<=6/\iv=.int .i64 k/\Hid ((ts.take k).all (trayB C)=true)/\Hid (Below T.heap.size T wr)) (fun i _=>6 - (intOf i).toNat)
     case atStart=>exact ⟨0,zK _,rfl,hid rfl,hid (zB _ _)⟩
     case round =>
      obtain ⟨k,hk,rfl,HK,Hb⟩:=hrel;by_cases hkn:k<6
      . obtain ⟨b,off,rfl,hlt,hc⟩:=Hop.out (by omega)
        obtain ⟨d,ro,rc,hd,hcell,hrd⟩:=hc k hkn;have d1:=(Hb.out.cell (p:=⟨b,off+k,none⟩) hlt.2).trans hcell;have hrw:=RdInt64SS.onn hrd Hb.out;have Hall:Hid (trayB C d=true->(ts.take (k+1)).all (trayB C)=true):=hid (fun h=>by rw [yAE hd,List.all_append,HK.out];simp [h]);have Hno:Hid (trayB C d=false->R=false):=hid (fun h=>by
         rw [HR2.out,List.all_eq_false];exact ⟨d,zC hd,by rw [h];decide⟩)
        have hvd:=fun x os=>ValidDeck_c (w:=grow (redrawn wr x) os) (RdInt64SS.below hrw (below_regrown wr x os) (zA _));obtain ⟨V,hV⟩:∃ V,V=deckB d:=⟨_,rfl⟩;rw [<- hV] at hvd;have Hvd:=hid hvd;have HV:=hid hV;have hBr:=HBT.out.on Hb.out;have k0:=cell_regrown (hBr.cell 0 _ rfl);have k1:=cell_regrown (hBr.cell 1 _ rfl);have Hocr:Hid (∀ x os,Calls Tryz.prog 91 #[.agg #[.slice (some ⟨b,off,none⟩) 6 uc,.slice vo m vc]] (grow (redrawn wr x) os) fun e w'=>e=.returned (.int .i64 C)/\Below (grow (redrawn wr x) os).heap.size (grow (redrawn wr x) os) w'):=hid (fun x os=>Hoc.out _ (Hb.out.trans ((below_regrown wr x os).mono Hb.out.size)));cases V with
        | false =>
         have HE:=hid (Hno.out (by unfold trayB;rw [<- HV.out];rfl));clear hc hcell hrd hrw hvd hBr hV hd;generalize d.length=dl at *
         go_upto_region 6 with fail;refine wp_region_quiet_below (by kernel_rfl) (by kernel_rfl) ?_;repeat ((with_reducible refine wpQuiet_step (fun K hK=>?_));go_simp;first | ((with_reducible refine hK _ ?_);clear hK K) | ((with_reducible rw [if_neg]);rotate_left;(intro hgd;cases hgd);(with_reducible refine hK _ ?_);clear hK K) | (apply Exists.intro;refine ⟨fun _=>?_,hK _ ?_⟩;((first | (go_at_call 89;with_reducible exact yAI (Hvd.out _ _))));clear hK K))
         refine wpQuiet_nil ?_;intro _ hw';obtain ⟨⟨dq,osq⟩,hw''⟩:=hw';subst hw'';have hbq:=below_regrown wr dq osq;generalize grow (redrawn wr dq) osq=wq at hbq |-;have Hb2:=hid (HbT.out.trans ((Hb.out.trans (hbq.mono Hb.out.size)).mono HbT.out.size));clear hbq k0 k1 d1;go_wp2;go_ret;exact ⟨yAD HE.out.symm,Hb2.out⟩
        | true =>
         by_cases h0:d.length=0
         . have HA2:=hid (Hall.out (by unfold trayB;rw [<- HV.out,decide_eq_true (List.eq_nil_of_length_eq_zero h0)];rfl))
           rw [h0] at d1 Hvd;have i2:¬ (0:Int)<((0:Nat):Int):=by omega
           clear hc hcell hrd hrw hvd hBr hV hd;go_upto_region 6 with fail;refine wp_region_quiet_below (by kernel_rfl) (by kernel_rfl) ?_;repeat ((with_reducible refine wpQuiet_step (fun K hK=>?_));go_simp;first | ((with_reducible refine hK _ ?_);clear hK K) | ((with_reducible rw [if_neg]);rotate_left;(intro hgd;cases hgd);(with_reducible refine hK _ ?_);clear hK K) | (apply Exists.intro;refine ⟨fun _=>?_,hK _ ?_⟩;((first | (go_at_call 89;with_reducible exact yAI (Hvd.out _ _))));clear hK K))
           refine wpQuiet_nil ?_;intro _ hw';obtain ⟨⟨dq,osq⟩,hw''⟩:=hw';subst hw'';have hbq:=below_regrown wr dq osq;generalize grow (redrawn wr dq) osq=wq at hbq |-;have Hb2:=hid (Hb.out.trans (hbq.mono Hb.out.size));clear hbq k0 k1 d1;go_wp2;go_roundw
           case rel=>exact ⟨k+1,by omega,by go_num,HA2,Hb2⟩
           case measure=>simp [intOf];omega
         . obtain ⟨ro',rc',hs,hop2⟩:=RdInt64SS.open hrw
           injection hs with e1 e2 e3;subst e1;subst e3;clear e2;obtain ⟨b2,off2,rfl,hlt2,hc2⟩:=hop2 (by omega);obtain ⟨x,xo,xc,hx,hxc,hxr⟩:=hc2 0 (by omega);have hxl:=hxr.le;rw [Nat.add_zero] at hxc;have k3:=cell_regrown hxc;have hcd:colsD d=(x.length:Int):=by unfold colsD;rw [if_neg (fun e=>h0 (by rw [e];rfl)),head_of hx]
           have htb:trayB C d=decide ((x.length:Int)=C):=by
            unfold trayB;rw [<- HV.out,hcd,decide_eq_false (show ¬ d=[] from fun e=>h0 (by rw [e];rfl))];simp
           have Htb:=hid htb;have hcc:=fun W=>columns_c (ao:=xo) (n:=x.length) (cap:=xc) (w:=W) (by omega);have Hcc:=hid hcc;obtain ⟨dl,hdl⟩:∃ q,q=d.length:=⟨_,rfl⟩;rw [<- hdl] at d1 h0 Hvd;have i1:0<dl:=by omega
           have i2:(0:Int)<(dl:Int):=by omega
           clear hc hcell hrd hrw hvd hBr hV hd hop2 hc2 hx hxr hcd htb hcc hdl hxc;generalize x.length=xl at *
           by_cases hxC:(xl:Int)=C
           . have HA2:=hid (Hall.out (by rw [Htb.out];exact decide_eq_true hxC))
             have hx2:((xl:Int) != C)=false:=by simp [hxC]
             have HxC:=hid hxC;clear hxC;go_upto_region 6 with fail;refine wp_region_quiet_below (by kernel_rfl) (by kernel_rfl) ?_;repeat ((with_reducible refine wpQuiet_step (fun K hK=>?_));go_simp;first | ((with_reducible refine hK _ ?_);clear hK K) | ((with_reducible rw [if_neg]);rotate_left;(intro hgd;cases hgd);(with_reducible refine hK _ ?_);clear hK K) | (apply Exists.intro;refine ⟨fun _=>?_,hK _ ?_⟩;((first | (go_at_call 89;with_reducible exact yAI (Hvd.out _ _)) | (go_at_call 90;with_reducible exact yAI (Hcc.out _)) | (go_at_call 91;with_reducible exact yAI (Hocr.out _ _))));clear hK K))
             refine wpQuiet_nil ?_;intro _ hw';obtain ⟨⟨dq,osq⟩,hw''⟩:=hw';subst hw'';have hbq:=below_regrown wr dq osq;generalize grow (redrawn wr dq) osq=wq at hbq |-;have Hb2:=hid (Hb.out.trans (hbq.mono Hb.out.size));clear hbq k0 k1 d1 k3 hx2;go_wp2;go_roundw
             case rel=>exact ⟨k+1,by omega,by go_num,HA2,Hb2⟩
             case measure=>simp [intOf];omega
           . have HE:=hid (Hno.out (by rw [Htb.out];exact decide_eq_false hxC))
             have hx2:((xl:Int) != C)=true:=by simpa using hxC
             clear hxC;go_upto_region 6 with fail;refine wp_region_quiet_below (by kernel_rfl) (by kernel_rfl) ?_;repeat ((with_reducible refine wpQuiet_step (fun K hK=>?_));go_simp;first | ((with_reducible refine hK _ ?_);clear hK K) | ((with_reducible rw [if_neg]);rotate_left;(intro hgd;cases hgd);(with_reducible refine hK _ ?_);clear hK K) | (apply Exists.intro;refine ⟨fun _=>?_,hK _ ?_⟩;((first | (go_at_call 89;with_reducible exact yAI (Hvd.out _ _)) | (go_at_call 90;with_reducible exact yAI (Hcc.out _)) | (go_at_call 91;with_reducible exact yAI (Hocr.out _ _))));clear hK K))
             refine wpQuiet_nil ?_;intro _ hw';obtain ⟨⟨dq,osq⟩,hw''⟩:=hw';subst hw'';have hbq:=below_regrown wr dq osq;generalize grow (redrawn wr dq) osq=wq at hbq |-;have Hb2:=hid (HbT.out.trans ((Hb.out.trans (hbq.mono Hb.out.size)).mono HbT.out.size));clear hbq k0 k1 d1 k3 hx2;go_wp2;go_ret;exact ⟨yAD HE.out.symm,Hb2.out⟩
      . obtain rfl:k=6:=by omega
        have HE:Hid (R=true):=hid (by rw [HR2.out,<- HK.out,zH (by have:=Hn.out;omega)]);have Hb2:=hid (HbT.out.trans (Hb.out.mono HbT.out.size));go_wp2;go_ret;exact ⟨yAD HE.out.symm,Hb2.out⟩
   . have i1:(20:Int)<(m:Int):=by omega
     have HE:Hid (R=false):=hid (by rw [HR.out,decide_eq_false hm20];simp);subst hn6;go_wp2;go_ret;exact ⟨yAD HE.out.symm,HbT.out⟩
 . have HE:Hid (R=false):=hid (by rw [HR.out,decide_eq_false hn6];rfl)
   have i1:((n:Int) != 6)=true:=by
    have:¬ (n:Int)=6:=by omega
    simpa using this
   go_wp2;go_ret;exact ⟨yAD HE.out.symm,HbT.out⟩
theorem l15Width_c {o:OffT} {u v:Value} {w:World} {B P:Nat} (ho:RdOff B w u v o) (hP:Box w P [u,v]) :
 Calls Tryz.prog 42 #[.pointer (some ⟨P,0,none⟩)] w fun e w'=>e=.returned (.int .i64 (colO o.trays))/\w=w':=by
 have hle:=RdL.le ho.1;obtain ⟨uo,uc,rfl,hop⟩:=RdL.open yBH ho.1;have c0:=hP.cell 0 _ rfl;have Hop:=hid hop;obtain ⟨ts,hts⟩:∃ ts,ts=o.trays:=⟨_,rfl⟩;rw [<- hts] at Hop c0 hle |-;obtain ⟨n,hn⟩:∃ n,n=ts.length:=⟨_,rfl⟩;rw [<- hn] at Hop c0 hle;have Hn:=hid hn;obtain ⟨R,hR⟩:∃ R,R=colO ts:=⟨_,rfl⟩;rw [<- hR];have HR:=hid hR;clear ho hP hop hn hR hts;go_enter Tryz.func42,Tryz.ntmps42;go_wp2;go_loopw [3] (fun iv wr=>∃ k:Nat,k<=n/\iv=.int .i64 k/\Hid (R=colO (ts.drop k))/\Hid (w=wr)) (fun i _=>n - (intOf i).toNat)
 case atStart=>exact ⟨0,zK _,rfl,hid (by rw [List.drop_zero];exact HR.out),hid rfl⟩
 case round =>
  obtain ⟨k,hk,rfl,HK,Hw⟩:=hrel;obtain rfl:=Hw.out;by_cases hkn:k<n
  . obtain ⟨b,off,rfl,hlt,hc⟩:=Hop.out (by omega)
    obtain ⟨d,ro,rc,hd,hcell,hrd⟩:=hc k hkn;have hK:=HK.out;rw [colO_at hd] at hK;by_cases h0:d.length=0
    . have HK2:Hid (R=colO (ts.drop (k+1))):=hid (by rw [hK,if_pos (List.eq_nil_of_length_eq_zero h0)])
      rw [h0] at hcell;clear hc hrd hK HK;go_wp2;go_roundw
      case rel=>exact ⟨k+1,by omega,by go_num,HK2,hid trivial⟩
      case measure=>simp [intOf];omega
    . obtain ⟨ro',rc',hs,hop2⟩:=RdInt64SS.open hrd
      injection hs with e1 e2 e3;subst e1;subst e3;clear e2;obtain ⟨b2,off2,rfl,hlt2,hc2⟩:=hop2 (by omega);obtain ⟨x,xo,xc,hx,hxc,hxr⟩:=hc2 0 (by omega);have HE:Hid (R=(x.length:Int)):=hid (by rw [hK,if_neg (fun e=>h0 (by rw [e];rfl))];unfold colsD;rw [if_neg (fun e=>h0 (by rw [e];rfl)),head_of hx]);rw [Nat.add_zero] at hxc;obtain ⟨dl,hdl⟩:∃ q,q=d.length:=⟨_,rfl⟩;rw [<- hdl] at hcell h0;have i1:0<dl:=by omega
      have i2:(0:Int)<(dl:Int):=by omega
      clear hc hrd hK HK hop2 hc2 hx hxr hdl;generalize x.length=xl at *
      go_wp2;go_ret;exact ⟨yAO HE.out.symm,rfl⟩
  . obtain rfl:k=n:=by omega
    have HE:Hid (R=20):=hid (by rw [HK.out,List.drop_of_length_le (by have:=Hn.out;omega)];rfl);clear HK;go_wp2;go_ret;exact ⟨yAO HE.out.symm,rfl⟩
theorem l15Ok_c {o:OffT} {u v:Value} {w:World} {B P:Nat} (ho:RdOff B w u v o) (hP:Box w P [u,v]) :
 Calls Tryz.prog 38 #[.pointer (some ⟨P,0,none⟩)] w fun e w'=>e=.returned (.bool (offB o))/\Below w.heap.size w w':=by
 have hle:=RdL.le ho.1;obtain ⟨uo,uc,rfl⟩:=RdL.shape ho.1;obtain ⟨vo,vc,rfl⟩:=RdL.shape ho.2;obtain ⟨uo',uc',hs,hop⟩:=RdL.open yBH ho.1;injection hs with e1 e2 e3;subst e1;subst e3;clear e2;have c0:=hP.cell 0 _ rfl;have c1:=hP.cell 1 _ rfl;have Hop:=hid hop;have HP:=hid hP;have hoc:=fun (W:World) (hW:Below w.heap.size w W)=>l15Width_c (w:=W) (RdOff.onn ho hW) (hP.on hW);obtain ⟨C,hC⟩:∃ C,C=colO o.trays:=⟨_,rfl⟩;rw [<- hC] at hoc;have Hoc:=hid hoc;obtain ⟨R,hR⟩:∃ R,R=offB o:=⟨_,rfl⟩;rw [<- hR];have HR:Hid (R=(decide (o.trays.length=6) && decide (o.totals.length<=20) && o.trays.all (trayB C))):=hid (by rw [hR,offB_eq,hC]);obtain ⟨ts,hts⟩:∃ ts,ts=o.trays:=⟨_,rfl⟩;rw [<- hts] at Hop HP c0 hle HR;obtain ⟨n,hn⟩:∃ n,n=ts.length:=⟨_,rfl⟩;rw [<- hn] at Hop HP c0 hle HR;have Hn:=hid hn;obtain ⟨m,hm⟩:∃ m,m=o.totals.length:=⟨_,rfl⟩;rw [<- hm] at HP c1 HR;clear ho hP hop hn hR hoc hC hm hts;go_enter Tryz.func38,Tryz.ntmps38;go_wp2;go_loopw [3] (fun iv wr=>∃ k:Nat,k<=n/\iv=.int .i64 k/\Hid ((ts.take k).all (trayB C)=true)/\Hid (Below w.heap.size w wr)) (fun i _=>n - (intOf i).toNat)
 case atStart=>exact ⟨0,zK _,rfl,hid rfl,hid (zB _ _)⟩
 case round =>
  obtain ⟨k,hk,rfl,HK,Hb⟩:=hrel;have f0:=(HP.out.on Hb.out).cell 0 _ rfl;have f1:=(HP.out.on Hb.out).cell 1 _ rfl;by_cases hkn:k<n
  . obtain ⟨b,off,rfl,hlt,hc⟩:=Hop.out (by omega)
    obtain ⟨d,ro,rc,hd,hcell,hrd⟩:=hc k hkn;have d1:=(Hb.out.cell (p:=⟨b,off+k,none⟩) hlt.2).trans hcell;have k2:=cell_regrown d1;have hrw:=RdInt64SS.onn hrd Hb.out;have Hall:Hid (trayB C d=true->(ts.take (k+1)).all (trayB C)=true):=hid (fun h=>by rw [yAE hd,List.all_append,HK.out];simp [h]);have Hno:Hid (trayB C d=false->R=false):=hid (fun h=>by
     rw [HR.out,show ts.all (trayB C)=false from by
      rw [List.all_eq_false];exact ⟨d,zC hd,by rw [h];decide⟩]
     simp)
    have hvd:=fun x os=>l02Deck_c (w:=grow (redrawn wr x) os) (RdInt64SS.below hrw (below_regrown wr x os) (zA _));obtain ⟨V,hV⟩:∃ V,V=deckB d:=⟨_,rfl⟩;rw [<- hV] at hvd;have Hvd:=hid hvd;have HV:=hid hV;have k0:=cell_regrown f0;have Hocr:Hid (∀ x os,Calls Tryz.prog 42 #[.pointer (some ⟨P,0,none⟩)] (grow (redrawn wr x) os) fun e w'=>e=.returned (.int .i64 C)/\grow (redrawn wr x) os=w'):=hid (fun x os=>Hoc.out _ (Hb.out.trans ((below_regrown wr x os).mono Hb.out.size)));cases V with
    | false =>
     have HE:=hid (Hno.out (by unfold trayB;rw [<- HV.out];rfl));clear hc hcell hrd hrw hvd hV hd;generalize d.length=dl at *
     go_upto_region 4 with fail;clear f0 f1;refine wp_region_quiet_below (by kernel_rfl) (by kernel_rfl) ?_;repeat ((with_reducible refine wpQuiet_step (fun K hK=>?_));go_simp;first | ((with_reducible refine hK _ ?_);clear hK K) | ((with_reducible rw [if_neg]);rotate_left;(intro hgd;cases hgd);(with_reducible refine hK _ ?_);clear hK K) | (apply Exists.intro;refine ⟨fun _=>?_,hK _ ?_⟩;((first | (go_at_call 79;with_reducible exact qb_N (Hvd.out _ _))));clear hK K))
     refine wpQuiet_nil ?_;intro _ hw';obtain ⟨⟨dq,osq⟩,hw''⟩:=hw';subst hw'';have hbq:=below_regrown wr dq osq;generalize grow (redrawn wr dq) osq=wq at hbq |-;have Hb2:=hid (Hb.out.trans (hbq.mono Hb.out.size));clear hbq k0 k2 d1;go_wp2;go_ret;exact ⟨yAD HE.out.symm,Hb2.out⟩
    | true =>
     by_cases h0:d.length=0
     . have HA2:=hid (Hall.out (by unfold trayB;rw [<- HV.out,decide_eq_true (List.eq_nil_of_length_eq_zero h0)];rfl))
       rw [h0] at d1 k2 Hvd;have i2:¬ (0:Int)<((0:Nat):Int):=by omega
       clear hc hcell hrd hrw hvd hV hd;go_upto_region 4 with fail;clear f0 f1;refine wp_region_quiet_below (by kernel_rfl) (by kernel_rfl) ?_;repeat ((with_reducible refine wpQuiet_step (fun K hK=>?_));go_simp;first | ((with_reducible refine hK _ ?_);clear hK K) | ((with_reducible rw [if_neg]);rotate_left;(intro hgd;cases hgd);(with_reducible refine hK _ ?_);clear hK K) | (apply Exists.intro;refine ⟨fun _=>?_,hK _ ?_⟩;((first | (go_at_call 79;with_reducible exact qb_N (Hvd.out _ _))));clear hK K))
       refine wpQuiet_nil ?_;intro _ hw';obtain ⟨⟨dq,osq⟩,hw''⟩:=hw';subst hw'';have hbq:=below_regrown wr dq osq;generalize grow (redrawn wr dq) osq=wq at hbq |-;have Hb2:=hid (Hb.out.trans (hbq.mono Hb.out.size));clear hbq k0 k2 d1;go_wp2;go_roundw
       case rel=>exact ⟨k+1,by omega,by go_num,HA2,Hb2⟩
       case measure=>simp [intOf];omega
     . obtain ⟨ro',rc',hs,hop2⟩:=RdInt64SS.open hrw
       injection hs with e1 e2 e3;subst e1;subst e3;clear e2;obtain ⟨b2,off2,rfl,hlt2,hc2⟩:=hop2 (by omega);obtain ⟨x,xo,xc,hx,hxc,hxr⟩:=hc2 0 (by omega);have hxl:=hxr.le;rw [Nat.add_zero] at hxc;have k3:=cell_regrown hxc;have hcd:colsD d=(x.length:Int):=by unfold colsD;rw [if_neg (fun e=>h0 (by rw [e];rfl)),head_of hx]
       have htb:trayB C d=decide ((x.length:Int)=C):=by
        unfold trayB;rw [<- HV.out,hcd,decide_eq_false (show ¬ d=[] from fun e=>h0 (by rw [e];rfl))];simp
       have Htb:=hid htb;obtain ⟨dl,hdl⟩:∃ q,q=d.length:=⟨_,rfl⟩;rw [<- hdl] at d1 k2 h0 Hvd;have i1:0<dl:=by omega
       have i2:(0:Int)<(dl:Int):=by omega
       clear hc hcell hrd hrw hvd hV hd hop2 hc2 hx hxr hcd htb hdl hxc;generalize x.length=xl at *
       by_cases hxC:(xl:Int)=C
       . have HA2:=hid (Hall.out (by rw [Htb.out];exact decide_eq_true hxC))
         have hx2:((xl:Int) != C)=false:=by simp [hxC]
         have HxC:=hid hxC;clear hxC;go_upto_region 4 with fail;clear f0 f1;refine wp_region_quiet_below (by kernel_rfl) (by kernel_rfl) ?_;repeat ((with_reducible refine wpQuiet_step (fun K hK=>?_));go_simp;first | ((with_reducible refine hK _ ?_);clear hK K) | ((with_reducible rw [if_neg]);rotate_left;(intro hgd;cases hgd);(with_reducible refine hK _ ?_);clear hK K) | (apply Exists.intro;refine ⟨fun _=>?_,hK _ ?_⟩;((first | (go_at_call 79;with_reducible exact qb_N (Hvd.out _ _)) | (go_at_call 42;with_reducible exact qb_same (Hocr.out _ _))));clear hK K))
         refine wpQuiet_nil ?_;intro _ hw';obtain ⟨⟨dq,osq⟩,hw''⟩:=hw';subst hw'';have hbq:=below_regrown wr dq osq;generalize grow (redrawn wr dq) osq=wq at hbq |-;have Hb2:=hid (Hb.out.trans (hbq.mono Hb.out.size));clear hbq k0 k2 d1 k3 hx2;go_wp2;go_roundw
         case rel=>exact ⟨k+1,by omega,by go_num,HA2,Hb2⟩
         case measure=>simp [intOf];omega
       . have HE:=hid (Hno.out (by rw [Htb.out];exact decide_eq_false hxC))
         have hx2:((xl:Int) != C)=true:=by simpa using hxC
         clear hxC;go_upto_region 4 with fail;clear f0 f1;refine wp_region_quiet_below (by kernel_rfl) (by kernel_rfl) ?_;repeat ((with_reducible refine wpQuiet_step (fun K hK=>?_));go_simp;first | ((with_reducible refine hK _ ?_);clear hK K) | ((with_reducible rw [if_neg]);rotate_left;(intro hgd;cases hgd);(with_reducible refine hK _ ?_);clear hK K) | (apply Exists.intro;refine ⟨fun _=>?_,hK _ ?_⟩;((first | (go_at_call 79;with_reducible exact qb_N (Hvd.out _ _)) | (go_at_call 42;with_reducible exact qb_same (Hocr.out _ _))));clear hK K))
         refine wpQuiet_nil ?_;intro _ hw';obtain ⟨⟨dq,osq⟩,hw''⟩:=hw';subst hw'';have hbq:=below_regrown wr dq osq;generalize grow (redrawn wr dq) osq=wq at hbq |-;have Hb2:=hid (Hb.out.trans (hbq.mono Hb.out.size));clear hbq k0 k2 d1 k3 hx2;go_wp2;go_ret;exact ⟨yAD HE.out.symm,Hb2.out⟩
  . obtain rfl:k=n:=by omega
    have HE:Hid (R=(decide (k=6) && decide (m<=20))):=hid (by rw [HR.out,show ts.all (trayB C)=true from by rw [<- HK.out,zH (by have:=Hn.out;omega)]];simp);clear HK HR c0 c1;by_cases h6:k=6
    . subst h6
      by_cases h20:m<=20
      . have i3:(m:Int)<=20:=by omega
        have HE2:Hid (R=true):=hid (by rw [HE.out];simp [h20]);go_wp2;go_ret;exact ⟨yAD HE2.out.symm,Hb.out⟩
      . have i3:¬ (m:Int)<=20:=by omega
        have HE2:Hid (R=false):=hid (by rw [HE.out];simp [h20]);go_wp2;go_ret;exact ⟨yAD HE2.out.symm,Hb.out⟩
    . have i3:((k:Int) == 6)=false:=beq_eq_false_iff_ne.2 (by omega)
      have HE2:Hid (R=false):=hid (by rw [HE.out];simp [h6]);go_wp2;go_ret;exact ⟨yAD HE2.out.symm,Hb.out⟩
theorem eT_ok {s:ByteArray} (h:s.size<=1000):eT.ok s:=by show s.size<=9223372036854775807;omega
theorem l07Keys_c {d:List (List Int)} {v:Value} {w:World} {A:Nat} {f t:Int} (hd:RdInt64SS A w v d) :
 Calls Tryz.prog 161 #[v,.agg #[.int .i64 f,.int .i64 t]] w fun e w'=>(∃ r,e=.returned (.tuple #[r,.int .i64 (sortC d f t)])/\(sortC d f t=0->Own eT 9 w.heap.size w' r (keyT d f t)))/\Below w.heap.size w w':=by
 obtain ⟨i0,hi,hz0,hz1,hz2⟩:=info_parts Tryz.infoString;obtain ⟨vo,vc,rfl⟩:=hd.shape;obtain ⟨T,hT⟩:∃ T,T=w.alloc (.cells #[.int .i64 f,.int .i64 t] 73):=⟨_,rfl⟩;have hbT:Below w.heap.size w T:=by rw [hT];exact (zB _ _).alloc (zA _) _
 have hBT:Box T w.heap.size [.int .i64 f,.int .i64 t]:=by rw [hT];exact Box.new w [.int .i64 f,.int .i64 t] _
 have hdT:=RdInt64SS.onn hd hbT;have hdk:=l02Deck_c hdT;obtain ⟨R,hR⟩:∃ R,R=sortC d f t:=⟨_,rfl⟩;rw [<- hR];have HR:=hid hR;have HT:=hid hT;have HbT:=hid hbT;have HBT:=hid hBT;have HdT:=hid hdT;obtain ⟨V,hV⟩:∃ V,V=deckB d:=⟨_,rfl⟩;rw [<- hV] at hdk;have HV:=hid hV;have Hdk:=hid hdk;obtain ⟨n,hn⟩:∃ n,n=d.length:=⟨_,rfl⟩;rw [<- hn] at HdT Hdk |-;have Hn:=hid hn;clear hT hbT hBT hd hdT hdk hV hR hn;go_enter Tryz.func161,Tryz.ntmps161;go_upto_region 1 with fail;rw [<- HT.out];go_wp2_with fail;with_reducible refine Hdk.out.mono ?_
 rintro e w1 ⟨rfl,m1,hm1⟩;have hb1:Below T.heap.size T w1:=by rw [hm1];exact (zB _ _).drewNy m1
 have hQ1:=HBT.out.on hb1;have hd1:=RdInt64SS.onn HdT.out hb1;have Hb1:=hid (HbT.out.trans (hb1.mono HbT.out.size));have HQ1:=hid hQ1;have Hd1:=hid hd1;clear hb1 hm1;cases V with
 | false =>
  have HE:Hid (R=1):=hid (by rw [HR.out];unfold sortC;rw [if_pos HV.out.symm]);clear hQ1 hd1;go_wp2;go_ret2;exact ⟨⟨.slice none 0 0,by rw [HE.out];rfl,fun h=>by rw [HE.out] at h;exact absurd h (by decide)⟩,Hb1.out⟩
 | true =>
  have hp:=yAF HV.out.symm;obtain ⟨C,hC⟩:∃ C,C=colsD d:=⟨_,rfl⟩;have hCb:=colsD_bd HV.out.symm;rw [<- hC] at hCb;have HC:=hid hC;have f1:=cell_regrown (hQ1.cell 0 _ rfl);have f2:=cell_regrown (hQ1.cell 1 _ rfl);have hw:=fun y os=>l07Width_c (w:=grow (redrawn w1 y) os) (RdInt64SS.below hd1 (below_regrown w1 y os) (zA _));rw [<- hC] at hw;have hcf:=fun w=>yBR f t C w (by omega);obtain ⟨F,hF⟩:∃ F,F=decide (fieldP f t C):=⟨_,rfl⟩;rw [<- hF] at hcf;have HF:=hid hF;have Hw:=hid hw;have Hcf:=hid hcf;have HR1:Hid (R=if F=false then 2 else if hasD d f t=false then 8 else 0):=hid (by
   rw [HR.out];unfold sortC;rw [if_neg (by rw [<- HV.out];decide),<- HC.out];by_cases h:fieldP f t C
   . rw [if_neg (fun e=>e h),show F=true by rw [HF.out];exact decide_eq_true h];rfl
   . rw [if_pos h,show F=false by rw [HF.out];exact decide_eq_false h];rfl)
  have Hlen:Hid (n<=40):=hid (by rw [Hn.out];exact hp.1);have Hcl:=hid (fun (c:List Int) (hc:c∈d)=>yBY (hp.2 c hc).1);clear hw hcf hC hF hQ1 hd1 hp;go_wp2;refine wp_region_quiet_below (by kernel_rfl) (by kernel_rfl) ?_;repeat ((with_reducible refine wpQuiet_step (fun K hK=>?_));go_simp;first | ((with_reducible refine hK _ ?_);clear hK K) | (apply Exists.intro;refine ⟨fun _=>?_,hK _ ?_⟩;((first | (go_at_call 160;with_reducible exact qb_same (Hw.out _ _)) | (go_at_call 82;with_reducible exact yAI (Hcf.out _))));clear hK K))
  refine wpQuiet_nil ?_;intro _ hw';obtain ⟨⟨dq,osq⟩,hw''⟩:=hw';subst hw'';have hbq:=below_regrown w1 dq osq;generalize grow (redrawn w1 dq) osq=wq at hbq |-;obtain ⟨w2,hw2⟩:∃ x,x=wq:=⟨_,rfl⟩;subst hw2;have HQ2:=hid (HQ1.out.on hbq);have hd2:=RdInt64SS.onn Hd1.out hbq;have Hb2:=hid (Hb1.out.trans (hbq.mono Hb1.out.size));clear hbq f1 f2;cases F with
  | false =>
   have HE:Hid (R=2):=hid (by rw [HR1.out,if_pos rfl]);clear hd2;go_wp2;go_ret2;exact ⟨⟨.slice none 0 0,by rw [HE.out];rfl,fun h=>by rw [HE.out] at h;exact absurd h (by decide)⟩,Hb2.out⟩
  | true =>
   have HCo:=hid (yAT HV.out.symm (by rw [<- HC.out];exact of_decide_eq_true HF.out.symm));obtain ⟨vo',vc',hvs,ho⟩:=hd2.open;injection hvs with q1 q2 q3;subst q1;subst q3;clear q2;rw [<- Hn.out] at ho;have Ho:=hid ho;have hO0:Own eT 9 w2.heap.size (w2.alloc (.cells #[] 9)) (.slice (some ⟨w2.heap.size,0,none⟩) 0 0) ((keyT d f t).take 0):=Own.lit (E:=eT) (xs:=[]) (cs:=#[]) (zA _) rfl rfl (by decide) (fun x hx=>by cases hx);have HO0:=hid hO0;have hba:Below w2.heap.size w2 (w2.alloc (.cells #[] 9)):=(zB _ _).alloc (zA _) _;have HBA:=hid hba;have hn40:n<=40:=Hlen.out;clear hd2 ho hO0 hba;simp only [Bool.not_true];go_wp2;go_loopw [6,7] (fun ov iv wr=>∃ (k:Nat) (oo:Option Addr) (oc:Nat),k<=n/\iv=.int .i64 k/\ov=.slice oo k oc/\Hid (Own eT 9 w2.heap.size wr (.slice oo k oc) ((keyT d f t).take k))/\Hid ((d.take k).any (notF f t)=false)/\Hid (Below w2.heap.size w2 wr)) (fun _ i _=>n - (intOf i).toNat)
   case atStart=>exact ⟨0,_,_,zK _,rfl,rfl,HO0,hid rfl,HBA⟩
   case round =>
    obtain ⟨k,oo,oc,hk,rfl,rfl,HO,HA,HB⟩:=hrel;clear HO0 HBA;by_cases hkn:k<n
    . obtain ⟨b,off,rfl,hlt,hc⟩:=Ho.out (by omega)
      obtain ⟨x,ro,rc,hx,hcell,hrd⟩:=hc k hkn;have hm:=zC hx;have hcx:=HCo.out.2 x hm;have hc0:=HCo.out.1;have hxl:=Hcl.out x hm;have d1:=(HB.out.cell (p:=⟨b,off+k,none⟩) hlt.2).trans hcell;have hrw:=Rds.onn hrd HB.out;obtain ⟨ro',rc',hvs,hin⟩:=RdI.open hrw;injection hvs with q1 q2 q3;subst q1;subst q3;clear q2;obtain ⟨cb,co,rfl,_⟩:=hin (by omega);have hQr:=HQ2.out.on HB.out;have f1:=cell_regrown (hQr.cell 0 _ rfl);have f2:=cell_regrown (hQr.cell 1 _ rfl);have f3:=cell_regrown d1;have hkey:=fun y os=>l03Key_c (w:=grow (redrawn wr y) os) f t hc0.1 hc0.2 hcx (by omega) ((((below_regrown wr y os).cell (p:=⟨b,off+k,none⟩) (World.block_lt_of_cell? _ _ d1))).trans d1) (Rds.regrown hrw (zA _) y os);obtain ⟨sx,hsx⟩:∃ s,s=txV (partC x f t):=⟨_,rfl⟩;obtain ⟨px,hpx⟩:∃ p,p=okTx (partC x f t):=⟨_,rfl⟩;rw [<- hsx,<- hpx] at hkey;have Hkey:=hid hkey;have Hpx:=hid hpx;have Hsx:Hid (px=true->sx=toB (txI (partC x f t))/\sx.size<=1000):=hid (fun h=>by
       have e:sx=toB (txI (partC x f t)):=by rw [hsx];unfold txV;rw [if_pos (by rw [<- hpx];exact h)]
       refine ⟨e,?_⟩;rw [e,toB_size];unfold txI;rw [List.length_map,yAP hc0.1 hc0.2 hcx];omega)
      have Hno:Hid (notF f t x=!px):=hid (by rw [hpx];rfl);have Hx:=hid hx;have Htk:Hid ((keyT d f t).take (k+1)=(keyT d f t).take k++[toB (txI (partC x f t))]):=hid (yAE (keyT_at hx));have Hll:Hid (((keyT d f t).take k).length=k):=hid (by rw [zI,yAZ];have:=Hn.out;omega);have hkI:(k:Int)<(n:Int):=by omega
      obtain ⟨Tk,hTk⟩:∃ Tk,Tk=(keyT d f t).take k:=⟨_,rfl⟩;rw [<- hTk] at HO Htk Hll;clear hTk;clear hc hx hcell hrd hm hcx hc0 hxl hrw hin hQr d1 hkey hsx hpx;generalize x.length=xl at *
      go_upto_region 9 with fail;refine wp_region_quiet_below (by kernel_rfl) (by kernel_rfl) ?_;repeat ((with_reducible refine wpQuiet_step (fun K hK=>?_));go_simp;first | ((with_reducible refine hK _ ?_);clear hK K) | (apply Exists.intro;refine ⟨fun _=>?_,hK _ ?_⟩;((first | (go_at_call 201;with_reducible exact yAI (Hkey.out _ _))));clear hK K))
      refine wpQuiet_nil ?_;intro _ hw';obtain ⟨⟨dq,osq⟩,hw''⟩:=hw';subst hw'';have hbq:=below_regrown wr dq osq;generalize grow (redrawn wr dq) osq=wq at hbq |-;have HOq:=hid (HO.out.below hbq (zA _));have HBq:=hid (HB.out.trans (hbq.mono HB.out.size));clear hbq f1 f2 f3 HO HB;cases px with
      | false =>
       have HE:Hid (R=8):=hid (by
        rw [HR1.out,if_neg (by decide),if_pos];unfold hasD;rw [any_yes Hx.out (by rw [Hno.out];rfl)];rfl)
       have Hbz:=hid (Hb2.out.trans (HBq.out.mono Hb2.out.size));go_wp2;go_ret2;exact ⟨⟨.slice none 0 0,by rw [HE.out];rfl,fun h=>by rw [HE.out] at h;exact absurd h (by decide)⟩,Hbz.out⟩
      | true =>
       have HA2:=hid (any_snoc Hx.out HA.out (p:=notF f t) (by rw [Hno.out];rfl));have hs9:=Hsx.out rfl;have Hsok:Hid (eT.ok sx):=hid (eT_ok hs9.2);have Hsx2:=hid hs9.1;have hszr:w2.heap.size<=wq.heap.size:=HBq.out.size;clear hs9;go_wp2_with (first | (at_builtin;refine yAB (E:=eT) rfl _ _ 166 rfl Tryz.underlying166 hi hz0 hz1 hz2 rfl (by decide) rfl rfl (HOq.out.alloc _) (yAJ (E:=eT) (x:=sx) Hsok.out rfl) ?b1 ?b2 ?b3 ?_))
       case b1=>have:=Hll.out;have:=Hlen.out;unfold maxLen;simp;omega
       case b2=>have:=Hll.out;have:=Hlen.out;simp;omega
       case b3=>first | (simp;omega) | omega
       intro v3 w3 hO3 hg3;rw [Hsx2.out,<- Htk.out] at hO3;obtain ⟨ao3,cap3,hv3⟩:=hO3.shape;rw [show ((keyT d f t).take (k+1)).length=k+1 by rw [Htk.out,zE,Hll.out];rfl] at hv3;subst hv3;have HO3:=hid hO3;have HB3:=hid (HBq.out.grown hg3.alloc.1 HBq.out.size (fun q hq=>(HOq.out.lt q hq).1));clear hO3 hg3;go_wp2;go_roundw
       case rel=>exact ⟨k+1,_,_,by omega,by go_num,rfl,HO3,HA2,HB3⟩
       case measure=>simp [intOf];omega
    . obtain rfl:k=n:=by omega
      have hany:=any_full Hn.out HA.out;have HE:Hid (R=0):=hid (by rw [HR1.out,if_neg (by decide),if_neg (by unfold hasD;rw [hany];decide)]);have hOf:=HO.out.mono (base':=w.heap.size) Hb2.out.size;rw [zH (by rw [yAZ];have:=Hn.out;omega)] at hOf;have HOf:=hid hOf;have Hbz:=hid (Hb2.out.trans (HB.out.mono Hb2.out.size));clear hOf hany;go_wp2;go_ret2;exact ⟨⟨_,by rw [HE.out];rfl,fun _=>HOf.out⟩,Hbz.out⟩
theorem toList_ne {a b:ByteArray} (h:¬ a=b):(a.toList == b.toList)=false:=by
 refine beq_eq_false_iff_ne.2 (fun e=>h ?_);rw [ByteArray.toList_eq,ByteArray.toList_eq] at e;cases a;cases b;congr 1;exact Array.toList_inj.1 e
theorem toList_yes {a b:ByteArray} (h:a=b):(a.toList == b.toList)=true:=by rw [h];simp
theorem key_at {d:List (List Int)} {f t:Int} {k:Nat} (hC:ColsOk d f t) (hr:RowsOk d) (hh:hasD d f t=true) (hk:k<d.length) :
 ∃ s,(keyT d f t)[k]?=some s/\rkS s=rks (keyC d f t k)/\chS s=true/\s.size=t.toNat - f.toNat/\s.size<=1000:=by
 have e:d[k]?=some (d[k]'hk):=zF hk;have hm:=zC e;have ho:=hasD_at hh hm;have hl:=hC.2 _ hm;have hl2:=hr.2 _ hm;have hs:(toB (txI (partC (d[k]'hk) f t))).size=t.toNat - f.toNat:=by
  rw [toB_size];unfold txI;rw [List.length_map,yAP hC.1.1 hC.1.2 hl]
 refine ⟨_,keyT_at e,?_,chS_txt ho,hs,by rw [hs];have:=hC.1;omega⟩;unfold keyC;rw [List.getD_eq_getElem?_getD,e];exact rkS_txt ho
theorem RdT.at {w:World} {B:Nat} {v:Value} {K:List ByteArray} (h:Rds eT B w v K):∃ ao cap,v=.slice ao K.length cap /\
 (0<K.length->∃ b off,ao=some ⟨b,off,none⟩/\(b<B/\b<w.heap.size)/\∀ (k:Nat) (s:ByteArray),K[k]?=some s->w.cell? ⟨b,off+k,none⟩=some (.string s)):=by
 obtain ⟨ao,cap,hv,hc⟩:=RdT.open h;refine ⟨ao,cap,hv,fun h0=>?_⟩;obtain ⟨b,off,e,hlt,h2⟩:=hc h0;refine ⟨b,off,e,hlt,fun k s hs=>?_⟩;obtain ⟨x,hx,hcell,-⟩:=h2 k (yBK hs);rw [hs] at hx;cases hx;exact hcell
theorem l07Step_c {d:List (List Int)} {v:Value} {w:World} {A:Nat} {f t:Int} (hk:Rds eT A w v (keyT d f t)) (hC:ColsOk d f t) (hr:RowsOk d) (hh:hasD d f t=true) :
 Calls Tryz.prog 167 #[v] w fun e w'=>(∃ R:Int,e=.returned (.int .i64 R)/\-1<=R/\(0<=R ↔ ascB d f t=false))/\Below w.heap.size w w':=by
 obtain ⟨ao,cap,rfl,ho⟩:=RdT.at hk;rw [yAZ] at ho |-;have hl:=hr.1;obtain ⟨n,hn⟩:∃ n,n=d.length:=⟨_,rfl⟩;have hka:=fun (k:Nat) (hk:k<d.length)=>key_at hC hr hh hk;rw [<- hn] at ho hl hka |-;have Ho:=hid ho;have Hn:=hid hn;have Hka:=hid hka;clear hk hC hr hh ho hn hka;go_enter Tryz.func167,Tryz.ntmps167;go_wp2;go_loopw [3] (fun iv wr=>∃ k:Nat,(k+1<=n\/k=0)/\iv=.int .i64 ((k:Int)+1)/\Hid (∀ m:Nat,m<k+1->stpP d f t (m:Int)=false)/\Hid (Below w.heap.size w wr)) (fun i _=>n+1 - (intOf i).toNat)
 case atStart=>exact ⟨0,.inr rfl,rfl,hid (fun m hm=>by rw [show m=0 by omega];exact stp_zero d f t),hid (zB _ _)⟩
 case round =>
  obtain ⟨k,hk,rfl,HA,HB⟩:=hrel;by_cases hkn:k+1<n
  . obtain ⟨b,off,rfl,hlt,hc⟩:=Ho.out (by omega)
    obtain ⟨s1,e1,r1,-,z1,y1⟩:=Hka.out (k+1) hkn;obtain ⟨s0,e0,r0,-,z0,y0⟩:=Hka.out k (by omega);have d1:=cell_regrown ((HB.out.cell (p:=⟨b,off+(k+1),none⟩) hlt.2).trans (hc (k+1) s1 e1));have d0:=cell_regrown ((HB.out.cell (p:=⟨b,off+k,none⟩) hlt.2).trans (hc k s0 e0));have hcmp:=fun w=>l03Compare_c (s:=s1) (u:=s0) w (by rw [z1,z0]) y1;rw [r1,r0] at hcmp;obtain ⟨R,hR⟩:∃ R,R=cmpK d f t (k+1) k:=⟨_,rfl⟩;have hcmp:∀ w,Calls Tryz.prog 203 #[.string s1,.string s0] w fun e w'=>e=.returned (.int .i64 R)/\w=w':=by rw [hR];exact hcmp
    have HR:=hid hR;have Hcmp:=hid hcmp;have hs1:IntKind.i64.wrap ((k:Int)+1 - 1)=(k:Int):=by rw [show (k:Int)+1 - 1=(k:Int) by omega];exact IntWalk.i64_in _ (by omega)
    have hs2:IntKind.i64.wrap (k:Int)=(k:Int):=IntWalk.i64_in _ (by omega);have i0:0<=(k:Int)+1:=by omega
    have i1:(k:Int)+1<(n:Int):=by omega
    have i2:(k:Int)<(n:Int):=by omega
    clear hc e1 r1 z1 y1 e0 r0 z0 y0 hcmp hR;go_upto_region 4 with fail;refine wp_region_quiet_below (by kernel_rfl) (by kernel_rfl) ?_;repeat ((with_reducible refine wpQuiet_step (fun K hK=>?_));go_simp;first | ((with_reducible refine hK _ ?_);clear hK K) | (apply Exists.intro;refine ⟨fun _=>?_,hK _ ?_⟩;((first | (go_at_call 203;with_reducible exact qb_same (Hcmp.out _))));clear hK K))
    refine wpQuiet_nil ?_;intro _ hw';obtain ⟨⟨dq,osq⟩,hw''⟩:=hw';subst hw'';have hbq:=below_regrown wr dq osq;generalize grow (redrawn wr dq) osq=wq at hbq |-;have HBq:=hid (HB.out.trans (hbq.mono HB.out.size));clear hbq d1 d0 hs1 hs2;by_cases h0:R<0
    . have HE:Hid (ascB d f t=false):=hid (by
       unfold ascB;refine decide_eq_false (fun h=>?_);have h9:=(selI_nil _ _).1 h (k+1) (by have:=Hn.out;omega);rw [stp_succ,<- HR.out,decide_eq_true h0] at h9;cases h9)
      go_wp2;go_ret;exact ⟨⟨_,rfl,by omega,fun _=>HE.out,fun _=>by omega⟩,HBq.out⟩
    . have HA2:Hid (∀ m:Nat,m<k+1+1->stpP d f t (m:Int)=false):=hid (fun m hm=>by
       rcases Nat.lt_or_ge m (k+1) with h | h
       . exact HA.out m h
       . rw [show m=k+1 by omega,stp_succ,<- HR.out];exact decide_eq_false h0)
      go_wp2;go_roundw
      case rel=>exact ⟨k+1,.inl (by omega),by go_num,HA2,HBq⟩
      case measure=>simp [intOf];omega
  . have i1:¬ (k:Int)+1<(n:Int):=by omega
    have HE:Hid (ascB d f t=true):=hid (by
     unfold ascB;exact decide_eq_true ((selI_nil _ _).2 (fun m hm=>HA.out m (by have:=Hn.out;omega))))
    go_wp2;go_ret;exact ⟨⟨_,rfl,by omega,fun h=>by omega,fun h=>by rw [HE.out] at h;cases h⟩,HB.out⟩
theorem l09Groups_c {d:List (List Int)} {v:Value} {w:World} {A:Nat} {f t:Int} (hk:Rds eT A w v (keyT d f t)) (hC:ColsOk d f t) (hr:RowsOk d) (hh:hasD d f t=true) :
 Calls Tryz.prog 164 #[v] w fun e w'=>(∃ r,e=.returned r/\OwnInt64S w.heap.size w' r (selI (grpP d f t) d.length))/\Below w.heap.size w w':=by
 obtain ⟨i0,hi,hz0,hz1,hz2⟩:=info_parts Tryz.infoInt64;obtain ⟨ao,cap,rfl,ho⟩:=RdT.at hk.tight;rw [yAZ] at ho |-;have hl:=hr.1;obtain ⟨n,hn⟩:∃ n,n=d.length:=⟨_,rfl⟩;have hka:=fun (k:Nat) (hk:k<d.length)=>key_at hC hr hh hk;have hO0:OwnInt64S w.heap.size (w.alloc (.cells #[] 2)) (.slice (some ⟨w.heap.size,0,none⟩) 0 0) (selI (grpP d f t) 0):=Own.lit (E:=eI) (xs:=[]) (cs:=#[]) (zA _) rfl rfl (by decide) (fun x hx=>by cases hx);have hB0:Below w.heap.size w (w.alloc (.cells #[] 2)):=(zB _ _).alloc (zA _) _;rw [<- hn] at ho hl hka |-;have Ho:=hid ho;have Hn:=hid hn;have Hka:=hid hka;have HO0:=hid hO0;have HB0:=hid hB0;clear hk hC hr hh ho hn hka hO0 hB0;go_enter Tryz.func164,Tryz.ntmps164;go_wp2;go_loopw [3,4] (fun ov iv wr=>∃ (k:Nat) (ro:Option Addr) (rc:Nat),k<=n/\iv=.int .i64 k/\ov=.slice ro (selI (grpP d f t) k).length rc/\Hid (OwnInt64S w.heap.size wr (.slice ro (selI (grpP d f t) k).length rc) (selI (grpP d f t) k))/\Hid (Below w.heap.size w wr)) (fun _ i _=>n - (intOf i).toNat)
 case atStart=>exact ⟨0,_,_,zK _,rfl,rfl,HO0,HB0⟩
 case round =>
  obtain ⟨k,ro,rc,hk,rfl,rfl,HO,HB⟩:=hrel;clear HO0 HB0;by_cases hkn:k<n
  . have Hzl:Hid ((selI (grpP d f t) k).length<=k):=hid (yBE _ _)
    obtain ⟨L,hL⟩:∃ L,L=selI (grpP d f t) k:=⟨_,rfl⟩;obtain ⟨b,off,rfl,hlt,hc⟩:=Ho.out (by omega);have hokk:eI.ok (k:Int):=by show -9223372036854775808<=(k:Int)/\(k:Int)<=9223372036854775807;omega
    by_cases hk0:k=0
    . have HS:Hid (L++[(0:Int)]=selI (grpP d f t) (k+1)):=hid (by rw [yAX,<- hL,hk0,grp_zero];rfl)
      rw [<- hL] at HO Hzl |-;have hok0:eI.ok (0:Int):=by show -9223372036854775808<=(0:Int)/\(0:Int)<=9223372036854775807;omega
      clear hL hc hokk;subst hk0;go_upto_region 5 with fail;refine wp_region_quiet_below (by kernel_rfl) (by kernel_rfl) ?_;repeat ((with_reducible refine wpQuiet_step (fun K hK=>?_));go_simp;first | ((with_reducible refine hK _ ?_);clear hK K) | ((with_reducible rw [if_neg]);rotate_left;(intro hgd;cases hgd);(with_reducible refine hK _ ?_);clear hK K) | (apply Exists.intro;refine ⟨fun _=>?_,hK _ ?_⟩;((fail));clear hK K))
      refine wpQuiet_nil ?_;intro _ hw';obtain ⟨⟨dq,osq⟩,hw''⟩:=hw';subst hw'';have hbq:=below_regrown wr dq osq;generalize grow (redrawn wr dq) osq=wq at hbq |-;have HOq:=hid (HO.out.below hbq (zA _));have HBq:=hid (HB.out.trans (hbq.mono HB.out.size));clear hbq;go_wp2_with (first | (at_builtin;refine yAB (E:=eI) rfl _ _ 29 rfl Tryz.underlying29 hi hz0 hz1 hz2 rfl (by decide) rfl rfl (HOq.out.alloc _) (yAJ (E:=eI) (x:=(0:Int)) hok0 rfl) ?b1 ?b2 ?b3 ?_))
      case b1=>have:=Hzl.out;unfold maxLen;simp;omega
      case b2=>have:=Hzl.out;simp;omega
      case b3=>have:=HBq.out.size;simp;omega
      intro v3 w3 hO3 hg3;rw [HS.out] at hO3;obtain ⟨ao3,cap3,hv3⟩:=hO3.shape;subst hv3;have HO3:=hid hO3;have HB3:=hid (HBq.out.grown hg3.alloc.1 HBq.out.size (fun q hq=>(HOq.out.lt q hq).1));clear hO3 hg3;go_wp2;go_roundw
      case rel=>exact ⟨0+1,_,_,by omega,by go_num,rfl,HO3,HB3⟩
      case measure=>simp [intOf];omega
    . obtain ⟨j,rfl⟩:∃ j,k=j+1:=⟨k - 1,by omega⟩
      obtain ⟨s1,e1,r1,h1,z1,-⟩:=Hka.out (j+1) hkn;obtain ⟨s0,e0,r0,h0,z0,-⟩:=Hka.out j (by omega);have d1:=cell_regrown ((HB.out.cell (p:=⟨b,off+(j+1),none⟩) hlt.2).trans (hc (j+1) s1 e1));have d0:=cell_regrown ((HB.out.cell (p:=⟨b,off+j,none⟩) hlt.2).trans (hc j s0 e0));have hgp:grpP d f t ((j+1:Nat):Int)=decide (s1 ≠ s0):=by
       rw [grp_succ];refine decide_eq_decide.2 ?_;have hz:cmpK d f t j (j+1)=0 ↔ s0=s1:=by
        unfold cmpK;rw [<- r0,<- r1,cmpN_zero (by rw [rkS_len,rkS_len,z0,z1]),rkS_iff h0 h1]
       exact ⟨fun h e=>h (hz.2 e.symm),fun h e=>h (hz.1 e).symm⟩
      have hs1:IntKind.i64.wrap ((j:Int)+1 - 1)=(j:Int):=by rw [show (j:Int)+1 - 1=(j:Int) by omega];exact IntWalk.i64_in _ (by omega)
      have hs2:IntKind.i64.wrap (j:Int)=(j:Int):=IntWalk.i64_in _ (by omega);have i0:0<=(j:Int)+1:=by omega
      have i1:(j:Int)+1<(n:Int):=by omega
      have i2:(j:Int)<(n:Int):=by omega
      have i3:((j:Int)+1 == 0)=false:=beq_eq_false_iff_ne.2 (by omega);have hLs:selI (grpP d f t) (j+1+1)=L++(if s1 ≠ s0 then [(j:Int)+1] else []):=by
       rw [yAX,<- hL,hgp];by_cases h:s1 ≠ s0
       . rw [if_pos (decide_eq_true h),if_pos h];rfl
       . rw [if_neg (by simpa using h),if_neg h]
      rw [<- hL] at HO Hzl |-;have HLs:=hid hLs;have hokk:eI.ok ((j:Int)+1):=by show -9223372036854775808<=(j:Int)+1/\(j:Int)+1<=9223372036854775807;omega
      clear hL hc e1 r1 h1 z1 e0 r0 h0 z0 hgp hLs hk0;by_cases hq:s1=s0
      . have HS:Hid (L=selI (grpP d f t) (j+1+1)):=hid (by rw [HLs.out,if_neg (fun h=>h hq),List.append_nil])
        subst hq;go_upto_region 5 with fail;refine wp_region_quiet_below (by kernel_rfl) (by kernel_rfl) ?_;repeat ((with_reducible refine wpQuiet_step (fun K hK=>?_));go_simp;first | ((with_reducible refine hK _ ?_);clear hK K) | ((with_reducible rw [if_neg]);rotate_left;(intro hgd;cases hgd);(with_reducible refine hK _ ?_);clear hK K) | (apply Exists.intro;refine ⟨fun _=>?_,hK _ ?_⟩;((fail));clear hK K))
        refine wpQuiet_nil ?_;intro _ hw';obtain ⟨⟨dq,osq⟩,hw''⟩:=hw';subst hw'';have hbq:=below_regrown wr dq osq;generalize grow (redrawn wr dq) osq=wq at hbq |-;have hOq:=HO.out.below hbq (zA _);have HBq:=hid (HB.out.trans (hbq.mono HB.out.size));have HOq:Hid (OwnInt64S w.heap.size _ (.slice ro L.length rc) (selI (grpP d f t) (j+1+1))):=hid (by rw [<- HS.out];exact hOq);clear hbq d1 d0 hOq hs1 hs2;go_wp2;go_roundw
        case rel=>exact ⟨j+1+1,_,_,by omega,by go_num,by rw [HS.out],by rw [<- HS.out];rw [<- HS.out] at HOq;exact HOq,HBq⟩
        case measure=>simp [intOf];omega
      . have HS:Hid (L++[(j:Int)+1]=selI (grpP d f t) (j+1+1)):=hid (by rw [HLs.out,if_pos hq])
        have hq2:=toList_ne hq;clear hq;go_upto_region 5 with fail;refine wp_region_quiet_below (by kernel_rfl) (by kernel_rfl) ?_;repeat ((with_reducible refine wpQuiet_step (fun K hK=>?_));go_simp;first | ((with_reducible refine hK _ ?_);clear hK K) | ((with_reducible rw [if_neg]);rotate_left;(intro hgd;cases hgd);(with_reducible refine hK _ ?_);clear hK K) | (apply Exists.intro;refine ⟨fun _=>?_,hK _ ?_⟩;((fail));clear hK K))
        refine wpQuiet_nil ?_;intro _ hw';obtain ⟨⟨dq,osq⟩,hw''⟩:=hw';subst hw'';have hbq:=below_regrown wr dq osq;generalize grow (redrawn wr dq) osq=wq at hbq |-;have HOq:=hid (HO.out.below hbq (zA _));have HBq:=hid (HB.out.trans (hbq.mono HB.out.size));clear hbq d1 d0 hs1 hs2;go_wp2_with (first | (at_builtin;refine yAB (E:=eI) rfl _ _ 29 rfl Tryz.underlying29 hi hz0 hz1 hz2 rfl (by decide) rfl rfl (HOq.out.alloc _) (yAJ (E:=eI) (x:=(j:Int)+1) hokk rfl) ?b1 ?b2 ?b3 ?_))
        case b1=>have:=Hzl.out;unfold maxLen;simp;omega
        case b2=>have:=Hzl.out;simp;omega
        case b3=>have:=HBq.out.size;simp;omega
        intro v3 w3 hO3 hg3;rw [HS.out] at hO3;obtain ⟨ao3,cap3,hv3⟩:=hO3.shape;subst hv3;have HO3:=hid hO3;have HB3:=hid (HBq.out.grown hg3.alloc.1 HBq.out.size (fun q hq=>(HOq.out.lt q hq).1));clear hO3 hg3 hq2;go_wp2;go_roundw
        case rel=>exact ⟨j+1+1,_,_,by omega,by go_num,rfl,HO3,HB3⟩
        case measure=>simp [intOf];omega
  . obtain rfl:k=n:=by omega
    go_wp2;go_ret;exact ⟨⟨_,rfl,HO.out⟩,HB.out⟩
end Go.Proofs.YthdaghfhlfjclaaGreat
