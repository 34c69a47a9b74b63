/- Lemmas on the way to the law that OfficeAt returns what the reference's returns. No condition. -/
import Derived.Test.YthdaghfhlfjclaaGreatMO24
import Derived.Test.YthdaghfhlfjclaaGreatMO7
import Derived.Test.YthdaghfhlfjclaaGreatMO26
import Derived.Test.YthdaghfhlfjclaaGreatMO8
import Derived.Test.YthdaghfhlfjclaaGreatMO25
import Derived.Test.YthdaghfhlfjclaaGreatMO11
import Derived.Test.YthdaghfhlfjclaaGreatMO10
import Derived.Test.YthdaghfhlfjclaaGreatMO27
import Derived.Test.YthdaghfhlfjclaaGreatMO22
import Derived.Test.YthdaghfhlfjclaaGreatMO14
import Derived.Test.YthdaghfhlfjclaaGreatMO5
namespace Go.Proofs.YthdaghfhlfjclaaGreat
set_option linter.unusedSimpArgs false
open Lib (hid)
open Go.ChangeShapes Go.WideShapes Go.ChangeAt Go.RowKit Go.Sort
set_option linter.unusedVariables false
set_option maxRecDepth 100000
def cds (s:ByteArray):List Int:=(bytesI s).map codeI
theorem cds_len (s:ByteArray):(cds s).length=s.size:=by unfold cds;rw [List.length_map,bytesI_length]
theorem cds_at {s:ByteArray} {k:Nat} (h:k<s.size):(cds s)[k]?=some (codeI (s[k].toNat:Int)):=by unfold cds;rw [List.getElem?_map,bytesI_at s k h];rfl
theorem ch_isN:∀ n:Fin 256,chI (n.val:Int)=true→∃ k:Fin 40,(n.val:Int)=chA k.val:=by decide +kernel
theorem ch_is {b:UInt8} (h:chI (b.toNat:Int)=true):∃ k:Nat,k<40∧(b.toNat:Int)=chA k:=by
 obtain ⟨k,hk⟩:=ch_isN ⟨b.toNat,b.toNat_lt⟩ h;exact ⟨k.val,k.isLt,hk⟩
theorem chS_at {s:ByteArray} {k:Nat} (hs:chS s=true) (h:k<s.size):chI (s[k].toNat:Int)=true:=by
 unfold chS at hs;exact List.all_eq_true.1 hs _ (List.mem_of_getElem? (bytesI_at s k h))
theorem run_fldC (a:Option Addr) (n c:Nat) (W:World):(Instr.field 88 (.agg #[.slice a n c]) 0).run Tryz.prog W=.ok (.slice a n c) W:=by kernel_rfl
theorem codeI_bd (b:UInt8) (h:chI (b.toNat:Int)=true):eI.ok (codeI (b.toNat:Int)):=by
 have h1:∀ n:Fin 256,-9223372036854775808≤codeI (n.val:Int)∧codeI (n.val:Int)≤9223372036854775807:=by decide +kernel
 exact h1 ⟨b.toNat,b.toNat_lt⟩
theorem zerosS {e:TypeId} {base m cap g:Nat} {w:World} (h:w.ownsRow base e 1 (.slice (some ⟨g,0,none⟩) m cap) m (madeCells #[.int .i64 0] m).toList):Own eI e base w (.slice (some ⟨g,0,none⟩) m cap) (List.replicate m 0):=by
 rw [toList_madeCells_one] at h;refine Own.ofInts ?_ ?_
 · rw [List.map_replicate,List.length_replicate];exact h
 · intro x hx
   have:=List.eq_of_mem_replicate hx;subst this;show -9223372036854775808≤(0:Int)∧(0:Int)≤9223372036854775807
   omega
theorem codeOf_b {b:UInt8} (w:World) (h:chI (b.toNat:Int)=true):Calls Tryz.prog 227 #[.int .u8 (b.toNat:Int)] w fun e w'=>e=.returned (.int .i64 (codeI (b.toNat:Int)))∧w=w':=by
 obtain ⟨k,hk,e⟩:=ch_is h;rw [e];exact codeOf_c k w hk
theorem blank_c (n:Nat) (w:World) (hn:1≤n∧n≤1000):Calls Tryz.prog 235 #[.int .i64 (n:Int)] w fun e w'=>(∃ g,e=.returned (.agg #[.slice (some ⟨g,0,none⟩) n n])∧OwnInt64S w.heap.size w' (.slice (some ⟨g,0,none⟩) n n) (List.replicate n 0)∧g ≠ w.heap.size)∧Below w.heap.size w w':=by
 obtain ⟨i0,hi,hz0,hz1,hz2⟩:=info_parts Tryz.infoInt64;obtain ⟨T,hT⟩:∃ T,T=w.alloc (.cells #[.slice none 0 0] 88):=⟨_,rfl⟩;have hbT:Below w.heap.size w T:=by rw [hT];exact (Below.refl _ _).alloc (Nat.le_refl _) _
 have hBT:Box T w.heap.size [.slice none 0 0]:=by rw [hT];exact Box.new w [.slice none 0 0] _
 have hTz:T.heap.size=w.heap.size+1:=by rw [hT];simp
 have HT:=hid hT;have HbT:=hid hbT;have HBT:=hid hBT;have HTz:=hid hTz;clear hT hbT hBT hTz;go_enter Tryz.func235,Tryz.ntmps235
 go_upto_region 1 with fail
 rw [← HT.out];go_wp2_with (first | (at_make;refine wpList_make_full _ rfl _ _ 29 rfl T.heap.size 2 i0 (.int .i64 0) 1 Tryz.underlying29 hi hz0 hz1 _ _ _ _ n rfl rfl (by omega) (by omega) ?b1 ?b2 (Nat.le_refl _) ?_))
 case b1=>first | omega | (rw [hz2];omega)
 case b2=>unfold maxLen;omega
 intro w4 hown4 hg4;have hu:=zerosS hown4;have hz4:=hg4.size;have hB4:Box w4 w.heap.size [.slice none 0 0]:=HBT.out.on ((Below.refl _ _).grown hg4 (Nat.le_refl _) (fun k hk=>by cases hk));have r0:=hB4.cell 0 _ rfl;have r1:=hB4.free 0;have hgl:=(hu.lt T.heap.size rfl);have HU:Hid (OwnInt64S w.heap.size (w4.setCell ⟨w.heap.size,0,none⟩ (.slice (some ⟨T.heap.size,0,none⟩) n n)) (.slice (some ⟨T.heap.size,0,none⟩) n n) (List.replicate n 0)):=hid ((hu.mono HbT.out.size).kept (grown_setY _ _ _) (.inr (fun e=>by have h9:=Option.some.inj e;have:=HTz.out;simp only at h9;omega)));have HB:Hid (Below w.heap.size w (w4.setCell ⟨w.heap.size,0,none⟩ (.slice (some ⟨T.heap.size,0,none⟩) n n))):=hid ((HbT.out.grown hg4 HbT.out.size (fun k hk=>by cases hk)).setCell (by show w.heap.size≤w.heap.size;omega) _);have HG:Hid (T.heap.size ≠ w.heap.size):=hid (by have:=HTz.out;omega);clear hu hown4 hg4 hB4 hz4 hgl;go_wp2
 exact bodyPost_ret (v:=.agg #[.slice (some ⟨T.heap.size,0,none⟩) n n]) (by simp [results,Tryz.results235,go_sem,r0]) rfl ⟨⟨_,rfl,HU.out,HG.out⟩,HB.out⟩
set_option maxHeartbeats 1000000 in
theorem punchText_c {s:ByteArray} (w:World) (hs:1≤s.size∧s.size≤1000) (hc:chS s=true):Calls Tryz.prog 230 #[.string s,.int .i64 (s.size:Int)] w fun e w'=>(∃ g,e=.returned (.agg #[.slice (some ⟨g,0,none⟩) s.size s.size])∧RdI w'.heap.size w' (.slice (some ⟨g,0,none⟩) s.size s.size) (cds s))∧Below w.heap.size w w':=by
 obtain ⟨n,hn⟩:∃ n,n=s.size:=⟨_,rfl⟩;obtain ⟨T,hT⟩:∃ T,T=w.alloc (.cells #[.slice none 0 0] 88):=⟨_,rfl⟩;have hbT:Below w.heap.size w T:=by rw [hT];exact (Below.refl _ _).alloc (Nat.le_refl _) _
 have hBT:Box T w.heap.size [.slice none 0 0]:=by rw [hT];exact Box.new w [.slice none 0 0] _
 have hTz:T.heap.size=w.heap.size+1:=by rw [hT];simp
 rw [← hn] at hs ⊢;have hbl:=blank_c n T (by omega);have Hbl:=hid hbl;have HT:=hid hT;have HbT:=hid hbT;have HBT:=hid hBT;have HTz:=hid hTz;have Hn:=hid hn;have Hc:=hid hc;clear hT hbT hBT hTz hbl hn hc;go_enter Tryz.func230,Tryz.ntmps230
 go_upto_region 1 with fail
 rw [← HT.out];go_wp2_with fail
 with_reducible refine Hbl.out.mono ?_
 rintro e w1 ⟨⟨g,rfl,hO,hgn⟩,hb1⟩
 obtain ⟨W,hW⟩:∃ W,W=w1.alloc (.cells #[.slice (some ⟨g,0,none⟩) n n] 88):=⟨_,rfl⟩;have hbW:Below w1.heap.size w1 W:=by rw [hW];exact (Below.refl _ _).alloc (Nat.le_refl _) _
 have hX:Box W w1.heap.size [.slice (some ⟨g,0,none⟩) n n]:=by rw [hW];exact Box.new w1 [.slice (some ⟨g,0,none⟩) n n] _
 have hOW:=hO.below hbW (Nat.le_refl _);have hglt:=hO.lt g rfl;have hR1:=(HBT.out.on hb1).on hbW;have hbA:Below w.heap.size w W:=HbT.out.trans ((hb1.trans (hbW.mono hb1.size)).mono HbT.out.size);have hb1z:=hb1.size;have g1:T.heap.size≤g:=hglt.1;have g2:g<w1.heap.size:=hglt.2;have HOW:Hid (∃ L,OwnInt64S T.heap.size W (.slice (some ⟨g,0,none⟩) n n) L∧L.length=n∧L.take 0=(cds s).take 0):=hid ⟨_,hOW,List.length_replicate,rfl⟩;have HX:=hid hX;have HW:=hid hW;have HR1:=hid hR1;have HbA:=hid hbA;clear hO hgn hb1 hW hbW hX hOW hR1 hbA hglt;go_upto_region 2 with fail
 rw [← HW.out];go_wp2
 go_loopw [6] (fun iv wr=>∃ k:Nat,k≤n∧iv=.int .i64 k∧Hid (∃ L,OwnInt64S T.heap.size wr (.slice (some ⟨g,0,none⟩) n n) L∧L.length=n∧L.take k=(cds s).take k)∧Hid (Box wr w1.heap.size [.slice (some ⟨g,0,none⟩) n n])∧Hid (Box wr w.heap.size [.slice none 0 0])∧Hid (Below w.heap.size w wr)) (fun i _=>n - (intOf i).toNat)
 case atStart=>exact ⟨0,Nat.zero_le _,rfl,HOW,HX,HR1,HbA⟩
 case round =>
  obtain ⟨k,hk,rfl,HO,HXr,HRr,Hb⟩:=hrel;clear HOW HX HR1 HbA;by_cases hkn:k<n
  · have hkn2:k<s.size:=by have:=Hn.out;omega
    have hks:(k:Int)<(s.size:Int):=by omega
    have hch:=chS_at Hc.out hkn2;have x0:=HXr.out.cell 0 _ rfl;obtain ⟨L,hO,hL,hLk⟩:=HO.out;obtain ⟨⟨y,hy⟩,hf,hO2,hg2⟩:=Own.storeI (x:=codeI (s[k].toNat:Int)) hO hL.symm hkn (codeI_bd _ hch);have HO2:Hid (∃ L,OwnInt64S T.heap.size (wr.setCell ⟨g,k,none⟩ (.int .i64 (codeI (s[k].toNat:Int)))) (.slice (some ⟨g,0,none⟩) n n) L∧L.length=n∧L.take (k+1)=(cds s).take (k+1)):=hid ⟨_,hO2,by rw [List.length_set];exact hL,by
     rw [take_snoc (cds_at hkn2),List.take_add_one,List.take_set_of_le (Nat.le_refl k),List.getElem?_set_self (by omega),hLk];rfl⟩
    have HX2:Hid (Box (wr.setCell ⟨g,k,none⟩ (.int .i64 (codeI (s[k].toNat:Int)))) w1.heap.size [.slice (some ⟨g,0,none⟩) n n]):=hid (HXr.out.other (by show g ≠ w1.heap.size;omega) _);have HR2:Hid (Box (wr.setCell ⟨g,k,none⟩ (.int .i64 (codeI (s[k].toNat:Int)))) w.heap.size [.slice none 0 0]):=hid (HRr.out.other (by show g ≠ w.heap.size;have:=HTz.out;omega) _);have HB2:Hid (Below w.heap.size w (wr.setCell ⟨g,k,none⟩ (.int .i64 (codeI (s[k].toNat:Int))))):=hid (Hb.out.setCell (by show w.heap.size≤g;have:=HTz.out;omega) _);have Hcb:=hid (fun w=>codeOf_b w hch);clear hO hL hLk hO2 hg2 hch HO HXr HRr Hb;go_wp2
    go_region_law (go_simp;go_at_call 227;with_reducible refine (Hcb.out _).mono ?_;rintro e w9 ⟨rfl,rfl⟩)
    all_goals
     obtain ⟨W9,hW9⟩:∃ W9,W9=(wr.setCell ⟨g,k,none⟩ (.int .i64 (codeI (s[k].toNat:Int)))).drew:=⟨_,rfl⟩;have HO9:Hid (∃ L,OwnInt64S T.heap.size W9 (.slice (some ⟨g,0,none⟩) n n) L∧L.length=n∧L.take (k+1)=(cds s).take (k+1)):=hid (by rw [hW9];exact HO2.out);have HX9:Hid (Box W9 w1.heap.size [.slice (some ⟨g,0,none⟩) n n]):=hid (by rw [hW9];exact HX2.out.drew1);have HR9:Hid (Box W9 w.heap.size [.slice none 0 0]):=hid (by rw [hW9];exact HR2.out.drew1);have HB9:Hid (Below w.heap.size w W9):=hid (by rw [hW9];exact HB2.out.drewNy 1);rw [← hW9];clear hW9 HO2 HX2 HR2 HB2 x0 hy hf;go_wp2
     go_roundw
     case rel=>exact ⟨k+1,by omega,by go_num,HO9,HX9,HR9,HB9⟩
     case measure=>simp [intOf];omega
  · obtain rfl:k=n:=by omega
    have hks:¬ (k:Int)<(s.size:Int):=by have:=Hn.out;omega
    obtain ⟨L,hO,hL,hLk⟩:=HO.out;have hLe:L=cds s:=by rw [List.take_of_length_le (by omega),List.take_of_length_le (by rw [cds_len];have:=Hn.out;omega)] at hLk;exact hLk
    subst hLe;have x0:=HXr.out.cell 0 _ rfl;have r0:=HRr.out.cell 0 _ rfl;have r1:=HRr.out.free 0;have hO9:=hO.kept (grown_setY wr ⟨w.heap.size,0,none⟩ (.slice (some ⟨g,0,none⟩) k k)) (.inr (fun e=>by have h9:=Option.some.inj e;simp only at h9;have:=HTz.out;omega));have HO9:=hid hO9.rds;have HB9:Hid (Below w.heap.size w (wr.setCell ⟨w.heap.size,0,none⟩ (.slice (some ⟨g,0,none⟩) k k))):=hid (Hb.out.setCell (by show w.heap.size≤w.heap.size;omega) _);clear hO hO9 hL hLk HO HXr HRr Hb;go_wp2
    exact bodyPost_ret (v:=.agg #[.slice (some ⟨g,0,none⟩) k k]) (by simp [results,Tryz.results230,go_sem,r0]) rfl ⟨⟨_,rfl,HO9.out⟩,HB9.out⟩
set_option maxHeartbeats 1000000 in
theorem compareText_c {c:List Int} {s:ByteArray} {b off n cap:Nat} {W0:World} {A:Nat} (x y:Int) (hx:0≤x) (hxy:x<y) (hy:y≤n) (ha:RdI A W0 (.slice (some ⟨b,off,none⟩) n cap) c) (hs:(s.size:Int)=y - x) (hs2:s.size≤1000) (hc:chS s=true) :
 Calls Tryz.prog 218 #[.agg #[.slice (some ⟨b,off,none⟩) n cap],.agg #[.int .i64 x,.int .i64 y],.string s] W0 fun e' W0'=>e'=.returned (.int .i64 (cmpN (rks (partC c x y)) (rks (cds s))))∧Below W0.heap.size W0 W0':=by
 obtain ⟨lo,rfl⟩:=Int.eq_ofNat_of_zero_le hx;obtain ⟨hi,rfl⟩:=Int.eq_ofNat_of_zero_le (show 0≤y by omega);obtain ⟨W,hW⟩:∃ W,W=(W0.alloc (.cells #[.slice (some ⟨b,off,none⟩) n cap] 88)).alloc (.cells #[.int .i64 lo,.int .i64 hi] 73):=⟨_,rfl⟩;have z1:(W0.alloc (.cells #[.slice (some ⟨b,off,none⟩) n cap] 88)).heap.size=W0.heap.size+1:=by simp
 have hP:Box W W0.heap.size [.slice (some ⟨b,off,none⟩) n cap]:=by rw [hW];exact (Box.new W0 [.slice (some ⟨b,off,none⟩) n cap] _).alloc _
 have hQ:Box W (W0.heap.size+1) [.int .i64 lo,.int .i64 hi]:=by
  have h:=Box.new (W0.alloc (.cells #[.slice (some ⟨b,off,none⟩) n cap] 88)) [.int .i64 lo,.int .i64 hi] 73;rw [z1,← hW] at h;exact h
 have hb0:Below W0.heap.size W0 W:=by rw [hW];exact ((Below.refl _ _).alloc (Nat.le_refl _) _).alloc (by rw [z1];omega) _
 have ca:=Rds.cap ha;have ca2:=ca.2.2 (by omega);have ha1:=Rds.onn ha hb0;obtain ⟨N,hN⟩:∃ N,N=s.size:=⟨_,rfl⟩;have hNl:N=hi - lo:=by omega
 have hpc:(partC c (lo:Int) (hi:Int)).length=(cds s).length:=by rw [partC_length hx hxy (by omega),cds_len];simp only [Int.toNat_natCast];omega
 obtain ⟨R,hRR⟩:∃ R,cmpN (rks (partC c (lo:Int) (hi:Int))) (rks (cds s))=R:=⟨_,rfl⟩;rw [hRR];have HP:Hid (∀ w:World,Calls Tryz.prog 230 #[.string s,.int .i64 (N:Int)] w fun e w'=>(∃ g,e=.returned (.agg #[.slice (some ⟨g,0,none⟩) N N])∧RdI w'.heap.size w' (.slice (some ⟨g,0,none⟩) N N) (cds s))∧Below w.heap.size w w'):=hid (fun w=>by have h:=punchText_c (s:=s) w (by omega) hc;rw [← hN] at h;exact h);have HCm:Hid (∀ (w:World) (v:Value),Below W.heap.size W w→RdI w.heap.size w v (cds s)→Calls Tryz.prog 226 #[.slice (some ⟨b,off+lo,none⟩) (hi - lo) (cap - lo),v] w fun e' w'=>e'=.returned (.int .i64 R)∧Below w.heap.size w w'):=hid (fun w v hb hr=>by
  have h:=compareHoles_c (w:=w) (Rds.part (Rds.onn ha1 hb) hx hxy hy) hr hpc;rw [hRR] at h;simp only [Int.toNat_natCast] at h
  exact h.mono (fun e w' h=>⟨h.1,by obtain ⟨m,rfl⟩:=h.2;exact (Below.refl _ _).drewNy m⟩))
 have c0:=hP.cell 0 _ rfl;have c1:=hQ.cell 0 _ rfl;have c2:=hQ.cell 1 _ rfl;have Hb0:=hid hb0;have HW:=hid hW;have q1:lo<hi:=by omega
 have q2:hi≤n:=by omega
 have q4:hi≤cap:=by omega
 have q6:¬ cap=lo:=by omega
 have q8:lo≤hi:=by omega
 have q9:(hi:Int) - (lo:Int)=(N:Int):=by omega
 have q10:IntKind.i64.wrap ((hi:Int) - (lo:Int))=(N:Int):=by rw [q9];exact IntWalk.i64_in _ (by omega)
 clear hP hQ hb0 hW ha ha1 hRR ca hs hc hpc hNl z1 hN q9;go_enter Tryz.func218,Tryz.ntmps218
 go_upto_region 1 with fail
 rw [← HW.out];refine wp_region_below (fun i v w=>match i with | 0=>v=.pointer (some ⟨W0.heap.size,0,none⟩) | 1=>v=.slice (some ⟨b,off,none⟩) n cap | 2=>v=.pointer (some ⟨W0.heap.size+1,0,none⟩) | 3=>v=.int .i64 (lo:Int) | 4=>v=.pointer (some ⟨W0.heap.size+1,1,none⟩) | 5=>v=.int .i64 (hi:Int) | 6=>v=.slice (some ⟨b,off+lo,none⟩) (hi - lo) (cap - lo) | 7=>v=.string s | 8=>v=.pointer (some ⟨W0.heap.size+1,1,none⟩) | 9=>v=.int .i64 (hi:Int) | 10=>v=.pointer (some ⟨W0.heap.size+1,0,none⟩) | 11=>v=.int .i64 (lo:Int) | 12=>v=.int .i64 (N:Int) | 13=>∃ g,v=.agg #[.slice (some ⟨g,0,none⟩) N N]∧RdI w.heap.size w (.slice (some ⟨g,0,none⟩) N N) (cds s) | 14=>RdI w.heap.size w v (cds s) | 15=>v=.int .i64 R | 16=>v=.int .i64 R | _=>True) (by kernel_rfl) (by kernel_rfl) (by kernel_rfl) ?_ ?_ ?_
 · intro i v w w' h hb
   match i,h with
   | 0,h=>exact h
   | 1,h=>exact h
   | 2,h=>exact h
   | 3,h=>exact h
   | 4,h=>exact h
   | 5,h=>exact h
   | 6,h=>exact h
   | 7,h=>exact h
   | 8,h=>exact h
   | 9,h=>exact h
   | 10,h=>exact h
   | 11,h=>exact h
   | 12,h=>exact h
   | 13,h=>obtain ⟨g,h1,h2⟩:=h;exact ⟨g,h1,Rds.onn h2 hb⟩
   | 14,h=>exact Rds.onn h hb
   | 15,h=>exact h
   | 16,h=>exact h
   | (_+17),h=>exact h
 · intro vs hvs
   match vs,hvs with
   | [v0,v1,v2,v3,v4,v5,v6,v7,v8,v9,v10,v11,v12,v13,v14,v15,v16],_ =>
    refine ⟨?_,?_,?_,?_,?_,?_,?_,?_,?_,?_,?_,?_,?_,?_,?_,?_,?_,trivial⟩
    · intro wr hC hd
      clear hd;unfold relAt;simp only [putAll]
      go_simp
      simp only [relUpon]
      exact ⟨Below.refl _ _,by first | rfl | trivial⟩
    · intro wr hC hd
      have d0:v0=.pointer (some ⟨W0.heap.size,0,none⟩):=dep_at 0 (by kernel_rfl) hd;subst d0;clear hd;have e:=(hC.cell (p:=⟨W0.heap.size,0,none⟩) (World.block_lt_of_cell? _ _ c0)).trans c0;unfold relAt;simp only [putAll]
      go_simp
      simp only [relUpon]
      exact ⟨Below.refl _ _,by first | rfl | trivial⟩
    · intro wr hC hd
      clear hd;unfold relAt;simp only [putAll]
      go_simp
      simp only [relUpon]
      exact ⟨Below.refl _ _,by first | rfl | trivial⟩
    · intro wr hC hd
      have d2:v2=.pointer (some ⟨W0.heap.size+1,0,none⟩):=dep_at 2 (by kernel_rfl) hd;subst d2;clear hd;have e:=(hC.cell (p:=⟨W0.heap.size+1,0,none⟩) (World.block_lt_of_cell? _ _ c1)).trans c1;unfold relAt;simp only [putAll]
      go_simp
      simp only [relUpon]
      exact ⟨Below.refl _ _,by first | rfl | trivial⟩
    · intro wr hC hd
      clear hd;unfold relAt;simp only [putAll]
      go_simp
      simp only [relUpon]
      exact ⟨Below.refl _ _,by first | rfl | trivial⟩
    · intro wr hC hd
      have d4:v4=.pointer (some ⟨W0.heap.size+1,1,none⟩):=dep_at 4 (by kernel_rfl) hd;subst d4;clear hd;have e:=(hC.cell (p:=⟨W0.heap.size+1,1,none⟩) (World.block_lt_of_cell? _ _ c2)).trans c2;unfold relAt;simp only [putAll]
      go_simp
      simp only [relUpon]
      exact ⟨Below.refl _ _,by first | rfl | trivial⟩
    · intro wr hC hd
      have d1:v1=.slice (some ⟨b,off,none⟩) n cap:=dep_at 1 (by kernel_rfl) hd;subst d1;have d3:v3=.int .i64 (lo:Int):=dep_at 3 (by kernel_rfl) hd;subst d3;have d5:v5=.int .i64 (hi:Int):=dep_at 5 (by kernel_rfl) hd;subst d5;clear hd;unfold relAt;simp only [putAll]
      go_simp
      simp only [relUpon]
      exact ⟨Below.refl _ _,by first | rfl | trivial⟩
    · intro wr hC hd
      clear hd;unfold relAt;simp only [putAll]
      go_simp
      simp only [relUpon]
      exact ⟨Below.refl _ _,by first | rfl | trivial⟩
    · intro wr hC hd
      clear hd;unfold relAt;simp only [putAll]
      go_simp
      simp only [relUpon]
      exact ⟨Below.refl _ _,by first | rfl | trivial⟩
    · intro wr hC hd
      have d8:v8=.pointer (some ⟨W0.heap.size+1,1,none⟩):=dep_at 8 (by kernel_rfl) hd;subst d8;clear hd;have e:=(hC.cell (p:=⟨W0.heap.size+1,1,none⟩) (World.block_lt_of_cell? _ _ c2)).trans c2;unfold relAt;simp only [putAll]
      go_simp
      simp only [relUpon]
      exact ⟨Below.refl _ _,by first | rfl | trivial⟩
    · intro wr hC hd
      clear hd;unfold relAt;simp only [putAll]
      go_simp
      simp only [relUpon]
      exact ⟨Below.refl _ _,by first | rfl | trivial⟩
    · intro wr hC hd
      have d10:v10=.pointer (some ⟨W0.heap.size+1,0,none⟩):=dep_at 10 (by kernel_rfl) hd;subst d10;clear hd;have e:=(hC.cell (p:=⟨W0.heap.size+1,0,none⟩) (World.block_lt_of_cell? _ _ c1)).trans c1;unfold relAt;simp only [putAll]
      go_simp
      simp only [relUpon]
      exact ⟨Below.refl _ _,by first | rfl | trivial⟩
    · intro wr hC hd
      have d9:v9=.int .i64 (hi:Int):=dep_at 9 (by kernel_rfl) hd;subst d9;have d11:v11=.int .i64 (lo:Int):=dep_at 11 (by kernel_rfl) hd;subst d11;clear hd;unfold relAt;simp only [putAll]
      go_simp
      simp only [relUpon]
      exact ⟨Below.refl _ _,by first | rfl | trivial⟩
    · intro wr hC hd
      have d7:v7=.string s:=dep_at 7 (by kernel_rfl) hd;subst d7;have d12:v12=.int .i64 (N:Int):=dep_at 12 (by kernel_rfl) hd;subst d12;clear hd;unfold relAt;simp only [putAll]
      go_simp
      simp only [relUpon]
      with_reducible refine (HP.out wr).mono ?_
      rintro e w9 ⟨⟨g,rfl,hg⟩,hb9⟩
      exact ⟨_,rfl,hb9,g,rfl,hg⟩
    · intro wr hC hd
      have d13:∃ g,v13=.agg #[.slice (some ⟨g,0,none⟩) N N]∧RdI wr.heap.size wr (.slice (some ⟨g,0,none⟩) N N) (cds s):=dep_at 13 (by kernel_rfl) hd;clear hd;have h8:=d13.choose_spec.1;have h9:=d13.choose_spec.2;generalize d13.choose=g9 at h8 h9;clear d13;subst h8;have hfd:=run_fldC (some ⟨g9,0,none⟩) N N;unfold relAt;simp only [putAll]
      go_simp
      simp only [relUpon]
      exact ⟨Below.refl _ _,h9⟩
    · intro wr hC hd
      have d6:v6=.slice (some ⟨b,off+lo,none⟩) (hi - lo) (cap - lo):=dep_at 6 (by kernel_rfl) hd;subst d6;have d14:RdI wr.heap.size wr v14 (cds s):=dep_at 14 (by kernel_rfl) hd;clear hd;unfold relAt;simp only [putAll]
      go_simp
      simp only [relUpon]
      with_reducible refine (HCm.out wr _ hC d14).mono ?_
      rintro e w9 ⟨rfl,hb9⟩
      exact ⟨_,rfl,hb9,rfl⟩
    · intro wr hC hd
      have d15:v15=.int .i64 R:=dep_at 15 (by kernel_rfl) hd;subst d15;clear hd;unfold relAt;simp only [putAll]
      go_simp
      simp only [relUpon]
      exact ⟨Below.refl _ _,by first | rfl | trivial⟩
 · intro vs wq hvs hC hI
   match vs,hvs,hI with
   | [v0,v1,v2,v3,v4,v5,v6,v7,v8,v9,v10,v11,v12,v13,v14,v15,v16],_,hI =>
    have d0:v0=.pointer (some ⟨W0.heap.size,0,none⟩):=hI 0 (by decide);subst d0;have d1:v1=.slice (some ⟨b,off,none⟩) n cap:=hI 1 (by decide);subst d1;have d2:v2=.pointer (some ⟨W0.heap.size+1,0,none⟩):=hI 2 (by decide);subst d2;have d3:v3=.int .i64 (lo:Int):=hI 3 (by decide);subst d3;have d4:v4=.pointer (some ⟨W0.heap.size+1,1,none⟩):=hI 4 (by decide);subst d4;have d5:v5=.int .i64 (hi:Int):=hI 5 (by decide);subst d5;have d6:v6=.slice (some ⟨b,off+lo,none⟩) (hi - lo) (cap - lo):=hI 6 (by decide);subst d6;have d7:v7=.string s:=hI 7 (by decide);subst d7;have d8:v8=.pointer (some ⟨W0.heap.size+1,1,none⟩):=hI 8 (by decide);subst d8;have d9:v9=.int .i64 (hi:Int):=hI 9 (by decide);subst d9;have d10:v10=.pointer (some ⟨W0.heap.size+1,0,none⟩):=hI 10 (by decide);subst d10;have d11:v11=.int .i64 (lo:Int):=hI 11 (by decide);subst d11;have d12:v12=.int .i64 (N:Int):=hI 12 (by decide);subst d12;have d13:∃ g,v13=.agg #[.slice (some ⟨g,0,none⟩) N N]∧RdI wq.heap.size wq (.slice (some ⟨g,0,none⟩) N N) (cds s):=hI 13 (by decide);have d14:RdI wq.heap.size wq v14 (cds s):=hI 14 (by decide);have d15:v15=.int .i64 R:=hI 15 (by decide);subst d15;have d16:v16=.int .i64 R:=hI 16 (by decide);subst d16;clear hI;simp only [putAll]
    go_simp
    have Hb1:=hid (Hb0.out.trans (hC.mono Hb0.out.size));clear hC d13 d14;go_wp2
    go_ret
    exact ⟨rfl,Hb1.out⟩
theorem ch_rk:∀ k:Fin 40,rkI (codeI (chA k.val))=(k.val:Int):=by decide +kernel
theorem chI_chA:∀ k:Fin 40,chI (chA k.val)=true:=by decide +kernel
theorem ch_back:∀ n:Fin 256,chI (n.val:Int)=true→chA (rkI (codeI (n.val:Int))).toNat=(n.val:Int):=by decide +kernel
def rkC (c:Int):Int:=if chI c=true then rkI (codeI c) else -1
def rkS (s:ByteArray):List Int:=(bytesI s).map rkC
theorem rkS_len (s:ByteArray):(rkS s).length=s.size:=by unfold rkS;rw [List.length_map,bytesI_length]
theorem rkC_ch {c:Int} (h:chI c=true):rkC c=rkI (codeI c):=by unfold rkC;rw [if_pos h]
theorem rkS_cds {s:ByteArray} (h:chS s=true):rkS s=rks (cds s):=by
 unfold rkS rks cds;rw [List.map_map];refine List.map_congr_left fun c hc=>?_
 exact rkC_ch (List.all_eq_true.1 h c hc)
theorem okTx_at {h:List Int} (ho:okTx h=true) {m:Int} (hm:m∈h):¬ rkI m<0:=by
 unfold okTx at ho;have h1:h.any noCh=false:=by simpa using ho
 have h2:=List.any_eq_false.1 h1 m hm;unfold noCh at h2;simpa using h2
theorem rkC_chr {m:Int} (h:¬ rkI m<0):rkC (chrI m)=rkI m∧chI (chrI m)=true:=by
 obtain ⟨k,hk,h1,h2⟩:=rk_neg h;have h3:=chI_chA ⟨k,hk⟩;have h4:=ch_rk ⟨k,hk⟩;rw [h2];exact ⟨by rw [rkC_ch h3,h1];exact h4,h3⟩
theorem rkS_txt {h:List Int} (ho:okTx h=true):rkS (toB (txI h))=rks h:=by
 unfold rkS rks;rw [bytesI_toB (txI_bd ho)];unfold txI;rw [List.map_map];exact List.map_congr_left fun m hm=>(rkC_chr (okTx_at ho hm)).1
theorem chS_txt {h:List Int} (ho:okTx h=true):chS (toB (txI h))=true:=by
 unfold chS;rw [bytesI_toB (txI_bd ho)];unfold txI;refine List.all_eq_true.2 fun c hc=>?_
 obtain ⟨m,hm,rfl⟩:=List.mem_map.1 hc;exact (rkC_chr (okTx_at ho hm)).2
theorem map_inj_on {α β:Type} {f:α→β}:∀ {a b:List α},(∀ x∈a,∀ y∈b,f x=f y→x=y)→a.map f=b.map f→a=b
 | [],[],_,_=>rfl
 | [],_ :: _,_,h=>by cases h
 | _ :: _,[],_,h=>by cases h
 | x :: a,y :: b,hi,h=>by
  rw [List.map_cons,List.map_cons] at h;injection h with h1 h2;rw [hi x (List.mem_cons_self ..) y (List.mem_cons_self ..) h1,map_inj_on (fun x hx y hy=>hi x (List.mem_cons_of_mem _ hx) y (List.mem_cons_of_mem _ hy)) h2]
theorem rkS_inj {s u:ByteArray} (h:chS s=true) (k:chS u=true) (e:rkS s=rkS u):s=u:=by
 have h1:bytesI s=bytesI u:=by
  refine map_inj_on (fun x hx y hy he=>?_) e
  have hx1:=List.all_eq_true.1 h x hx;have hy1:=List.all_eq_true.1 k y hy;rw [rkC_ch hx1,rkC_ch hy1] at he;unfold bytesI at hx hy;obtain ⟨a,-,rfl⟩:=List.mem_map.1 hx;obtain ⟨b,-,rfl⟩:=List.mem_map.1 hy;have h2:=ch_back ⟨a.toNat,a.toNat_lt⟩ hx1;have h3:=ch_back ⟨b.toNat,b.toNat_lt⟩ hy1;rw [← h2,← h3,he]
 rw [← toB_bytesI s,h1,toB_bytesI]
theorem rkS_iff {s u:ByteArray} (h:chS s=true) (k:chS u=true):rkS s=rkS u ↔ s=u:=⟨rkS_inj h k,fun e=>by rw [e]⟩
theorem lexL_irr:∀ {a:List Int},¬ lexL a a
 | [],h=>by unfold lexL at h;exact h
 | x :: a,h=>by
  unfold lexL at h;rcases h with h | ⟨-,h⟩
  · omega
  · exact lexL_irr h
theorem ltK_irr {d:List (List Int)} {f t:Int} (a b:Int) (h:ltK d f t a b) (k:ltK d f t b a):False:=by
 unfold ltK at h k;rcases h with h | ⟨e,h⟩ <;> rcases k with k | ⟨e',k⟩
 · exact lexL_irr (lexL_trans h k)
 · rw [e'] at h;exact lexL_irr h
 · rw [e] at k;exact lexL_irr k
 · omega
open Classical in
noncomputable def ordD (d:List (List Int)) (f t:Int):List Int:=if h:∃ Z,IsOrd d f t Z then h.choose else []
theorem IsOrd.eq {d:List (List Int)} {f t:Int} {Z:List Int} (h:IsOrd d f t Z):Z=ordD d f t:=by
 have h1:∃ Z,IsOrd d f t Z:=⟨Z,h⟩;unfold ordD;rw [dif_pos h1];have h2:=h1.choose_spec;exact Sym.sorted_unique (lt:=ltK d f t) ltK_irr (h.1.trans h2.1.symm) h.2 h2.2
def keyT (d:List (List Int)) (f t:Int):List ByteArray:=d.map (fun c=>toB (txI (partC c f t)))
theorem keyT_len (d:List (List Int)) (f t:Int):(keyT d f t).length=d.length:=by unfold keyT;simp
theorem keyT_at {d:List (List Int)} {f t:Int} {i:Nat} {c:List Int} (h:d[i]?=some c):(keyT d f t)[i]?=some (toB (txI (partC c f t))):=by unfold keyT;rw [List.getElem?_map,h];rfl
theorem hasD_at {d:List (List Int)} {f t:Int} (h:hasD d f t=true) {c:List Int} (hc:c∈d):okTx (partC c f t)=true:=by
 unfold hasD at h;have h1:d.any (notF f t)=false:=by simpa using h
 have h2:=List.any_eq_false.1 h1 c hc;unfold notF at h2;simpa using h2
structure OffT where
 trays:List (List (List Int))
 totals:List (List TotalT)
def RdTs (B:Nat) (w:World) (v:Value) (x:List TotalT):Prop:=Rds eTotal B w v x
theorem rowK_T:RowK RdTs:=⟨fun h hb hB=>Rds.below h hb hB,fun h hB=>Rds.mono h hB,fun h=>Rds.tight h,fun h=>Rds.shape h⟩
abbrev RdTL (B:Nat) (w:World) (v:Value) (xs:List (List TotalT)):Prop:=RdL RdTs B w v xs
def RdOff (B:Nat) (w:World) (u v:Value) (o:OffT):Prop:=RdDs B w u o.trays∧RdTL B w v o.totals
theorem RdOff.onn {B:Nat} {w w':World} {u v:Value} {o:OffT} (h:RdOff B w u v o) (hb:Below w.heap.size w w'):RdOff w'.heap.size w' u v o:=⟨RdL.onn rowK_D h.1 hb,RdL.onn rowK_T h.2 hb⟩
theorem RdOff.below {B B':Nat} {w w':World} {u v:Value} {o:OffT} (h:RdOff B w u v o) (hb:Below B' w w') (hB:B≤B'):RdOff B w' u v o:=⟨RdL.below rowK_D h.1 hb hB,RdL.below rowK_T h.2 hb hB⟩
theorem RdOff.tight {B:Nat} {w:World} {u v:Value} {o:OffT} (h:RdOff B w u v o):RdOff w.heap.size w u v o:=⟨RdL.tight rowK_D h.1,RdL.tight rowK_T h.2⟩
def RwsG {β:Type} (R:World→Value→List β→Prop) (S:Nat→Prop) (w:World) (hs:List SlV) (xs:List (List β)):Prop :=
 hs.length=xs.length∧∀ (i:Nat) (h:SlV) (x:List β),hs[i]?=some h→xs[i]?=some x→FrS R S w h.val x
section
variable {β:Type} {R:World→Value→List β→Prop} {S S' S'':Nat→Prop} {w w':World} {hs:List SlV} {xs:List (List β)}
theorem RwsG.nil (R:World→Value→List β→Prop) (S:Nat→Prop) (w:World):RwsG R S w [] []:=⟨rfl,fun i h x e=>by simp at e⟩
theorem RwsG.snoc {h:SlV} {x:List β} (hr:RwsG R S w hs xs) (hx:FrS R S w h.val x):RwsG R S w (hs++[h]) (xs++[x]):=by
 refine ⟨by simp [hr.1],fun i h' x' e1 e2=>?_⟩
 rcases Nat.lt_or_ge i hs.length with hi | hi
 · rw [List.getElem?_append_left hi] at e1
   rw [List.getElem?_append_left (by rw [← hr.1];exact hi)] at e2;exact hr.2 i h' x' e1 e2
 · rw [List.getElem?_append_right hi] at e1
   rw [List.getElem?_append_right (by rw [← hr.1];exact hi)] at e2;have h0:i - hs.length=0:=by have:=at_lt e1;simp at this;omega
   rw [h0] at e1;rw [show i - xs.length=0 by rw [← hr.1];exact h0] at e2;cases e1;cases e2
   exact hx
theorem RwsG.set {h:SlV} {x:List β} (hr:RwsG R S w hs xs) (hx:FrS R S w h.val x) (i:Nat):RwsG R S w (hs.set i h) (xs.set i x):=by
 refine ⟨by simp [hr.1],fun j h' x' e1 e2=>?_⟩
 rw [List.getElem?_set] at e1 e2;by_cases hij:i=j
 · rw [if_pos hij] at e1 e2
   split at e1
   · split at e2
     · cases e1;cases e2;exact hx
     · cases e2
   · cases e1
 · rw [if_neg hij] at e1 e2
   exact hr.2 j h' x' e1 e2
theorem RwsG.step (hr:RwsG R S w hs xs) (hA:Agr S' w w') (h1:∀ k,S' k→k<w.heap.size→S k) (h2:∀ k,S'' k→k<w.heap.size→S k):RwsG R S'' w' hs xs :=
 ⟨hr.1,fun i h x e1 e2=>(hr.2 i h x e1 e2).step hA h1 h2⟩
end
theorem RdL.of_own {β:Type} {R:Nat→World→Value→List β→Prop} {S:Nat→Prop} {e:TypeId} {base:Nat} {w:World} {v:Value} {hs:List SlV} {xs:List (List β)} (h:Own eS e base w v hs) (hr:RwsG (fun w v x=>R w.heap.size w v x) S w hs xs) :
 RdL R w.heap.size w v xs:=⟨hs,h.rds,hr.1,fun i x y e1 e2=>(hr.2 i x y e1 e2).now⟩
theorem FrS.of_own {β:Type} {R:Nat→World→Value→List β→Prop} {S:Nat→Prop} {e:TypeId} {base:Nat} {w:World} {v:Value} {hs:List SlV} {xs:List (List β)} (h:Own eS e base w v hs) (hr:RwsG (fun w v x=>R w.heap.size w v x) S w hs xs)
 (hn:∀ k,v.ownBlock=some k→¬ S k):FrS (fun w v x=>RdL R w.heap.size w v x) S w v xs:=by
 intro w' hA;have h1:=OwnT.agr (Own.top h) hA hn;exact ⟨hs,h1.1.rds,hr.1,fun i x y e1 e2=>hr.2 i x y e1 e2 w' hA⟩
def outB (f t:Int) (lo hi:ByteArray) (y:List Int):Bool:=decide (cmpN (rks (partC y f t)) (rks (cds lo))<0) || decide (0<cmpN (rks (partC y f t)) (rks (cds hi)))
def eqF (f t:Int) (y x:List Int):Bool:=decide (cmpN (rks (partC x f t)) (rks (partC y f t))=0)
def hasE (b:List (List Int)) (f t:Int) (y:List Int):Bool:=b.any (eqF f t y)
def selC (a:List (List Int)) (f t:Int) (lo hi:ByteArray):Int:=colC [a] f t [lo,hi]
def firC (a:List (List Int)) (f t:Int):Int:=colC [a] f t []
def matC (a b:List (List Int)) (f t:Int):Int:=if twoC a b f t ≠ 0 then twoC a b f t else if ¬ (ascB a f t=true∧ascB b f t=true) then 6 else 0
def firD (a:List (List Int)) (f t:Int):List (List Int):=pickD a (selI (grpP a f t) a.length)
def numC (sf st:Int) (c:List Int):Int:=(numR (partC c sf st)).1
def noNum (sf st:Int) (c:List Int):Bool:=!(numR (partC c sf st)).2
def strD (d:List (List Int)) (G:List Int) (i:Nat):List (List Int):=(d.take ((G++[(d.length:Int)]).getD (i+1) 0).toNat).drop (G.getD i 0).toNat
def sumC (sf st:Int) (d:List (List Int)):Int:=(d.map (numC sf st)).sum
def totOf (d:List (List Int)) (G:List Int) (f t sf st:Int) (i:Nat):TotalT:=⟨toB (txI (partC (d.getD (G.getD i 0).toNat []) f t)),sumC sf st (strD d G i)⟩
def totD (d:List (List Int)) (f t sf st:Int):List TotalT:=(List.range (selI (grpP d f t) d.length).length).map (totOf d (selI (grpP d f t) d.length) f t sf st)
def totC (d:List (List Int)) (f t sf st:Int):Int:=if d.any (noNum sf st)=true∨hasD d f t=false then 8 else 0
def trD (o:OffT) (k:Int):List (List Int):=o.trays.getD k.toNat []
def dkC (o:OffT) (x:StepT):Int :=
 if x.kd=1 then sortC (trD o x.ta) x.ff x.ft else if x.kd=2 then merC (trD o x.ta) (trD o x.tb) x.ff x.ft else if x.kd=5 then selC (trD o x.ta) x.ff x.ft x.tx x.tx else if x.kd=6 then firC (trD o x.ta) x.ff x.ft else matC (trD o x.ta) (trD o x.tb) x.ff x.ft
noncomputable def dkD (o:OffT) (x:StepT):List (List Int) :=
 if x.kd=1 then pickD (trD o x.ta) (ordD (trD o x.ta) x.ff x.ft) else if x.kd=2 then pickD (trD o x.ta++trD o x.tb) (ordD (trD o x.ta++trD o x.tb) x.ff x.ft) else if x.kd=5 then (trD o x.ta).filter (fun y=>!outB x.ff x.ft x.tx x.tx y)
 else if x.kd=6 then firD (trD o x.ta) x.ff x.ft else if x.kd=3 then (trD o x.ta).filter (hasE (trD o x.tb) x.ff x.ft) else (trD o x.ta).filter (fun y=>!hasE (trD o x.tb) x.ff x.ft y)
def colO:List (List (List Int))→Int
 | []=>20
 | [] :: ts=>colO ts
 | (c :: _) :: _=>c.length
def offB (o:OffT):Bool:=decide (o.trays.length=6) && decide (o.totals.length≤20) && o.trays.all (fun d=>deckB d && (decide (d=[]) || decide (colsD d=colO o.trays)))
def stpC (o:OffT) (x:StepT):Int:=if stB x (colO o.trays)=false then 2 else if x.kd=7 then (if o.totals.length=20 then 5 else totC (trD o x.ta) x.ff x.ft x.sf x.st) else dkC o x
noncomputable def stpD (o:OffT) (x:StepT):OffT:=if x.kd=7 then ⟨o.trays,o.totals++[totD (trD o x.ta) x.ff x.ft x.sf x.st]⟩ else ⟨o.trays.set x.tc.toNat (dkD o x),o.totals⟩
theorem colO_bd:∀ {ts:List (List (List Int))},(∀ d∈ts,deckB d=true)→1≤colO ts∧colO ts≤20
 | [],_=>by unfold colO;omega
 | [] :: ts,h=>by unfold colO;exact colO_bd (fun d hd=>h d (List.mem_cons_of_mem _ hd))
 | (c :: r) :: ts,h=>by
  unfold colO;have h1:=(deckB_parts (h (c :: r) (List.mem_cons_self ..))).2 c (List.mem_cons_self ..);have h2:=card_len h1.1;omega
theorem offB_parts {o:OffT} (h:offB o=true):o.trays.length=6∧o.totals.length≤20∧∀ d∈o.trays,deckB d=true∧(d=[]∨colsD d=colO o.trays):=by
 unfold offB at h;rw [Bool.and_eq_true,Bool.and_eq_true,decide_eq_true_iff,decide_eq_true_iff] at h;refine ⟨h.1.1,h.1.2,fun d hd=>?_⟩
 have h1:=List.all_eq_true.1 h.2 d hd;rw [Bool.and_eq_true,Bool.or_eq_true,decide_eq_true_iff,decide_eq_true_iff] at h1;exact h1
theorem trD_at {o:OffT} {k:Int} (h:o.trays.length=6) (hk:trayP k):o.trays[k.toNat]?=some (trD o k):=by
 unfold trD;rw [List.getD_eq_getElem?_getD,List.getElem?_eq_getElem (by unfold trayP at hk;omega)];rfl
theorem colO_cons (d:List (List Int)) (ts:List (List (List Int))):colO (d :: ts)=if d=[] then colO ts else colsD d:=by
 cases d with
 | nil=>rw [if_pos rfl];rfl
 | cons c r=>rw [if_neg (by simp)];rfl
theorem colO_at {ts:List (List (List Int))} {k:Nat} {d:List (List Int)} (h:ts[k]?=some d):colO (ts.drop k)=if d=[] then colO (ts.drop (k+1)) else colsD d:=by
 obtain ⟨h1,e⟩:=List.getElem?_eq_some_iff.1 h;rw [List.drop_eq_getElem_cons h1,e,colO_cons]
set_option maxHeartbeats 1000000 in
theorem officeColumns_c {o:OffT} {u v:Value} {w:World} {B:Nat} (ho:RdOff B w u v o) :
 Calls Tryz.prog 91 #[.agg #[u,v]] w fun e w'=>e=.returned (.int .i64 (colO o.trays))∧Below w.heap.size w w':=by
 have hle:=RdL.le ho.1;obtain ⟨uo,uc,rfl⟩:=RdL.shape ho.1;obtain ⟨vo,vc,rfl⟩:=RdL.shape ho.2;obtain ⟨T,hT⟩:∃ T,T=w.alloc (.cells #[.slice uo o.trays.length uc,.slice vo o.totals.length vc] 35):=⟨_,rfl⟩;have hbT:Below w.heap.size w T:=by rw [hT];exact (Below.refl _ _).alloc (Nat.le_refl _) _
 have hBT:Box T w.heap.size [.slice uo o.trays.length uc,.slice vo o.totals.length vc]:=by rw [hT];exact Box.new w [.slice uo o.trays.length uc,.slice vo o.totals.length vc] _
 have h1:=RdL.onn rowK_D ho.1 hbT;obtain ⟨uo',uc',hs,hop⟩:=RdL.open rowK_D h1;injection hs with e1 e2 e3;subst e1;subst e3;clear e2;have c0:=hBT.cell 0 _ rfl;have Hop:=hid hop;have HT:=hid hT;have HbT:=hid hbT;obtain ⟨ts,hts⟩:∃ ts,ts=o.trays:=⟨_,rfl⟩;rw [← hts] at Hop HT c0 hle ⊢;obtain ⟨n,hn⟩:∃ n,n=ts.length:=⟨_,rfl⟩;rw [← hn] at Hop HT c0 hle ⊢;have Hn:=hid hn;obtain ⟨R,hR⟩:∃ R,R=colO ts:=⟨_,rfl⟩;rw [← hR];have HR:=hid hR;clear hT hbT hBT ho h1 hop hn hR;generalize o.totals.length=m at *;go_enter Tryz.func91,Tryz.ntmps91
 go_upto_region 1 with fail
 rw [← HT.out];go_wp2
 go_loopw [8] (fun iv wr=>∃ k:Nat,k≤n∧iv=.int .i64 k∧Hid (R=colO (ts.drop k))∧Hid (Below T.heap.size T wr)) (fun i _=>n - (intOf i).toNat)
 case atStart=>exact ⟨0,Nat.zero_le _,rfl,hid (by rw [List.drop_zero];exact HR.out),hid (Below.refl _ _)⟩
 case round =>
  obtain ⟨k,hk,rfl,HK,Hb⟩:=hrel;by_cases hkn:k<n
  · obtain ⟨b,off,rfl,hlt,hc⟩:=Hop.out (by omega)
    obtain ⟨d,ro,rc,hd,hcell,hrd⟩:=hc k hkn;have d1:=(Hb.out.cell (p:=⟨b,off+k,none⟩) hlt.2).trans hcell;have hK:=HK.out;rw [colO_at hd] at hK;by_cases h0:d.length=0
    · have HK2:Hid (R=colO (ts.drop (k+1))):=hid (by rw [hK,if_pos (List.eq_nil_of_length_eq_zero h0)])
      rw [h0] at d1;clear hc hcell hrd hK c0 HK;go_wp2
      go_roundw
      case rel=>exact ⟨k+1,by omega,by go_num,HK2,Hb⟩
      case measure=>simp [intOf];omega
    · obtain ⟨ro',rc',hs,hop2⟩:=RdInt64SS.open (RdInt64SS.onn hrd Hb.out)
      injection hs with e1 e2 e3;subst e1;subst e3;clear e2;obtain ⟨b2,off2,rfl,hlt2,hc2⟩:=hop2 (by omega);obtain ⟨x,xo,xc,hx,hxc,hxr⟩:=hc2 0 (by omega);have hxl:=hxr.le;have HE:Hid (R=(x.length:Int)):=hid (by rw [hK,if_neg (fun e=>h0 (by rw [e];rfl))];unfold colsD;rw [if_neg (fun e=>h0 (by rw [e];rfl)),head_of hx]);rw [Nat.add_zero] at hxc;obtain ⟨dl,hdl⟩:∃ q,q=d.length:=⟨_,rfl⟩;rw [← hdl] at d1 h0;have i1:0<dl:=by omega
      have i2:(0:Int)<(dl:Int):=by omega
      have hcc:=fun W=>columns_c (ao:=xo) (n:=x.length) (cap:=xc) (w:=W) (by omega);have Hcc:=hid hcc;clear hc hcell hrd hK c0 HK hop2 hc2 hx hxr hcc hdl hxl;generalize x.length=xl at *;go_wp2_with fail
      with_reducible refine (Hcc.out _).mono ?_
      rintro e w2 ⟨rfl,hb2⟩
      have Hb2:=hid (HbT.out.trans ((Hb.out.trans (hb2.mono Hb.out.size)).mono HbT.out.size));clear hb2;go_wp2
      go_ret
      exact ⟨ret_int HE.out.symm,Hb2.out⟩
  · obtain rfl:k=n:=by omega
    have HE:Hid (R=20):=hid (by rw [HK.out,List.drop_of_length_le (by have:=Hn.out;omega)];rfl);have Hb2:=hid (HbT.out.trans (Hb.out.mono HbT.out.size));clear HK;go_wp2
    go_ret
    exact ⟨ret_int HE.out.symm,Hb2.out⟩
def trayB (C:Int) (d:List (List Int)):Bool:=deckB d && (decide (d=[]) || decide (colsD d=C))
theorem offB_eq (o:OffT):offB o=(decide (o.trays.length=6) && decide (o.totals.length≤20) && o.trays.all (trayB (colO o.trays))):=rfl
set_option maxHeartbeats 2000000 in
theorem ValidOffice_c {o:OffT} {u v:Value} {w:World} {B:Nat} (ho:RdOff B w u v o) :
 Calls Tryz.prog 48 #[.agg #[u,v]] w fun e w'=>e=.returned (.bool (offB o))∧Below w.heap.size w w':=by
 have hle:=RdL.le ho.1;obtain ⟨uo,uc,rfl⟩:=RdL.shape ho.1;obtain ⟨vo,vc,rfl⟩:=RdL.shape ho.2;obtain ⟨T,hT⟩:∃ T,T=w.alloc (.cells #[.slice uo o.trays.length uc,.slice vo o.totals.length vc] 35):=⟨_,rfl⟩;have hbT:Below w.heap.size w T:=by rw [hT];exact (Below.refl _ _).alloc (Nat.le_refl _) _
 have hBT:Box T w.heap.size [.slice uo o.trays.length uc,.slice vo o.totals.length vc]:=by rw [hT];exact Box.new w [.slice uo o.trays.length uc,.slice vo o.totals.length vc] _
 have h1:=RdL.onn rowK_D ho.1 hbT;have hoT:=RdOff.onn ho hbT;obtain ⟨uo',uc',hs,hop⟩:=RdL.open rowK_D h1;injection hs with e1 e2 e3;subst e1;subst e3;clear e2;have c0:=hBT.cell 0 _ rfl;have c1:=hBT.cell 1 _ rfl;have Hop:=hid hop;have HT:=hid hT;have HbT:=hid hbT;have HBT:=hid hBT;have hoc:=fun (W:World) (hW:Below T.heap.size T W)=>officeColumns_c (w:=W) (RdOff.onn hoT hW);obtain ⟨C,hC⟩:∃ C,C=colO o.trays:=⟨_,rfl⟩;rw [← hC] at hoc;have Hoc:=hid hoc;obtain ⟨R,hR⟩:∃ R,R=offB o:=⟨_,rfl⟩;rw [← hR];have HR:Hid (R=(decide (o.trays.length=6) && decide (o.totals.length≤20) && o.trays.all (trayB C))):=hid (by rw [hR,offB_eq,hC]);obtain ⟨ts,hts⟩:∃ ts,ts=o.trays:=⟨_,rfl⟩;rw [← hts] at Hop HT HBT c0 hle HR Hoc ⊢;obtain ⟨n,hn⟩:∃ n,n=ts.length:=⟨_,rfl⟩;rw [← hn] at Hop HT HBT c0 hle HR Hoc ⊢;have Hn:=hid hn;obtain ⟨m,hm⟩:∃ m,m=o.totals.length:=⟨_,rfl⟩;rw [← hm] at HT HBT c1 HR Hoc ⊢;clear hT hbT hBT ho h1 hop hn hR hoT hoc hC hm hts;go_enter Tryz.func48,Tryz.ntmps48
 go_upto_region 1 with fail
 rw [← HT.out];by_cases hn6:n=6
 · by_cases hm20:m≤20
   · have i1:¬ (20:Int)<(m:Int):=by omega
     have HR2:Hid (R=ts.all (trayB C)):=hid (by rw [HR.out,decide_eq_true hn6,decide_eq_true hm20];rfl);subst hn6;clear HR;go_wp2
     go_loopw [18] (fun iv wr=>∃ k:Nat,k≤6∧iv=.int .i64 k∧Hid ((ts.take k).all (trayB C)=true)∧Hid (Below T.heap.size T wr)) (fun i _=>6 - (intOf i).toNat)
     case atStart=>exact ⟨0,Nat.zero_le _,rfl,hid rfl,hid (Below.refl _ _)⟩
     case round =>
      obtain ⟨k,hk,rfl,HK,Hb⟩:=hrel;by_cases hkn:k<6
      · obtain ⟨b,off,rfl,hlt,hc⟩:=Hop.out (by omega)
        obtain ⟨d,ro,rc,hd,hcell,hrd⟩:=hc k hkn;have d1:=(Hb.out.cell (p:=⟨b,off+k,none⟩) hlt.2).trans hcell;have hrw:=RdInt64SS.onn hrd Hb.out;have Hall:Hid (trayB C d=true→(ts.take (k+1)).all (trayB C)=true):=hid (fun h=>by rw [take_snoc hd,List.all_append,HK.out];simp [h]);have Hno:Hid (trayB C d=false→R=false):=hid (fun h=>by
         rw [HR2.out,List.all_eq_false];exact ⟨d,List.mem_of_getElem? hd,by rw [h];decide⟩)
        have hvd:=fun x os=>ValidDeck_c (w:=grow (redrawn wr x) os) (RdInt64SS.below hrw (below_regrown wr x os) (Nat.le_refl _));obtain ⟨V,hV⟩:∃ V,V=deckB d:=⟨_,rfl⟩;rw [← hV] at hvd;have Hvd:=hid hvd;have HV:=hid hV;have hBr:=HBT.out.on Hb.out;have k0:=cell_regrown (hBr.cell 0 _ rfl);have k1:=cell_regrown (hBr.cell 1 _ rfl);have Hocr:Hid (∀ x os,Calls Tryz.prog 91 #[.agg #[.slice (some ⟨b,off,none⟩) 6 uc,.slice vo m vc]] (grow (redrawn wr x) os) fun e w'=>e=.returned (.int .i64 C)∧Below (grow (redrawn wr x) os).heap.size (grow (redrawn wr x) os) w'):=hid (fun x os=>Hoc.out _ (Hb.out.trans ((below_regrown wr x os).mono Hb.out.size)));cases V with
        | false =>
         have HE:=hid (Hno.out (by unfold trayB;rw [← HV.out];rfl));clear hc hcell hrd hrw hvd hBr hV hd;generalize d.length=dl at *;go_upto_region 6 with fail
         refine wp_region_quiet_below (by kernel_rfl) (by kernel_rfl) ?_
         repeat ((with_reducible refine wpQuiet_step (fun K hK=>?_));go_simp;first | ((with_reducible refine hK _ ?_);clear hK K) | ((with_reducible rw [if_neg]);rotate_left;(intro hgd;cases hgd);(with_reducible refine hK _ ?_);clear hK K) | (apply Exists.intro;refine ⟨fun _=>?_,hK _ ?_⟩;((first | (go_at_call 89;with_reducible exact qb_below (Hvd.out _ _))));clear hK K))
         refine wpQuiet_nil ?_
         intro _ hw';obtain ⟨⟨dq,osq⟩,hw''⟩:=hw';subst hw'';have hbq:=below_regrown wr dq osq;generalize grow (redrawn wr dq) osq=wq at hbq ⊢;have Hb2:=hid (HbT.out.trans ((Hb.out.trans (hbq.mono Hb.out.size)).mono HbT.out.size));clear hbq k0 k1 d1;go_wp2
         go_ret
         exact ⟨ret_bool HE.out.symm,Hb2.out⟩
        | true =>
         by_cases h0:d.length=0
         · have HA2:=hid (Hall.out (by unfold trayB;rw [← HV.out,decide_eq_true (List.eq_nil_of_length_eq_zero h0)];rfl))
           rw [h0] at d1 Hvd;have i2:¬ (0:Int)<((0:Nat):Int):=by omega
           clear hc hcell hrd hrw hvd hBr hV hd;go_upto_region 6 with fail
           refine wp_region_quiet_below (by kernel_rfl) (by kernel_rfl) ?_
           repeat ((with_reducible refine wpQuiet_step (fun K hK=>?_));go_simp;first | ((with_reducible refine hK _ ?_);clear hK K) | ((with_reducible rw [if_neg]);rotate_left;(intro hgd;cases hgd);(with_reducible refine hK _ ?_);clear hK K) | (apply Exists.intro;refine ⟨fun _=>?_,hK _ ?_⟩;((first | (go_at_call 89;with_reducible exact qb_below (Hvd.out _ _))));clear hK K))
           refine wpQuiet_nil ?_
           intro _ hw';obtain ⟨⟨dq,osq⟩,hw''⟩:=hw';subst hw'';have hbq:=below_regrown wr dq osq;generalize grow (redrawn wr dq) osq=wq at hbq ⊢;have Hb2:=hid (Hb.out.trans (hbq.mono Hb.out.size));clear hbq k0 k1 d1;go_wp2
           go_roundw
           case rel=>exact ⟨k+1,by omega,by go_num,HA2,Hb2⟩
           case measure=>simp [intOf];omega
         · obtain ⟨ro',rc',hs,hop2⟩:=RdInt64SS.open hrw
           injection hs with e1 e2 e3;subst e1;subst e3;clear e2;obtain ⟨b2,off2,rfl,hlt2,hc2⟩:=hop2 (by omega);obtain ⟨x,xo,xc,hx,hxc,hxr⟩:=hc2 0 (by omega);have hxl:=hxr.le;rw [Nat.add_zero] at hxc;have k3:=cell_regrown hxc;have hcd:colsD d=(x.length:Int):=by unfold colsD;rw [if_neg (fun e=>h0 (by rw [e];rfl)),head_of hx]
           have htb:trayB C d=decide ((x.length:Int)=C):=by
            unfold trayB;rw [← HV.out,hcd,decide_eq_false (show ¬ d=[] from fun e=>h0 (by rw [e];rfl))];simp
           have Htb:=hid htb;have hcc:=fun W=>columns_c (ao:=xo) (n:=x.length) (cap:=xc) (w:=W) (by omega);have Hcc:=hid hcc;obtain ⟨dl,hdl⟩:∃ q,q=d.length:=⟨_,rfl⟩;rw [← hdl] at d1 h0 Hvd;have i1:0<dl:=by omega
           have i2:(0:Int)<(dl:Int):=by omega
           clear hc hcell hrd hrw hvd hBr hV hd hop2 hc2 hx hxr hcd htb hcc hdl hxc;generalize x.length=xl at *;by_cases hxC:(xl:Int)=C
           · have HA2:=hid (Hall.out (by rw [Htb.out];exact decide_eq_true hxC))
             have hx2:((xl:Int) != C)=false:=by simp [hxC]
             have HxC:=hid hxC;clear hxC;go_upto_region 6 with fail
             refine wp_region_quiet_below (by kernel_rfl) (by kernel_rfl) ?_
             repeat ((with_reducible refine wpQuiet_step (fun K hK=>?_));go_simp;first | ((with_reducible refine hK _ ?_);clear hK K) | ((with_reducible rw [if_neg]);rotate_left;(intro hgd;cases hgd);(with_reducible refine hK _ ?_);clear hK K) | (apply Exists.intro;refine ⟨fun _=>?_,hK _ ?_⟩;((first | (go_at_call 89;with_reducible exact qb_below (Hvd.out _ _)) | (go_at_call 90;with_reducible exact qb_below (Hcc.out _)) | (go_at_call 91;with_reducible exact qb_below (Hocr.out _ _))));clear hK K))
             refine wpQuiet_nil ?_
             intro _ hw';obtain ⟨⟨dq,osq⟩,hw''⟩:=hw';subst hw'';have hbq:=below_regrown wr dq osq;generalize grow (redrawn wr dq) osq=wq at hbq ⊢;have Hb2:=hid (Hb.out.trans (hbq.mono Hb.out.size));clear hbq k0 k1 d1 k3 hx2;go_wp2
             go_roundw
             case rel=>exact ⟨k+1,by omega,by go_num,HA2,Hb2⟩
             case measure=>simp [intOf];omega
           · have HE:=hid (Hno.out (by rw [Htb.out];exact decide_eq_false hxC))
             have hx2:((xl:Int) != C)=true:=by simpa using hxC
             clear hxC;go_upto_region 6 with fail
             refine wp_region_quiet_below (by kernel_rfl) (by kernel_rfl) ?_
             repeat ((with_reducible refine wpQuiet_step (fun K hK=>?_));go_simp;first | ((with_reducible refine hK _ ?_);clear hK K) | ((with_reducible rw [if_neg]);rotate_left;(intro hgd;cases hgd);(with_reducible refine hK _ ?_);clear hK K) | (apply Exists.intro;refine ⟨fun _=>?_,hK _ ?_⟩;((first | (go_at_call 89;with_reducible exact qb_below (Hvd.out _ _)) | (go_at_call 90;with_reducible exact qb_below (Hcc.out _)) | (go_at_call 91;with_reducible exact qb_below (Hocr.out _ _))));clear hK K))
             refine wpQuiet_nil ?_
             intro _ hw';obtain ⟨⟨dq,osq⟩,hw''⟩:=hw';subst hw'';have hbq:=below_regrown wr dq osq;generalize grow (redrawn wr dq) osq=wq at hbq ⊢;have Hb2:=hid (HbT.out.trans ((Hb.out.trans (hbq.mono Hb.out.size)).mono HbT.out.size));clear hbq k0 k1 d1 k3 hx2;go_wp2
             go_ret
             exact ⟨ret_bool HE.out.symm,Hb2.out⟩
      · obtain rfl:k=6:=by omega
        have HE:Hid (R=true):=hid (by rw [HR2.out,← HK.out,List.take_of_length_le (by have:=Hn.out;omega)]);have Hb2:=hid (HbT.out.trans (Hb.out.mono HbT.out.size));go_wp2
        go_ret
        exact ⟨ret_bool HE.out.symm,Hb2.out⟩
   · have i1:(20:Int)<(m:Int):=by omega
     have HE:Hid (R=false):=hid (by rw [HR.out,decide_eq_false hm20];simp);subst hn6;go_wp2
     go_ret
     exact ⟨ret_bool HE.out.symm,HbT.out⟩
 · have HE:Hid (R=false):=hid (by rw [HR.out,decide_eq_false hn6];rfl)
   have i1:((n:Int) != 6)=true:=by
    have:¬ (n:Int)=6:=by omega
    simpa using this
   go_wp2
   go_ret
   exact ⟨ret_bool HE.out.symm,HbT.out⟩
theorem l02Own_c {xs:List Int} {w:World} {A b off:Nat} {ro:Option Addr} {rc n:Nat} (hn:n=xs.length) (hcell:w.cell? ⟨b,off,none⟩=some (.slice ro n rc)) (ha:RdI A w (.slice ro n rc) xs) (hl:n≤2097152) :
 Calls Tryz.prog 119 #[.pointer (some ⟨b,off,none⟩)] w fun e w'=>(∃ u,e=.returned (.agg #[u])∧OwnInt64S w.heap.size w' u xs)∧Below w.heap.size w w':=by
 obtain ⟨W,hW⟩:∃ W,W=w.alloc (.cells #[.slice none 0 0] 88):=⟨_,rfl⟩;have hQ:Box W w.heap.size [.slice none 0 0]:=by rw [hW];exact Box.new w [.slice none 0 0] _
 have hb0:Below w.heap.size w W:=by rw [hW];exact (Below.refl _ _).alloc (Nat.le_refl _) _
 have hb:=World.block_lt_of_cell? _ _ hcell;have c0:=(hb0.cell (p:=⟨b,off,none⟩) hb).trans hcell;have Ha:=hid (Rds.onn ha hb0);have HQ:=hid hQ;have Hb0:=hid hb0;have HW:=hid hW;have hl2:xs.length≤2097152:=by omega
 clear hQ hb0 hW ha hcell hb hn;go_enter Tryz.func119,Tryz.ntmps119
 go_upto_region 1 with fail
 rw [← HW.out];go_wp2_with fail
 with_reducible refine (l00Own_c Ha.out hl2).mono ?_
 rintro e w1 ⟨u,rfl,hu,hb⟩
 obtain ⟨uo,uc,hsu⟩:=hu.shape;subst hsu;have hQ1:=HQ.out.on hb;have r0:=hQ1.cell 0 _ rfl;have r1:=hQ1.free 0;have hlt:=HQ.out.lt;have HU:=hid hu;have Hb:=hid (Hb0.out.trans (hb.mono Hb0.out.size));clear hu hb hQ1 c0;go_wp2
 refine bodyPost_ret (v:=.agg #[.slice uo xs.length uc]) (by simp [results,Tryz.results119,go_sem,r0]) rfl ⟨⟨_,rfl,?_⟩,Hb.out.setCell (by show w.heap.size≤w.heap.size;omega) _⟩
 exact (HU.out.kept (grown_setY _ _ _) (.inr (fun e=>by have h:=(HU.out.lt _ e).1;simp only at h;omega))).mono (by omega)
set_option maxHeartbeats 1000000 in
theorem l02Copy_c {d:List (List Int)} {v:Value} {w:World} {A:Nat} (hd:RdInt64SS A w v d) (hr:RowsOk d) :
 Calls Tryz.prog 80 #[v] w fun e w'=>(∃ r,e=.returned r∧OwnCardS w.heap.size w' r d)∧Below w.heap.size w w':=by
 obtain ⟨i0,hi,hz0,hz1,hz2c⟩:=info_parts Tryz.infoCard;have hB0:BldG eI 2 88 w.heap.size w.heap.size (w.alloc (.cells #[] 88)).heap.size (w.alloc (.cells #[] 88)) (.slice (some ⟨w.heap.size,0,none⟩) 0 0) (d.take 0):=BldG.empty (B:=w.heap.size) rfl (Own.lit (E:=eS) (xs:=[]) (cs:=#[]) (Nat.le_refl _) rfl rfl (by decide) (fun x hx=>by cases hx)) (by simp);obtain ⟨vo,vc,rfl,ho⟩:=hd.tight.open;have Ho:=hid ho;have HB0:=hid hB0;have HRw:=hid hr.2;have hl:=hr.1;obtain ⟨n,hn⟩:∃ n,n=d.length:=⟨_,rfl⟩;rw [← hn] at hl ⊢;have Hn:=hid hn;clear hd ho hB0 hr hn;go_enter Tryz.func80,Tryz.ntmps80
 go_wp2
 go_loopw [3,4] (fun ov iv wr=>∃ k:Nat,k≤n∧iv=.int .i64 k∧Hid (BldG eI 2 88 w.heap.size w.heap.size wr.heap.size wr ov (d.take k))∧Hid (Below w.heap.size w wr)) (fun _ i _=>n - (intOf i).toNat)
 case atStart=>exact ⟨0,Nat.zero_le _,rfl,HB0,hid ((Below.refl _ _).alloc (Nat.le_refl _) _)⟩
 case round =>
  obtain ⟨k,hk,rfl,HB,Hb⟩:=hrel;clear HB0;by_cases hkn:k<n
  · obtain ⟨b,off,rfl,hlt,hc⟩:=Ho.out (by have:=Hn.out;omega)
    obtain ⟨x,ro,rc,hx,hcell,hrd⟩:=hc k (by have:=Hn.out;omega);have hxl:=HRw.out x (List.mem_of_getElem? hx);have d1:=(Hb.out.cell (p:=⟨b,off+k,none⟩) hlt.2).trans hcell;have hrw:=Rds.onn hrd Hb.out;have hcon:=l02Own_c rfl d1 hrw (by omega);have Hcon:=hid hcon;have Htk:Hid (d.take (k+1)=d.take k++[x]):=hid (take_snoc hx);have Hxl:Hid ((d.take k).length≤100):=hid (by rw [List.length_take];omega);obtain ⟨oo,oc,hov⟩:=HB.out.shape;subst hov;clear hc hcell hrd hx hrw hcon d1;generalize d.take k=Tk at *;go_wp2_with fail
    with_reducible refine Hcon.out.mono ?_
    rintro e w2 ⟨⟨u,rfl,hu⟩,hb2⟩
    obtain ⟨tp,htp⟩:∃ tp,tp=wr.heap.size:=⟨_,rfl⟩;have htb:w.heap.size≤tp:=by have:=Hb.out.size;omega
    have hz2:tp≤w2.heap.size:=by have:=hb2.size;omega
    have hB2:BldG eI 2 88 w.heap.size w.heap.size tp w2 (.slice oo Tk.length oc) Tk:=by rw [htp];exact HB.out.below hb2 (Nat.le_refl _)
    have hb2':=Hb.out.trans (hb2.mono (by omega));clear hb2;have hR9:=hu.mono (base':=tp) (by omega);obtain ⟨hs',xh,hval,hokx,hlen,hO,hfn⟩:=hB2.app hR9 htb hz2;obtain ⟨rao,rcap,hsh⟩:=hR9.shape;subst hsh;have hcells:(#[.slice rao x.length rcap]:Array Value)=(eS.cells xh).toArray:=by rw [show eS.cells xh=[xh.val] from rfl,hval]
    have HO:=hid hO;have Hfn:=hid hfn;have Hlen:=hid hlen;have Hcells:=hid hcells;have hl0:=HO.out.lt;have Hl0:=hid hl0;have Hb2:=hid hb2';have hszr:w.heap.size≤w2.heap.size:=hb2'.size;clear hR9 hu hB2 hval hlen hO hfn hcells hl0 hb2';go_wp2_with (first | (at_builtin;refine wpList_appS (E:=eS) rfl _ _ 78 rfl Tryz.underlying78 hi hz0 hz1 hz2c rfl (by decide) rfl rfl (HO.out.alloc _) (rds_one (E:=eS) (x:=xh) hokx Hcells.out) ?b1 ?b2 ?b3 ?_))
    case b1=>rw [Hlen.out];have:=Hxl.out;unfold maxLen;simp;omega
    case b2=>rw [Hlen.out];have:=Hxl.out;simp;omega
    case b3=>simp;omega
    intro v' w6 hO6 hg6;have hg6':=hg6.alloc;have HB6:=hid (Hfn.out w6 v' hO6 hg6');have Hb6:=hid (Hb2.out.grown hg6'.1 hszr (fun q hq=>(Hl0.out q hq).1));clear hO6 hg6 hg6';go_wp2
    go_roundw
    case rel=>exact ⟨k+1,by omega,by go_num,by rw [Htk.out];exact HB6,Hb6⟩
    case measure=>simp [intOf];omega
  · obtain rfl:k=n:=by omega
    have hM:=HB.out.toM (Nat.le_refl _);rw [List.take_of_length_le (by have:=Hn.out;omega)] at hM;have HM:=hid hM;clear hM;go_wp2
    go_ret
    exact ⟨⟨_,rfl,HM.out⟩,Hb.out⟩
theorem l07Width_c {d:List (List Int)} {v:Value} {w:World} {A:Nat} (hd:RdInt64SS A w v d) :
 Calls Tryz.prog 160 #[v] w fun e w'=>e=.returned (.int .i64 (colsD d))∧w=w':=by
 obtain ⟨ao,cap,rfl,ho⟩:=hd.open;obtain ⟨n,hn⟩:∃ n,n=d.length:=⟨_,rfl⟩;rw [← hn];by_cases h0:n=0
 · have e1:colsD d=20:=by unfold colsD;rw [if_pos (List.eq_nil_of_length_eq_zero (by omega))]
   rw [e1];subst h0;clear hd ho e1 hn;go_enter Tryz.func160,Tryz.ntmps160
   go_wp2
   go_ret
   exact ⟨rfl,rfl⟩
 · obtain ⟨b,off,rfl,hlt,hc⟩:=ho (by omega)
   obtain ⟨x,ro,rc,hx,hcell,hrd⟩:=hc 0 (by omega);have e1:colsD d=(x.length:Int):=by unfold colsD;rw [if_neg (fun e=>by rw [e] at hx;cases hx),head_of hx]
   rw [e1];have h1:((n:Int) == 0)=false:=beq_eq_false_iff_ne.2 (by omega);have h2:0<n:=by omega
   clear hd ho e1 hn hc hx hrd;generalize x.length=m at *;rw [Nat.add_zero] at hcell;go_enter Tryz.func160,Tryz.ntmps160
   go_wp2
   go_ret
   exact ⟨rfl,rfl⟩
theorem l03Key_c {c:List Int} {b off cb co n cap:Nat} {w:World} {A:Nat} (x y:Int) (hx:0≤x) (hxy:x<y) (hy:y≤n) (hn:n≤1000) (hcell:w.cell? ⟨b,off,none⟩=some (.slice (some ⟨cb,co,none⟩) n cap)) (ha:RdI A w (.slice (some ⟨cb,co,none⟩) n cap) c) :
 Calls Tryz.prog 201 #[.pointer (some ⟨b,off,none⟩),.agg #[.int .i64 x,.int .i64 y]] w fun e w'=>e=.returned (.tuple #[.string (txV (partC c x y)),.bool (okTx (partC c x y))])∧Below w.heap.size w w':=by
 obtain ⟨W,hW⟩:∃ W,W=w.alloc (.cells #[.int .i64 x,.int .i64 y] 73):=⟨_,rfl⟩;have hb0:Below w.heap.size w W:=by rw [hW];exact (Below.refl _ _).alloc (Nat.le_refl _) _
 have hF:Box W w.heap.size [.int .i64 x,.int .i64 y]:=by rw [hW];exact Box.new w [.int .i64 x,.int .i64 y] _
 have hb:=World.block_lt_of_cell? _ _ hcell;have c0:=(hb0.cell (p:=⟨b,off,none⟩) hb).trans hcell;have ca:=Rds.cap ha;have hp:=l02Part_c (w:=W) x y hx hxy hy ca.1 (ca.2.2 (by omega)) c0 (World.block_lt_of_cell? _ _ c0);have haW:=Rds.onn ha hb0;have Hp:=hid hp;have Ha:=hid (Rds.part haW hx hxy hy);have Hpl:Hid ((partC c x y).length≤1000):=hid (by rw [partC_length hx hxy (by have:=ca.2.1;omega)];omega);have f0:=hF.cell 0 _ rfl;have f1:=hF.cell 1 _ rfl;have HW:=hid hW;have Hb0:=hid hb0;clear hW hb0 hF hb c0 ca hp haW ha hcell;go_enter Tryz.func201,Tryz.ntmps201
 go_upto_region 1 with fail
 rw [← HW.out];go_wp2_with fail
 with_reducible refine Hp.out.mono ?_
 rintro e w1 ⟨rfl,hb1⟩
 have htx:=l03Text_c Hpl.out (Rds.onn Ha.out hb1);have Htx:=hid htx;have Hb1:=hid (Hb0.out.trans (hb1.mono Hb0.out.size));clear hb1 htx f0 f1;obtain ⟨r,hr⟩:∃ r,r=txV (partC c x y):=⟨_,rfl⟩;obtain ⟨p,hp⟩:∃ p,p=okTx (partC c x y):=⟨_,rfl⟩;rw [← hr,← hp] at Htx;have Hr:=hid hr;have Hpp:=hid hp;clear hr hp;go_wp2_with fail
 with_reducible refine Htx.out.mono ?_
 rintro e w2 ⟨rfl,hb2⟩
 have Hb2:=hid (Hb1.out.trans (hb2.mono Hb1.out.size));clear hb2;go_wp2
 go_ret2
 exact ⟨by rw [← Hr.out,← Hpp.out];rfl,Hb2.out⟩
theorem rkC_at {k:Nat} (hk:k<40):rkC (chA k)=(k:Int):=by
 have h3:=chI_chA ⟨k,hk⟩;have h4:=ch_rk ⟨k,hk⟩;rw [rkC_ch h3];exact h4
theorem rkC_no {c:Int} (hc:0≤c∧c≤255) (h:∀ j,j<40→chA j ≠ c):rkC c=-1:=by
 unfold rkC;rw [if_neg];intro h1;obtain ⟨k,hk⟩:=ch_isN ⟨c.toNat,by omega⟩ (by rw [show ((c.toNat:Nat):Int)=c by omega];exact h1);exact h k.val k.isLt (by rw [← hk];show ((c.toNat:Nat):Int)=c;omega)
theorem l03Rank_c (c:Int) (w:World) (hc:0≤c∧c≤255):Calls Tryz.prog 223 #[.int .u8 c] w fun e w'=>e=.returned (.int .i64 (rkC c))∧w=w':=by
 obtain ⟨S,hS⟩:∃ S,S=charsB:=⟨_,rfl⟩;have hsz:S.size=40:=by rw [hS];decide +kernel
 have hix0:∀ (k:Nat),k<40→∀ w,(Instr.index 9 (.string S) (.int .i64 (k:Int))).run Tryz.prog w=.ok (.int .u8 (chA k)) w:=by intro k hk w;rw [hS];exact chars_run hk w
 have Hix:=hid hix0;have ho:=l03Order_c w;rw [← hS] at ho;have Ho:=hid ho;obtain ⟨r,hr⟩:∃ r,r=rkC c:=⟨_,rfl⟩;rw [← hr];have Hr:=hid hr;have Hc:=hid hc;clear ho hS hix0 hr hc;go_enter Tryz.func223,Tryz.ntmps223
 go_wp2_with fail
 with_reducible refine Ho.out.mono ?_
 rintro e w' ⟨rfl,rfl⟩
 go_wp2
 go_loop [4] (fun i=>∃ k:Nat,k≤40∧i=.int .i64 k∧Hid (∀ j,j<k→chA j ≠ c)) (fun i=>40 - (intOf i).toNat)
 case atStart=>exact ⟨0,by decide,rfl,fun j hj=>absurd hj (Nat.not_lt_zero _)⟩
 case round =>
  obtain ⟨k,hk,rfl,hp⟩:=hrel;by_cases hkn:k<40
  · have hix:=Hix.out k hkn
    have hki:(k:Int)<40:=by omega
    obtain ⟨c2,hc2⟩:∃ c2,c2=chA k:=⟨_,rfl⟩;rw [← hc2] at hix;have Hc2:=hid hc2;clear hc2;by_cases hq:c2=c
    · have HE:Hid (r=(k:Int)):=hid (by rw [Hr.out,← hq,Hc2.out];exact rkC_at hkn)
      have hq2:(c2 == c)=true:=by simpa using hq
      clear hq;go_wp2
      go_ret
      exact ⟨ret_int HE.out.symm,rfl⟩
    · have Hq:=hid hq
      have hq2:(c2 == c)=false:=beq_eq_false_iff_ne.2 hq;clear hq;go_wp2
      clear hix;go_round
      case rel=>exact ⟨k+1,by omega,by go_num,fun j hj=>by rcases Nat.lt_succ_iff_lt_or_eq.1 hj with hj | rfl;exact hp.out j hj;rw [← Hc2.out];exact Hq.out⟩
      case measure=>simp [intOf];omega
  · obtain rfl:k=40:=by omega
    have HE:Hid (r=-1):=hid (by rw [Hr.out];exact rkC_no Hc.out hp.out);go_wp2
    go_ret
    exact ⟨ret_int HE.out.symm,rfl⟩
theorem rkC_bd (c:Int):-1≤rkC c∧rkC c<40:=by
 unfold rkC;split
 · exact rk_lt _
 · omega
theorem rkS_at {s:ByteArray} {k:Nat} (h:k<s.size):(rkS s)[k]?=some (rkC (s[k].toNat:Int)):=by unfold rkS;rw [List.getElem?_map,bytesI_at s k h];rfl
theorem cmpN_at {x y:List Int} {i:Nat} {a b:Int} (hx:x[i]?=some a) (hy:y[i]?=some b):cmpN (x.drop i) (y.drop i)=if a<b then -1 else if b<a then 1 else cmpN (x.drop (i+1)) (y.drop (i+1)):=by
 obtain ⟨h1,e1⟩:=List.getElem?_eq_some_iff.1 hx;obtain ⟨h2,e2⟩:=List.getElem?_eq_some_iff.1 hy;rw [List.drop_eq_getElem_cons h1,List.drop_eq_getElem_cons h2,e1,e2,cmpN]
set_option maxHeartbeats 1000000 in
theorem l03Compare_c {s u:ByteArray} (w:World) (hl:s.size=u.size) (hs:s.size≤1000) :
 Calls Tryz.prog 203 #[.string s,.string u] w fun e w'=>e=.returned (.int .i64 (cmpN (rkS s) (rkS u)))∧w=w':=by
 obtain ⟨R,hR⟩:∃ R,cmpN (rkS s) (rkS u)=R:=⟨_,rfl⟩;rw [hR];have HR:=hid hR;have Hl:=hid hl;obtain ⟨n,hn⟩:∃ n,n=s.size:=⟨_,rfl⟩;have Hn:=hid hn;clear hl hR hn;go_enter Tryz.func203,Tryz.ntmps203
 go_wp2
 go_loop [5] (fun iv=>∃ i:Nat,i≤n∧iv=.int .i64 i∧Hid (R=cmpN ((rkS s).drop i) ((rkS u).drop i))) (fun i=>n - (intOf i).toNat)
 case atStart=>exact ⟨0,Nat.zero_le _,rfl,hid HR.out.symm⟩
 case round =>
  obtain ⟨i,hi,rfl,hp⟩:=hrel;by_cases hin:i<n
  · have h1:i<s.size:=by have:=Hn.out;omega
    have h2:i<u.size:=by have:=Hl.out;omega
    have hst:=cmpN_at (rkS_at h1) (rkS_at h2);have Hst:=hid (hp.out.trans hst);have c1:=rkC_bd (s[i].toNat:Int);have c2:=rkC_bd (u[i].toNat:Int);have b1:0≤(s[i].toNat:Int)∧(s[i].toNat:Int)≤255:=by have:=s[i].toNat_lt;omega
    have b2:0≤(u[i].toNat:Int)∧(u[i].toNat:Int)≤255:=by have:=u[i].toNat_lt;omega
    have Hc1:=hid (fun W=>l03Rank_c (s[i].toNat:Int) W b1);have Hc2:=hid (fun W=>l03Rank_c (u[i].toNat:Int) W b2);obtain ⟨rx,hrx⟩:∃ r,rkC (s[i].toNat:Int)=r:=⟨_,rfl⟩;obtain ⟨ry,hry⟩:∃ r,rkC (u[i].toNat:Int)=r:=⟨_,rfl⟩;rw [hrx] at Hc1 Hst c1;rw [hry] at Hc2 Hst c2;have i1:(i:Int)<(s.size:Int):=by omega
    have i2:(i:Int)<(u.size:Int):=by omega
    clear hst b1 b2 hrx hry hp;go_wp2_with fail
    with_reducible refine (Hc1.out _).mono ?_
    rintro e w1 ⟨rfl,rfl⟩
    go_wp2_with fail
    with_reducible refine (Hc2.out _).mono ?_
    rintro e w1 ⟨rfl,rfl⟩
    by_cases q1:rx<ry
    · have HE:Hid (R=-1):=hid (by have:=Hst.out;rw [if_pos q1] at this;exact this)
      go_wp2
      go_ret
      exact ⟨ret_int HE.out.symm,rfl⟩
    · by_cases q2:ry<rx
      · have HE:Hid (R=1):=hid (by have:=Hst.out;rw [if_neg q1,if_pos q2] at this;exact this)
        go_wp2
        go_ret
        exact ⟨ret_int HE.out.symm,rfl⟩
      · have HE:Hid (R=cmpN ((rkS s).drop (i+1)) ((rkS u).drop (i+1))):=hid (by have:=Hst.out;rw [if_neg q1,if_neg q2] at this;exact this)
        go_wp2
        go_round
        case rel=>exact ⟨i+1,by omega,by go_num,HE⟩
        case measure=>simp [intOf];omega
  · obtain rfl:i=n:=by omega
    have i1:¬ (i:Int)<(s.size:Int):=by have:=Hn.out;omega
    have e:=hp.out;rw [List.drop_of_length_le (by rw [rkS_len];have:=Hn.out;omega)] at e;have HE:Hid (R=0):=hid (by rw [e];rfl);clear e;go_wp2
    go_ret
    exact ⟨ret_int HE.out.symm,rfl⟩
set_option maxHeartbeats 1000000 in
theorem l15Width_c {o:OffT} {u v:Value} {w:World} {B P:Nat} (ho:RdOff B w u v o) (hP:Box w P [u,v]) :
 Calls Tryz.prog 42 #[.pointer (some ⟨P,0,none⟩)] w fun e w'=>e=.returned (.int .i64 (colO o.trays))∧w=w':=by
 have hle:=RdL.le ho.1;obtain ⟨uo,uc,rfl,hop⟩:=RdL.open rowK_D ho.1;have c0:=hP.cell 0 _ rfl;have Hop:=hid hop;obtain ⟨ts,hts⟩:∃ ts,ts=o.trays:=⟨_,rfl⟩;rw [← hts] at Hop c0 hle ⊢;obtain ⟨n,hn⟩:∃ n,n=ts.length:=⟨_,rfl⟩;rw [← hn] at Hop c0 hle;have Hn:=hid hn;obtain ⟨R,hR⟩:∃ R,R=colO ts:=⟨_,rfl⟩;rw [← hR];have HR:=hid hR;clear ho hP hop hn hR hts;go_enter Tryz.func42,Tryz.ntmps42
 go_wp2
 go_loopw [3] (fun iv wr=>∃ k:Nat,k≤n∧iv=.int .i64 k∧Hid (R=colO (ts.drop k))∧Hid (w=wr)) (fun i _=>n - (intOf i).toNat)
 case atStart=>exact ⟨0,Nat.zero_le _,rfl,hid (by rw [List.drop_zero];exact HR.out),hid rfl⟩
 case round =>
  obtain ⟨k,hk,rfl,HK,Hw⟩:=hrel;obtain rfl:=Hw.out;by_cases hkn:k<n
  · obtain ⟨b,off,rfl,hlt,hc⟩:=Hop.out (by omega)
    obtain ⟨d,ro,rc,hd,hcell,hrd⟩:=hc k hkn;have hK:=HK.out;rw [colO_at hd] at hK;by_cases h0:d.length=0
    · have HK2:Hid (R=colO (ts.drop (k+1))):=hid (by rw [hK,if_pos (List.eq_nil_of_length_eq_zero h0)])
      rw [h0] at hcell;clear hc hrd hK HK;go_wp2
      go_roundw
      case rel=>exact ⟨k+1,by omega,by go_num,HK2,hid trivial⟩
      case measure=>simp [intOf];omega
    · obtain ⟨ro',rc',hs,hop2⟩:=RdInt64SS.open hrd
      injection hs with e1 e2 e3;subst e1;subst e3;clear e2;obtain ⟨b2,off2,rfl,hlt2,hc2⟩:=hop2 (by omega);obtain ⟨x,xo,xc,hx,hxc,hxr⟩:=hc2 0 (by omega);have HE:Hid (R=(x.length:Int)):=hid (by rw [hK,if_neg (fun e=>h0 (by rw [e];rfl))];unfold colsD;rw [if_neg (fun e=>h0 (by rw [e];rfl)),head_of hx]);rw [Nat.add_zero] at hxc;obtain ⟨dl,hdl⟩:∃ q,q=d.length:=⟨_,rfl⟩;rw [← hdl] at hcell h0;have i1:0<dl:=by omega
      have i2:(0:Int)<(dl:Int):=by omega
      clear hc hrd hK HK hop2 hc2 hx hxr hdl;generalize x.length=xl at *;go_wp2
      go_ret
      exact ⟨ret_int HE.out.symm,rfl⟩
  · obtain rfl:k=n:=by omega
    have HE:Hid (R=20):=hid (by rw [HK.out,List.drop_of_length_le (by have:=Hn.out;omega)];rfl);clear HK;go_wp2
    go_ret
    exact ⟨ret_int HE.out.symm,rfl⟩
set_option maxHeartbeats 2000000 in
theorem l15Ok_c {o:OffT} {u v:Value} {w:World} {B P:Nat} (ho:RdOff B w u v o) (hP:Box w P [u,v]) :
 Calls Tryz.prog 38 #[.pointer (some ⟨P,0,none⟩)] w fun e w'=>e=.returned (.bool (offB o))∧Below w.heap.size w w':=by
 have hle:=RdL.le ho.1;obtain ⟨uo,uc,rfl⟩:=RdL.shape ho.1;obtain ⟨vo,vc,rfl⟩:=RdL.shape ho.2;obtain ⟨uo',uc',hs,hop⟩:=RdL.open rowK_D ho.1;injection hs with e1 e2 e3;subst e1;subst e3;clear e2;have c0:=hP.cell 0 _ rfl;have c1:=hP.cell 1 _ rfl;have Hop:=hid hop;have HP:=hid hP;have hoc:=fun (W:World) (hW:Below w.heap.size w W)=>l15Width_c (w:=W) (RdOff.onn ho hW) (hP.on hW);obtain ⟨C,hC⟩:∃ C,C=colO o.trays:=⟨_,rfl⟩;rw [← hC] at hoc;have Hoc:=hid hoc;obtain ⟨R,hR⟩:∃ R,R=offB o:=⟨_,rfl⟩;rw [← hR];have HR:Hid (R=(decide (o.trays.length=6) && decide (o.totals.length≤20) && o.trays.all (trayB C))):=hid (by rw [hR,offB_eq,hC]);obtain ⟨ts,hts⟩:∃ ts,ts=o.trays:=⟨_,rfl⟩;rw [← hts] at Hop HP c0 hle HR;obtain ⟨n,hn⟩:∃ n,n=ts.length:=⟨_,rfl⟩;rw [← hn] at Hop HP c0 hle HR;have Hn:=hid hn;obtain ⟨m,hm⟩:∃ m,m=o.totals.length:=⟨_,rfl⟩;rw [← hm] at HP c1 HR;clear ho hP hop hn hR hoc hC hm hts;go_enter Tryz.func38,Tryz.ntmps38
 go_wp2
 go_loopw [3] (fun iv wr=>∃ k:Nat,k≤n∧iv=.int .i64 k∧Hid ((ts.take k).all (trayB C)=true)∧Hid (Below w.heap.size w wr)) (fun i _=>n - (intOf i).toNat)
 case atStart=>exact ⟨0,Nat.zero_le _,rfl,hid rfl,hid (Below.refl _ _)⟩
 case round =>
  obtain ⟨k,hk,rfl,HK,Hb⟩:=hrel;have f0:=(HP.out.on Hb.out).cell 0 _ rfl;have f1:=(HP.out.on Hb.out).cell 1 _ rfl;by_cases hkn:k<n
  · obtain ⟨b,off,rfl,hlt,hc⟩:=Hop.out (by omega)
    obtain ⟨d,ro,rc,hd,hcell,hrd⟩:=hc k hkn;have d1:=(Hb.out.cell (p:=⟨b,off+k,none⟩) hlt.2).trans hcell;have k2:=cell_regrown d1;have hrw:=RdInt64SS.onn hrd Hb.out;have Hall:Hid (trayB C d=true→(ts.take (k+1)).all (trayB C)=true):=hid (fun h=>by rw [take_snoc hd,List.all_append,HK.out];simp [h]);have Hno:Hid (trayB C d=false→R=false):=hid (fun h=>by
     rw [HR.out,show ts.all (trayB C)=false from by
      rw [List.all_eq_false];exact ⟨d,List.mem_of_getElem? hd,by rw [h];decide⟩]
     simp)
    have hvd:=fun x os=>l02Deck_c (w:=grow (redrawn wr x) os) (RdInt64SS.below hrw (below_regrown wr x os) (Nat.le_refl _));obtain ⟨V,hV⟩:∃ V,V=deckB d:=⟨_,rfl⟩;rw [← hV] at hvd;have Hvd:=hid hvd;have HV:=hid hV;have k0:=cell_regrown f0;have Hocr:Hid (∀ x os,Calls Tryz.prog 42 #[.pointer (some ⟨P,0,none⟩)] (grow (redrawn wr x) os) fun e w'=>e=.returned (.int .i64 C)∧grow (redrawn wr x) os=w'):=hid (fun x os=>Hoc.out _ (Hb.out.trans ((below_regrown wr x os).mono Hb.out.size)));cases V with
    | false =>
     have HE:=hid (Hno.out (by unfold trayB;rw [← HV.out];rfl));clear hc hcell hrd hrw hvd hV hd;generalize d.length=dl at *;go_upto_region 4 with fail
     clear f0 f1;refine wp_region_quiet_below (by kernel_rfl) (by kernel_rfl) ?_
     repeat ((with_reducible refine wpQuiet_step (fun K hK=>?_));go_simp;first | ((with_reducible refine hK _ ?_);clear hK K) | ((with_reducible rw [if_neg]);rotate_left;(intro hgd;cases hgd);(with_reducible refine hK _ ?_);clear hK K) | (apply Exists.intro;refine ⟨fun _=>?_,hK _ ?_⟩;((first | (go_at_call 79;with_reducible exact qb_N (Hvd.out _ _))));clear hK K))
     refine wpQuiet_nil ?_
     intro _ hw';obtain ⟨⟨dq,osq⟩,hw''⟩:=hw';subst hw'';have hbq:=below_regrown wr dq osq;generalize grow (redrawn wr dq) osq=wq at hbq ⊢;have Hb2:=hid (Hb.out.trans (hbq.mono Hb.out.size));clear hbq k0 k2 d1;go_wp2
     go_ret
     exact ⟨ret_bool HE.out.symm,Hb2.out⟩
    | true =>
     by_cases h0:d.length=0
     · have HA2:=hid (Hall.out (by unfold trayB;rw [← HV.out,decide_eq_true (List.eq_nil_of_length_eq_zero h0)];rfl))
       rw [h0] at d1 k2 Hvd;have i2:¬ (0:Int)<((0:Nat):Int):=by omega
       clear hc hcell hrd hrw hvd hV hd;go_upto_region 4 with fail
       clear f0 f1;refine wp_region_quiet_below (by kernel_rfl) (by kernel_rfl) ?_
       repeat ((with_reducible refine wpQuiet_step (fun K hK=>?_));go_simp;first | ((with_reducible refine hK _ ?_);clear hK K) | ((with_reducible rw [if_neg]);rotate_left;(intro hgd;cases hgd);(with_reducible refine hK _ ?_);clear hK K) | (apply Exists.intro;refine ⟨fun _=>?_,hK _ ?_⟩;((first | (go_at_call 79;with_reducible exact qb_N (Hvd.out _ _))));clear hK K))
       refine wpQuiet_nil ?_
       intro _ hw';obtain ⟨⟨dq,osq⟩,hw''⟩:=hw';subst hw'';have hbq:=below_regrown wr dq osq;generalize grow (redrawn wr dq) osq=wq at hbq ⊢;have Hb2:=hid (Hb.out.trans (hbq.mono Hb.out.size));clear hbq k0 k2 d1;go_wp2
       go_roundw
       case rel=>exact ⟨k+1,by omega,by go_num,HA2,Hb2⟩
       case measure=>simp [intOf];omega
     · obtain ⟨ro',rc',hs,hop2⟩:=RdInt64SS.open hrw
       injection hs with e1 e2 e3;subst e1;subst e3;clear e2;obtain ⟨b2,off2,rfl,hlt2,hc2⟩:=hop2 (by omega);obtain ⟨x,xo,xc,hx,hxc,hxr⟩:=hc2 0 (by omega);have hxl:=hxr.le;rw [Nat.add_zero] at hxc;have k3:=cell_regrown hxc;have hcd:colsD d=(x.length:Int):=by unfold colsD;rw [if_neg (fun e=>h0 (by rw [e];rfl)),head_of hx]
       have htb:trayB C d=decide ((x.length:Int)=C):=by
        unfold trayB;rw [← HV.out,hcd,decide_eq_false (show ¬ d=[] from fun e=>h0 (by rw [e];rfl))];simp
       have Htb:=hid htb;obtain ⟨dl,hdl⟩:∃ q,q=d.length:=⟨_,rfl⟩;rw [← hdl] at d1 k2 h0 Hvd;have i1:0<dl:=by omega
       have i2:(0:Int)<(dl:Int):=by omega
       clear hc hcell hrd hrw hvd hV hd hop2 hc2 hx hxr hcd htb hdl hxc;generalize x.length=xl at *;by_cases hxC:(xl:Int)=C
       · have HA2:=hid (Hall.out (by rw [Htb.out];exact decide_eq_true hxC))
         have hx2:((xl:Int) != C)=false:=by simp [hxC]
         have HxC:=hid hxC;clear hxC;go_upto_region 4 with fail
         clear f0 f1;refine wp_region_quiet_below (by kernel_rfl) (by kernel_rfl) ?_
         repeat ((with_reducible refine wpQuiet_step (fun K hK=>?_));go_simp;first | ((with_reducible refine hK _ ?_);clear hK K) | ((with_reducible rw [if_neg]);rotate_left;(intro hgd;cases hgd);(with_reducible refine hK _ ?_);clear hK K) | (apply Exists.intro;refine ⟨fun _=>?_,hK _ ?_⟩;((first | (go_at_call 79;with_reducible exact qb_N (Hvd.out _ _)) | (go_at_call 42;with_reducible exact qb_same (Hocr.out _ _))));clear hK K))
         refine wpQuiet_nil ?_
         intro _ hw';obtain ⟨⟨dq,osq⟩,hw''⟩:=hw';subst hw'';have hbq:=below_regrown wr dq osq;generalize grow (redrawn wr dq) osq=wq at hbq ⊢;have Hb2:=hid (Hb.out.trans (hbq.mono Hb.out.size));clear hbq k0 k2 d1 k3 hx2;go_wp2
         go_roundw
         case rel=>exact ⟨k+1,by omega,by go_num,HA2,Hb2⟩
         case measure=>simp [intOf];omega
       · have HE:=hid (Hno.out (by rw [Htb.out];exact decide_eq_false hxC))
         have hx2:((xl:Int) != C)=true:=by simpa using hxC
         clear hxC;go_upto_region 4 with fail
         clear f0 f1;refine wp_region_quiet_below (by kernel_rfl) (by kernel_rfl) ?_
         repeat ((with_reducible refine wpQuiet_step (fun K hK=>?_));go_simp;first | ((with_reducible refine hK _ ?_);clear hK K) | ((with_reducible rw [if_neg]);rotate_left;(intro hgd;cases hgd);(with_reducible refine hK _ ?_);clear hK K) | (apply Exists.intro;refine ⟨fun _=>?_,hK _ ?_⟩;((first | (go_at_call 79;with_reducible exact qb_N (Hvd.out _ _)) | (go_at_call 42;with_reducible exact qb_same (Hocr.out _ _))));clear hK K))
         refine wpQuiet_nil ?_
         intro _ hw';obtain ⟨⟨dq,osq⟩,hw''⟩:=hw';subst hw'';have hbq:=below_regrown wr dq osq;generalize grow (redrawn wr dq) osq=wq at hbq ⊢;have Hb2:=hid (Hb.out.trans (hbq.mono Hb.out.size));clear hbq k0 k2 d1 k3 hx2;go_wp2
         go_ret
         exact ⟨ret_bool HE.out.symm,Hb2.out⟩
  · obtain rfl:k=n:=by omega
    have HE:Hid (R=(decide (k=6) && decide (m≤20))):=hid (by rw [HR.out,show ts.all (trayB C)=true from by rw [← HK.out,List.take_of_length_le (by have:=Hn.out;omega)]];simp);clear HK HR c0 c1;by_cases h6:k=6
    · subst h6
      by_cases h20:m≤20
      · have i3:(m:Int)≤20:=by omega
        have HE2:Hid (R=true):=hid (by rw [HE.out];simp [h20]);go_wp2
        go_ret
        exact ⟨ret_bool HE2.out.symm,Hb.out⟩
      · have i3:¬ (m:Int)≤20:=by omega
        have HE2:Hid (R=false):=hid (by rw [HE.out];simp [h20]);go_wp2
        go_ret
        exact ⟨ret_bool HE2.out.symm,Hb.out⟩
    · have i3:((k:Int) == 6)=false:=beq_eq_false_iff_ne.2 (by omega)
      have HE2:Hid (R=false):=hid (by rw [HE.out];simp [h6]);go_wp2
      go_ret
      exact ⟨ret_bool HE2.out.symm,Hb.out⟩
theorem eT_ok {s:ByteArray} (h:s.size≤1000):eT.ok s:=by show s.size≤9223372036854775807;omega
set_option maxHeartbeats 2000000 in
theorem l07Keys_c {d:List (List Int)} {v:Value} {w:World} {A:Nat} {f t:Int} (hd:RdInt64SS A w v d) :
 Calls Tryz.prog 161 #[v,.agg #[.int .i64 f,.int .i64 t]] w fun e w'=>(∃ r,e=.returned (.tuple #[r,.int .i64 (sortC d f t)])∧(sortC d f t=0→Own eT 9 w.heap.size w' r (keyT d f t)))∧Below w.heap.size w w':=by
 obtain ⟨i0,hi,hz0,hz1,hz2⟩:=info_parts Tryz.infoString;obtain ⟨vo,vc,rfl⟩:=hd.shape;obtain ⟨T,hT⟩:∃ T,T=w.alloc (.cells #[.int .i64 f,.int .i64 t] 73):=⟨_,rfl⟩;have hbT:Below w.heap.size w T:=by rw [hT];exact (Below.refl _ _).alloc (Nat.le_refl _) _
 have hBT:Box T w.heap.size [.int .i64 f,.int .i64 t]:=by rw [hT];exact Box.new w [.int .i64 f,.int .i64 t] _
 have hdT:=RdInt64SS.onn hd hbT;have hdk:=l02Deck_c hdT;obtain ⟨R,hR⟩:∃ R,R=sortC d f t:=⟨_,rfl⟩;rw [← hR];have HR:=hid hR;have HT:=hid hT;have HbT:=hid hbT;have HBT:=hid hBT;have HdT:=hid hdT;obtain ⟨V,hV⟩:∃ V,V=deckB d:=⟨_,rfl⟩;rw [← hV] at hdk;have HV:=hid hV;have Hdk:=hid hdk;obtain ⟨n,hn⟩:∃ n,n=d.length:=⟨_,rfl⟩;rw [← hn] at HdT Hdk ⊢;have Hn:=hid hn;clear hT hbT hBT hd hdT hdk hV hR hn;go_enter Tryz.func161,Tryz.ntmps161
 go_upto_region 1 with fail
 rw [← HT.out];go_wp2_with fail
 with_reducible refine Hdk.out.mono ?_
 rintro e w1 ⟨rfl,m1,hm1⟩
 have hb1:Below T.heap.size T w1:=by rw [hm1];exact (Below.refl _ _).drewNy m1
 have hQ1:=HBT.out.on hb1;have hd1:=RdInt64SS.onn HdT.out hb1;have Hb1:=hid (HbT.out.trans (hb1.mono HbT.out.size));have HQ1:=hid hQ1;have Hd1:=hid hd1;clear hb1 hm1;cases V with
 | false =>
  have HE:Hid (R=1):=hid (by rw [HR.out];unfold sortC;rw [if_pos HV.out.symm]);clear hQ1 hd1;go_wp2
  go_ret2
  exact ⟨⟨.slice none 0 0,by rw [HE.out];rfl,fun h=>by rw [HE.out] at h;exact absurd h (by decide)⟩,Hb1.out⟩
 | true =>
  have hp:=deckB_parts HV.out.symm;obtain ⟨C,hC⟩:∃ C,C=colsD d:=⟨_,rfl⟩;have hCb:=colsD_bd HV.out.symm;rw [← hC] at hCb;have HC:=hid hC;have f1:=cell_regrown (hQ1.cell 0 _ rfl);have f2:=cell_regrown (hQ1.cell 1 _ rfl);have hw:=fun y os=>l07Width_c (w:=grow (redrawn w1 y) os) (RdInt64SS.below hd1 (below_regrown w1 y os) (Nat.le_refl _));rw [← hC] at hw;have hcf:=fun w=>l02Field_c f t C w (by omega);obtain ⟨F,hF⟩:∃ F,F=decide (fieldP f t C):=⟨_,rfl⟩;rw [← hF] at hcf;have HF:=hid hF;have Hw:=hid hw;have Hcf:=hid hcf;have HR1:Hid (R=if F=false then 2 else if hasD d f t=false then 8 else 0):=hid (by
   rw [HR.out];unfold sortC;rw [if_neg (by rw [← HV.out];decide),← HC.out];by_cases h:fieldP f t C
   · rw [if_neg (fun e=>e h),show F=true by rw [HF.out];exact decide_eq_true h];rfl
   · rw [if_pos h,show F=false by rw [HF.out];exact decide_eq_false h];rfl)
  have Hlen:Hid (n≤40):=hid (by rw [Hn.out];exact hp.1);have Hcl:=hid (fun (c:List Int) (hc:c∈d)=>card_len (hp.2 c hc).1);clear hw hcf hC hF hQ1 hd1 hp;go_wp2
  refine wp_region_quiet_below (by kernel_rfl) (by kernel_rfl) ?_
  repeat ((with_reducible refine wpQuiet_step (fun K hK=>?_));go_simp;first | ((with_reducible refine hK _ ?_);clear hK K) | (apply Exists.intro;refine ⟨fun _=>?_,hK _ ?_⟩;((first | (go_at_call 160;with_reducible exact qb_same (Hw.out _ _)) | (go_at_call 82;with_reducible exact qb_below (Hcf.out _))));clear hK K))
  refine wpQuiet_nil ?_
  intro _ hw';obtain ⟨⟨dq,osq⟩,hw''⟩:=hw';subst hw'';have hbq:=below_regrown w1 dq osq;generalize grow (redrawn w1 dq) osq=wq at hbq ⊢;obtain ⟨w2,hw2⟩:∃ x,x=wq:=⟨_,rfl⟩;subst hw2;have HQ2:=hid (HQ1.out.on hbq);have hd2:=RdInt64SS.onn Hd1.out hbq;have Hb2:=hid (Hb1.out.trans (hbq.mono Hb1.out.size));clear hbq f1 f2;cases F with
  | false =>
   have HE:Hid (R=2):=hid (by rw [HR1.out,if_pos rfl]);clear hd2;go_wp2
   go_ret2
   exact ⟨⟨.slice none 0 0,by rw [HE.out];rfl,fun h=>by rw [HE.out] at h;exact absurd h (by decide)⟩,Hb2.out⟩
  | true =>
   have HCo:=hid (cols_ok HV.out.symm (by rw [← HC.out];exact of_decide_eq_true HF.out.symm));obtain ⟨vo',vc',hvs,ho⟩:=hd2.open;injection hvs with q1 q2 q3;subst q1;subst q3;clear q2;rw [← Hn.out] at ho;have Ho:=hid ho;have hO0:Own eT 9 w2.heap.size (w2.alloc (.cells #[] 9)) (.slice (some ⟨w2.heap.size,0,none⟩) 0 0) ((keyT d f t).take 0):=Own.lit (E:=eT) (xs:=[]) (cs:=#[]) (Nat.le_refl _) rfl rfl (by decide) (fun x hx=>by cases hx);have HO0:=hid hO0;have hba:Below w2.heap.size w2 (w2.alloc (.cells #[] 9)):=(Below.refl _ _).alloc (Nat.le_refl _) _;have HBA:=hid hba;have hn40:n≤40:=Hlen.out;clear hd2 ho hO0 hba;simp only [Bool.not_true]
   go_wp2
   go_loopw [6,7] (fun ov iv wr=>∃ (k:Nat) (oo:Option Addr) (oc:Nat),k≤n∧iv=.int .i64 k∧ov=.slice oo k oc∧Hid (Own eT 9 w2.heap.size wr (.slice oo k oc) ((keyT d f t).take k))∧Hid ((d.take k).any (notF f t)=false)∧Hid (Below w2.heap.size w2 wr)) (fun _ i _=>n - (intOf i).toNat)
   case atStart=>exact ⟨0,_,_,Nat.zero_le _,rfl,rfl,HO0,hid rfl,HBA⟩
   case round =>
    obtain ⟨k,oo,oc,hk,rfl,rfl,HO,HA,HB⟩:=hrel;clear HO0 HBA;by_cases hkn:k<n
    · obtain ⟨b,off,rfl,hlt,hc⟩:=Ho.out (by omega)
      obtain ⟨x,ro,rc,hx,hcell,hrd⟩:=hc k hkn;have hm:=List.mem_of_getElem? hx;have hcx:=HCo.out.2 x hm;have hc0:=HCo.out.1;have hxl:=Hcl.out x hm;have d1:=(HB.out.cell (p:=⟨b,off+k,none⟩) hlt.2).trans hcell;have hrw:=Rds.onn hrd HB.out;obtain ⟨ro',rc',hvs,hin⟩:=RdI.open hrw;injection hvs with q1 q2 q3;subst q1;subst q3;clear q2;obtain ⟨cb,co,rfl,_⟩:=hin (by omega);have hQr:=HQ2.out.on HB.out;have f1:=cell_regrown (hQr.cell 0 _ rfl);have f2:=cell_regrown (hQr.cell 1 _ rfl);have f3:=cell_regrown d1;have hkey:=fun y os=>l03Key_c (w:=grow (redrawn wr y) os) f t hc0.1 hc0.2 hcx (by omega) ((((below_regrown wr y os).cell (p:=⟨b,off+k,none⟩) (World.block_lt_of_cell? _ _ d1))).trans d1) (Rds.regrown hrw (Nat.le_refl _) y os);obtain ⟨sx,hsx⟩:∃ s,s=txV (partC x f t):=⟨_,rfl⟩;obtain ⟨px,hpx⟩:∃ p,p=okTx (partC x f t):=⟨_,rfl⟩;rw [← hsx,← hpx] at hkey;have Hkey:=hid hkey;have Hpx:=hid hpx;have Hsx:Hid (px=true→sx=toB (txI (partC x f t))∧sx.size≤1000):=hid (fun h=>by
       have e:sx=toB (txI (partC x f t)):=by rw [hsx];unfold txV;rw [if_pos (by rw [← hpx];exact h)]
       refine ⟨e,?_⟩
       rw [e,toB_size];unfold txI;rw [List.length_map,partC_length hc0.1 hc0.2 hcx];omega)
      have Hno:Hid (notF f t x=!px):=hid (by rw [hpx];rfl);have Hx:=hid hx;have Htk:Hid ((keyT d f t).take (k+1)=(keyT d f t).take k++[toB (txI (partC x f t))]):=hid (take_snoc (keyT_at hx));have Hll:Hid (((keyT d f t).take k).length=k):=hid (by rw [List.length_take,keyT_len];have:=Hn.out;omega);have hkI:(k:Int)<(n:Int):=by omega
      obtain ⟨Tk,hTk⟩:∃ Tk,Tk=(keyT d f t).take k:=⟨_,rfl⟩;rw [← hTk] at HO Htk Hll;clear hTk;clear hc hx hcell hrd hm hcx hc0 hxl hrw hin hQr d1 hkey hsx hpx;generalize x.length=xl at *;go_upto_region 9 with fail
      refine wp_region_quiet_below (by kernel_rfl) (by kernel_rfl) ?_
      repeat ((with_reducible refine wpQuiet_step (fun K hK=>?_));go_simp;first | ((with_reducible refine hK _ ?_);clear hK K) | (apply Exists.intro;refine ⟨fun _=>?_,hK _ ?_⟩;((first | (go_at_call 201;with_reducible exact qb_below (Hkey.out _ _))));clear hK K))
      refine wpQuiet_nil ?_
      intro _ hw';obtain ⟨⟨dq,osq⟩,hw''⟩:=hw';subst hw'';have hbq:=below_regrown wr dq osq;generalize grow (redrawn wr dq) osq=wq at hbq ⊢;have HOq:=hid (HO.out.below hbq (Nat.le_refl _));have HBq:=hid (HB.out.trans (hbq.mono HB.out.size));clear hbq f1 f2 f3 HO HB;cases px with
      | false =>
       have HE:Hid (R=8):=hid (by
        rw [HR1.out,if_neg (by decide),if_pos];unfold hasD;rw [any_yes Hx.out (by rw [Hno.out];rfl)];rfl)
       have Hbz:=hid (Hb2.out.trans (HBq.out.mono Hb2.out.size));go_wp2
       go_ret2
       exact ⟨⟨.slice none 0 0,by rw [HE.out];rfl,fun h=>by rw [HE.out] at h;exact absurd h (by decide)⟩,Hbz.out⟩
      | true =>
       have HA2:=hid (any_snoc Hx.out HA.out (p:=notF f t) (by rw [Hno.out];rfl));have hs9:=Hsx.out rfl;have Hsok:Hid (eT.ok sx):=hid (eT_ok hs9.2);have Hsx2:=hid hs9.1;have hszr:w2.heap.size≤wq.heap.size:=HBq.out.size;clear hs9;go_wp2_with (first | (at_builtin;refine wpList_appS (E:=eT) rfl _ _ 166 rfl Tryz.underlying166 hi hz0 hz1 hz2 rfl (by decide) rfl rfl (HOq.out.alloc _) (rds_one (E:=eT) (x:=sx) Hsok.out rfl) ?b1 ?b2 ?b3 ?_))
       case b1=>have:=Hll.out;have:=Hlen.out;unfold maxLen;simp;omega
       case b2=>have:=Hll.out;have:=Hlen.out;simp;omega
       case b3=>first | (simp;omega) | omega
       intro v3 w3 hO3 hg3;rw [Hsx2.out,← Htk.out] at hO3;obtain ⟨ao3,cap3,hv3⟩:=hO3.shape;rw [show ((keyT d f t).take (k+1)).length=k+1 by rw [Htk.out,List.length_append,Hll.out];rfl] at hv3;subst hv3;have HO3:=hid hO3;have HB3:=hid (HBq.out.grown hg3.alloc.1 HBq.out.size (fun q hq=>(HOq.out.lt q hq).1));clear hO3 hg3;go_wp2
       go_roundw
       case rel=>exact ⟨k+1,_,_,by omega,by go_num,rfl,HO3,HA2,HB3⟩
       case measure=>simp [intOf];omega
    · obtain rfl:k=n:=by omega
      have hany:=any_full Hn.out HA.out;have HE:Hid (R=0):=hid (by rw [HR1.out,if_neg (by decide),if_neg (by unfold hasD;rw [hany];decide)]);have hOf:=HO.out.mono (base':=w.heap.size) Hb2.out.size;rw [List.take_of_length_le (by rw [keyT_len];have:=Hn.out;omega)] at hOf;have HOf:=hid hOf;have Hbz:=hid (Hb2.out.trans (HB.out.mono Hb2.out.size));clear hOf hany;go_wp2
      go_ret2
      exact ⟨⟨_,by rw [HE.out];rfl,fun _=>HOf.out⟩,Hbz.out⟩
theorem toList_ne {a b:ByteArray} (h:¬ a=b):(a.toList == b.toList)=false:=by
 refine beq_eq_false_iff_ne.2 (fun e=>h ?_)
 rw [ByteArray.toList_eq,ByteArray.toList_eq] at e;cases a;cases b
 congr 1
 exact Array.toList_inj.1 e
theorem toList_yes {a b:ByteArray} (h:a=b):(a.toList == b.toList)=true:=by rw [h];simp
theorem key_at {d:List (List Int)} {f t:Int} {k:Nat} (hC:ColsOk d f t) (hr:RowsOk d) (hh:hasD d f t=true) (hk:k<d.length) :
 ∃ s,(keyT d f t)[k]?=some s∧rkS s=rks (keyC d f t k)∧chS s=true∧s.size=t.toNat - f.toNat∧s.size≤1000:=by
 have e:d[k]?=some (d[k]'hk):=List.getElem?_eq_getElem hk;have hm:=List.mem_of_getElem? e;have ho:=hasD_at hh hm;have hl:=hC.2 _ hm;have hl2:=hr.2 _ hm;have hs:(toB (txI (partC (d[k]'hk) f t))).size=t.toNat - f.toNat:=by
  rw [toB_size];unfold txI;rw [List.length_map,partC_length hC.1.1 hC.1.2 hl]
 refine ⟨_,keyT_at e,?_,chS_txt ho,hs,by rw [hs];have:=hC.1;omega⟩
 unfold keyC;rw [List.getD_eq_getElem?_getD,e];exact rkS_txt ho
theorem RdT.at {w:World} {B:Nat} {v:Value} {K:List ByteArray} (h:Rds eT B w v K):∃ ao cap,v=.slice ao K.length cap ∧
 (0<K.length→∃ b off,ao=some ⟨b,off,none⟩∧(b<B∧b<w.heap.size)∧∀ (k:Nat) (s:ByteArray),K[k]?=some s→w.cell? ⟨b,off+k,none⟩=some (.string s)):=by
 obtain ⟨ao,cap,hv,hc⟩:=RdT.open h;refine ⟨ao,cap,hv,fun h0=>?_⟩
 obtain ⟨b,off,e,hlt,h2⟩:=hc h0;refine ⟨b,off,e,hlt,fun k s hs=>?_⟩
 obtain ⟨x,hx,hcell,-⟩:=h2 k (at_lt hs);rw [hs] at hx;cases hx
 exact hcell
set_option maxHeartbeats 1000000 in
theorem l07Step_c {d:List (List Int)} {v:Value} {w:World} {A:Nat} {f t:Int} (hk:Rds eT A w v (keyT d f t)) (hC:ColsOk d f t) (hr:RowsOk d) (hh:hasD d f t=true) :
 Calls Tryz.prog 167 #[v] w fun e w'=>(∃ R:Int,e=.returned (.int .i64 R)∧-1≤R∧(0≤R ↔ ascB d f t=false))∧Below w.heap.size w w':=by
 obtain ⟨ao,cap,rfl,ho⟩:=RdT.at hk;rw [keyT_len] at ho ⊢;have hl:=hr.1;obtain ⟨n,hn⟩:∃ n,n=d.length:=⟨_,rfl⟩;have hka:=fun (k:Nat) (hk:k<d.length)=>key_at hC hr hh hk;rw [← hn] at ho hl hka ⊢;have Ho:=hid ho;have Hn:=hid hn;have Hka:=hid hka;clear hk hC hr hh ho hn hka;go_enter Tryz.func167,Tryz.ntmps167
 go_wp2
 go_loopw [3] (fun iv wr=>∃ k:Nat,(k+1≤n∨k=0)∧iv=.int .i64 ((k:Int)+1)∧Hid (∀ m:Nat,m<k+1→stpP d f t (m:Int)=false)∧Hid (Below w.heap.size w wr)) (fun i _=>n+1 - (intOf i).toNat)
 case atStart=>exact ⟨0,.inr rfl,rfl,hid (fun m hm=>by rw [show m=0 by omega];exact stp_zero d f t),hid (Below.refl _ _)⟩
 case round =>
  obtain ⟨k,hk,rfl,HA,HB⟩:=hrel;by_cases hkn:k+1<n
  · obtain ⟨b,off,rfl,hlt,hc⟩:=Ho.out (by omega)
    obtain ⟨s1,e1,r1,-,z1,y1⟩:=Hka.out (k+1) hkn;obtain ⟨s0,e0,r0,-,z0,y0⟩:=Hka.out k (by omega);have d1:=cell_regrown ((HB.out.cell (p:=⟨b,off+(k+1),none⟩) hlt.2).trans (hc (k+1) s1 e1));have d0:=cell_regrown ((HB.out.cell (p:=⟨b,off+k,none⟩) hlt.2).trans (hc k s0 e0));have hcmp:=fun w=>l03Compare_c (s:=s1) (u:=s0) w (by rw [z1,z0]) y1;rw [r1,r0] at hcmp;obtain ⟨R,hR⟩:∃ R,R=cmpK d f t (k+1) k:=⟨_,rfl⟩;have hcmp:∀ w,Calls Tryz.prog 203 #[.string s1,.string s0] w fun e w'=>e=.returned (.int .i64 R)∧w=w':=by rw [hR];exact hcmp
    have HR:=hid hR;have Hcmp:=hid hcmp;have hs1:IntKind.i64.wrap ((k:Int)+1 - 1)=(k:Int):=by rw [show (k:Int)+1 - 1=(k:Int) by omega];exact IntWalk.i64_in _ (by omega)
    have hs2:IntKind.i64.wrap (k:Int)=(k:Int):=IntWalk.i64_in _ (by omega);have i0:0≤(k:Int)+1:=by omega
    have i1:(k:Int)+1<(n:Int):=by omega
    have i2:(k:Int)<(n:Int):=by omega
    clear hc e1 r1 z1 y1 e0 r0 z0 y0 hcmp hR;go_upto_region 4 with fail
    refine wp_region_quiet_below (by kernel_rfl) (by kernel_rfl) ?_
    repeat ((with_reducible refine wpQuiet_step (fun K hK=>?_));go_simp;first | ((with_reducible refine hK _ ?_);clear hK K) | (apply Exists.intro;refine ⟨fun _=>?_,hK _ ?_⟩;((first | (go_at_call 203;with_reducible exact qb_same (Hcmp.out _))));clear hK K))
    refine wpQuiet_nil ?_
    intro _ hw';obtain ⟨⟨dq,osq⟩,hw''⟩:=hw';subst hw'';have hbq:=below_regrown wr dq osq;generalize grow (redrawn wr dq) osq=wq at hbq ⊢;have HBq:=hid (HB.out.trans (hbq.mono HB.out.size));clear hbq d1 d0 hs1 hs2;by_cases h0:R<0
    · have HE:Hid (ascB d f t=false):=hid (by
       unfold ascB;refine decide_eq_false (fun h=>?_)
       have h9:=(selI_nil _ _).1 h (k+1) (by have:=Hn.out;omega);rw [stp_succ,← HR.out,decide_eq_true h0] at h9;cases h9)
      go_wp2
      go_ret
      exact ⟨⟨_,rfl,by omega,fun _=>HE.out,fun _=>by omega⟩,HBq.out⟩
    · have HA2:Hid (∀ m:Nat,m<k+1+1→stpP d f t (m:Int)=false):=hid (fun m hm=>by
       rcases Nat.lt_or_ge m (k+1) with h | h
       · exact HA.out m h
       · rw [show m=k+1 by omega,stp_succ,← HR.out];exact decide_eq_false h0)
      go_wp2
      go_roundw
      case rel=>exact ⟨k+1,.inl (by omega),by go_num,HA2,HBq⟩
      case measure=>simp [intOf];omega
  · have i1:¬ (k:Int)+1<(n:Int):=by omega
    have HE:Hid (ascB d f t=true):=hid (by
     unfold ascB;exact decide_eq_true ((selI_nil _ _).2 (fun m hm=>HA.out m (by have:=Hn.out;omega))))
    go_wp2
    go_ret
    exact ⟨⟨_,rfl,by omega,fun h=>by omega,fun h=>by rw [HE.out] at h;cases h⟩,HB.out⟩
set_option maxHeartbeats 1000000 in
theorem l09Groups_c {d:List (List Int)} {v:Value} {w:World} {A:Nat} {f t:Int} (hk:Rds eT A w v (keyT d f t)) (hC:ColsOk d f t) (hr:RowsOk d) (hh:hasD d f t=true) :
 Calls Tryz.prog 164 #[v] w fun e w'=>(∃ r,e=.returned r∧OwnInt64S w.heap.size w' r (selI (grpP d f t) d.length))∧Below w.heap.size w w':=by
 obtain ⟨i0,hi,hz0,hz1,hz2⟩:=info_parts Tryz.infoInt64;obtain ⟨ao,cap,rfl,ho⟩:=RdT.at hk.tight;rw [keyT_len] at ho ⊢;have hl:=hr.1;obtain ⟨n,hn⟩:∃ n,n=d.length:=⟨_,rfl⟩;have hka:=fun (k:Nat) (hk:k<d.length)=>key_at hC hr hh hk;have hO0:OwnInt64S w.heap.size (w.alloc (.cells #[] 2)) (.slice (some ⟨w.heap.size,0,none⟩) 0 0) (selI (grpP d f t) 0):=Own.lit (E:=eI) (xs:=[]) (cs:=#[]) (Nat.le_refl _) rfl rfl (by decide) (fun x hx=>by cases hx);have hB0:Below w.heap.size w (w.alloc (.cells #[] 2)):=(Below.refl _ _).alloc (Nat.le_refl _) _;rw [← hn] at ho hl hka ⊢;have Ho:=hid ho;have Hn:=hid hn;have Hka:=hid hka;have HO0:=hid hO0;have HB0:=hid hB0;clear hk hC hr hh ho hn hka hO0 hB0;go_enter Tryz.func164,Tryz.ntmps164
 go_wp2
 go_loopw [3,4] (fun ov iv wr=>∃ (k:Nat) (ro:Option Addr) (rc:Nat),k≤n∧iv=.int .i64 k∧ov=.slice ro (selI (grpP d f t) k).length rc∧Hid (OwnInt64S w.heap.size wr (.slice ro (selI (grpP d f t) k).length rc) (selI (grpP d f t) k))∧Hid (Below w.heap.size w wr)) (fun _ i _=>n - (intOf i).toNat)
 case atStart=>exact ⟨0,_,_,Nat.zero_le _,rfl,rfl,HO0,HB0⟩
 case round =>
  obtain ⟨k,ro,rc,hk,rfl,rfl,HO,HB⟩:=hrel;clear HO0 HB0;by_cases hkn:k<n
  · have Hzl:Hid ((selI (grpP d f t) k).length≤k):=hid (selI_len _ _)
    obtain ⟨L,hL⟩:∃ L,L=selI (grpP d f t) k:=⟨_,rfl⟩;obtain ⟨b,off,rfl,hlt,hc⟩:=Ho.out (by omega);have hokk:eI.ok (k:Int):=by show -9223372036854775808≤(k:Int)∧(k:Int)≤9223372036854775807;omega
    by_cases hk0:k=0
    · have HS:Hid (L++[(0:Int)]=selI (grpP d f t) (k+1)):=hid (by rw [selI_succ,← hL,hk0,grp_zero];rfl)
      rw [← hL] at HO Hzl ⊢;have hok0:eI.ok (0:Int):=by show -9223372036854775808≤(0:Int)∧(0:Int)≤9223372036854775807;omega
      clear hL hc hokk;subst hk0;go_upto_region 5 with fail
      refine wp_region_quiet_below (by kernel_rfl) (by kernel_rfl) ?_
      repeat ((with_reducible refine wpQuiet_step (fun K hK=>?_));go_simp;first | ((with_reducible refine hK _ ?_);clear hK K) | ((with_reducible rw [if_neg]);rotate_left;(intro hgd;cases hgd);(with_reducible refine hK _ ?_);clear hK K) | (apply Exists.intro;refine ⟨fun _=>?_,hK _ ?_⟩;((fail));clear hK K))
      refine wpQuiet_nil ?_
      intro _ hw';obtain ⟨⟨dq,osq⟩,hw''⟩:=hw';subst hw'';have hbq:=below_regrown wr dq osq;generalize grow (redrawn wr dq) osq=wq at hbq ⊢;have HOq:=hid (HO.out.below hbq (Nat.le_refl _));have HBq:=hid (HB.out.trans (hbq.mono HB.out.size));clear hbq;go_wp2_with (first | (at_builtin;refine wpList_appS (E:=eI) rfl _ _ 29 rfl Tryz.underlying29 hi hz0 hz1 hz2 rfl (by decide) rfl rfl (HOq.out.alloc _) (rds_one (E:=eI) (x:=(0:Int)) hok0 rfl) ?b1 ?b2 ?b3 ?_))
      case b1=>have:=Hzl.out;unfold maxLen;simp;omega
      case b2=>have:=Hzl.out;simp;omega
      case b3=>have:=HBq.out.size;simp;omega
      intro v3 w3 hO3 hg3;rw [HS.out] at hO3;obtain ⟨ao3,cap3,hv3⟩:=hO3.shape;subst hv3;have HO3:=hid hO3;have HB3:=hid (HBq.out.grown hg3.alloc.1 HBq.out.size (fun q hq=>(HOq.out.lt q hq).1));clear hO3 hg3;go_wp2
      go_roundw
      case rel=>exact ⟨0+1,_,_,by omega,by go_num,rfl,HO3,HB3⟩
      case measure=>simp [intOf];omega
    · obtain ⟨j,rfl⟩:∃ j,k=j+1:=⟨k - 1,by omega⟩
      obtain ⟨s1,e1,r1,h1,z1,-⟩:=Hka.out (j+1) hkn;obtain ⟨s0,e0,r0,h0,z0,-⟩:=Hka.out j (by omega);have d1:=cell_regrown ((HB.out.cell (p:=⟨b,off+(j+1),none⟩) hlt.2).trans (hc (j+1) s1 e1));have d0:=cell_regrown ((HB.out.cell (p:=⟨b,off+j,none⟩) hlt.2).trans (hc j s0 e0));have hgp:grpP d f t ((j+1:Nat):Int)=decide (s1 ≠ s0):=by
       rw [grp_succ];refine decide_eq_decide.2 ?_
       have hz:cmpK d f t j (j+1)=0 ↔ s0=s1:=by
        unfold cmpK;rw [← r0,← r1,cmpN_zero (by rw [rkS_len,rkS_len,z0,z1]),rkS_iff h0 h1]
       exact ⟨fun h e=>h (hz.2 e.symm),fun h e=>h (hz.1 e).symm⟩
      have hs1:IntKind.i64.wrap ((j:Int)+1 - 1)=(j:Int):=by rw [show (j:Int)+1 - 1=(j:Int) by omega];exact IntWalk.i64_in _ (by omega)
      have hs2:IntKind.i64.wrap (j:Int)=(j:Int):=IntWalk.i64_in _ (by omega);have i0:0≤(j:Int)+1:=by omega
      have i1:(j:Int)+1<(n:Int):=by omega
      have i2:(j:Int)<(n:Int):=by omega
      have i3:((j:Int)+1 == 0)=false:=beq_eq_false_iff_ne.2 (by omega);have hLs:selI (grpP d f t) (j+1+1)=L++(if s1 ≠ s0 then [(j:Int)+1] else []):=by
       rw [selI_succ,← hL,hgp];by_cases h:s1 ≠ s0
       · rw [if_pos (decide_eq_true h),if_pos h];rfl
       · rw [if_neg (by simpa using h),if_neg h]
      rw [← hL] at HO Hzl ⊢;have HLs:=hid hLs;have hokk:eI.ok ((j:Int)+1):=by show -9223372036854775808≤(j:Int)+1∧(j:Int)+1≤9223372036854775807;omega
      clear hL hc e1 r1 h1 z1 e0 r0 h0 z0 hgp hLs hk0;by_cases hq:s1=s0
      · have HS:Hid (L=selI (grpP d f t) (j+1+1)):=hid (by rw [HLs.out,if_neg (fun h=>h hq),List.append_nil])
        subst hq;go_upto_region 5 with fail
        refine wp_region_quiet_below (by kernel_rfl) (by kernel_rfl) ?_
        repeat ((with_reducible refine wpQuiet_step (fun K hK=>?_));go_simp;first | ((with_reducible refine hK _ ?_);clear hK K) | ((with_reducible rw [if_neg]);rotate_left;(intro hgd;cases hgd);(with_reducible refine hK _ ?_);clear hK K) | (apply Exists.intro;refine ⟨fun _=>?_,hK _ ?_⟩;((fail));clear hK K))
        refine wpQuiet_nil ?_
        intro _ hw';obtain ⟨⟨dq,osq⟩,hw''⟩:=hw';subst hw'';have hbq:=below_regrown wr dq osq;generalize grow (redrawn wr dq) osq=wq at hbq ⊢;have hOq:=HO.out.below hbq (Nat.le_refl _);have HBq:=hid (HB.out.trans (hbq.mono HB.out.size));have HOq:Hid (OwnInt64S w.heap.size _ (.slice ro L.length rc) (selI (grpP d f t) (j+1+1))):=hid (by rw [← HS.out];exact hOq);clear hbq d1 d0 hOq hs1 hs2;go_wp2
        go_roundw
        case rel=>exact ⟨j+1+1,_,_,by omega,by go_num,by rw [HS.out],by rw [← HS.out];rw [← HS.out] at HOq;exact HOq,HBq⟩
        case measure=>simp [intOf];omega
      · have HS:Hid (L++[(j:Int)+1]=selI (grpP d f t) (j+1+1)):=hid (by rw [HLs.out,if_pos hq])
        have hq2:=toList_ne hq;clear hq;go_upto_region 5 with fail
        refine wp_region_quiet_below (by kernel_rfl) (by kernel_rfl) ?_
        repeat ((with_reducible refine wpQuiet_step (fun K hK=>?_));go_simp;first | ((with_reducible refine hK _ ?_);clear hK K) | ((with_reducible rw [if_neg]);rotate_left;(intro hgd;cases hgd);(with_reducible refine hK _ ?_);clear hK K) | (apply Exists.intro;refine ⟨fun _=>?_,hK _ ?_⟩;((fail));clear hK K))
        refine wpQuiet_nil ?_
        intro _ hw';obtain ⟨⟨dq,osq⟩,hw''⟩:=hw';subst hw'';have hbq:=below_regrown wr dq osq;generalize grow (redrawn wr dq) osq=wq at hbq ⊢;have HOq:=hid (HO.out.below hbq (Nat.le_refl _));have HBq:=hid (HB.out.trans (hbq.mono HB.out.size));clear hbq d1 d0 hs1 hs2;go_wp2_with (first | (at_builtin;refine wpList_appS (E:=eI) rfl _ _ 29 rfl Tryz.underlying29 hi hz0 hz1 hz2 rfl (by decide) rfl rfl (HOq.out.alloc _) (rds_one (E:=eI) (x:=(j:Int)+1) hokk rfl) ?b1 ?b2 ?b3 ?_))
        case b1=>have:=Hzl.out;unfold maxLen;simp;omega
        case b2=>have:=Hzl.out;simp;omega
        case b3=>have:=HBq.out.size;simp;omega
        intro v3 w3 hO3 hg3;rw [HS.out] at hO3;obtain ⟨ao3,cap3,hv3⟩:=hO3.shape;subst hv3;have HO3:=hid hO3;have HB3:=hid (HBq.out.grown hg3.alloc.1 HBq.out.size (fun q hq=>(HOq.out.lt q hq).1));clear hO3 hg3 hq2;go_wp2
        go_roundw
        case rel=>exact ⟨j+1+1,_,_,by omega,by go_num,rfl,HO3,HB3⟩
        case measure=>simp [intOf];omega
  · obtain rfl:k=n:=by omega
    go_wp2
    go_ret
    exact ⟨⟨_,rfl,HO.out⟩,HB.out⟩
theorem bool_of (p:Prop):∃ q:Bool,(q=true ↔ p):=by
 by_cases h:p
 · exact ⟨true,⟨fun _=>h,fun _=>rfl⟩⟩
 · exact ⟨false,⟨(fun e=>by cases e),fun e=>absurd e h⟩⟩
theorem ltK_trans {d:List (List Int)} {f t:Int} {a b c:Int} (h1:ltK d f t a b) (h2:ltK d f t b c):ltK d f t a c:=by
 unfold ltK at *;rcases h1 with h1 | ⟨e1,h1⟩ <;> rcases h2 with h2 | ⟨e2,h2⟩
 · exact .inl (lexL_trans h1 h2)
 · exact .inl (by rw [← e2];exact h1)
 · exact .inl (by rw [e1];exact h2)
 · exact .inr ⟨e1.trans e2,by omega⟩
theorem ins_sorted {d:List (List Int)} {f t:Int} {Z:List Int} {i:Int} {k:Nat} (hz:Z.Pairwise (ltK d f t)) (h1:∀ x∈Z.drop k,ltK d f t i x) (h2:k=0∨∃ y,Z[k - 1]?=some y∧ltK d f t y i) :
 (Z.take k++[i]++Z.drop k).Pairwise (ltK d f t):=by
 have hz2:=hz;rw [← List.take_append_drop k Z,List.pairwise_append] at hz2;have ht:∀ y∈Z.take k,ltK d f t y i:=by
  intro y hy;rcases h2 with h2 | ⟨y0,e,h2⟩
  · rw [h2] at hy;simp at hy
  · obtain ⟨j,hj,rfl⟩:=List.mem_iff_getElem.1 hy
    have hjk:j<k∧j<Z.length:=by rw [List.length_take] at hj;omega
    obtain ⟨hk1,e1⟩:=List.getElem?_eq_some_iff.1 e;rw [List.getElem_take];rcases Nat.lt_or_ge j (k - 1) with h | h
    · have:=List.pairwise_iff_getElem.1 hz j (k - 1) hjk.2 hk1 h
      rw [e1] at this;exact ltK_trans this h2
    · have hj0:j=k - 1:=by omega
      subst hj0;rw [e1];exact h2
 rw [List.append_assoc,List.pairwise_append];refine ⟨hz2.1,?_,fun y hy x hx=>?_⟩
 · rw [List.singleton_append,List.pairwise_cons]
   exact ⟨h1,hz2.2.1⟩
 · rw [List.singleton_append] at hx
   rcases List.mem_cons.1 hx with rfl | hx
   · exact ht y hy
   · exact hz2.2.2 y hy x hx
theorem ins_perm {Z:List Int} {i k:Nat} (hz:Z.Perm (rangeN i)):(Z.take k++[(i:Int)]++Z.drop k).Perm (rangeN (i+1)):=by
 rw [rangeN_succ];have h1:(Z.take k++[(i:Int)]++Z.drop k).Perm ((i:Int) :: (Z.take k++Z.drop k)):=by
  rw [List.append_assoc,List.singleton_append];exact List.perm_middle
 rw [List.take_append_drop] at h1;exact h1.trans ((List.perm_append_singleton _ _).symm.trans (List.Perm.append_right _ hz))
theorem key_len {d:List (List Int)} {f t:Int} (hC:ColsOk d f t) {k:Nat} (hk:k<d.length):(rks (keyC d f t k)).length=t.toNat - f.toNat:=by
 have e:d[k]?=some (d[k]'hk):=List.getElem?_eq_getElem hk;unfold rks keyC;rw [List.length_map,List.getD_eq_getElem?_getD,e];exact partC_length hC.1.1 hC.1.2 (hC.2 _ (List.mem_of_getElem? e))
theorem Rds.empty {α:Type} (E:Elt α) (B:Nat) (w:World) (a:Addr) (c:Nat):Rds E B w (.slice (some a) 0 c) ([]:List α):=⟨⟨by simp [Elt.all],by simp,.inl ⟨rfl,_,_,rfl,fun h=>by cases h⟩⟩,fun x hx=>by cases hx⟩
theorem own_assoc {e:TypeId} {base:Nat} {w:World} {v:Value} {a c:List Int} {b:Int} (h:Own eI e base w v (a++b :: c)):Own eI e base w v (a++[b]++c):=by rw [List.append_assoc];exact h
set_option maxHeartbeats 4000000 in
theorem l07Places_c {d:List (List Int)} {v:Value} {w:World} {A:Nat} {f t:Int} (hk:Rds eT A w v (keyT d f t)) (hC:ColsOk d f t) (hr:RowsOk d) (hh:hasD d f t=true) :
 Calls Tryz.prog 165 #[v] w fun e w'=>(∃ r Z,e=.returned r∧OwnInt64S w.heap.size w' r Z∧Z.Perm (rangeN d.length)∧Z.Pairwise (ltK d f t))∧Below w.heap.size w w':=by
 obtain ⟨i0,hi,hz0,hz1,hz2⟩:=info_parts Tryz.infoInt64;obtain ⟨ao,cap,rfl,ho⟩:=RdT.at hk.tight;rw [keyT_len] at ho ⊢;have hl:=hr.1;obtain ⟨n,hn⟩:∃ n,n=d.length:=⟨_,rfl⟩;have hka:=fun (k:Nat) (hk:k<d.length)=>key_at hC hr hh hk;have hkl:∀ x y:Nat,x<d.length→y<d.length→(rks (keyC d f t x)).length=(rks (keyC d f t y)).length:=fun x y hx hy=>by rw [key_len hC hx,key_len hC hy]
 have hO0:OwnInt64S w.heap.size (w.alloc (.cells #[] 2)) (.slice (some ⟨w.heap.size,0,none⟩) 0 0) []:=Own.lit (E:=eI) (xs:=[]) (cs:=#[]) (Nat.le_refl _) rfl rfl (by decide) (fun x hx=>by cases hx);have hB0:Below w.heap.size w (w.alloc (.cells #[] 2)):=(Below.refl _ _).alloc (Nat.le_refl _) _;rw [← hn] at ho hl hka hkl ⊢;have klen:=hkl;clear hkl;have Ho:=hid ho;have Hn:=hid hn;have Hka:=hid hka;have HO0:=hid hO0;have HB0:=hid hB0;clear hk hC hr hh ho hn hka hO0 hB0;go_enter Tryz.func165,Tryz.ntmps165
 go_wp2
 go_loopw [3,4] (fun ov iv wr=>∃ (i g oc:Nat) (Z:List Int),i≤n∧iv=.int .i64 i∧ov=.slice (some ⟨g,0,none⟩) i oc∧Hid (OwnInt64S w.heap.size wr (.slice (some ⟨g,0,none⟩) i oc) Z)∧Hid (Z.length=i)∧Hid (Z.Perm (rangeN i)∧Z.Pairwise (ltK d f t))∧Hid (Below w.heap.size w wr)) (fun _ i _=>n - (intOf i).toNat)
 case atStart=>exact ⟨0,_,_,[],Nat.zero_le _,rfl,rfl,HO0,hid rfl,hid ⟨List.Perm.refl _,List.Pairwise.nil⟩,HB0⟩
 case round =>
  obtain ⟨i,g,oc,Z,hi',rfl,rfl,HO,HZl,HZ,HB⟩:=hrel;clear HO0 HB0;by_cases hin:i<n
  · obtain ⟨kb,koff,rfl,klt,kcc⟩:=Ho.out (by omega)
    obtain ⟨si,ei,ri,-,zi,yi⟩:=Hka.out i hin;have hoc:=(HO.out.rds).cap;have hocl:i≤oc:=hoc.1;have hoc64:oc≤9223372036854775807∨i=0:=by rcases Nat.eq_zero_or_pos i with h | h;exact .inr h;exact .inl (hoc.2.2 h)
    have hci:=(HB.out.cell (p:=⟨kb,koff+i,none⟩) klt.2).trans (kcc i si ei);have Hkcc:=hid kcc;have hi64:(i:Int)≤1000:=by omega
    obtain ⟨W0,hW0⟩:∃ x,x=wr:=⟨_,rfl⟩;subst hW0;clear hoc kcc;go_wp2
    go_loopw [5] (fun kv wr=>∃ k:Nat,k≤i∧kv=.int .i64 k∧Hid (∀ x∈Z.drop k,ltK d f t i x)∧Hid (Below W0.heap.size W0 wr)) (fun kv _=>(intOf kv).toNat)
    case atStart=>exact ⟨i,Nat.le_refl _,rfl,hid (fun x hx=>by rw [List.drop_of_length_le (by rw [HZl.out];exact Nat.le_refl _)] at hx;cases hx),hid (Below.refl _ _)⟩
    case round =>
     obtain ⟨k,hk,rfl,HD,Hb⟩:=hrel;go_upto_region 6 with fail
     obtain ⟨q,hq⟩:∃ q:Bool,(q=true ↔ ∃ z:Nat,0<k∧Z[k - 1]?=some (z:Int)∧cmpN (rks (keyC d f t i)) (rks (keyC d f t z))<0):=bool_of _;have Hq:=hid hq;clear hq;go_cut [33] (fun c wx=>c=.bool q∧Hid (Below W0.heap.size W0 wx))
     case first =>
      by_cases hk0:k=0
      · have HE:Hid (q=false):=hid (Bool.eq_false_iff.2 (fun h=>by obtain ⟨z,h1,_⟩:=Hq.out.1 h;omega))
        subst hk0;refine wp_region_quiet_below (by kernel_rfl) (by kernel_rfl) ?_
        repeat ((with_reducible refine wpQuiet_step (fun K hK=>?_));go_simp;first | ((with_reducible refine hK _ ?_);clear hK K) | ((with_reducible rw [if_neg]);rotate_left;(intro hgd;cases hgd);(with_reducible refine hK _ ?_);clear hK K) | (apply Exists.intro;refine ⟨fun _=>?_,hK _ ?_⟩;((fail));clear hK K))
        refine wpQuiet_nil ?_
        intro _ hw';obtain ⟨⟨dq,osq⟩,hw''⟩:=hw';subst hw'';have hbq:=below_regrown wr dq osq;generalize grow (redrawn wr dq) osq=wq at hbq ⊢;have HBq:=hid (Hb.out.trans (hbq.mono Hb.out.size));clear hbq;go_wp2_with fail
        go_meet
        exact ⟨by rw [HE.out],HBq⟩
      · obtain ⟨j,rfl⟩:∃ j,k=j+1:=⟨k - 1,by omega⟩
        have hOr:=HO.out.below Hb.out (Nat.le_refl _);obtain ⟨zao,zcap,hzs,hzop⟩:=RdI.open hOr.rds;rw [HZl.out] at hzs hzop;injection hzs with u1 u2 u3;subst u1;subst u3;clear u2;obtain ⟨zb,zoff,hzb,zlt,zc⟩:=hzop (by omega);injection hzb with hzb;injection hzb with g1 g2;subst g1;subst g2;obtain ⟨zz,hz1,hzc,-⟩:=zc j (by omega);obtain ⟨z,hzn,hze⟩:=rangeN_rng i zz (HZ.out.1.mem_iff.1 (List.mem_of_getElem? hz1));subst hze;obtain ⟨sz,ez,rz,-,zz2,-⟩:=Hka.out z (by omega);have e0:=cell_regrown ((Hb.out.cell (p:=⟨kb,koff+i,none⟩) (World.block_lt_of_cell? _ _ hci)).trans hci);have e1:=cell_regrown hzc;rw [Nat.zero_add] at e1;have e2:=cell_regrown (((HB.out.trans (Hb.out.mono HB.out.size)).cell (p:=⟨kb,koff+z,none⟩) klt.2).trans (Hkcc.out z sz ez));have hcmp:=fun w=>l03Compare_c (s:=si) (u:=sz) w (by rw [zi,zz2]) yi;rw [ri,rz] at hcmp;obtain ⟨R,hR⟩:∃ R,R=cmpN (rks (keyC d f t i)) (rks (keyC d f t z)):=⟨_,rfl⟩;rw [← hR] at hcmp;have Hcmp:=hid hcmp;have HE:Hid (q=decide (R<0)):=hid (by
         rw [Bool.eq_iff_iff,decide_eq_true_iff,Hq.out];refine ⟨fun ⟨z',h1,h2,h3⟩=>?_,fun h=>⟨z,by omega,hz1,by rw [← hR];exact h⟩⟩
         have h2:Z[j]?=some (z':Int):=h2;rw [hz1] at h2;have h4:(z:Int)=(z':Int):=Option.some.inj h2;have h5:z'=z:=by omega
         subst h5;rw [hR];exact h3)
        have hs1:IntKind.i64.wrap ((j:Int)+1 - 1)=(j:Int):=by rw [show (j:Int)+1 - 1=(j:Int) by omega];exact IntWalk.i64_in _ (by omega)
        have hs2:IntKind.i64.wrap (j:Int)=(j:Int):=IntWalk.i64_in _ (by omega);have p0:(0:Int)<(j:Int)+1:=by omega
        have p1:(j:Int)<(i:Int):=by omega
        have p2:(z:Int)<(n:Int):=by omega
        have p3:(i:Int)<(n:Int):=by omega
        clear hOr hzop zc hz1 hzc ez rz hcmp hR zlt;refine wp_region_quiet_below (by kernel_rfl) (by kernel_rfl) ?_
        repeat ((with_reducible refine wpQuiet_step (fun K hK=>?_));go_simp;first | ((with_reducible refine hK _ ?_);clear hK K) | ((with_reducible rw [if_neg]);rotate_left;(intro hgd;cases hgd);(with_reducible refine hK _ ?_);clear hK K) | (apply Exists.intro;refine ⟨fun _=>?_,hK _ ?_⟩;((first | (go_at_call 203;with_reducible exact qb_same (Hcmp.out _))));clear hK K))
        refine wpQuiet_nil ?_
        intro _ hw';obtain ⟨⟨dq,osq⟩,hw''⟩:=hw';subst hw'';have hbq:=below_regrown wr dq osq;generalize grow (redrawn wr dq) osq=wq at hbq ⊢;have HBq:=hid (Hb.out.trans (hbq.mono Hb.out.size));clear hbq e0 e1 e2 hs1 hs2;go_wp2_with fail
        go_meet
        exact ⟨by rw [HE.out],HBq⟩
     case rest =>
      obtain ⟨rfl,Hbc⟩:=hcut;obtain ⟨wx,hwx⟩:∃ x,x=wc:=⟨_,rfl⟩;subst hwx;cases q with
      | true =>
       have HD2:Hid (0<k∧∀ x∈Z.drop (k - 1),ltK d f t i x):=hid (by
        obtain ⟨z,h1,h2,h3⟩:=Hq.out.1 rfl;obtain ⟨h4,h5⟩:=List.getElem?_eq_some_iff.1 h2;refine ⟨h1,fun x hx=>?_⟩
        rw [List.drop_eq_getElem_cons h4,h5] at hx;rcases List.mem_cons.1 hx with rfl | hx
        · obtain ⟨m,hm,hme⟩:=rangeN_rng i (z:Int) (HZ.out.1.mem_iff.1 (List.mem_of_getElem? h2))
          have e:z=m:=by omega
          unfold ltK;rw [Int.toNat_natCast,Int.toNat_natCast];exact .inl (cmpN_neg (klen i z (by omega) (by omega)) h3)
        · rw [show k - 1+1=k by omega] at hx
          exact HD.out x hx)
       obtain ⟨j,rfl⟩:∃ j,k=j+1:=⟨k - 1,by have:=HD2.out.1;omega⟩;have HD3:Hid (∀ x∈Z.drop j,ltK d f t i x):=hid HD2.out.2;clear hci;go_wp2
       go_roundw
       case rel=>exact ⟨j,by omega,by go_num,HD3,Hbc⟩
       case measure=>simp [intOf] <;> omega
      | false =>
       have HEnd:Hid (k=0∨∃ y,Z[k - 1]?=some y∧ltK d f t y i):=hid (by
        by_cases h0:k=0
        · exact .inl h0
        · right
          have h4:k - 1<Z.length:=by rw [HZl.out];omega
          have h2:Z[k - 1]?=some (Z[k - 1]'h4):=List.getElem?_eq_getElem h4;obtain ⟨m,hm,hme⟩:=rangeN_rng i (Z[k - 1]'h4) (HZ.out.1.mem_iff.1 (List.mem_of_getElem? h2));rw [hme] at h2;refine ⟨_,h2,?_⟩
          have h5:¬ cmpN (rks (keyC d f t i)) (rks (keyC d f t m))<0:=fun h=>absurd (Hq.out.2 ⟨m,by omega,h2,h⟩) (by decide);unfold ltK;rw [Int.toNat_natCast,Int.toNat_natCast];rcases cmpN_pos (klen i m (by omega) (by omega)) h5 with e | e
          · exact .inr ⟨e.symm,by omega⟩
          · exact .inl e)
       have Hbx:=Hbc;clear Hbc hci Hb;have HOx:=hid (HO.out.below Hbx.out (Nat.le_refl _));have hsl:RdI wx.heap.size wx (.slice (some ⟨g,0,none⟩) (k) oc) (Z.take (k)):=(HOx.out.rds).takeN (by omega);have hown:=l00Own_c hsl (by rw [List.length_take];omega);have Hown:=hid hown;have HBx:=hid (HB.out.trans (Hbx.out.mono HB.out.size));have hkoc:(k)≤oc:=by omega
       have Htl:Hid ((Z.take (k)).length=(k)):=hid (by rw [List.length_take,HZl.out];omega);have hoki:eI.ok (i:Int):=by show -9223372036854775808≤(i:Int)∧(i:Int)≤9223372036854775807;omega
       clear hsl hown;go_wp2_with fail
       with_reducible refine Hown.out.mono ?_
       rintro e w5 ⟨u5,rfl,hO5,hb5⟩
       obtain ⟨uo,uc,hu5⟩:=hO5.shape;rw [Htl.out] at hu5;subst hu5;have HO5:=hid hO5;have Hb5:=hid hb5;have hsz5:wx.heap.size≤w5.heap.size:=hb5.size;clear hO5 hb5;go_wp2_with (first | (at_builtin;refine wpList_appS (E:=eI) rfl _ _ 29 rfl Tryz.underlying29 hi hz0 hz1 hz2 rfl (by decide) rfl rfl (HO5.out.alloc _) (rds_one (E:=eI) (x:=(i:Int)) hoki rfl) ?b1 ?b2 ?b3 ?_))
       case b1=>have:=Htl.out;unfold maxLen;simp;omega
       case b2=>have:=Htl.out;simp;omega
       case b3=>simp;omega
       intro v6 w6 hO6 hg6;obtain ⟨g6,c6,hv6,-,-⟩:=Own.addr hO6 (by simp);rw [show (Z.take (k)++[(i:Int)]).length=(k)+1 by rw [List.length_append,Htl.out];rfl] at hv6;subst hv6;have hb56:Below w5.heap.size w5 (w5.alloc (.cells #[.int .i64 (i:Int)] 2)):=(Below.refl _ _).alloc (Nat.le_refl _) _;have hb6:Below wx.heap.size wx w6:=(Hb5.out.trans (hb56.mono Hb5.out.size)).trans (by
        have h:=Agr.of_grown hg6.1 (S:=fun q=>wx.heap.size≤q) (fun q hq _=>(HO5.out.lt q hq).1);exact h.below (fun k h=>h) (by have:=hb56.size;omega))
       have hO6w:=HOx.out.below hb6 (Nat.le_refl _);have HO6w:=hid hO6w;have HO6:=hid hO6;have Hb6:=hid hb6;have hsz6:wx.heap.size≤w6.heap.size:=hb6.size;clear hO6 hg6 hb56 hb6 hO6w;by_cases hki:k<i
       · have hrt:RdI w6.heap.size w6 (.slice (some ⟨g,0+k,none⟩) (i - k) (oc - k)) (Z.drop k):=by
          have h:=Rds.sub (lo:=k) (hi:=i) (cap':=oc - k) (HO6w.out.rds) (by rw [HZl.out];omega) hki ⟨by omega,by omega⟩;rw [show k * eI.sz=k from Nat.mul_one _,List.take_of_length_le (by rw [HZl.out];omega)] at h;exact h
         have hne:¬ oc=k:=by omega
         rw [Nat.zero_add] at hrt;have Hrt:=hid hrt;have hkle:k≤i:=by omega
         clear hrt;go_wp2_with (first | (at_builtin;refine wpList_appS (E:=eI) rfl _ _ 29 rfl Tryz.underlying29 hi hz0 hz1 hz2 rfl (by decide) rfl rfl HO6.out Hrt.out ?c1 ?c2 ?c3 ?_))
         case c1=>have:=Htl.out;have:=HZl.out;unfold maxLen;simp;omega
         case c2=>have:=Htl.out;have:=HZl.out;simp;omega
         case c3=>omega
         intro v7 w7 hO7 hg7;have hO7:=own_assoc hO7;obtain ⟨g7,c7,hv7,-,-⟩:=Own.addr hO7 (by simp;omega);rw [show (Z.take (k)++[(i:Int)]++Z.drop (k)).length=i+1 by rw [List.length_append,List.length_append,Htl.out,List.length_drop,HZl.out];show (k)+1+(i - (k))=i+1;omega] at hv7;subst hv7;have hb7:Below w.heap.size w w7:=(HBx.out.trans (Hb6.out.mono HBx.out.size)).trans ((Agr.of_grown hg7.1 (S:=fun q=>wx.heap.size≤q) (fun q hq _=>(HO6.out.lt q hq).1)).below (fun q hq=>by have h9:wx.heap.size≤q:=hq;have:=HBx.out.size;omega) (by have:=HBx.out.size;omega));have HO7:=hid (hO7.mono (base':=w.heap.size) HBx.out.size);have Hb7:=hid hb7;have HZ7:Hid ((Z.take (k)++[(i:Int)]++Z.drop (k)).Perm (rangeN (i+1))∧(Z.take (k)++[(i:Int)]++Z.drop (k)).Pairwise (ltK d f t)):=hid ⟨ins_perm HZ.out.1,ins_sorted HZ.out.2 HD.out HEnd.out⟩;have HZl7:Hid ((Z.take (k)++[(i:Int)]++Z.drop (k)).length=i+1):=hid (by rw [List.length_append,List.length_append,Htl.out,List.length_drop,HZl.out];show (k)+1+(i - (k))=i+1;omega);clear hO7 hg7 hb7;go_wp2
         go_roundw
         case rel=>exact ⟨i+1,g7,c7,_,by omega,by go_num,rfl,HO7,HZl7,HZ7,Hb7⟩
         case measure=>simp [intOf];omega
       · have hke:k=i:=by omega
         have hdn:Z.drop k=[]:=List.drop_of_length_le (by rw [HZl.out];omega);subst hke;by_cases hcap:oc=k
         · have Hrt:Hid (RdI w6.heap.size w6 (.slice (some ⟨g,0,none⟩) 0 0) (Z.drop k)):=hid (by rw [hdn];exact Rds.empty _ _ _ _ _)
           clear hdn;subst hcap;go_wp2_with (first | (at_builtin;refine wpList_appS (E:=eI) rfl _ _ 29 rfl Tryz.underlying29 hi hz0 hz1 hz2 rfl (by decide) rfl rfl HO6.out Hrt.out ?c1 ?c2 ?c3 ?_))
           case c1=>have:=Htl.out;have:=HZl.out;unfold maxLen;simp;omega
           case c2=>have:=Htl.out;have:=HZl.out;simp;omega
           case c3=>omega
           intro v7 w7 hO7 hg7;have hO7:=own_assoc hO7;obtain ⟨g7,c7,hv7,-,-⟩:=Own.addr hO7 (by simp;omega);rw [show (Z.take (oc)++[(oc:Int)]++Z.drop (oc)).length=oc+1 by rw [List.length_append,List.length_append,Htl.out,List.length_drop,HZl.out];show (oc)+1+(oc - (oc))=oc+1;omega] at hv7;subst hv7;have hb7:Below w.heap.size w w7:=(HBx.out.trans (Hb6.out.mono HBx.out.size)).trans ((Agr.of_grown hg7.1 (S:=fun q=>wx.heap.size≤q) (fun q hq _=>(HO6.out.lt q hq).1)).below (fun q hq=>by have h9:wx.heap.size≤q:=hq;have:=HBx.out.size;omega) (by have:=HBx.out.size;omega));have HO7:=hid (hO7.mono (base':=w.heap.size) HBx.out.size);have Hb7:=hid hb7;have HZ7:Hid ((Z.take (oc)++[(oc:Int)]++Z.drop (oc)).Perm (rangeN (oc+1))∧(Z.take (oc)++[(oc:Int)]++Z.drop (oc)).Pairwise (ltK d f t)):=hid ⟨ins_perm HZ.out.1,ins_sorted HZ.out.2 HD.out HEnd.out⟩;have HZl7:Hid ((Z.take (oc)++[(oc:Int)]++Z.drop (oc)).length=oc+1):=hid (by rw [List.length_append,List.length_append,Htl.out,List.length_drop,HZl.out];show (oc)+1+(oc - (oc))=oc+1;omega);clear hO7 hg7 hb7;go_wp2
           go_roundw
           case rel=>exact ⟨oc+1,g7,c7,_,by omega,by go_num,rfl,HO7,HZl7,HZ7,Hb7⟩
           case measure=>simp [intOf];omega
         · have Hrt:Hid (RdI w6.heap.size w6 (.slice (some ⟨g,k,none⟩) 0 (oc - k)) (Z.drop k)):=hid (by rw [hdn];exact Rds.empty _ _ _ _ _)
           clear hdn;go_wp2_with (first | (at_builtin;refine wpList_appS (E:=eI) rfl _ _ 29 rfl Tryz.underlying29 hi hz0 hz1 hz2 rfl (by decide) rfl rfl HO6.out Hrt.out ?c1 ?c2 ?c3 ?_))
           case c1=>have:=Htl.out;have:=HZl.out;unfold maxLen;simp;omega
           case c2=>have:=Htl.out;have:=HZl.out;simp;omega
           case c3=>omega
           intro v7 w7 hO7 hg7;have hO7:=own_assoc hO7;obtain ⟨g7,c7,hv7,-,-⟩:=Own.addr hO7 (by simp;omega);rw [show (Z.take (k)++[(k:Int)]++Z.drop (k)).length=k+1 by rw [List.length_append,List.length_append,Htl.out,List.length_drop,HZl.out];show (k)+1+(k - (k))=k+1;omega] at hv7;subst hv7;have hb7:Below w.heap.size w w7:=(HBx.out.trans (Hb6.out.mono HBx.out.size)).trans ((Agr.of_grown hg7.1 (S:=fun q=>wx.heap.size≤q) (fun q hq _=>(HO6.out.lt q hq).1)).below (fun q hq=>by have h9:wx.heap.size≤q:=hq;have:=HBx.out.size;omega) (by have:=HBx.out.size;omega));have HO7:=hid (hO7.mono (base':=w.heap.size) HBx.out.size);have Hb7:=hid hb7;have HZ7:Hid ((Z.take (k)++[(k:Int)]++Z.drop (k)).Perm (rangeN (k+1))∧(Z.take (k)++[(k:Int)]++Z.drop (k)).Pairwise (ltK d f t)):=hid ⟨ins_perm HZ.out.1,ins_sorted HZ.out.2 HD.out HEnd.out⟩;have HZl7:Hid ((Z.take (k)++[(k:Int)]++Z.drop (k)).length=k+1):=hid (by rw [List.length_append,List.length_append,Htl.out,List.length_drop,HZl.out];show (k)+1+(k - (k))=k+1;omega);clear hO7 hg7 hb7;go_wp2
           go_roundw
           case rel=>exact ⟨k+1,g7,c7,_,by omega,by go_num,rfl,HO7,HZl7,HZ7,Hb7⟩
           case measure=>simp [intOf];omega
  · obtain rfl:i=n:=by omega
    go_wp2
    go_ret
    exact ⟨⟨_,Z,rfl,HO.out,HZ.out.1,HZ.out.2⟩,HB.out⟩
set_option maxHeartbeats 2000000 in
theorem sSortedBy_c {d:List (List Int)} {v:Value} {w:World} {A:Nat} {f t:Int} (hd:RdInt64SS A w v d) :
 Calls Tryz.prog 124 #[v,.agg #[.int .i64 f,.int .i64 t]] w fun e w'=>DkPost (sortC d f t) (fun x=>x=pickD d (ordD d f t)) w.heap.size e w'∧Below w.heap.size w w':=by
 obtain ⟨i0,hi,hz0,hz1,hz2c⟩:=info_parts Tryz.infoCard;obtain ⟨vo,vc,rfl⟩:=hd.shape;obtain ⟨T,hT⟩:∃ T,T=w.alloc (.cells #[.int .i64 f,.int .i64 t] 73):=⟨_,rfl⟩;have hbT:Below w.heap.size w T:=by rw [hT];exact (Below.refl _ _).alloc (Nat.le_refl _) _
 have hBT:Box T w.heap.size [.int .i64 f,.int .i64 t]:=by rw [hT];exact Box.new w [.int .i64 f,.int .i64 t] _
 have hdT:=RdInt64SS.onn hd hbT;have hky:=l07Keys_c (f:=f) (t:=t) hdT;have f0:=hBT.cell 0 _ rfl;have f1:=hBT.cell 1 _ rfl;obtain ⟨R,hR⟩:∃ R,sortC d f t=R:=⟨_,rfl⟩;rw [hR] at hky ⊢;have HR:=hid hR;have Hky:=hid hky;have HT:=hid hT;have HbT:=hid hbT;have HdT:=hid hdT;clear hT hbT hBT hdT hky hR hd;obtain ⟨n,hn⟩:∃ n,n=d.length:=⟨_,rfl⟩;rw [← hn] at HdT Hky ⊢;have Hn:=hid hn;clear hn;go_enter Tryz.func124,Tryz.ntmps124
 go_upto_region 1 with fail
 rw [← HT.out];go_wp2_with fail
 with_reducible refine Hky.out.mono ?_
 rintro e w1 ⟨⟨rk,rfl,hK⟩,hb1⟩
 have Hd1:=hid (RdInt64SS.onn HdT.out hb1);have Hb1:=hid (HbT.out.trans (hb1.mono HbT.out.size));clear hb1 f0 f1;by_cases hc0:R=0
 · have hz:=sortC_zero (d:=d) (f:=f) (t:=t) (by rw [HR.out];exact hc0)
   have hKo:=hK hc0;subst hc0;have hlen:=(deckB_parts hz.1).1;have hcon:=l07Places_c hKo.rds (cols_ok hz.1 hz.2.1) (rows_ok hz.1) hz.2.2;have Hcon:=hid hcon;have HRw:=hid (rows_ok hz.1).2;have hl100:n≤100:=by have:=Hn.out;omega
   have Hz:=hid hz;clear hcon hK hKo hlen hz;go_wp2_with fail
   with_reducible refine Hcon.out.mono ?_
   rintro e w4 ⟨⟨rz,G,rfl,hG,hZp,hZw⟩,hb4⟩
   have hmn:G.length≤n:=by rw [hZp.length_eq,rangeN_len];exact Nat.le_of_eq Hn.out.symm
   have hZm:∀ (j:Nat) (z:Int),G[j]?=some z→∃ k:Nat,k<n∧z=(k:Int):=fun j z hz=>by
    rw [Hn.out];exact rangeN_rng d.length z (hZp.mem_iff.1 (List.mem_of_getElem? hz))
   have HOrd:Hid (IsOrd d f t G):=hid ⟨hZp,hZw⟩;clear hZp hZw;obtain ⟨zo,zc,hzo,hzop⟩:=RdI.open hG.rds;obtain ⟨m,hm⟩:∃ m,m=G.length:=⟨_,rfl⟩;subst hzo;rw [← hm];have hd4:=RdInt64SS.onn Hd1.out hb4;obtain ⟨vo',vc',hvs,ho⟩:=hd4.open;rw [← Hn.out] at hvs ho;injection hvs with q1 q2 q3;subst q1;subst q3;clear q2;have Ho:=hid ho;have Hm:=hid hm;have HZo:=hid hzop;have HZm:=hid hZm;have Hb4:=hid (Hb1.out.trans (hb4.mono Hb1.out.size));have hmn2:m≤n:=by rw [hm];exact hmn
   clear hG hb4 hzop hZm hm hd4 ho;have hB0:BldG eI 2 88 w4.heap.size w4.heap.size (w4.alloc (.cells #[] 88)).heap.size (w4.alloc (.cells #[] 88)) (.slice (some ⟨w4.heap.size,0,none⟩) 0 0) (pickD d (G.take 0)):=BldG.empty (B:=w4.heap.size) rfl (Own.lit (E:=eS) (xs:=[]) (cs:=#[]) (Nat.le_refl _) rfl rfl (by decide) (fun x hx=>by cases hx)) (by simp);have HB0:=hid hB0;clear hB0;go_wp2
   go_loopw [9,10] (fun ov iv wr=>∃ k:Nat,k≤m∧iv=.int .i64 k∧Hid (BldG eI 2 88 w4.heap.size w4.heap.size wr.heap.size wr ov (pickD d (G.take k)))∧Hid (Below w4.heap.size w4 wr)) (fun _ i _=>m - (intOf i).toNat)
   case atStart=>exact ⟨0,Nat.zero_le _,rfl,HB0,hid ((Below.refl _ _).alloc (Nat.le_refl _) _)⟩
   case round =>
    obtain ⟨k,hk,rfl,HB,Hb⟩:=hrel;clear HB0;by_cases hkn:k<m
    · obtain ⟨zb,zoff,rfl,zlt,zc1⟩:=HZo.out (by have:=Hm.out;omega)
      obtain ⟨z,hz,hzc,-⟩:=zc1 k (by have:=Hm.out;omega);obtain ⟨p,hp,hze⟩:=HZm.out k z hz;subst hze;have d0:=(Hb.out.cell (p:=⟨zb,zoff+k,none⟩) zlt.2).trans hzc;obtain ⟨b,off,rfl,hlt,hc⟩:=Ho.out (by omega);obtain ⟨x,ro,rc,hx,hcell,hrd⟩:=hc p (by omega);have hxl:=HRw.out x (List.mem_of_getElem? hx);have d1:=(Hb.out.cell (p:=⟨b,off+p,none⟩) hlt.2).trans hcell;have hcon:=l02Own_c rfl d1 (Rds.onn hrd Hb.out) (by omega);have Hcon:=hid hcon;have Htk:Hid (pickD d (G.take (k+1))=pickD d (G.take k)++[x]):=hid (by unfold pickD;rw [take_snoc hz,List.map_append];simp [List.getD_eq_getElem?_getD,hx]);have Hxl:Hid ((pickD d (G.take k)).length≤100):=hid (by unfold pickD;rw [List.length_map,List.length_take];omega);obtain ⟨oo,oc,hov⟩:=HB.out.shape;subst hov;have hmI:(p:Int)<(n:Int):=by omega
      have hmI0:(0:Int)≤(p:Int):=by omega
      clear hc hcell hrd hx hzc zc1 hz hcon d1;generalize pickD d (G.take k)=Tk at *;go_wp2_with fail
      with_reducible refine Hcon.out.mono ?_
      rintro e w6 ⟨⟨u,rfl,hu⟩,hb6⟩
      obtain ⟨tp,htp⟩:∃ tp,tp=wr.heap.size:=⟨_,rfl⟩;have htb:w4.heap.size≤tp:=by have:=Hb.out.size;omega
      have hz2:tp≤w6.heap.size:=by have:=hb6.size;omega
      have hB2:BldG eI 2 88 w4.heap.size w4.heap.size tp w6 (.slice oo Tk.length oc) Tk:=by rw [htp];exact HB.out.below hb6 (Nat.le_refl _)
      have hb2':=Hb.out.trans (hb6.mono (by omega));clear hb6 d0;have hR9:=hu.mono (base':=tp) (by omega);obtain ⟨hs',xh,hval,hokx,hlen,hO,hfn⟩:=hB2.app hR9 htb hz2;obtain ⟨rao,rcap,hsh⟩:=hR9.shape;subst hsh;have hcells:(#[.slice rao x.length rcap]:Array Value)=(eS.cells xh).toArray:=by rw [show eS.cells xh=[xh.val] from rfl,hval]
      have HO:=hid hO;have Hfn:=hid hfn;have Hlen:=hid hlen;have Hcells:=hid hcells;have hl0:=HO.out.lt;have Hl0:=hid hl0;have Hb2':=hid hb2';have hszr:w4.heap.size≤w6.heap.size:=hb2'.size;clear hR9 hu hB2 hval hlen hO hfn hcells hl0 hb2';go_wp2_with (first | (at_builtin;refine wpList_appS (E:=eS) rfl _ _ 78 rfl Tryz.underlying78 hi hz0 hz1 hz2c rfl (by decide) rfl rfl (HO.out.alloc _) (rds_one (E:=eS) (x:=xh) hokx Hcells.out) ?b1 ?b2 ?b3 ?_))
      case b1=>rw [Hlen.out];have:=Hxl.out;unfold maxLen;simp;omega
      case b2=>rw [Hlen.out];have:=Hxl.out;simp;omega
      case b3=>simp;omega
      intro v' w8 hO8 hg8;have hg8':=hg8.alloc;have HB8:=hid (Hfn.out w8 v' hO8 hg8');have Hb8:=hid (Hb2'.out.grown hg8'.1 hszr (fun q hq=>(Hl0.out q hq).1));clear hO8 hg8 hg8';go_wp2
      go_roundw
      case rel=>exact ⟨k+1,by omega,by go_num,by rw [Htk.out];exact HB8,Hb8⟩
      case measure=>simp [intOf];omega
    · obtain rfl:k=m:=by omega
      have hM:=HB.out.toM (Nat.le_refl _);rw [List.take_of_length_le (by have:=Hm.out;omega)] at hM;have HM:=hid hM;clear hM;have hF:=(FrD.own HM.out).mono Hb4.out.size;rw [HOrd.out.eq] at hF;have HF:=hid hF;have HbF:=hid (Hb4.out.trans (Hb.out.mono Hb4.out.size));clear hF;go_wp2
      go_ret2
      exact ⟨⟨_,rfl,fun _=>⟨_,rfl,HF.out⟩⟩,HbF.out⟩
 · have hc1:(R != 0)=true:=by simpa using hc0
   have HR0:=hid hc0;clear hK hc0;go_wp2
   go_ret2
   exact ⟨DkPost.no (r:=.slice none 0 0) rfl HR0.out,Hb1.out⟩
end Go.Proofs.YthdaghfhlfjclaaGreat
