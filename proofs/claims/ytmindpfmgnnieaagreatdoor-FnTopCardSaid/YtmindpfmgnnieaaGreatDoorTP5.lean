/- Lemmas on the way to the law FnTop. No condition. -/
import Derived.Test.YtmindpfmgnnieaaGreatDoorTP3
import Derived.Test.YtmindpfmgnnieaaGreatDoorTP2
import Derived.Laws.BitsAllLaws
namespace Go.Proofs.YtmindpfmgnnieaaGreatDoor
set_option linter.unusedSimpArgs false
open Lib (hid)
open Go.ChangeShapes Go.WideShapes Go.ChangeAt Go.RowKit
set_option linter.unusedVariables false
set_option maxRecDepth 100000
def eB:Elt Int:={ sz:=1,cells:=fun x=>[.int .u8 x],ok:=fun x=>0<=x/\x<=255,len:=fun _=>rfl,one:=fun x u hu=>by simp at hu;subst hu;rfl }
theorem RdB.open {w:World} {B:Nat} {v:Value} {xs:List Int} (h:Rds eB B w v xs):∃ ao cap,v=.slice ao xs.length cap /\
 (0<xs.length->∃ b off,ao=some ⟨b,off,none⟩/\(b<B/\b<w.heap.size)/\∀ k,k<xs.length->∃ x,xs[k]?=some x/\w.cell? ⟨b,off+k,none⟩=some (.int .u8 x)/\0<=x/\x<=255):=by
 rcases h.cases with ⟨rfl,ao,cap,rfl,_⟩ | ⟨b,off,cap,rfl,hlt,hc⟩
 . exact ⟨ao,cap,rfl,fun h=>absurd h (by simp)⟩
 . refine ⟨_,cap,rfl,fun _=>⟨b,off,rfl,hlt,fun k hk=>?_⟩⟩
   obtain ⟨h1,h2⟩:=hc k xs[k] (by simp [hk]);refine ⟨xs[k],by simp [hk],?_,h1⟩;have:=h2 0 (by decide);simpa [eB] using this
def Src (w:World) (b N:Nat):Prop:=∃ (code:Value) (cs:List Int) (at_:Nat) (seed:Int) (bd:Nat),w.heap[b]?=some (.cells #[code,.int .i64 at_,.int .u64 seed] 109 (0,0))/\Rds eB bd w code cs/\bd<=b/\at_<=N/\0<=seed/\seed<=18446744073709551615
theorem Src.lt {w:World} {b N:Nat} (h:Src w b N):b<w.heap.size:=by
 obtain ⟨_,_,_,_,_,h,_⟩:=h;exact (Array.getElem?_eq_some_iff.1 h).1
theorem Src.kept {w w':World} {b N:Nat} {row:Option Nat} (h:Src w b N) (hg:w.grownBy w' row) (hb:∀ k,row=some k->b<k):Src w' b N:=by
 have hlt:=h.lt;obtain ⟨code,cs,at_,seed,bd,h1,h2,h3,h4⟩:=h;have hne:some b ≠ row:=fun e=>by have:=hb b e.symm;omega
 refine ⟨code,cs,at_,seed,bd,by rw [hg.block b hlt hne];exact h1,?_,h3,h4⟩;refine ⟨⟨h2.1.1,h2.1.2.1,?_⟩,h2.2⟩;rcases h2.1.2.2 with h0 | ⟨b',off,cap,hv,hc,h5,h6,h7⟩
 . exact .inl h0
 . refine .inr ⟨b',off,cap,hv,hc,h5,zM h6 hg.size,fun i hi=>?_⟩
   rw [World.cell?_of_block (w:=w) (a:=⟨b',off+i,none⟩) (hg.block b' h6 (fun e=>by have:=hb b' e.symm;omega))];exact h7 i hi
theorem Src.alloc {w:World} {b N:Nat} (h:Src w b N) (o:Obj):Src (w.alloc o) b N:=h.kept (World.grownBy_alloc w o none) (fun k hk=>by cases hk)
theorem Src.mono {w:World} {b N M:Nat} (h:Src w b N) (hM:N<=M):Src w b M:=by
 obtain ⟨code,cs,at_,seed,bd,h1,h2,h3,h4,h5⟩:=h;exact ⟨code,cs,at_,seed,bd,h1,h2,h3,zO h4 hM,h5⟩
theorem Src.put {w w':World} {b N:Nat} {code:Value} {cs:List Int} {bd:Nat} {a:Nat} {s:Int} (h2:Rds eB bd w code cs) (h3:bd<=b) (hg:w.grownBy w' (some b)) (hb:w'.heap[b]?=some (.cells #[code,.int .i64 a,.int .u64 s] 109 (0,0))) (ha:a<=N) (hs:0<=s/\s<=18446744073709551615):Src w' b N:=by
 refine ⟨code,cs,a,s,bd,hb,?_,h3,ha,hs⟩;refine ⟨⟨h2.1.1,h2.1.2.1,?_⟩,h2.2⟩;rcases h2.1.2.2 with h0 | ⟨b',off,cap,hv,hc,h5,h6,h7⟩
 . exact .inl h0
 . refine .inr ⟨b',off,cap,hv,hc,h5,zM h6 hg.size,fun i hi=>?_⟩
   rw [World.cell?_of_block (w:=w) (a:=⟨b',off+i,none⟩) (hg.block b' h6 (fun e=>by have:=zD e;omega))];exact h7 i hi
theorem wrap_u64_bd (n:Int):0<=IntKind.u64.wrap n/\IntKind.u64.wrap n<=18446744073709551615:=by rw [IntKind.wrap_u64];omega
theorem and255 {a:Int} (h0:0<=a) (h1:a<=18446744073709551615):0<=wrap64 (bits BinOp.and IntKind.u64 a 255)/\wrap64 (bits BinOp.and IntKind.u64 a 255)<=255:=by
 have e:bits BinOp.and IntKind.u64 a 255=((a.toNat &&& 255:Nat):Int):=u64_and a 255 h0 (by omega) (by omega) (by omega);have hle:a.toNat &&& 255<=255:=Nat.and_le_right;rw [e,IntWalk.wrap64_in _ ⟨by omega,by omega⟩];omega
theorem shr40 (a:Int):0<=IntKind.u64.wrap a / 1099511627776/\IntKind.u64.wrap a / 1099511627776<=18446744073709551615:=by
 have:=wrap_u64_bd a;omega
theorem yBH {w:World} {b m1 m2:Nat} {c0 c1 c2 x y:Value} {T:TypeId} (h:w.heap[b]?=some (.cells #[c0,c1,c2] T (0,0))) :
 w.grownBy ((((w.drewN m1).setCell ⟨b,1,none⟩ x).setCell ⟨b,2,none⟩ y).drewN m2) (some b)/\((((w.drewN m1).setCell ⟨b,1,none⟩ x).setCell ⟨b,2,none⟩ y).drewN m2).heap[b]?=some (.cells #[c0,x,y] T (0,0))/\((((w.drewN m1).setCell ⟨b,1,none⟩ x).setCell ⟨b,2,none⟩ y).drewN m2).heap.size=w.heap.size:=by
 have h1:=heap_setCell_same (w.drewN m1) b 1 _ _ x h;have h2:=heap_setCell_same ((w.drewN m1).setCell ⟨b,1,none⟩ x) b 2 _ _ y h1;refine ⟨⟨rfl,rfl,rfl,by simp,fun k hk hne=>?_⟩,h2,by simp⟩;have hk':k ≠ b:=fun e=>hne (by rw [e]);exact (heap_setCell_other _ ⟨b,2,none⟩ k y hk').trans (heap_setCell_other (w.drewN m1) ⟨b,1,none⟩ k x hk')
theorem next_any {w:World} {b N:Nat} (hs:Src w b N) (hN:N<=2000000000) :
 Calls Tryz.prog 60 #[.pointer (some ⟨b,0,none⟩)] w fun e w'=>(∃ r:Int,e=.returned (.int .i64 r)/\0<=r/\r<=255)/\Src w' b (N+1)/\w.grownBy w' (some b)/\w'.heap.size=w.heap.size:=by
 obtain ⟨code,cs,at_,seed,bd,hblk,hrd,hbd,hat,hs0,hs1⟩:=hs;have hle:=hrd.le;have Hrd:=hid hrd;obtain ⟨ao,cap,rfl,ho⟩:=RdB.open hrd;have c0:w.cell? ⟨b,0,none⟩=some (.slice ao cs.length cap):=by rw [cell_of_row w b 0 _ _ _ hblk];rfl
 have c1:w.cell? ⟨b,1,none⟩=some (.int .i64 at_):=by rw [cell_of_row w b 1 _ _ _ hblk];rfl
 have c2:w.cell? ⟨b,2,none⟩=some (.int .u64 seed):=by rw [cell_of_row w b 2 _ _ _ hblk];rfl
 have f1:w.frozen? ⟨b,1,none⟩=false:=frozen_of_row w b 1 _ _ hblk;have f2:w.frozen? ⟨b,2,none⟩=false:=frozen_of_row w b 2 _ _ hblk;have Hblk:=hid hblk;obtain ⟨n,hn⟩:∃ n,n=cs.length:=⟨_,rfl⟩;rw [<- hn] at c0 Hrd Hblk hle;have Hn:=hid hn;clear hrd hblk hn;by_cases hin:at_<n
 . obtain ⟨b',off,rfl,hlt,hc⟩:=ho (by have:=Hn.out;omega)
   obtain ⟨x,hx,hcx,hxb⟩:=hc at_ (by have:=Hn.out;omega);clear hc ho hx;go_enter Tryz.func60,Tryz.ntmps60;go_wp2;go_quiet (fail);go_wp2;go_quiet (fail);go_wp2;go_quiet (fail);go_wp2;go_ret;refine ⟨⟨_,rfl,?_,?_⟩,?_,?_,?_⟩
   . omega
   . omega
   . exact Src.put (a:=at_+1) Hrd.out hbd (yBH Hblk.out).1 (yBH Hblk.out).2.1 (by omega) (wrap_u64_bd _)
   . exact (yBH Hblk.out).1
   . exact (yBH Hblk.out).2.2
 . clear ho
   go_enter Tryz.func60,Tryz.ntmps60;go_wp2;go_quiet (fail);go_wp2;go_quiet (fail);go_wp2;go_ret;refine ⟨⟨_,rfl,?_,?_⟩,?_,?_,?_⟩
   . exact (and255 (shr40 _).1 (shr40 _).2).1
   . exact (and255 (shr40 _).1 (shr40 _).2).2
   . exact Src.put (a:=at_+1) Hrd.out hbd (yBH Hblk.out).1 (yBH Hblk.out).2.1 (by omega) (wrap_u64_bd _)
   . exact (yBH Hblk.out).1
   . exact (yBH Hblk.out).2.2
theorem yAO {w:World} {b N:Nat} (n:Int) (hs:Src w b N) (hN:N<=1000000000) (hn:n<=1000000000000) :
 Calls Tryz.prog 23 #[.pointer (some ⟨b,0,none⟩),.int .i64 n] w fun e w'=>(∃ r:Int,e=.returned (.int .i64 r)/\0<=r/\(1<=n->r<n)/\(n<1->r=0))/\Src w' b (N+2)/\w.grownBy w' (some b)/\w'.heap.size=w.heap.size:=by
 by_cases h1:n<=1
 . go_enter Tryz.func23,Tryz.ntmps23
   go_wp2;go_ret;exact ⟨⟨0,rfl,by omega,fun h=>by omega,fun _=>rfl⟩,hs.mono (by omega),World.grownBy.refl _ _,rfl⟩
 . by_cases h2:200<n
   . go_enter Tryz.func23,Tryz.ntmps23
     go_wp2_with fail;refine (next_any hs (by omega)).mono ?_;rintro e w1 ⟨⟨r,rfl,hr0,hr1⟩,hs1,hg1,hz1⟩;go_wp2_with fail;refine (next_any hs1 (by omega)).mono ?_;rintro e w2 ⟨⟨r2,rfl,hr20,hr21⟩,hs2,hg2,hz2⟩;have Hz:=hid (hz2.trans hz1);clear hz1 hz2;have hm0:=Int.emod_nonneg (r * 256+r2) (b:=n) (by omega);have hm1:=Int.emod_lt_of_pos (r * 256+r2) (b:=n) (by omega);go_wp2;go_ret;exact ⟨⟨_,rfl,hm0,fun _=>hm1,fun h=>by omega⟩,hs2,yAA hg1 hg2,Hz.out⟩
   . go_enter Tryz.func23,Tryz.ntmps23
     go_wp2_with fail;refine (next_any hs (by omega)).mono ?_;rintro e w1 ⟨⟨r,rfl,hr0,hr1⟩,hs1,hg1,hz1⟩;have Hz:=hid hz1;clear hz1;have hm0:=Int.emod_nonneg r (b:=n) (by omega);have hm1:=Int.emod_lt_of_pos r (b:=n) (by omega);go_wp2;go_ret;exact ⟨⟨_,rfl,hm0,fun _=>hm1,fun h=>by omega⟩,hs1.mono (by omega),hg1,Hz.out⟩
theorem one_any {w:World} {b N:Nat} (n:Int) (hs:Src w b N) (hN:N<=1000000000) (hn:n<=1000000000000) :
 Calls Tryz.prog 57 #[.pointer (some ⟨b,0,none⟩),.int .i64 n] w fun e w'=>(∃ r:Bool,e=.returned (.bool r))/\Src w' b (N+2)/\w.grownBy w' (some b)/\w'.heap.size=w.heap.size:=by
 go_enter Tryz.func57,Tryz.ntmps57;go_wp2_with fail;refine (yAO n hs hN hn).mono ?_;rintro e w1 ⟨⟨r,rfl,_⟩,hs1,hg1,hz1⟩;have Hz:=hid hz1;clear hz1;go_wp2;go_ret;exact ⟨⟨_,rfl⟩,hs1,hg1,Hz.out⟩
theorem among_any {w:World} {b N A:Nat} {v:Value} {xs:List Int} (hs:Src w b N) (hN:N<=1000000000) (ha:RdI A w v xs) (hA:A<=w.heap.size) (h0:0<xs.length/\xs.length<=1000) (hne:∀ k,v.ownBlock=some k->k ≠ b) :
 Calls Tryz.prog 139 #[.pointer (some ⟨b,0,none⟩),v] w fun e w'=>(∃ r:Int,e=.returned (.int .i64 r)/\r∈xs)/\Src w' b (N+2)/\w.grownBy w' (some b)/\w'.heap.size=w.heap.size:=by
 obtain ⟨ao,cap,hv,hoa⟩:=ha.open;obtain ⟨b',off,rfl,hlt,hc⟩:=hoa h0.1;subst hv;have hbb:b' ≠ b:=hne b' rfl;obtain ⟨n,hn⟩:∃ n,n=xs.length:=⟨_,rfl⟩;rw [<- hn] at h0 |-;have Hn:=hid hn;have Hc:=hid hc;clear hn hc hoa ha hne;go_enter Tryz.func139,Tryz.ntmps139;go_wp2_with fail;refine (yAO n hs hN (by omega)).mono ?_;rintro e w1 ⟨⟨r,rfl,hr0,hr1,_⟩,hs1,hg1,hz1⟩;obtain ⟨k,rfl⟩:=zG hr0;have hk:k<n:=by have:=hr1 (by omega);omega
 obtain ⟨x,hx,hcx,hxb⟩:=Hc.out k (by have:=Hn.out;omega);have hcx':w1.cell? ⟨b',off+k,none⟩=some (.int .i64 x):=(World.cell?_of_block (w:=w) (a:=⟨b',off+k,none⟩) (hg1.block b' hlt.2 (fun e=>hbb (zD e)))).trans hcx;have Hx:=hid hx;have Hz:=hid hz1;clear hz1 hx hcx hr1;go_wp2;go_ret;exact ⟨⟨x,rfl,zC Hx.out⟩,hs1,hg1,Hz.out⟩
theorem l00From_any {w:World} {A:Nat} {v:Value} {cs:List Int} (ha:Rds eB A w v cs) (hA:A<=w.heap.size) :
 Calls Tryz.prog 21 #[v] w fun e w'=>e=.returned (.pointer (some ⟨w.heap.size,0,none⟩))/\Src w' w.heap.size 0/\Below w.heap.size w w':=by
 have Ha:=hid ha;obtain ⟨ao,cap,rfl⟩:=ha.shape;clear ha;go_enter Tryz.func21,Tryz.ntmps21;go_wp2;go_ret;refine ⟨rfl,?_,(zB _ _).alloc (zA _) _⟩;exact ⟨_,cs,0,0,A,heap_alloc_new w _,Ha.out.below ((zB _ _).alloc (zA _) _) hA,hA,zA _,by omega,by omega⟩
section
variable {α:Type} {E:Elt α} {e:TypeId} {base b:Nat} {w w':World} {v:Value} {xs:List α}
theorem Own.keptS (h:Own E e base w v xs) (hg:w.grownBy w' (some b)) (hb:b<base):Own E e base w' v xs:=by
 refine h.kept hg ?_;rcases ho:v.ownBlock with _ | k
 . exact .inl rfl
 . right;have:=(h.lt k ho).1;intro e;have:=zD e;omega
theorem grown_below {B:Nat} {a:World} (hb:Below B a w) (hg:w.grownBy w' (some b)) (hB:B<=b) (hs:B<=w.heap.size):Below B a w':=hb.grown hg hs (fun k hk=>by have:=zD hk;omega)
end
theorem yAW {w w2 w3:World} {b:Nat} {row:Option Nat} (hg2:w.grownBy w2 (some b)) (hg3:w2.grownBy w3 row) (hr:∀ k,row=some k->w.heap.size<=k):w.grownBy w3 (some b):=by
 refine ⟨hg3.os.trans hg2.os,hg3.tape.trans hg2.tape,hg3.output.trans hg2.output,zO hg2.size hg3.size,fun k hk hne=>?_⟩;rw [hg3.block k (by have:=hg2.size;omega) (fun e=>by have:=hr k e.symm;omega)];exact hg2.block k hk hne
end Go.Proofs.YtmindpfmgnnieaaGreatDoor
