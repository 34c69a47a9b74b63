/- Lemmas on the way to the law FnRestarts. No condition. -/
import Derived.Test.YthdaghfhlfjclaaGreatMR11
import Derived.Test.YthdaghfhlfjclaaGreatMR7
import Derived.Test.YthdaghfhlfjclaaGreatMR12
namespace Go.Proofs.YthdaghfhlfjclaaGreat
set_option maxHeartbeats 1000000
set_option linter.unusedSimpArgs false
open Lib (hid)
open Go.ChangeShapes Go.WideShapes Go.ChangeAt Go.RowKit
set_option linter.unusedVariables false
set_option maxRecDepth 100000
theorem Box.keptB {w w':World} {b:Nat} {cs:List Value} {row:Option Nat} (h:Box w b cs) (hg:w.grownBy w' row) (hne:row ≠ some b):Box w' b cs:=by
 have hb:=hg.block b h.lt (fun e=>hne e.symm);exact ⟨zM h.lt hg.size,fun j v hj=>(World.cell?_of_block (w:=w) (a:=⟨b,j,none⟩) hb).trans (h.cell j v hj),fun j=>(World.frozen?_of_block (w:=w) (a:=⟨b,j,none⟩) hb).trans (h.free j)⟩
theorem yAR (w:World) (a:Addr) (u:Value):w.grownBy (w.setCell a u) (some a.block) :=
 ⟨rfl,rfl,rfl,by simp [World.setCell],fun k hk hne=>Below.heap_setCell _ _ _ _ (fun e=>hne (by rw [e]))⟩
def I64 (n:Int):Prop:=-9223372036854775808<=n/\n<=9223372036854775807
theorem wrapI (n:Int):I64 (IntKind.i64.wrap n):=by unfold I64;rw [IntKind.wrap_i64];omega
theorem amongL (xs:List Int) {w:World} {b N n:Nat} {cs:Array Value} (hs:Src w b N) (hN:N<=1000000000) (hcs:cs=(eI.all xs).toArray) (hn:n=xs.length) (h0:0<xs.length/\xs.length<=1000) (hx:∀ x∈xs,-9223372036854775808<=x/\x<=9223372036854775807) :
 Calls Tryz.prog 69 #[.pointer (some ⟨b,0,none⟩),.slice (some ⟨w.heap.size,0,none⟩) n n] (w.alloc (.cells cs 2)) fun e w'=>(∃ r:Int,e=.returned (.int .i64 r)/\r∈xs)/\Src w' b (N+2)/\w.grownBy w' (some b):=by
 have hb:=hs.lt;refine (among_any (xs:=xs) (hs.alloc _) hN (Own.lit (E:=eI) (base:=0) (zK _) hcs hn (by have:=h0.2;unfold maxLen;omega) hx).rds (zA _) h0 ?_).mono ?_
 . intro k hk
   simp [Value.ownBlock] at hk;omega
 . rintro e w2 ⟨hr,h2,hg,_⟩
   exact ⟨hr,h2,yAA (World.grownBy_alloc _ _ (some b)) hg⟩
def FinP (w W:World) (b N:Nat):Prop:=Src W b N/\w.grownBy W (some b)
theorem FinP.set {w W:World} {b N R j:Nat} {v:Value} (h:FinP w W b N) (hb:b<w.heap.size) (hR:w.heap.size<=R):FinP w (W.setCell ⟨R,j,none⟩ v) b N:=by
 have hg:=yAR W ⟨R,j,none⟩ v;exact ⟨h.1.kept hg (fun k hk=>by have:=zD hk;simp at this;omega),yAS h.2 hg (fun k hk=>by have:=zD hk;simp at this;omega)⟩
theorem FinP.more {w W:World} {b N M:Nat} (h:FinP w W b N) (hm:N<=M):Src W b M/\w.grownBy W (some b):=⟨h.1.mono hm,h.2⟩
theorem l02DrawField_any {w:World} {b N:Nat} (hs:Src w b N) (hN:N<=1000000) :
 Calls Tryz.prog 200 #[.pointer (some ⟨b,0,none⟩),.int .i64 5] w fun e w'=>(∃ f t:Int,e=.returned (.agg #[.int .i64 f,.int .i64 t])/\I64 f/\I64 t)/\Src w' b (N+10)/\w.grownBy w' (some b):=by
 have hbl:=hs.lt;obtain ⟨W,hW⟩:∃ W,W=w.alloc (.cells #[.int .i64 0,.int .i64 0] 73):=⟨_,rfl⟩;have hX0:Box W w.heap.size [.int .i64 0,.int .i64 0]:=by rw [hW];exact Box.new w [.int .i64 0,.int .i64 0] _
 have hs0:Src W b N:=by rw [hW];exact hs.alloc _
 have hg0:w.grownBy W (some b):=by rw [hW];exact World.grownBy_alloc _ _ _
 have HW:=hid hW;clear hW hs;go_enter Tryz.func200,Tryz.ntmps200;go_upto_region 1 with fail;rw [<- HW.out];go_wp2_with fail;with_reducible refine (one_any 12 hs0 (by omega) (by omega)).mono ?_
 rintro e w1 ⟨⟨q,rfl⟩,hs1,hg1,-⟩;have hX1:=hX0.keptB hg1 (fun e=>by have:=zD e;omega);have hg1':=yAA hg0 hg1;clear hs0 hg0 hX0 hg1;cases q with
 | true =>
  go_wp2_with fail;with_reducible refine Calls.mono (amongL [-1,0,1,5,9223372036854775807,-9223372036854775808] hs1 (by omega) ?hcs ?hn (by decide) (by decide)) ?_
  case hcs=>rfl
  case hn=>rfl
  rintro e w2 ⟨⟨r,rfl,hr⟩,hs2,hg2⟩;have hX2:=hX1.keptB hg2 (fun e=>by have:=zD e;omega);have hg2':=yAA hg1' hg2;have Hr:Hid (I64 r):=hid (by unfold I64;simp at hr;omega);clear hs1 hg1' hX1 hg2 hr;go_wp2_with fail;with_reducible refine Calls.mono (amongL [0,1,5,6,9223372036854775807] hs2 (by omega) ?hcs2 ?hn2 (by decide) (by decide)) ?_
  case hcs2=>rfl
  case hn2=>rfl
  rintro e w3 ⟨⟨r2,rfl,hr2⟩,hs3,hg3⟩;have hX3:=hX2.keptB hg3 (fun e=>by have:=zD e;omega);have hg3':=yAA hg2' hg3;have Hr2:Hid (I64 r2):=hid (by unfold I64;simp at hr2;omega);clear hs2 hg2' hX2 hg3 hr2;have c0:=hX3.cell 0 _ rfl;have c1:=hX3.cell 1 _ rfl;have f0:=hX3.free 0;have f1:=hX3.free 1;have Hs3:=hid hs3;have Hg3:=hid hg3';clear hs3 hg3';go_wp2;refine bodyPost_ret (v:=.agg #[.int .i64 r,.int .i64 r2]) (by simp [results,Tryz.results200,go_sem,c0,c1]) rfl ⟨⟨_,_,rfl,Hr.out,Hr2.out⟩,?_⟩;refine FinP.more (N:=N+10) ?_ (zA _);repeat (refine FinP.set ?_ hbl (by omega))
  exact ⟨Hs3.out.mono (by omega),Hg3.out⟩
 | false =>
  go_wp2_with fail;with_reducible refine (l00Max_any _ _ _).mono ?_
  rintro e w2 ⟨rfl,rfl⟩;rw [show maxI 1 5=5 from by decide];go_wp2_with fail;with_reducible refine (yAK 5 hs1 (by omega) (by omega)).mono ?_
  rintro e w2 ⟨⟨r,rfl,hr0,hr1,_⟩,hs2,hg2,-⟩;have hr2:=hr1 (by omega);have hX2:=hX1.keptB hg2 (fun e=>by have:=zD e;omega);have hg2':=yAA hg1' hg2;clear hs1 hg1' hX1 hg2 hr1;go_wp2_with fail;with_reducible refine (l00Max_any _ _ _).mono ?_
  rintro e w3 ⟨rfl,rfl⟩;obtain ⟨M,hM⟩:∃ M,M=maxI 1 (5 - r):=⟨_,rfl⟩;have hM2:1<=M/\M<=5:=by rw [hM];unfold maxI;split <;> omega
  rw [<- hM];clear hM;go_wp2_with fail;with_reducible refine (yAK M hs2 (by omega) (by omega)).mono ?_
  rintro e w3 ⟨⟨r2,rfl,hq0,hq1,_⟩,hs3,hg3,-⟩;have hq2:=hq1 (by omega);have hX3:=hX2.keptB hg3 (fun e=>by have:=zD e;omega);have hg3':=yAA hg2' hg3;have Hr:Hid (I64 r):=hid (by unfold I64;omega);have Hr2:Hid (I64 (r+1+r2)):=hid (by unfold I64;omega);clear hs2 hg2' hX2 hg3 hq1;have c0:=hX3.cell 0 _ rfl;have c1:=hX3.cell 1 _ rfl;have f0:=hX3.free 0;have f1:=hX3.free 1;have Hs3:=hid hs3;have Hg3:=hid hg3';clear hs3 hg3';go_wp2;refine bodyPost_ret (v:=.agg #[.int .i64 r,.int .i64 (r+1+r2)]) (by simp [results,Tryz.results200,go_sem,c0,c1]) rfl ⟨⟨_,_,rfl,Hr.out,Hr2.out⟩,?_⟩;refine FinP.more (N:=N+10) ?_ (zA _);repeat (refine FinP.set ?_ hbl (by omega))
  exact ⟨Hs3.out.mono (by omega),Hg3.out⟩
end Go.Proofs.YthdaghfhlfjclaaGreat
