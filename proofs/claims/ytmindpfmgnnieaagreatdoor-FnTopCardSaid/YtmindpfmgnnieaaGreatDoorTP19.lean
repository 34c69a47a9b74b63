/- Lemmas on the way to the law FnTop. No condition. -/
import Derived.Test.YtmindpfmgnnieaaGreatDoorTP10
import Derived.Test.YtmindpfmgnnieaaGreatDoorTP6
import Derived.Test.YtmindpfmgnnieaaGreatDoorTP13
namespace Go.Proofs.YtmindpfmgnnieaaGreatDoor
set_option maxHeartbeats 2000000
set_option linter.unusedSimpArgs false
open Lib (hid)
open Go.ChangeShapes Go.WideShapes Go.ChangeAt Go.RowKit
set_option linter.unusedVariables false
set_option maxRecDepth 100000
theorem Box.keptB {w w':World} {b:Nat} {cs:List Value} {row:Option Nat} (h:Box w b cs) (hg:w.grownBy w' row) (hne:row ≠ some b):Box w' b cs:=by
 have hb:=hg.block b h.lt (fun e=>hne e.symm);exact ⟨zM h.lt hg.size,fun j v hj=>(World.cell?_of_block (w:=w) (a:=⟨b,j,none⟩) hb).trans (h.cell j v hj),fun j=>(World.frozen?_of_block (w:=w) (a:=⟨b,j,none⟩) hb).trans (h.free j)⟩
theorem yAS (w:World) (a:Addr) (u:Value):w.grownBy (w.setCell a u) (some a.block) :=
 ⟨rfl,rfl,rfl,by simp [World.setCell],fun k hk hne=>Below.heap_setCell _ _ _ _ (fun e=>hne (by rw [e]))⟩
def I64 (n:Int):Prop:=-9223372036854775808<=n/\n<=9223372036854775807
theorem amongL (xs:List Int) {w:World} {b N n:Nat} {cs:Array Value} (hs:Src w b N) (hN:N<=1000000000) (hcs:cs=(eI.all xs).toArray) (hn:n=xs.length) (h0:0<xs.length/\xs.length<=1000) (hx:∀ x∈xs,-9223372036854775808<=x/\x<=9223372036854775807) :
 Calls Tryz.prog 139 #[.pointer (some ⟨b,0,none⟩),.slice (some ⟨w.heap.size,0,none⟩) n n] (w.alloc (.cells cs 2)) fun e w'=>(∃ r:Int,e=.returned (.int .i64 r)/\r∈xs)/\Src w' b (N+2)/\w.grownBy w' (some b):=by
 have hb:=hs.lt;refine (among_any (xs:=xs) (hs.alloc _) hN (Own.lit (E:=eI) (base:=0) (zK _) hcs hn (by have:=h0.2;unfold maxLen;omega) hx).rds (zA _) h0 ?_).mono ?_
 . intro k hk
   simp [Value.ownBlock] at hk;omega
 . rintro e w2 ⟨hr,h2,hg,_⟩
   exact ⟨hr,h2,yAA (World.grownBy_alloc _ _ (some b)) hg⟩
def FinP (w W:World) (b N:Nat):Prop:=Src W b N/\w.grownBy W (some b)
theorem FinP.set {w W:World} {b N R j:Nat} {v:Value} (h:FinP w W b N) (hb:b<w.heap.size) (hR:w.heap.size<=R):FinP w (W.setCell ⟨R,j,none⟩ v) b N:=by
 have hg:=yAS W ⟨R,j,none⟩ v;exact ⟨h.1.kept hg (fun k hk=>by have:=zD hk;simp at this;omega),yAW h.2 hg (fun k hk=>by have:=zD hk;simp at this;omega)⟩
theorem FinP.more {w W:World} {b N M:Nat} (h:FinP w W b N) (hm:N<=M):Src W b M/\w.grownBy W (some b):=⟨h.1.mono hm,h.2⟩
structure FInv (w W:World) (b N R D:Nat) (p:FaultT):Prop where
 src:Src W b N
 gr:w.grownBy W (some b)
 hR:Box W R [.int .i64 0,.int .i64 0,.int .i64 0,.int .i64 0]
 hD:Box W D [.int .i64 p.kind,.int .i64 p.card,.int .i64 p.place,.int .i64 p.digit]
 bR:w.heap.size<=R
 bD:w.heap.size<=D
 bb:b<w.heap.size
 ne:R ≠ D
 ok:I64 p.kind/\I64 p.card/\I64 p.place/\I64 p.digit
theorem FInv.fin {w W:World} {b N R D:Nat} {p:FaultT} (h:FInv w W b N R D p):FinP w W b N:=⟨h.src,h.gr⟩
theorem FInv.kept {w W W':World} {b N M R D:Nat} {p:FaultT} (h:FInv w W b N R D p) (hs:Src W' b M) (hg:W.grownBy W' (some b)):FInv w W' b M R D p:=by
 have h1:=h.bR;have h2:=h.bD;have h3:=h.bb;exact ⟨hs,yAA h.gr hg,h.hR.keptB hg (fun e=>by have:=zD e;omega),h.hD.keptB hg (fun e=>by have:=zD e;omega),h.bR,h.bD,h.bb,h.ne,h.ok⟩
theorem FInv.put {w W:World} {b N R D j:Nat} {p p':FaultT} {v:Value} (h:FInv w W b N R D p) (hj:j<4) (hc:[Value.int .i64 p.kind,.int .i64 p.card,.int .i64 p.place,.int .i64 p.digit].set j v=[.int .i64 p'.kind,.int .i64 p'.card,.int .i64 p'.place,.int .i64 p'.digit])
 (ok:I64 p'.kind/\I64 p'.card/\I64 p'.place/\I64 p'.digit):FInv w (W.setCell ⟨D,j,none⟩ v) b N R D p':=by
 have hf:=h.fin.set (j:=j) (v:=v) h.bb h.bD;have hb:=h.hD.set1 (j:=j) hj v;rw [hc] at hb;exact ⟨hf.1,hf.2,h.hR.keptB (yAS W ⟨D,j,none⟩ v) (fun e=>h.ne (zD e).symm),hb,h.bR,h.bD,h.bb,h.ne,ok⟩
theorem max1_bd {n:Int} (h:0<=n/\n<=1000):1<=maxI 1 n/\maxI 1 n<=1000:=by unfold maxI;split <;> omega
theorem l19DrawFault_any {w:World} {b N:Nat} (n:Int) (hs:Src w b N) (hN:N<=100000) (hn:0<=n/\n<=1000) :
 Calls Tryz.prog 96 #[.pointer (some ⟨b,0,none⟩),.int .i64 n] w fun e w'=>(∃ p:FaultT,e=.returned (vFault p)/\okFault p)/\Src w' b (N+40)/\w.grownBy w' (some b):=by
 have hbl:=hs.lt;have hmx:=max1_bd hn;go_enter Tryz.func96,Tryz.ntmps96;go_wp2_with fail;refine (yAO 3 (hs.alloc _) (by omega) (by omega)).mono ?_;rintro e w1 ⟨⟨r,rfl,hr0,hr1,_⟩,hs1,hg1,-⟩;have hr2:=hr1 (by omega);have hR1:=(Box.new w [.int .i64 0,.int .i64 0,.int .i64 0,.int .i64 0] 155).keptB hg1 (fun e=>by have:=zD e;omega);have hga:=yAA (World.grownBy_alloc w _ (some b)) hg1;have hsz1:w.heap.size<w1.heap.size:=hR1.lt;obtain ⟨k0,hk0⟩:∃ k0,k0=1+r:=⟨_,rfl⟩;obtain ⟨W,hW⟩:∃ W,W=w1.alloc (.cells #[.int .i64 k0,.int .i64 0,.int .i64 0,.int .i64 0] 155):=⟨_,rfl⟩;have P0:FInv w W b (N+2) w.heap.size w1.heap.size ⟨k0,0,0,0⟩:=by
  rw [hW];exact ⟨hs1.alloc _,yAA hga (World.grownBy_alloc _ _ _),hR1.alloc _,Box.new w1 [.int .i64 k0,.int .i64 0,.int .i64 0,.int .i64 0] _,zA _,by omega,hbl,by omega,by unfold I64;simp only;omega⟩
 have hkb:1<=k0/\k0<=3:=by omega
 obtain ⟨hkb0,hkb1⟩:=hkb;have HW:=hid hW;have Hk:=hid hk0;clear hW hk0 hs hs1 hg1 hR1 hga hr1;go_upto_region 2 with fail;rw [<- Hk.out,<- HW.out];clear HW Hk hr0 hr2;generalize w1.heap.size=D at P0 hsz1 |-;generalize hRR:w.heap.size=R at P0 |-;have hR0:=P0.bR;have hD0:=P0.bD;have hne:=P0.ne;have hne':=P0.ne.symm;clear hRR;go_wp2_with fail;refine (l00Max_any 1 n _).mono ?_;rintro e w' ⟨rfl,rfl⟩;go_wp2_with fail;refine (yAO (maxI 1 n) P0.src (by omega) (by omega)).mono ?_;rintro e w2 ⟨⟨c,rfl,hc0,hc1,_⟩,hs2,hg2,-⟩;have hc2:=hc1 hmx.1;have hcI:I64 c:=by unfold I64;omega
 have P1:=P0.kept hs2 hg2;have HcI:=hid hcI;obtain ⟨hmx0,hmx1⟩:=hmx;clear hs2 hg2 hc1 P0 hcI hc2 hc0;by_cases hk3:k0=3
 . subst hk3
   have d0:=P1.hD.cell 0 _ rfl;have d1:=P1.hD.cell 1 _ rfl;have f1:=P1.hD.free 1;go_wp2_with fail;with_reducible refine (yAO 4 (FInv.put P1 (j:=1) (p':=⟨3,c,0,0⟩) (by decide) ?hc ?hok).src (by omega) (by omega)).mono ?_
   case hc=>rfl
   case hok=>exact ⟨P1.ok.1,HcI.out,P1.ok.2.2.1,P1.ok.2.2.2⟩
   rintro e w3 ⟨⟨pl,rfl,hp0,hp1,_⟩,hs3,hg3,-⟩;have hp2:=hp1 (by omega);have P3:=(FInv.put P1 (j:=1) (p':=⟨3,c,0,0⟩) (by decide) rfl ⟨P1.ok.1,HcI.out,P1.ok.2.2.1,P1.ok.2.2.2⟩).kept hs3 hg3;have HpI:Hid (I64 pl):=hid (by unfold I64;omega);clear d0 d1 f1 P1 hs3 hg3 hp1;have d2:=P3.hD.cell 2 _ rfl;have f2:=P3.hD.free 2;go_wp2_with fail;with_reducible refine (yAO 10 (FInv.put P3 (j:=2) (p':=⟨3,c,pl,0⟩) (by decide) ?hc ?hok).src (by omega) (by omega)).mono ?_
   case hc=>rfl
   case hok=>exact ⟨P3.ok.1,P3.ok.2.1,HpI.out,P3.ok.2.2.2⟩
   rintro e w4 ⟨⟨dg,rfl,hd0,hd1,_⟩,hs4,hg4,-⟩;have hd2:=hd1 (by omega);have P4:=(FInv.put P3 (j:=2) (p':=⟨3,c,pl,0⟩) (by decide) rfl ⟨P3.ok.1,P3.ok.2.1,HpI.out,P3.ok.2.2.2⟩).kept hs4 hg4;have HdI:Hid (I64 dg):=hid (by unfold I64;omega);clear d2 f2 P3 hs4 hg4 hd1;have d3:=P4.hD.cell 3 _ rfl;have f3:=P4.hD.free 3;go_wp2_with fail;with_reducible refine (yAO 20 (FInv.put P4 (j:=3) (p':=⟨3,c,pl,dg⟩) (by decide) ?hc ?hok).src (by omega) (by omega)).mono ?_
   case hc=>rfl
   case hok=>exact ⟨P4.ok.1,P4.ok.2.1,P4.ok.2.2.1,HdI.out⟩
   rintro e w5 ⟨⟨q,rfl,hq0,hq1,_⟩,hs5,hg5,-⟩;have P5:=(FInv.put P4 (j:=3) (p':=⟨3,c,pl,dg⟩) (by decide) rfl ⟨P4.ok.1,P4.ok.2.1,P4.ok.2.2.1,HdI.out⟩).kept hs5 hg5;clear d3 f3 P4 hs5 hg5 hq1;by_cases q0:q=0
   . subst q0
     go_wp2_with fail;with_reducible refine Calls.mono (amongL [0,4] P5.src (by omega) ?hcs ?hn (by decide) (by decide)) ?_
     case hcs=>rfl
     case hn=>rfl
     rintro e w7 ⟨⟨s7,rfl,hss7⟩,hs7,hg7⟩;have P7:=P5.kept hs7 hg7;have Ok0:Hid (I64 s7):=hid (by unfold I64;simp at hss7;omega);have Ok1:Hid (I64 c):=hid (P5.ok.2.1);have Ok2:Hid (I64 pl):=hid (P5.ok.2.2.1);have Ok3:Hid (I64 dg):=hid (P5.ok.2.2.2);have Hfin:=hid P7.fin;have d0:=P7.hD.cell 0 _ rfl;have d1:=P7.hD.cell 1 _ rfl;have d2:=P7.hD.cell 2 _ rfl;have d3:=P7.hD.cell 3 _ rfl;have f0:=P7.hD.free 0;have f1:=P7.hD.free 1;have f2:=P7.hD.free 2;have f3:=P7.hD.free 3;have r0:=P7.hR.cell 0 _ rfl;have r1:=P7.hR.cell 1 _ rfl;have r2:=P7.hR.cell 2 _ rfl;have r3:=P7.hR.cell 3 _ rfl;have e0:=P7.hR.free 0;have e1:=P7.hR.free 1;have e2:=P7.hR.free 2;have e3:=P7.hR.free 3;clear P7 P5 hs7 hg7 hss7;go_wp2;refine bodyPost_ret (v:=vFault ⟨s7,c,pl,dg⟩) (by simp [results,Tryz.results96,go_sem,hne,hne',d0,d1,d2,d3,r0,r1,r2,r3]) rfl ⟨⟨⟨s7,c,pl,dg⟩,rfl,⟨Ok0.out,Ok1.out,Ok2.out,Ok3.out⟩⟩,?_⟩;have h:=(show FinP w _ b (N+40) from ⟨Hfin.out.1.mono (by omega),Hfin.out.2⟩);refine FinP.more (N:=N+40) ?_ (zA _);repeat (refine FinP.set ?_ hbl (by omega))
     exact h
   by_cases q1:q=1
   . subst q1
     clear q0;go_wp2_with fail;with_reducible refine Calls.mono (amongL [-1,11,12] P5.src (by omega) ?hcs ?hn (by decide) (by decide)) ?_
     case hcs=>rfl
     case hn=>rfl
     rintro e w7 ⟨⟨s7,rfl,hss7⟩,hs7,hg7⟩;have P7:=P5.kept hs7 hg7;have Ok0:Hid (I64 3):=hid (P5.ok.1);have Ok1:Hid (I64 s7):=hid (by unfold I64;simp at hss7;omega);have Ok2:Hid (I64 pl):=hid (P5.ok.2.2.1);have Ok3:Hid (I64 dg):=hid (P5.ok.2.2.2);have Hfin:=hid P7.fin;have d0:=P7.hD.cell 0 _ rfl;have d1:=P7.hD.cell 1 _ rfl;have d2:=P7.hD.cell 2 _ rfl;have d3:=P7.hD.cell 3 _ rfl;have f0:=P7.hD.free 0;have f1:=P7.hD.free 1;have f2:=P7.hD.free 2;have f3:=P7.hD.free 3;have r0:=P7.hR.cell 0 _ rfl;have r1:=P7.hR.cell 1 _ rfl;have r2:=P7.hR.cell 2 _ rfl;have r3:=P7.hR.cell 3 _ rfl;have e0:=P7.hR.free 0;have e1:=P7.hR.free 1;have e2:=P7.hR.free 2;have e3:=P7.hR.free 3;clear P7 P5 hs7 hg7 hss7;go_wp2;refine bodyPost_ret (v:=vFault ⟨3,s7,pl,dg⟩) (by simp [results,Tryz.results96,go_sem,hne,hne',d0,d1,d2,d3,r0,r1,r2,r3]) rfl ⟨⟨⟨3,s7,pl,dg⟩,rfl,⟨Ok0.out,Ok1.out,Ok2.out,Ok3.out⟩⟩,?_⟩;have h:=(show FinP w _ b (N+40) from ⟨Hfin.out.1.mono (by omega),Hfin.out.2⟩);refine FinP.more (N:=N+40) ?_ (zA _);repeat (refine FinP.set ?_ hbl (by omega))
     exact h
   by_cases q2:q=2
   . subst q2
     clear q0 q1;go_wp2_with fail;with_reducible refine Calls.mono (amongL [-1,1,3,4] P5.src (by omega) ?hcs ?hn (by decide) (by decide)) ?_
     case hcs=>rfl
     case hn=>rfl
     rintro e w7 ⟨⟨s7,rfl,hss7⟩,hs7,hg7⟩;have P7:=P5.kept hs7 hg7;have Ok0:Hid (I64 3):=hid (P5.ok.1);have Ok1:Hid (I64 c):=hid (P5.ok.2.1);have Ok2:Hid (I64 s7):=hid (by unfold I64;simp at hss7;omega);have Ok3:Hid (I64 dg):=hid (P5.ok.2.2.2);have Hfin:=hid P7.fin;have d0:=P7.hD.cell 0 _ rfl;have d1:=P7.hD.cell 1 _ rfl;have d2:=P7.hD.cell 2 _ rfl;have d3:=P7.hD.cell 3 _ rfl;have f0:=P7.hD.free 0;have f1:=P7.hD.free 1;have f2:=P7.hD.free 2;have f3:=P7.hD.free 3;have r0:=P7.hR.cell 0 _ rfl;have r1:=P7.hR.cell 1 _ rfl;have r2:=P7.hR.cell 2 _ rfl;have r3:=P7.hR.cell 3 _ rfl;have e0:=P7.hR.free 0;have e1:=P7.hR.free 1;have e2:=P7.hR.free 2;have e3:=P7.hR.free 3;clear P7 P5 hs7 hg7 hss7;go_wp2;refine bodyPost_ret (v:=vFault ⟨3,c,s7,dg⟩) (by simp [results,Tryz.results96,go_sem,hne,hne',d0,d1,d2,d3,r0,r1,r2,r3]) rfl ⟨⟨⟨3,c,s7,dg⟩,rfl,⟨Ok0.out,Ok1.out,Ok2.out,Ok3.out⟩⟩,?_⟩;have h:=(show FinP w _ b (N+40) from ⟨Hfin.out.1.mono (by omega),Hfin.out.2⟩);refine FinP.more (N:=N+40) ?_ (zA _);repeat (refine FinP.set ?_ hbl (by omega))
     exact h
   by_cases q3:q=3
   . subst q3
     clear q0 q1 q2;go_wp2_with fail;with_reducible refine Calls.mono (amongL [-1,1,9,10] P5.src (by omega) ?hcs ?hn (by decide) (by decide)) ?_
     case hcs=>rfl
     case hn=>rfl
     rintro e w7 ⟨⟨s7,rfl,hss7⟩,hs7,hg7⟩;have P7:=P5.kept hs7 hg7;have Ok0:Hid (I64 3):=hid (P5.ok.1);have Ok1:Hid (I64 c):=hid (P5.ok.2.1);have Ok2:Hid (I64 pl):=hid (P5.ok.2.2.1);have Ok3:Hid (I64 s7):=hid (by unfold I64;simp at hss7;omega);have Hfin:=hid P7.fin;have d0:=P7.hD.cell 0 _ rfl;have d1:=P7.hD.cell 1 _ rfl;have d2:=P7.hD.cell 2 _ rfl;have d3:=P7.hD.cell 3 _ rfl;have f0:=P7.hD.free 0;have f1:=P7.hD.free 1;have f2:=P7.hD.free 2;have f3:=P7.hD.free 3;have r0:=P7.hR.cell 0 _ rfl;have r1:=P7.hR.cell 1 _ rfl;have r2:=P7.hR.cell 2 _ rfl;have r3:=P7.hR.cell 3 _ rfl;have e0:=P7.hR.free 0;have e1:=P7.hR.free 1;have e2:=P7.hR.free 2;have e3:=P7.hR.free 3;clear P7 P5 hs7 hg7 hss7;go_wp2;refine bodyPost_ret (v:=vFault ⟨3,c,pl,s7⟩) (by simp [results,Tryz.results96,go_sem,hne,hne',d0,d1,d2,d3,r0,r1,r2,r3]) rfl ⟨⟨⟨3,c,pl,s7⟩,rfl,⟨Ok0.out,Ok1.out,Ok2.out,Ok3.out⟩⟩,?_⟩;have h:=(show FinP w _ b (N+40) from ⟨Hfin.out.1.mono (by omega),Hfin.out.2⟩);refine FinP.more (N:=N+40) ?_ (zA _);repeat (refine FinP.set ?_ hbl (by omega))
     exact h
   have e0':(q == 0)=false:=by simpa using q0
   have e1':(q == 1)=false:=by simpa using q1
   have e2':(q == 2)=false:=by simpa using q2
   have e3':(q == 3)=false:=by simpa using q3
   clear q0 q1 q2 q3;have Ok0:Hid (I64 3):=hid (P5.ok.1);have Ok1:Hid (I64 c):=hid (P5.ok.2.1);have Ok2:Hid (I64 pl):=hid (P5.ok.2.2.1);have Ok3:Hid (I64 dg):=hid (P5.ok.2.2.2);have Hfin:=hid P5.fin;have d0:=P5.hD.cell 0 _ rfl;have d1:=P5.hD.cell 1 _ rfl;have d2:=P5.hD.cell 2 _ rfl;have d3:=P5.hD.cell 3 _ rfl;have f0:=P5.hD.free 0;have f1:=P5.hD.free 1;have f2:=P5.hD.free 2;have f3:=P5.hD.free 3;have r0:=P5.hR.cell 0 _ rfl;have r1:=P5.hR.cell 1 _ rfl;have r2:=P5.hR.cell 2 _ rfl;have r3:=P5.hR.cell 3 _ rfl;have e0:=P5.hR.free 0;have e1:=P5.hR.free 1;have e2:=P5.hR.free 2;have e3:=P5.hR.free 3;clear P5;go_wp2;refine bodyPost_ret (v:=vFault ⟨3,c,pl,dg⟩) (by simp [results,Tryz.results96,go_sem,hne,hne',d0,d1,d2,d3,r0,r1,r2,r3]) rfl ⟨⟨⟨3,c,pl,dg⟩,rfl,⟨Ok0.out,Ok1.out,Ok2.out,Ok3.out⟩⟩,?_⟩;have h:=(show FinP w _ b (N+40) from ⟨Hfin.out.1.mono (by omega),Hfin.out.2⟩);refine FinP.more (N:=N+40) ?_ (zA _);repeat (refine FinP.set ?_ hbl (by omega))
   exact h
 . have hk3':(k0 == 3)=false:=by simpa using hk3
   have d0:=P1.hD.cell 0 _ rfl;have d1:=P1.hD.cell 1 _ rfl;have f1:=P1.hD.free 1;clear hk3;go_wp2_with fail;with_reducible refine (yAO 20 (FInv.put P1 (j:=1) (p':=⟨k0,c,0,0⟩) (by decide) ?hc ?hok).src (by omega) (by omega)).mono ?_
   case hc=>rfl
   case hok=>exact ⟨P1.ok.1,HcI.out,P1.ok.2.2.1,P1.ok.2.2.2⟩
   rintro e w5 ⟨⟨q,rfl,hq0,hq1,_⟩,hs5,hg5,-⟩;have P5:=(FInv.put P1 (j:=1) (p':=⟨k0,c,0,0⟩) (by decide) rfl ⟨P1.ok.1,HcI.out,P1.ok.2.2.1,P1.ok.2.2.2⟩).kept hs5 hg5;clear d0 d1 f1 P1 hs5 hg5 hq1 hk3';by_cases q0:q=0
   . subst q0
     go_wp2_with fail;with_reducible refine Calls.mono (amongL [0,4] P5.src (by omega) ?hcs ?hn (by decide) (by decide)) ?_
     case hcs=>rfl
     case hn=>rfl
     rintro e w7 ⟨⟨s7,rfl,hss7⟩,hs7,hg7⟩;have P7:=P5.kept hs7 hg7;have Ok0:Hid (I64 s7):=hid (by unfold I64;simp at hss7;omega);have Ok1:Hid (I64 c):=hid (P5.ok.2.1);have Ok2:Hid (I64 0):=hid (P5.ok.2.2.1);have Ok3:Hid (I64 0):=hid (P5.ok.2.2.2);have Hfin:=hid P7.fin;have d0:=P7.hD.cell 0 _ rfl;have d1:=P7.hD.cell 1 _ rfl;have d2:=P7.hD.cell 2 _ rfl;have d3:=P7.hD.cell 3 _ rfl;have f0:=P7.hD.free 0;have f1:=P7.hD.free 1;have f2:=P7.hD.free 2;have f3:=P7.hD.free 3;have r0:=P7.hR.cell 0 _ rfl;have r1:=P7.hR.cell 1 _ rfl;have r2:=P7.hR.cell 2 _ rfl;have r3:=P7.hR.cell 3 _ rfl;have e0:=P7.hR.free 0;have e1:=P7.hR.free 1;have e2:=P7.hR.free 2;have e3:=P7.hR.free 3;clear P7 P5 hs7 hg7 hss7;go_wp2;refine bodyPost_ret (v:=vFault ⟨s7,c,0,0⟩) (by simp [results,Tryz.results96,go_sem,hne,hne',d0,d1,d2,d3,r0,r1,r2,r3]) rfl ⟨⟨⟨s7,c,0,0⟩,rfl,⟨Ok0.out,Ok1.out,Ok2.out,Ok3.out⟩⟩,?_⟩;have h:=(show FinP w _ b (N+40) from ⟨Hfin.out.1.mono (by omega),Hfin.out.2⟩);refine FinP.more (N:=N+40) ?_ (zA _);repeat (refine FinP.set ?_ hbl (by omega))
     exact h
   by_cases q1:q=1
   . subst q1
     clear q0;go_wp2_with fail;with_reducible refine Calls.mono (amongL [-1,11,12] P5.src (by omega) ?hcs ?hn (by decide) (by decide)) ?_
     case hcs=>rfl
     case hn=>rfl
     rintro e w7 ⟨⟨s7,rfl,hss7⟩,hs7,hg7⟩;have P7:=P5.kept hs7 hg7;have Ok0:Hid (I64 k0):=hid (P5.ok.1);have Ok1:Hid (I64 s7):=hid (by unfold I64;simp at hss7;omega);have Ok2:Hid (I64 0):=hid (P5.ok.2.2.1);have Ok3:Hid (I64 0):=hid (P5.ok.2.2.2);have Hfin:=hid P7.fin;have d0:=P7.hD.cell 0 _ rfl;have d1:=P7.hD.cell 1 _ rfl;have d2:=P7.hD.cell 2 _ rfl;have d3:=P7.hD.cell 3 _ rfl;have f0:=P7.hD.free 0;have f1:=P7.hD.free 1;have f2:=P7.hD.free 2;have f3:=P7.hD.free 3;have r0:=P7.hR.cell 0 _ rfl;have r1:=P7.hR.cell 1 _ rfl;have r2:=P7.hR.cell 2 _ rfl;have r3:=P7.hR.cell 3 _ rfl;have e0:=P7.hR.free 0;have e1:=P7.hR.free 1;have e2:=P7.hR.free 2;have e3:=P7.hR.free 3;clear P7 P5 hs7 hg7 hss7;go_wp2;refine bodyPost_ret (v:=vFault ⟨k0,s7,0,0⟩) (by simp [results,Tryz.results96,go_sem,hne,hne',d0,d1,d2,d3,r0,r1,r2,r3]) rfl ⟨⟨⟨k0,s7,0,0⟩,rfl,⟨Ok0.out,Ok1.out,Ok2.out,Ok3.out⟩⟩,?_⟩;have h:=(show FinP w _ b (N+40) from ⟨Hfin.out.1.mono (by omega),Hfin.out.2⟩);refine FinP.more (N:=N+40) ?_ (zA _);repeat (refine FinP.set ?_ hbl (by omega))
     exact h
   by_cases q2:q=2
   . subst q2
     clear q0 q1;go_wp2_with fail;with_reducible refine Calls.mono (amongL [-1,1,3,4] P5.src (by omega) ?hcs ?hn (by decide) (by decide)) ?_
     case hcs=>rfl
     case hn=>rfl
     rintro e w7 ⟨⟨s7,rfl,hss7⟩,hs7,hg7⟩;have P7:=P5.kept hs7 hg7;have Ok0:Hid (I64 k0):=hid (P5.ok.1);have Ok1:Hid (I64 c):=hid (P5.ok.2.1);have Ok2:Hid (I64 s7):=hid (by unfold I64;simp at hss7;omega);have Ok3:Hid (I64 0):=hid (P5.ok.2.2.2);have Hfin:=hid P7.fin;have d0:=P7.hD.cell 0 _ rfl;have d1:=P7.hD.cell 1 _ rfl;have d2:=P7.hD.cell 2 _ rfl;have d3:=P7.hD.cell 3 _ rfl;have f0:=P7.hD.free 0;have f1:=P7.hD.free 1;have f2:=P7.hD.free 2;have f3:=P7.hD.free 3;have r0:=P7.hR.cell 0 _ rfl;have r1:=P7.hR.cell 1 _ rfl;have r2:=P7.hR.cell 2 _ rfl;have r3:=P7.hR.cell 3 _ rfl;have e0:=P7.hR.free 0;have e1:=P7.hR.free 1;have e2:=P7.hR.free 2;have e3:=P7.hR.free 3;clear P7 P5 hs7 hg7 hss7;go_wp2;refine bodyPost_ret (v:=vFault ⟨k0,c,s7,0⟩) (by simp [results,Tryz.results96,go_sem,hne,hne',d0,d1,d2,d3,r0,r1,r2,r3]) rfl ⟨⟨⟨k0,c,s7,0⟩,rfl,⟨Ok0.out,Ok1.out,Ok2.out,Ok3.out⟩⟩,?_⟩;have h:=(show FinP w _ b (N+40) from ⟨Hfin.out.1.mono (by omega),Hfin.out.2⟩);refine FinP.more (N:=N+40) ?_ (zA _);repeat (refine FinP.set ?_ hbl (by omega))
     exact h
   by_cases q3:q=3
   . subst q3
     clear q0 q1 q2;go_wp2_with fail;with_reducible refine Calls.mono (amongL [-1,1,9,10] P5.src (by omega) ?hcs ?hn (by decide) (by decide)) ?_
     case hcs=>rfl
     case hn=>rfl
     rintro e w7 ⟨⟨s7,rfl,hss7⟩,hs7,hg7⟩;have P7:=P5.kept hs7 hg7;have Ok0:Hid (I64 k0):=hid (P5.ok.1);have Ok1:Hid (I64 c):=hid (P5.ok.2.1);have Ok2:Hid (I64 0):=hid (P5.ok.2.2.1);have Ok3:Hid (I64 s7):=hid (by unfold I64;simp at hss7;omega);have Hfin:=hid P7.fin;have d0:=P7.hD.cell 0 _ rfl;have d1:=P7.hD.cell 1 _ rfl;have d2:=P7.hD.cell 2 _ rfl;have d3:=P7.hD.cell 3 _ rfl;have f0:=P7.hD.free 0;have f1:=P7.hD.free 1;have f2:=P7.hD.free 2;have f3:=P7.hD.free 3;have r0:=P7.hR.cell 0 _ rfl;have r1:=P7.hR.cell 1 _ rfl;have r2:=P7.hR.cell 2 _ rfl;have r3:=P7.hR.cell 3 _ rfl;have e0:=P7.hR.free 0;have e1:=P7.hR.free 1;have e2:=P7.hR.free 2;have e3:=P7.hR.free 3;clear P7 P5 hs7 hg7 hss7;go_wp2;refine bodyPost_ret (v:=vFault ⟨k0,c,0,s7⟩) (by simp [results,Tryz.results96,go_sem,hne,hne',d0,d1,d2,d3,r0,r1,r2,r3]) rfl ⟨⟨⟨k0,c,0,s7⟩,rfl,⟨Ok0.out,Ok1.out,Ok2.out,Ok3.out⟩⟩,?_⟩;have h:=(show FinP w _ b (N+40) from ⟨Hfin.out.1.mono (by omega),Hfin.out.2⟩);refine FinP.more (N:=N+40) ?_ (zA _);repeat (refine FinP.set ?_ hbl (by omega))
     exact h
   have e0':(q == 0)=false:=by simpa using q0
   have e1':(q == 1)=false:=by simpa using q1
   have e2':(q == 2)=false:=by simpa using q2
   have e3':(q == 3)=false:=by simpa using q3
   clear q0 q1 q2 q3;have Ok0:Hid (I64 k0):=hid (P5.ok.1);have Ok1:Hid (I64 c):=hid (P5.ok.2.1);have Ok2:Hid (I64 0):=hid (P5.ok.2.2.1);have Ok3:Hid (I64 0):=hid (P5.ok.2.2.2);have Hfin:=hid P5.fin;have d0:=P5.hD.cell 0 _ rfl;have d1:=P5.hD.cell 1 _ rfl;have d2:=P5.hD.cell 2 _ rfl;have d3:=P5.hD.cell 3 _ rfl;have f0:=P5.hD.free 0;have f1:=P5.hD.free 1;have f2:=P5.hD.free 2;have f3:=P5.hD.free 3;have r0:=P5.hR.cell 0 _ rfl;have r1:=P5.hR.cell 1 _ rfl;have r2:=P5.hR.cell 2 _ rfl;have r3:=P5.hR.cell 3 _ rfl;have e0:=P5.hR.free 0;have e1:=P5.hR.free 1;have e2:=P5.hR.free 2;have e3:=P5.hR.free 3;clear P5;go_wp2;refine bodyPost_ret (v:=vFault ⟨k0,c,0,0⟩) (by simp [results,Tryz.results96,go_sem,hne,hne',d0,d1,d2,d3,r0,r1,r2,r3]) rfl ⟨⟨⟨k0,c,0,0⟩,rfl,⟨Ok0.out,Ok1.out,Ok2.out,Ok3.out⟩⟩,?_⟩;have h:=(show FinP w _ b (N+40) from ⟨Hfin.out.1.mono (by omega),Hfin.out.2⟩);refine FinP.more (N:=N+40) ?_ (zA _);repeat (refine FinP.set ?_ hbl (by omega))
   exact h
end Go.Proofs.YtmindpfmgnnieaaGreatDoor
