/- Lemmas on the way to the law FnRestarts. No condition. -/
import Derived.Test.YthdaghfhlfjclaaGreatMR37
import Derived.Test.YthdaghfhlfjclaaGreatMR10
import Derived.Test.YthdaghfhlfjclaaGreatMR22
namespace Go.Proofs.YthdaghfhlfjclaaGreat
set_option maxHeartbeats 1000000
set_option linter.unusedSimpArgs false
open Lib (hid)
open Go.ChangeShapes Go.WideShapes Go.ChangeAt Go.RowKit Go.Sort
set_option linter.unusedVariables false
set_option maxRecDepth 100000
structure DInv (w W:World) (B b N R D:Nat) (u v s:Value) (o:OffT) (xs:List StepT):Prop where
 off:OffN B (fun k=>k<B) W u v o
 lens:LensOk o
 own:OwnStepS B W s xs
 src:Src W b N
 bel:Below w.heap.size w W
 hR:Box W R [.slice none 0 0,.slice none 0 0]
 hD:Box W D [u,v]
 eR:w.heap.size<=R
 ab:R<b/\b<B/\B<=D
section
variable {w W W':World} {B b N M R D:Nat} {u v s:Value} {o:OffT} {xs:List StepT}
theorem DInv.kept (h:DInv w W B b N R D u v s o xs) (hs:Src W' b M) (hg:W.grownBy W' (some b)):DInv w W' B b M R D u v s o xs:=by
 have h1:=h.eR;have h2:=h.ab;have hlt:=h.off.lt;exact ⟨h.off.agr (Agr.of_grown1 (S:=fun k=>k=b) hg rfl) (fun k hk _=>⟨by show k<B;omega,fun e=>by have:=(hlt.1 k e).1;omega,fun e=>by have:=(hlt.2 k e).1;omega⟩) (fun k h _=>h),h.lens,h.own.keptS hg h2.2.1,hs,h.bel.grown hg h.bel.size (fun k hk=>by have:=zD hk;omega),
  h.hR.keptB hg (fun e=>by have:=zD e;omega),h.hD.keptB hg (fun e=>by have:=zD e;omega),h.eR,h.ab⟩
theorem DInv.fin (h:DInv w W B b N R D u v s o xs) (x y:Value):RdOff ((W.setCell ⟨R,0,none⟩ x).setCell ⟨R,1,none⟩ y).heap.size ((W.setCell ⟨R,0,none⟩ x).setCell ⟨R,1,none⟩ y) u v o/\RdStepS ((W.setCell ⟨R,0,none⟩ x).setCell ⟨R,1,none⟩ y).heap.size ((W.setCell ⟨R,0,none⟩ x).setCell ⟨R,1,none⟩ y) s xs/\Below w.heap.size w ((W.setCell ⟨R,0,none⟩ x).setCell ⟨R,1,none⟩ y):=by
 have h1:=h.eR;have h2:=h.ab;have hlt:=h.off.lt;have hA:=agr2 W R x y;have hne:∀ q,s.ownBlock=some q->q ≠ R:=fun q hq=>by have:=(h.own.lt q hq).1;omega
 refine ⟨(h.off.agr (X':=fun k=>k<B) hA (fun k (hk:k=R) _=>⟨by show k<B;omega,fun e=>by have:=(hlt.1 k e).1;omega,fun e=>by have:=(hlt.2 k e).1;omega⟩) (fun k h _=>h)).rd,?_,(h.bel.setCell h1 _).setCell h1 _⟩;exact ((h.own.kept (yAR W ⟨R,0,none⟩ x) (.inr (fun e=>hne R e rfl))).kept (yAR _ ⟨R,1,none⟩ y) (.inr (fun e=>hne R e rfl))).rds
theorem DInv.finD (h:DInv w W B b N R D u v s o xs) (x y:Value):RdOff ((W.setCell ⟨R,0,none⟩ x).setCell ⟨R,1,none⟩ y).drew.heap.size ((W.setCell ⟨R,0,none⟩ x).setCell ⟨R,1,none⟩ y).drew u v o/\RdStepS ((W.setCell ⟨R,0,none⟩ x).setCell ⟨R,1,none⟩ y).drew.heap.size ((W.setCell ⟨R,0,none⟩ x).setCell ⟨R,1,none⟩ y).drew s xs/\Below w.heap.size w ((W.setCell ⟨R,0,none⟩ x).setCell ⟨R,1,none⟩ y).drew :=
 ⟨(h.fin x y).1,(h.fin x y).2.1,(h.fin x y).2.2.drew1⟩
end
def DrawF (w:World) (e:Ending) (w':World):Prop :=
 ∃ (ao vo so:Option Addr) (n c m d p q:Nat) (o:OffT) (xs:List StepT) (k:Int),e=.returned (.tuple #[.agg #[.slice ao n c,.slice vo m d],.slice so p q,.int .i64 k])/\RdOff w'.heap.size w' (.slice ao n c) (.slice vo m d) o/\LensOk o/\RdStepS w'.heap.size w' (.slice so p q) xs/\(p=xs.length/\p<=21)/\I64 k/\Below w.heap.size w w'
def DrawF2 (w:World) (e:Ending) (w':World):Prop :=
 ∃ (ao vo so to9:Option Addr) (n c m d p q p2 q2:Nat) (o:OffT) (xs ys:List StepT),e=.returned (.tuple #[.agg #[.slice ao n c,.slice vo m d],.slice so p q,.slice to9 p2 q2])/\RdOff w'.heap.size w' (.slice ao n c) (.slice vo m d) o/\LensOk o/\RdStepS w'.heap.size w' (.slice so p q) xs/\RdStepS w'.heap.size w' (.slice to9 p2 q2) ys/\(p=xs.length/\p2=ys.length/\p+p2<=21)/\Below w.heap.size w w'
theorem amongX {w:World} {b N:Nat} (hs:Src w b N) (hN:N<=1000000000) :
 Calls Tryz.prog 69 #[.pointer (some ⟨b,0,none⟩),.slice (some ⟨w.heap.size,0,none⟩) 5 5] (w.alloc (.cells #[.int .i64 (-1),.int .i64 0,.int .i64 1,.int .i64 100,.int .i64 101] 2)).drew fun e w'=>(∃ r:Int,e=.returned (.int .i64 r)/\I64 r)/\Src w' b (N+2)/\w.grownBy w' (some b):=by
 have hb:=hs.lt;have hr:RdI (w.heap.size+1) (w.alloc (.cells #[.int .i64 (-1),.int .i64 0,.int .i64 1,.int .i64 100,.int .i64 101] 2)) (.slice (some ⟨w.heap.size,0,none⟩) 5 5) [-1,0,1,100,101]:=by
  have h:=(Own.lit (E:=eI) (e:=2) (base:=0) (w:=w) (xs:=[-1,0,1,100,101]) (cs:=#[.int .i64 (-1),.int .i64 0,.int .i64 1,.int .i64 100,.int .i64 101]) (n:=5) (zK _) rfl rfl (by decide) (fun x hx=>by show -9223372036854775808<=x/\x<=9223372036854775807;simp at hx;omega)).rds;simpa using h
 refine (among_any (xs:=[-1,0,1,100,101]) ((hs.alloc _).drew) hN (Rds.drew1 hr) (by simp) (by decide) ?_).mono ?_
 . intro k hk
   have h9:w.heap.size=k:=zD hk;omega
 . rintro e w2 ⟨⟨r,h1,h2⟩,h3,hg,_⟩
   exact ⟨⟨r,h1,by unfold I64;simp at h2;omega⟩,h3,yAA (World.grownBy_alloc _ _ (some b)) (yAA (yAV _ _) hg)⟩
theorem DrawStepMinutes_any {w:World} {A:Nat} {v:Value} {cs:List Int} (ha:Rds eB A w v cs) (hA:A<=w.heap.size) :
 Calls Tryz.prog 28 #[v] w fun e w'=>DrawF w e w':=by
 obtain ⟨ao0,c0,rfl⟩:=ha.shape;have Ha:=hid ha;have hR0:=Box.new w [.slice none 0 0,.slice none 0 0] 35;have hb0:Below w.heap.size w (w.alloc (.cells #[.slice none 0 0,.slice none 0 0] 35)):=(zB _ _).alloc (zA _) _;have ha1:=ha.onn hb0;have Ha1:=hid ha1;clear ha ha1;go_enter Tryz.func28,Tryz.ntmps28;go_wp2_with fail;with_reducible refine (l00From_any Ha1.out (zA _)).mono ?_
 rintro e w1 ⟨rfl,hs1,hb1⟩;have hsz:(w.alloc (.cells #[.slice none 0 0,.slice none 0 0] 35)).heap.size=w.heap.size+1:=by simp
 rw [hsz] at hs1 hb1 |-;have hR1:=hR0.below hb1 (by omega);have hb1':=hb0.trans (hb1.mono (by omega));have hs1l:=hs1.lt;clear hR0 hb0 hb1 hsz Ha1;go_wp2_with fail;with_reducible refine (l20Flow_any hs1 (by omega)).mono ?_
 rintro e w2 ⟨ao,vo,so,n,c,m,d,p,q,o,xs,rfl,hO,hS,hp,hp21⟩;obtain ⟨R,hR⟩:∃ R,R=w.heap.size:=⟨_,rfl⟩;obtain ⟨b,hb⟩:∃ b,b=w.heap.size+1:=⟨_,rfl⟩;obtain ⟨D,hD⟩:∃ D,D=w2.heap.size:=⟨_,rfl⟩;obtain ⟨W,hW⟩:∃ W,W=w2.alloc (.cells #[.slice ao n c,.slice vo m d] 35):=⟨_,rfl⟩;have P0:DInv w W w1.heap.size b 23000 R D (.slice ao n c) (.slice vo m d) (.slice so p q) o xs:=by
  have hbW:Below w2.heap.size w2 W:=by rw [hW];exact (zB _ _).alloc (zA _) _
  have hz:=hO.gr.size;refine ⟨hO.off.on hbW,hO.lens,hS.below hbW (zA _),by rw [hb];exact hO.src.on hbW,?_,by rw [hR];exact (hR1.keptB hO.gr (fun e=>by have:=zD e;omega)).on hbW,by rw [hW,hD];exact Box.new w2 [.slice ao n c,.slice vo m d] _,by omega,by omega⟩;exact ((hb1'.grown hO.gr hb1'.size (fun k hk=>by have:=zD hk;omega))).trans (hbW.mono (by have:=hb1'.size;omega))
 have HW:=hid hW;have HR:=hid hR;have HD:=hid hD;have HB:=hid hb;have Hp:=hid (And.intro hp hp21);have hpi:(p:Int)<=21:=by omega
 have hne:R ≠ D:=by have:=P0.ab;omega
 clear hs1 hR1 hb1' hO hS hW hR hD hb hp hs1l;go_upto_region 3 with fail;rw [<- HW.out,<- HD.out,<- HB.out,<- HR.out];clear HW HD HR HB;generalize w1.heap.size=B at P0;go_wp2_with fail;with_reducible refine (one_any 10 P0.src (by omega) (by omega)).mono ?_
 rintro e w3 ⟨⟨z,rfl⟩,hs3,hg3,-⟩;have P3:=P0.kept hs3 hg3;clear P0 hs3 hg3;cases z with
 | true =>
  have d0:=P3.hD.cell 0 _ rfl;have d1:=P3.hD.cell 1 _ rfl;have r0:=P3.hR.cell 0 _ rfl;have r1:=P3.hR.cell 1 _ rfl;have s0:=P3.hR.free 0;have s1:=P3.hR.free 1;have da:=fun (o:Obj)=>(P3.hD.alloc o).cell 0 _ rfl;have db:=fun (o:Obj)=>(P3.hD.alloc o).cell 1 _ rfl;go_upto_region 4 with fail;go_region_law (go_simp;go_at_call 69;with_reducible refine (amongX P3.src (by omega)).mono ?_;rintro e w4 ⟨⟨r,rfl,hr⟩,hs4,hg4⟩;have P4:=P3.kept hs4 hg4;have d0':=P4.hD.cell 0 _ rfl;have d1':=P4.hD.cell 1 _ rfl;have r0':=P4.hR.cell 0 _ rfl;have r1':=P4.hR.cell 1 _ rfl;have s0':=P4.hR.free 0;have s1':=P4.hR.free 1;clear hs4 hg4)
  all_goals
   have HF:=hid (P4.fin (.slice ao n c) (.slice vo m d));have Hl:=hid P4.lens;clear P3 P4;go_wp2;exact bodyPost_ret (v:=.tuple #[.agg #[.slice ao n c,.slice vo m d],.slice so p q,.int .i64 r]) (by simp [results,Tryz.results28,go_sem,r0',r1']) rfl ⟨_,_,_,_,_,_,_,_,_,_,_,_,rfl,HF.out.1,Hl.out,HF.out.2.1,Hp.out,hr,HF.out.2.2⟩
 | false =>
  have d0:=P3.hD.cell 0 _ rfl;have d1:=P3.hD.cell 1 _ rfl;have r0:=P3.hR.cell 0 _ rfl;have r1:=P3.hR.cell 1 _ rfl;have s0:=P3.hR.free 0;have s1:=P3.hR.free 1;go_upto_region 5 with fail;go_region_law (go_simp;go_at_call 67;with_reducible refine (yAK 9 P3.src.drew (by omega) (by omega)).mono ?_;rintro e w4 ⟨⟨r,rfl,hr0,hr1,_⟩,hs4,hg4,-⟩;have P4:=P3.kept hs4 (yAA (yAV _ _) hg4);have d0':=P4.hD.cell 0 _ rfl;have d1':=P4.hD.cell 1 _ rfl;have r0':=P4.hR.cell 0 _ rfl;have r1':=P4.hR.cell 1 _ rfl;have s0':=P4.hR.free 0;have s1':=P4.hR.free 1;have hr2:=hr1 (by omega);clear hs4 hg4 hr1)
  all_goals
   have HF:=hid (P4.fin (.slice ao n c) (.slice vo m d));have Hl:=hid P4.lens;have hr:I64 (IntKind.i64.wrap (1+r)):=wrapI _;clear P3 P4;go_wp2;exact bodyPost_ret (v:=.tuple #[.agg #[.slice ao n c,.slice vo m d],.slice so p q,.int .i64 (IntKind.i64.wrap (1+r))]) (by simp [results,Tryz.results28,go_sem,r0',r1']) rfl ⟨_,_,_,_,_,_,_,_,_,_,_,_,rfl,HF.out.1,Hl.out,HF.out.2.1,Hp.out,hr,HF.out.2.2⟩
theorem DrawOfficeAt_any {w:World} {A:Nat} {v:Value} {cs:List Int} (ha:Rds eB A w v cs) (hA:A<=w.heap.size) :
 Calls Tryz.prog 27 #[v] w fun e w'=>DrawF w e w':=by
 obtain ⟨ao0,c0,rfl⟩:=ha.shape;have Ha:=hid ha;have hR0:=Box.new w [.slice none 0 0,.slice none 0 0] 35;have hb0:Below w.heap.size w (w.alloc (.cells #[.slice none 0 0,.slice none 0 0] 35)):=(zB _ _).alloc (zA _) _;have ha1:=ha.onn hb0;have Ha1:=hid ha1;clear ha ha1;go_enter Tryz.func27,Tryz.ntmps27;go_wp2_with fail;with_reducible refine (l00From_any Ha1.out (zA _)).mono ?_
 rintro e w1 ⟨rfl,hs1,hb1⟩;have hsz:(w.alloc (.cells #[.slice none 0 0,.slice none 0 0] 35)).heap.size=w.heap.size+1:=by simp
 rw [hsz] at hs1 hb1 |-;have hR1:=hR0.below hb1 (by omega);have hb1':=hb0.trans (hb1.mono (by omega));have hs1l:=hs1.lt;clear hR0 hb0 hb1 hsz Ha1;go_wp2_with fail;with_reducible refine (l20Flow_any hs1 (by omega)).mono ?_
 rintro e w2 ⟨ao,vo,so,n,c,m,d,p,q,o,xs,rfl,hO,hS,hp,hp21⟩;obtain ⟨R,hR⟩:∃ R,R=w.heap.size:=⟨_,rfl⟩;obtain ⟨b,hb⟩:∃ b,b=w.heap.size+1:=⟨_,rfl⟩;obtain ⟨D,hD⟩:∃ D,D=w2.heap.size:=⟨_,rfl⟩;obtain ⟨W,hW⟩:∃ W,W=w2.alloc (.cells #[.slice ao n c,.slice vo m d] 35):=⟨_,rfl⟩;have P0:DInv w W w1.heap.size b 23000 R D (.slice ao n c) (.slice vo m d) (.slice so p q) o xs:=by
  have hbW:Below w2.heap.size w2 W:=by rw [hW];exact (zB _ _).alloc (zA _) _
  have hz:=hO.gr.size;refine ⟨hO.off.on hbW,hO.lens,hS.below hbW (zA _),by rw [hb];exact hO.src.on hbW,?_,by rw [hR];exact (hR1.keptB hO.gr (fun e=>by have:=zD e;omega)).on hbW,by rw [hW,hD];exact Box.new w2 [.slice ao n c,.slice vo m d] _,by omega,by omega⟩;exact ((hb1'.grown hO.gr hb1'.size (fun k hk=>by have:=zD hk;omega))).trans (hbW.mono (by have:=hb1'.size;omega))
 have HW:=hid hW;have HR:=hid hR;have HD:=hid hD;have HB:=hid hb;have Hp:=hid (And.intro hp hp21);have hpi:(p:Int)<=21:=by omega
 have hne:R ≠ D:=by have:=P0.ab;omega
 clear hs1 hR1 hb1' hO hS hW hR hD hb hp hs1l;go_upto_region 3 with fail;rw [<- HW.out,<- HD.out,<- HB.out,<- HR.out];clear HW HD HR HB;generalize w1.heap.size=B at P0;have d0:=P0.hD.cell 0 _ rfl;have d1:=P0.hD.cell 1 _ rfl;have r0:=P0.hR.cell 0 _ rfl;have r1:=P0.hR.cell 1 _ rfl;have s0:=P0.hR.free 0;have s1:=P0.hR.free 1;have hwp:IntKind.i64.wrap ((p:Int)+2)=(p:Int)+2:=IntWalk.i64_in _ (by omega);go_region_law (first
  | (go_simp;go_at_call 67;with_reducible refine (yAK ((p:Int)+2) P0.src.drew (by omega) (by omega)).mono ?_;rintro e w3 ⟨⟨r,rfl,hr0,hr1,_⟩,hs3,hg3,-⟩;have P3:=P0.kept hs3 (yAA (yAV _ _) hg3);have hr2:=hr1 (by omega);have d0:=P3.hD.cell 0 _ rfl;have d1:=P3.hD.cell 1 _ rfl;clear hs3 hg3 hr1)
  | (go_simp;go_at_call 67;with_reducible refine (yAK 16 P3.src (by omega) (by omega)).mono ?_;rintro e w4 ⟨⟨z,rfl,hz0,hz1,_⟩,hs4,hg4,-⟩;have P4:=P3.kept hs4 hg4;have d0':=P4.hD.cell 0 _ rfl;have d1':=P4.hD.cell 1 _ rfl;have r0':=P4.hR.cell 0 _ rfl;have r1':=P4.hR.cell 1 _ rfl;have s0':=P4.hR.free 0;have s1':=P4.hR.free 1;have hz2:=hz1 (by omega);clear hs4 hg4 hz1))
 all_goals
  have HF:=hid (P4.fin (.slice ao n c) (.slice vo m d));have Hl:=hid P4.lens;clear P0 P3 P4;go_wp2;exact bodyPost_ret (v:=.tuple #[.agg #[.slice ao n c,.slice vo m d],.slice so p q,.int .i64 _]) (by simp [results,Tryz.results27,go_sem,r0',r1'];rfl) rfl ⟨_,_,_,_,_,_,_,_,_,_,_,_,rfl,HF.out.1,Hl.out,HF.out.2.1,Hp.out,by first | exact wrapI _ | (unfold I64;omega),HF.out.2.2⟩
theorem DrawRestartAt_any {w:World} {A:Nat} {v:Value} {cs:List Int} (ha:Rds eB A w v cs) (hA:A<=w.heap.size) :
 Calls Tryz.prog 26 #[v] w fun e w'=>DrawF2 w e w':=by
 obtain ⟨ao0,c0,rfl⟩:=ha.shape;have Ha:=hid ha;have hR0:=Box.new w [.slice none 0 0,.slice none 0 0] 35;have hb0:Below w.heap.size w (w.alloc (.cells #[.slice none 0 0,.slice none 0 0] 35)):=(zB _ _).alloc (zA _) _;have ha1:=ha.onn hb0;have Ha1:=hid ha1;clear ha ha1;go_enter Tryz.func26,Tryz.ntmps26;go_wp2_with fail;with_reducible refine (l00From_any Ha1.out (zA _)).mono ?_
 rintro e w1 ⟨rfl,hs1,hb1⟩;have hsz:(w.alloc (.cells #[.slice none 0 0,.slice none 0 0] 35)).heap.size=w.heap.size+1:=by simp
 rw [hsz] at hs1 hb1 |-;have hR1:=hR0.below hb1 (by omega);have hb1':=hb0.trans (hb1.mono (by omega));have hs1l:=hs1.lt;clear hR0 hb0 hb1 hsz Ha1;go_wp2_with fail;with_reducible refine (l20Flow_any hs1 (by omega)).mono ?_
 rintro e w2 ⟨ao,vo,so,n,c,m,d,p,q,o,xs,rfl,hO,hS,hp,hp21⟩;obtain ⟨R,hR⟩:∃ R,R=w.heap.size:=⟨_,rfl⟩;obtain ⟨b,hb⟩:∃ b,b=w.heap.size+1:=⟨_,rfl⟩;obtain ⟨D,hD⟩:∃ D,D=w2.heap.size:=⟨_,rfl⟩;obtain ⟨W,hW⟩:∃ W,W=w2.alloc (.cells #[.slice ao n c,.slice vo m d] 35):=⟨_,rfl⟩;have P0:DInv w W w1.heap.size b 23000 R D (.slice ao n c) (.slice vo m d) (.slice so p q) o xs:=by
  have hbW:Below w2.heap.size w2 W:=by rw [hW];exact (zB _ _).alloc (zA _) _
  have hz:=hO.gr.size;refine ⟨hO.off.on hbW,hO.lens,hS.below hbW (zA _),by rw [hb];exact hO.src.on hbW,?_,by rw [hR];exact (hR1.keptB hO.gr (fun e=>by have:=zD e;omega)).on hbW,by rw [hW,hD];exact Box.new w2 [.slice ao n c,.slice vo m d] _,by omega,by omega⟩;exact ((hb1'.grown hO.gr hb1'.size (fun k hk=>by have:=zD hk;omega))).trans (hbW.mono (by have:=hb1'.size;omega))
 have HW:=hid hW;have HR:=hid hR;have HD:=hid hD;have HB:=hid hb;have Hp:=hid (And.intro hp hp21);have hpi:(p:Int)<=21:=by omega
 have hne:R ≠ D:=by have:=P0.ab;omega
 clear hs1 hR1 hb1' hO hS hW hR hD hb hp hs1l;go_upto_region 3 with fail;rw [<- HW.out,<- HD.out,<- HB.out,<- HR.out];clear HW HD HR HB;generalize w1.heap.size=B at P0;go_wp2_with fail;with_reducible refine (yAK ((p:Int)+1) P0.src (by omega) (by omega)).mono ?_
 rintro e w3 ⟨⟨r,rfl,hr0,hr1,_⟩,hs3,hg3,-⟩;have hr2:=hr1 (by omega);obtain ⟨k,rfl⟩:=zG hr0;have hkp:k<=p:=by omega
 have P3:=P0.kept hs3 hg3;clear P0 hs3 hg3 hr1;have hx:=P3.own.rds;have hpq:p<=q:=hx.cap.1;have hnil:so=none->q=0:=Rds.nilcap hx;clear hx;have HP:=hid P3;have d0:=P3.hD.cell 0 _ rfl;have d1:=P3.hD.cell 1 _ rfl;have r0:=P3.hR.cell 0 _ rfl;have r1:=P3.hR.cell 1 _ rfl;have s0:=P3.hR.free 0;have s1:=P3.hR.free 1;clear P3;go_upto_region 4 with fail;by_cases hq:q=k
 . obtain rfl:q=k:=hq
   obtain rfl:q=p:=by omega
   go_region
   all_goals
    have HF:=hid (HP.out.finD (.slice ao n c) (.slice vo m d));have Hl:=hid HP.out.lens;go_wp2;exact bodyPost_ret (v:=.tuple #[.agg #[.slice ao n c,.slice vo m d],.slice so q q,.slice so 0 0]) (by simp [results,Tryz.results26,go_sem,r0,r1]) rfl ⟨_,_,_,_,_,_,_,_,_,_,_,_,_,xs,xs.drop q,rfl,HF.out.1,Hl.out,HF.out.2.1,Rds.dropN (n:=0) HF.out.2.1 (by have:=Hp.out.1;omega) (fun _=>rfl),⟨Hp.out.1,by rw [zQ];have:=Hp.out.1;omega,by omega⟩,HF.out.2.2⟩
 by_cases hk:k<p
 . obtain ⟨g,cc,e1⟩:∃ g cc,Value.slice so p q=.slice (some ⟨g,0,none⟩) p cc:=by
    have h9:=HP.out.own.addr (by have:=Hp.out.1;omega);obtain ⟨g,cc,e,-⟩:=h9;exact ⟨g,cc,by rw [e,<- Hp.out.1]⟩
   cases e1;go_region
   all_goals
    have HF:=hid (HP.out.finD (.slice ao n c) (.slice vo m d));have Hl:=hid HP.out.lens;go_wp2;refine bodyPost_ret (v:=.tuple #[.agg #[.slice ao n c,.slice vo m d],.slice (some ⟨g,0,none⟩) k q,.slice (some ⟨g,k * 9,none⟩) (p - k) (q - k)]) (by simp [results,Tryz.results26,go_sem,r0,r1]) rfl ⟨_,_,_,_,_,_,_,_,_,_,_,_,_,xs.take k,xs.drop k,rfl,HF.out.1,Hl.out,Rds.takeV HF.out.2.1 hkp hnil,?_,⟨by rw [zI];have:=Hp.out.1;omega,by rw [zQ];have:=Hp.out.1;omega,by omega⟩,HF.out.2.2⟩;have h9:=Rds.dropE (E:=eStep) HF.out.2.1 hk;rw [Nat.zero_add] at h9;exact h9
 . obtain rfl:p=k:=by omega
   go_region
   all_goals
    have HF:=hid (HP.out.finD (.slice ao n c) (.slice vo m d));have Hl:=hid HP.out.lens;go_wp2;exact bodyPost_ret (v:=.tuple #[.agg #[.slice ao n c,.slice vo m d],.slice so p q,.slice (so.map (fun x=>x.add (p * 9))) 0 (q - p)]) (by simp [results,Tryz.results26,go_sem,r0,r1]) rfl ⟨_,_,_,_,_,_,_,_,_,_,_,_,_,xs,xs.drop p,rfl,HF.out.1,Hl.out,HF.out.2.1,Rds.dropN (n:=0) HF.out.2.1 (by have:=Hp.out.1;omega) (fun h=>by cases so with | none=>(have:=hnil rfl;omega) | some a=>cases h),⟨Hp.out.1,by rw [zQ];have:=Hp.out.1;omega,by omega⟩,HF.out.2.2⟩
theorem DrawNeededTrays_any {w:World} {A:Nat} {v:Value} {cs:List Int} (ha:Rds eB A w v cs) (hA:A<=w.heap.size) :
 Calls Tryz.prog 29 #[v] w fun e w'=>(∃ (so:Option Addr) (p q:Nat) (xs:List StepT) (k:Int),e=.returned (.tuple #[.slice so p q,.int .i64 k])/\RdStepS w'.heap.size w' (.slice so p q) xs/\(p=xs.length/\p<=21)/\I64 k)/\Below w.heap.size w w':=by
 obtain ⟨ao0,c0,rfl⟩:=ha.shape;have Ha:=hid ha;clear ha;go_enter Tryz.func29,Tryz.ntmps29;go_wp2_with fail;with_reducible refine (l00From_any Ha.out hA).mono ?_
 rintro e w1 ⟨rfl,hs1,hb1⟩;have hs1l:=hs1.lt;generalize hb:w.heap.size=b at hs1 hs1l |-;have hbw:Below b w w1:=by rw [<- hb];exact hb1
 have Hb:=hid hb;clear hb1 Ha hb;go_wp2_with fail;with_reducible refine (l20Flow_any hs1 (by omega)).mono ?_
 rintro e w2 ⟨ao,vo,so,n,c,m,d,p,q,o,xs,rfl,hO,hS,hp,hp21⟩;obtain ⟨W,hW⟩:∃ W,W=w2.alloc (.cells #[.slice ao n c,.slice vo m d] 35):=⟨_,rfl⟩;have hbW:Below w2.heap.size w2 W:=by rw [hW];exact (zB _ _).alloc (zA _) _
 have hz:=hO.gr.size;have hsW:Src W b 23000:=hO.src.on hbW;have hSW:OwnStepS w1.heap.size W (.slice so p q) xs:=hS.below hbW (zA _);have hB2:Below b w W:=(hbw.grown hO.gr (by omega) (fun k hk=>by have:=zD hk;omega)).trans (hbW.mono (by omega));have HW:=hid hW;have Hp:=hid (And.intro hp hp21);have hpi:(p:Int)<=21:=by omega
 have hbs:b<=W.heap.size:=by have:=hbW.size;omega
 clear hs1 hbw hO hS hW hbW hp hz;go_upto_region 3 with fail;rw [<- HW.out];clear HW;have hwp:IntKind.i64.wrap ((p:Int)+2)=(p:Int)+2:=IntWalk.i64_in _ (by omega);go_wp2_with fail;with_reducible refine (yAK ((p:Int)+2) hsW (by omega) (by omega)).mono ?_
 rintro e w3 ⟨⟨r,rfl,hr0,hr1,_⟩,hs3,hg3,-⟩;have hr2:=hr1 (by omega);have hS3:=hSW.keptS hg3 hs1l;have hB3:=hB2.grown hg3 hbs (fun k hk=>by have:=zD hk;omega);have hbs3:b<=w3.heap.size:=by have:=hg3.size;omega
 clear hsW hSW hB2 hg3 hr1;go_wp2_with fail;with_reducible refine (yAK 16 hs3 (by omega) (by omega)).mono ?_
 rintro e w4 ⟨⟨z,rfl,hz0,hz1,_⟩,hs4,hg4,-⟩;have HS:=hid (hS3.keptS hg4 hs1l);have HB:=hid (hB3.grown hg4 hbs3 (fun k hk=>by have:=zD hk;omega));have hz2:=hz1 (by omega);clear hs3 hS3 hB3 hg4 hs4 hz1;go_wp2;go_ret2;exact ⟨⟨so,p,q,xs,r - z / 15,rfl,HS.out.rds,Hp.out,by unfold I64;omega⟩,by rw [Hb.out];exact HB.out⟩
end Go.Proofs.YthdaghfhlfjclaaGreat
