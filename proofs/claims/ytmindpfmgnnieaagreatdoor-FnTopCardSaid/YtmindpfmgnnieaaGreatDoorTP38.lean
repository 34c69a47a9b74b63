/- Lemmas on the way to the law FnTop. No condition. -/
import Derived.Test.YtmindpfmgnnieaaGreatDoorTP19
import Derived.Test.YtmindpfmgnnieaaGreatDoorTP30
import Derived.Test.YtmindpfmgnnieaaGreatDoorTP35
namespace Go.Proofs.YtmindpfmgnnieaaGreatDoor
set_option maxHeartbeats 4000000
set_option linter.unusedSimpArgs false
open Lib (hid)
open Go.ChangeShapes Go.WideShapes Go.ChangeAt Go.RowKit
set_option linter.unusedVariables false
set_option maxRecDepth 100000
def DrawnA (base:Nat) (e:Ending) (w':World):Prop:=∃ u xs,e=.returned u/\Own eI 2 base w' u xs/\xs.length<=6/\∀ n∈xs,0<=n/\n<=9999
def DrawnF (base:Nat) (e:Ending) (w':World):Prop:=∃ u xs,e=.returned u/\Own eFault 155 base w' u xs/\xs.length<=3
theorem l19Draw_any {w:World} {b N:Nat} (hs:Src w b N) (hN:N<=100000) :
 Calls Tryz.prog 48 #[.pointer (some ⟨b,0,none⟩)] w fun e w'=>DrawnA w.heap.size e w'/\Src w' b (N+100)/\w.grownBy w' (some b):=by
 obtain ⟨i0,hi,hz0,hz1,hz2⟩:=info_parts Tryz.infoInt64;have hbl:=hs.lt;have hlit:Own eI 2 w.heap.size (w.alloc (.cells #[] 2)) (.slice (some ⟨w.heap.size,0,none⟩) 0 0) [] :=
  Own.lit (E:=eI) (xs:=[]) (cs:=#[]) (zA _) rfl rfl (by decide) (fun x hx=>by cases hx)
 go_enter Tryz.func48,Tryz.ntmps48;go_wp2_with fail;refine (yAO 7 (hs.alloc _) (by omega) (by omega)).mono ?_;rintro e w2 ⟨⟨r,rfl,hr0,hr1,_⟩,hs2,hg2,-⟩;have hr2:=hr1 (by omega);have ho2:=hlit.keptS hg2 hbl;have hg2':=yAA (World.grownBy_alloc w (.cells #[] 2) (some b)) hg2;clear hr1 hg2 hlit hs;go_wp2_with fail;go_loopw [3,4] (fun v k wr=>∃ (kk:Int) (xs:List Int),0<=kk/\kk+xs.length<=6/\k=.int .i64 kk/\Own eI 2 w.heap.size wr v xs/\(∀ n∈xs,0<=n/\n<=9999)/\Src wr b (N+2+10 * xs.length)/\w.grownBy wr (some b)) (fun _ k _=>(intOf k).toNat)
 case atStart=>exact ⟨r,[],by omega,by simp;omega,rfl,ho2,(fun n hn=>by cases hn),hs2.mono (by simp),hg2'⟩
 case round =>
  obtain ⟨kk,xs,hk0,hkj,rfl,hown,hx0,hsr,hgr⟩:=hrel;have hx:=hid hx0;clear ho2 hs2 hg2' hx0;obtain ⟨ao2,cap2,rfl⟩:=hown.shape;by_cases hk:0<kk
  . go_wp2_with fail
    refine (yAO 1000 hsr (by omega) (by omega)).mono ?_;rintro e w3 ⟨⟨n,rfl,hn0,hn1,_⟩,hs3,hg3,-⟩;have hn2:=hn1 (by omega);have hown3:=hown.keptS hg3 hbl;have hgr3:=yAA hgr hg3;clear hown hg3 hgr hsr hn1;go_wp2_with fail;refine (one_any 3 hs3 (by omega) (by omega)).mono ?_;rintro e w4 ⟨⟨q,rfl⟩,hs4,hg4,-⟩;have hown4:=hown3.keptS hg4 hbl;have hgr4:=yAA hgr3 hg4;clear hown3 hg4 hgr3 hs3;have hz4:w.heap.size<=w4.heap.size:=hgr4.size;cases q with
    | false =>
     go_wp2_with (first | (at_builtin;refine yAB (E:=eI) rfl _ _ 48 rfl Tryz.underlying48 hi hz0 hz1 hz2 rfl (by decide) rfl rfl (hown4.alloc _) (yAH (E:=eI) (x:=n) (by show -9223372036854775808<=n/\n<=9223372036854775807;omega) rfl) ?b1a ?b1b ?b1c ?_))
     case b1a=>unfold maxLen;simp;omega
     case b1b=>simp;omega
     case b1c=>first | exact zA _ | (simp;omega)
     intro v' w5 ho5 hg5;have hg5':=hg5.alloc.1;have hs5:=hs4.kept hg5' (fun k hk=>by have:=(hown4.lt k hk).1;omega);have hgr5:=yAW hgr4 hg5' (fun k hk=>(hown4.lt k hk).1);have Ho5:=hid ho5;have Hs5:=hid hs5;have Hg5:=hid hgr5;clear ho5 hg5 hg5' hs5 hgr5 hown4 hs4 hgr4;go_wp2;go_roundw
     case rel=>exact ⟨kk - 1,xs++[n],by omega,by simp;omega,by go_num,Ho5.out,(fun z hz=>by rcases List.mem_append.1 hz with hz | hz;exact hx.out z hz;rw [List.mem_singleton] at hz;subst hz;omega),Hs5.out.mono (by simp only [zE,List.length_cons,List.length_nil];omega),Hg5.out⟩
     case measure=>simp [intOf];omega
    | true =>
     go_wp2_with fail;refine (yAO 10000 hs4 (by omega) (by omega)).mono ?_;rintro e w6 ⟨⟨m,rfl,hm0,hm1,_⟩,hs6,hg6,-⟩;have hm2:=hm1 (by omega);have hown6:=hown4.keptS hg6 hbl;have hgr6:=yAA hgr4 hg6;have hz6:w.heap.size<=w6.heap.size:=hgr6.size;clear hown4 hg6 hgr4 hs4 hm1;go_wp2_with (first | (at_builtin;refine yAB (E:=eI) rfl _ _ 48 rfl Tryz.underlying48 hi hz0 hz1 hz2 rfl (by decide) rfl rfl (hown6.alloc _) (yAH (E:=eI) (x:=m) (by show -9223372036854775808<=m/\m<=9223372036854775807;omega) rfl) ?b2a ?b2b ?b2c ?_))
     case b2a=>unfold maxLen;simp;omega
     case b2b=>simp;omega
     case b2c=>first | exact zA _ | (simp;omega)
     intro v' w5 ho5 hg5;have hg5':=hg5.alloc.1;have hs5:=hs6.kept hg5' (fun k hk=>by have:=(hown6.lt k hk).1;omega);have hgr5:=yAW hgr6 hg5' (fun k hk=>(hown6.lt k hk).1);have Ho5:=hid ho5;have Hs5:=hid hs5;have Hg5:=hid hgr5;clear ho5 hg5 hg5' hs5 hgr5 hown6 hs6 hgr6;go_wp2;go_roundw
     case rel=>exact ⟨kk - 1,xs++[m],by omega,by simp;omega,by go_num,Ho5.out,(fun z hz=>by rcases List.mem_append.1 hz with hz | hz;exact hx.out z hz;rw [List.mem_singleton] at hz;subst hz;omega),Hs5.out.mono (by simp only [zE,List.length_cons,List.length_nil];omega),Hg5.out⟩
     case measure=>simp [intOf];omega
  . have Ho:=hid hown
    have Hs:=hid hsr;have Hg:=hid hgr;clear hown hsr hgr;have hlen:xs.length<=6:=by omega
    go_wp2;go_ret;exact ⟨⟨_,xs,rfl,Ho.out,hlen,hx.out⟩,Hs.out.mono (by omega),Hg.out⟩
theorem Src.drewNs {w:World} {b N:Nat} (h:Src w b N) (m:Nat):Src (w.drewN m) b N:=h.kept (row:=none) ⟨rfl,rfl,rfl,zA _,fun _ _ _=>rfl⟩ (fun k hk=>by cases hk)
theorem grown_drewNg {a w:World} {row:Option Nat} (h:a.grownBy w row) (m:Nat):a.grownBy (w.drewN m) row:=⟨h.os,h.tape,h.output,h.size,h.block⟩
theorem l19DrawFaults_any {w:World} {b N:Nat} (n:Int) (hs:Src w b N) (hN:N<=10000) (hn:0<=n/\n<=1000) :
 Calls Tryz.prog 49 #[.pointer (some ⟨b,0,none⟩),.int .i64 n] w fun e w'=>DrawnF w.heap.size e w'/\Src w' b (N+300)/\w.grownBy w' (some b):=by
 obtain ⟨i0,hi,hy0,hy1,hy2⟩:=info_parts infoFaultN;have hbl:=hs.lt;have hlit:Own eFault 155 w.heap.size (w.alloc (.cells #[] 155)) (.slice (some ⟨w.heap.size,0,none⟩) 0 0) [] :=
  Own.lit (E:=eFault) (xs:=[]) (cs:=#[]) (zA _) rfl rfl (by decide) (fun x hx=>by cases hx)
 go_enter Tryz.func49,Tryz.ntmps49;go_wp2_with fail;refine (yAO 3 (hs.alloc _) (by omega) (by omega)).mono ?_;rintro e w2 ⟨⟨r,rfl,hr0,hr1,_⟩,hs2,hg2,-⟩;have hr2:=hr1 (by omega);have ho2:=hlit.keptS hg2 hbl;have hg2':=yAA (World.grownBy_alloc w (.cells #[] 155) (some b)) hg2;clear hr1 hg2 hlit hs;go_wp2_with fail;go_loopw [5,6] (fun v k wr=>∃ (kk:Int) (xs:List FaultT),0<=kk/\kk+xs.length<=2/\k=.int .i64 kk/\Own eFault 155 w.heap.size wr v xs/\Src wr b (N+2+50 * xs.length)/\w.grownBy wr (some b)) (fun _ k _=>(intOf k).toNat)
 case atStart=>exact ⟨r,[],by omega,by simp;omega,rfl,ho2,hs2.mono (by simp),hg2'⟩
 case round =>
  obtain ⟨kk,xs,hk0,hkj,rfl,hown,hsr,hgr⟩:=hrel;clear ho2 hs2 hg2';obtain ⟨ao2,cap2,hsh⟩:=hown.shape;subst hsh;by_cases hk:0<kk
  . go_wp2_with fail
    refine (l19DrawFault_any n hsr (by omega) hn).mono ?_;rintro e w3 ⟨⟨f,rfl,hf⟩,hs3,hg3⟩;have hown3:=hown.keptS hg3 hbl;have hgr3:=yAA hgr hg3;have Hf:=hid hf;clear hown hg3 hgr hsr hf;obtain ⟨W,hW⟩:∃ W,W=w3.alloc (.cells #[.int .i64 f.kind,.int .i64 f.card,.int .i64 f.place,.int .i64 f.digit] 155):=⟨_,rfl⟩;have kW:Box W w3.heap.size [.int .i64 f.kind,.int .i64 f.card,.int .i64 f.place,.int .i64 f.digit]:=by rw [hW];exact Box.new w3 [.int .i64 f.kind,.int .i64 f.card,.int .i64 f.place,.int .i64 f.digit] _
    have hownW:=hown3.alloc (.cells #[.int .i64 f.kind,.int .i64 f.card,.int .i64 f.place,.int .i64 f.digit] 155);have hsW:=hs3.alloc (.cells #[.int .i64 f.kind,.int .i64 f.card,.int .i64 f.place,.int .i64 f.digit] 155);have hgW:=yAA hgr3 (World.grownBy_alloc w3 (.cells #[.int .i64 f.kind,.int .i64 f.card,.int .i64 f.place,.int .i64 f.digit] 155) (some b));rw [<- hW] at hownW hsW hgW;have HW:=hid hW;have hzW:w.heap.size<=W.heap.size:=hgW.size;clear hown3 hgr3 hs3 hW;go_upto_region 6 with fail;rw [<- HW.out];clear HW;generalize w3.heap.size=X at kW |-;have kc:=kW.cell 1 _ rfl;cases xs with
    | nil =>
     have hl0:¬ (0:Int)<((([]:List FaultT).length:Nat):Int):=by simp
     go_quiet (fail);have k0:=kW.cell 0 _ rfl;have k2:=kW.cell 2 _ rfl;have k3:=kW.cell 3 _ rfl;go_wp2_with (first | (at_builtin;refine yAB (E:=eFault) rfl _ _ 49 rfl Tryz.underlying49 hi hy0 hy1 hy2 rfl (by decide) rfl rfl ((hownW.drewN _).alloc _) (yAH (E:=eFault) (x:=f) Hf.out rfl) ?b1a ?b1b ?b1c ?_))
     case b1a=>unfold maxLen;first | (simp;done) | (simp;omega)
     case b1c=>first | exact zA _ | assumption | omega | (simp;omega)
     intro v' w5 ho5 hg5;have hg5':=hg5.alloc.1;have hs5:=(hsW.drewNs _).kept hg5' (fun k hk=>by have:=(hownW.lt k hk).1;omega);have hgr5:=yAW (grown_drewNg hgW _) hg5' (fun k hk=>(hownW.lt k hk).1);have Ho5:=hid ho5;have Hs5:=hid hs5;have Hg5:=hid hgr5;clear ho5 hg5 hg5' hs5 hgr5 hownW hsW hgW k0 kc k2 k3 kW;go_wp2;go_roundw
     case rel=>exact ⟨kk - 1,_,by omega,by simp only [zE,List.length_cons,List.length_nil] at hkj |-;omega,by go_num,Ho5.out,Hs5.out.mono (by simp only [zE,List.length_cons,List.length_nil];omega),Hg5.out⟩
     case measure=>simp [intOf];omega
    | cons y ys =>
     obtain ⟨ao3,cap3,hsh3,hof⟩:=yAU hownW.rds;injection hsh3 with e1 e2 e3;subst e1;subst e3;obtain ⟨b2,off2,hao,hlt2,hc⟩:=hof (by simp);subst hao;obtain ⟨y',hy',⟨_,c1,_,_⟩,_⟩:=hc 0 (by simp);obtain rfl:y'=y:=by simpa using hy'.symm
     have hcy:W.cell? ⟨b2,off2+1,none⟩=some (.int .i64 y'.card):=by simpa using c1
     clear hc hof c1 hy' e2;obtain ⟨L,hL⟩:∃ L,(y' :: ys).length=L:=⟨_,rfl⟩;rw [hL] at hownW |-;have hL2:0<L/\L<=2:=by simp only [List.length_cons] at hL hkj;omega
     obtain ⟨hLa,hLb⟩:=hL2;have hLi:(0:Int)<(L:Int):=by omega
     have HL:=hid hL;clear hL;by_cases hlt:f.card<y'.card
     . go_quiet (fail)
       have k0:=kW.cell 0 _ rfl;have k2:=kW.cell 2 _ rfl;have k3:=kW.cell 3 _ rfl;go_wp2_with (first | (at_builtin;refine yAB (E:=eFault) rfl _ _ 49 rfl Tryz.underlying49 hi hy0 hy1 hy2 rfl (by decide) rfl rfl (Own.lit (E:=eFault) (xs:=[f]) (base:=w.heap.size) (by simpa using hzW) rfl rfl (by decide) (fun z hz=>by rw [List.mem_singleton] at hz;rw [hz];exact Hf.out)) ((hownW.drewN _).alloc _).rds ?b2a ?b2b ?b2c ?_))
       case b2a=>have:=HL.out;unfold maxLen;simp only [List.length_cons,List.length_nil] at this |-;omega
       case b2b=>have:=HL.out;simp only [List.length_cons,List.length_nil] at this |-;omega
       case b2c=>first | exact zA _ | assumption | omega | (simp;omega)
       intro v' w5 ho5 hg5;have hg5':=hg5.1;have hs5:=((hsW.drewNs _).alloc _).kept hg5' (fun k hk=>by simp [Value.ownBlock] at hk;omega);have hgr5:=yAW (yAA (grown_drewNg hgW _) (World.grownBy_alloc _ _ _)) hg5' (fun k hk=>by simp [Value.ownBlock] at hk;omega);have Ho5:=hid ho5;have Hs5:=hid hs5;have Hg5:=hid hgr5;clear ho5 hg5 hg5' hs5 hgr5 hownW hsW hgW k0 kc k2 k3 kW hcy;go_wp2;go_roundw
       case rel=>exact ⟨kk - 1,_,by omega,by simp only [zE,List.length_cons,List.length_nil] at hkj |-;omega,by go_num,Ho5.out,Hs5.out.mono (by simp only [zE,List.length_cons,List.length_nil];omega),Hg5.out⟩
       case measure=>simp [intOf];omega
     . go_quiet (fail)
       have k0:=kW.cell 0 _ rfl;have k2:=kW.cell 2 _ rfl;have k3:=kW.cell 3 _ rfl;go_wp2_with (first | (at_builtin;refine yAB (E:=eFault) rfl _ _ 49 rfl Tryz.underlying49 hi hy0 hy1 hy2 rfl (by decide) rfl rfl ((hownW.drewN _).alloc _) (yAH (E:=eFault) (x:=f) Hf.out rfl) ?b3a ?b3b ?b3c ?_))
       case b3a=>have:=HL.out;unfold maxLen;simp only [List.length_cons,List.length_nil] at this |-;omega
       case b3b=>have:=HL.out;simp only [List.length_cons,List.length_nil] at this |-;omega
       case b3c=>first | exact zA _ | assumption | omega | (simp;omega)
       intro v' w5 ho5 hg5;have hg5':=hg5.alloc.1;have hs5:=(hsW.drewNs _).kept hg5' (fun k hk=>by have:=(hownW.lt k hk).1;omega);have hgr5:=yAW (grown_drewNg hgW _) hg5' (fun k hk=>(hownW.lt k hk).1);have Ho5:=hid ho5;have Hs5:=hid hs5;have Hg5:=hid hgr5;clear ho5 hg5 hg5' hs5 hgr5 hownW hsW hgW k0 kc k2 k3 kW hcy;go_wp2;go_roundw
       case rel=>exact ⟨kk - 1,_,by omega,by simp only [zE,List.length_cons,List.length_nil] at hkj |-;omega,by go_num,Ho5.out,Hs5.out.mono (by simp only [zE,List.length_cons,List.length_nil];omega),Hg5.out⟩
       case measure=>simp [intOf];omega
  . have hkk0:kk=0:=by omega
    subst hkk0;have hlen:xs.length<=2:=by omega
    go_wp2_with fail;refine (one_any 16 hsr (by omega) (by omega)).mono ?_;rintro e w3 ⟨⟨q1,rfl⟩,hs3,hg3,-⟩;have hown3:=hown.keptS hg3 hbl;have hgr3:=yAA hgr hg3;have hz3:w.heap.size<=w3.heap.size:=hgr3.size;clear hown hg3 hgr hsr;cases q1 with
    | false =>
     have Ho:=hid hown3;have Hs:=hid hs3;have Hg:=hid hgr3;clear hown3 hs3 hgr3;go_wp2;go_ret;exact ⟨⟨_,xs,rfl,Ho.out,by omega⟩,Hs.out.mono (by omega),Hg.out⟩
    | true =>
     go_wp2_with (first | (at_builtin;refine yAB (E:=eFault) rfl _ _ 49 rfl Tryz.underlying49 hi hy0 hy1 hy2 rfl (by decide) rfl rfl (hown3.alloc _) (yAH (E:=eFault) (x:=⟨1,11,0,0⟩) (by unfold eFault okFault;decide) rfl) ?b4a ?b4b ?b4c ?_))
     case b4a=>unfold maxLen;simp;omega
     case b4b=>simp;omega
     case b4c=>first | exact zA _ | assumption | omega | (simp;omega)
     intro v' w5 ho5 hg5;have hg5':=hg5.alloc.1;have hs5:=hs3.kept hg5' (fun k hk=>by have:=(hown3.lt k hk).1;omega);have hgr5:=yAW hgr3 hg5' (fun k hk=>(hown3.lt k hk).1);have Ho5:=hid ho5;have Hs5:=hid hs5;have Hg5:=hid hgr5;clear ho5 hg5 hg5' hs5 hgr5 hown3 hs3 hgr3;go_wp2;go_ret;exact ⟨⟨_,_,rfl,Ho5.out,by simp;omega⟩,Hs5.out.mono (by omega),Hg5.out⟩
open Go.Sort
theorem flts_yes {xs:List Int} {fs:List FaultT} {e:Ending} (hfs:fsOk xs fs) (h:FltsR xs fs e):e=.returned (.bool true):=by
 obtain ⟨q,rfl,hq⟩:=h;rw [hq.2 hfs]
theorem l19Code_yes {xs:List Int} {fs:List FaultT} {v u:Value} {w:World} {A B:Nat} (ha:RdI A w v xs) (hf:RdFaultS B w u fs) (hxs:amtOk xs=true) (hfs:fsOk xs fs) :
 Calls Tryz.prog 51 #[v,u] w fun e w'=>e=.returned (.int .i64 0)/\Below w.heap.size w w':=by
 obtain ⟨hl,hx⟩:=yAQ hxs;have Ha:=hid ha;have Hf:=hid hf;have Hx:=hid hx;have Hfs:=hid hfs;have Hxs:=hid hxs;obtain ⟨ao,cap,rfl⟩:=ha.shape;obtain ⟨fo,fcap,rfl⟩:=hf.shape;clear ha hf hx hfs hxs;go_enter Tryz.func51,Tryz.ntmps51;go_wp2_with fail;with_reducible refine (l19Ok_c Ha.out).mono ?_
 rw [Hxs.out];rintro e w' ⟨rfl,rfl⟩;go_wp2_with fail;with_reducible refine (l19Faults_c Ha.out Hf.out hl Hx.out).mono ?_
 rintro e w1 ⟨he,hb⟩;obtain rfl:=flts_yes Hfs.out he;clear he;go_wp2;go_ret;exact ⟨rfl,hb⟩
theorem sReportAfter_c {xs:List Int} {fs:List FaultT} {v u:Value} {w:World} {A B:Nat} (ha:RdI A w v xs) (hf:RdFaultS B w u fs) (hxs:amtOk xs=true) (hfs:fsOk xs fs) :
 Calls Tryz.prog 19 #[v,u] w fun e w'=>e=.returned (.tuple #[vReport (repOf (afterL xs fs)),.int .i64 0])/\Below w.heap.size w w':=by
 obtain ⟨hl,hx⟩:=yAQ hxs;obtain ⟨hal,hax⟩:=afterL_ok hxs hfs;have Hpw:=hid hfs.2.1;obtain ⟨R,hR⟩:∃ R,repOf (afterL xs fs)=R:=⟨_,rfl⟩;rw [hR];have HR:=hid hR;have hb0:Below w.heap.size w (w.alloc (.cells #[.int .i64 0,.int .i64 0,.int .i64 0] 53)):=(zB _ _).alloc (zA _) _;have hB0:=Box.new w [.int .i64 0,.int .i64 0,.int .i64 0] 53;have Ha:=hid (Rds.onn ha hb0);have Hf:=hid (Rds.onn hf hb0);have Hx:=hid hx;have Hfs:=hid hfs;have Hxs:=hid hxs;have Hax:=hid hax;have Hal:=hid hal;have Hb0:=hid hb0;have HB0:=hid hB0;obtain ⟨ao,cap,rfl⟩:=ha.shape;obtain ⟨fo,fcap,rfl⟩:=hf.shape;clear ha hf hx hfs hxs hR hax hal hb0 hB0;go_enter Tryz.func19,Tryz.ntmps19;go_wp2_with fail;with_reducible refine (l19Code_yes Ha.out Hf.out Hxs.out Hfs.out).mono ?_
 rintro e w1 ⟨rfl,hb1⟩;have Ha1:=hid (Rds.onn Ha.out hb1);have Hf1:=hid (Rds.onn Hf.out hb1);have Hb1:=hid (Hb0.out.trans (hb1.mono Hb0.out.size));have HB1:=hid (HB0.out.on hb1);clear hb1;go_wp2_with fail;with_reducible refine (l19After_c Ha1.out Hf1.out Hx.out (by omega) (fsOk_rd Hfs.out) Hpw.out (fsOk_card Hfs.out)).mono ?_
 rintro e w2 ⟨z,rfl,hz,hb2⟩;have Hz:=hid hz.rds;have Hb2:=hid (Hb1.out.trans (hb2.mono Hb1.out.size));have HB2:=hid (HB1.out.on hb2);clear hb2 hz;go_wp2_with fail;with_reducible refine (l19Report_c Hz.out Hax.out Hal.out).mono ?_
 rw [HR.out];rintro e w3 ⟨rfl,hb3⟩;have hB3:=HB2.out.on hb3;have c0:=hB3.cell 0 _ rfl;have c1:=hB3.cell 1 _ rfl;have c2:=hB3.cell 2 _ rfl;have f0:=hB3.free 0;have f1:=hB3.free 1;have f2:=hB3.free 2;have Hb3:=hid (Hb2.out.trans (hb3.mono Hb2.out.size));clear hb3 hB3;go_wp2;refine bodyPost_ret (v:=.tuple #[vReport R,.int .i64 0]) (by simp [results,Tryz.results19,go_sem,c0,c1,c2]) rfl ⟨rfl,?_⟩;exact ((Hb3.out.setCell (by simp) _).setCell (by simp) _).setCell (by simp) _
def DrawnAF (base:Nat) (e:Ending) (w':World):Prop:=∃ u v xs fs,e=.returned (.tuple #[u,v])/\OwnInt64S base w' u xs/\OwnFaultS base w' v fs/\amtOk xs=true/\fsOk xs fs
theorem amtOk_of {xs:List Int} (hl:xs.length<=6) (hx:∀ n∈xs,0<=n/\n<=9999):amtOk xs=true:=by
 unfold amtOk;simp only [Bool.and_eq_true,decide_eq_true_eq,List.all_eq_true];exact ⟨by omega,hx⟩
theorem A2Amounts_any {w:World} {A:Nat} {v:Value} {cs:List Int} (ha:Rds eB A w v cs) (hA:A<=w.heap.size) :
 Calls Tryz.prog 18 #[v] w fun e w'=>DrawnAF w.heap.size e w'/\Below w.heap.size w w':=by
 obtain ⟨ao,cap,hsh⟩:=ha.shape;subst hsh;go_enter Tryz.func18,Tryz.ntmps18;go_wp2_with fail;refine (l00From_any ha hA).mono ?_;rintro e w1 ⟨rfl,hs1,hb1⟩;have hbl:=hs1.lt;obtain ⟨b,hb⟩:∃ b,b=w.heap.size:=⟨_,rfl⟩;rw [<- hb] at hs1 hbl |-;have hwb:w.heap.size<=b:=by omega
 clear ha hb;go_wp2_with fail;refine (l19Draw_any hs1 (by omega)).mono ?_;rintro e w2 ⟨⟨u,xs,rfl,ho2,hl,hx⟩,hs2,hg2⟩;have hb2:=grown_below hb1 hg2 hwb hb1.size;have hz12:w.heap.size<=w1.heap.size:=hb1.size;have hz2:w1.heap.size<=w2.heap.size:=hg2.size;have hxs:=amtOk_of hl hx;have Hx:=hid hx;have Hxs:=hid hxs;obtain ⟨uo,ucap,hsh⟩:=ho2.shape;subst hsh;clear hs1 hg2 hb1 hx hxs;go_wp2_with fail;refine (l19DrawFaults_any (xs.length:Int) hs2 (by omega) (by omega)).mono ?_;rintro e w3 ⟨⟨v,fs,rfl,ho3,hfl⟩,hs3,hg3⟩;have hb3:=grown_below hb2 hg3 hwb hb2.size;have ho23:=ho2.keptS hg3 hbl;obtain ⟨vo,vcap,hsh⟩:=ho3.shape;subst hsh;have hz3:w2.heap.size<=w3.heap.size:=hg3.size;clear hs2 hg3 hb2 ho2 hs3;go_wp2_with fail;refine (l19Faults_c ho23.rds ho3.rds (by omega) Hx.out).mono ?_;rintro e w4 ⟨⟨q,rfl,hq⟩,hb4⟩;have Hq:=hid hq;have Ho2:=hid ((ho23.below hb4 (zA _)).mono hz12);have Ho3:=hid ((ho3.below hb4 (zA _)).mono (zO hz12 hz2));have Hb4:=hid (hb3.trans (hb4.mono hb3.size));clear hq ho23 ho3 hb4 hb3;cases q with
 | true =>
  go_wp2;go_ret2;exact ⟨⟨_,_,xs,fs,rfl,Ho2.out,Ho3.out,Hxs.out,by first | exact Hq.out.1 trivial | simpa using Hq.out⟩,Hb4.out⟩
 | false =>
  have hz4:w.heap.size<=w4.heap.size:=Hb4.out.size;have hlit:Own eFault 155 w.heap.size (w4.alloc (.cells #[] 155)) (.slice (some ⟨w4.heap.size,0,none⟩) 0 0) [] :=
   Own.lit (E:=eFault) (xs:=[]) (cs:=#[]) hz4 rfl rfl (by decide) (fun x hx=>by cases hx)
  have Hlit:=hid hlit;clear hlit;go_wp2;go_ret2;exact ⟨⟨_,_,xs,[],rfl,Ho2.out.alloc _,Hlit.out,Hxs.out,fsOk_nil xs⟩,Hb4.out.alloc hz4 _⟩
end Go.Proofs.YtmindpfmgnnieaaGreatDoor
