/- Lemmas on the way to the law FnRestarts. No condition. -/
import Derived.Test.YthdaghfhlfjclaaGreatMR37
import Derived.Lib.AppendZerosOnto
namespace Go.Proofs.YthdaghfhlfjclaaGreat
set_option maxHeartbeats 4000000
set_option linter.unusedSimpArgs false
open Lib (hid)
open Go.ChangeShapes Go.WideShapes Go.ChangeAt Go.RowKit
set_option linter.unusedVariables false
set_option maxRecDepth 100000
theorem wpList_appRun {P:Program} {ops:Array Oper} {rest:List Oper} {o:Oper} {a:Act} {Q:Exit->Act->World->Prop} {w:World} (hgd:o.guard=none) (d s:Operand) (t t':TypeId)
 (ho:o.op=.call { callee:=.builtin .append,args:=#[d,s],argTypes:=#[t,t'] }) {v u:Value} (hd:a.eval d=v) (hs:a.eval s=u) {v':Value} {w':World}
 (hr:(Builtin.append_ #[t,t'] o.type #[v,u]).run P w=.ok v' w') (h:wpList P ops Q rest (a.put o.dst v') w'):wpList P ops Q (o :: rest) a w:=by
 refine wpList_plain hgd fun K hK=>?_;unfold Oper.wp execOp;simp only [ho,resolve,invoke,builtin,Sem.run_bind,Sem.run_pure,Result.andThen_ok,List.map_toArray,List.map_cons,List.map_nil,hd,hs,hr];exact hK _ _ h
theorem take_flat {α:Type} {L:List (List α)} {k:Nat} {z:List α} (h:L[k]?=some z):(L.take (k+1)).flatten=(L.take k).flatten++z:=by
 rw [List.take_add_one,h];simp
theorem take_flat_len {α:Type} (x y:List α) (k:Nat):(([x,y].take k).flatten).length<=x.length+y.length:=by
 match k with
 | 0=>simp
 | 1=>simp
 | k+2=>simp
theorem own_room {w:World} {G:Nat} {ROW:Array Value} (hR:ROW.size=G * 9) (hG:G<=maxLen) :
 Own eStep 75 w.heap.size (w.drew.alloc (.cells ROW 75)) (.slice (some ⟨w.heap.size,0,none⟩) 0 G) [] :=
 ⟨⟨rfl,.inr ⟨w.heap.size,G,ROW,rfl,zA _,heap_alloc_new w.drew _,zK _,hG,hR,by simp [Elt.all]⟩⟩,by intro x hx;cases hx⟩
theorem grow_c {n:Nat} (w:World) (hn:n<=20) :
 Calls Tryz.prog 103 #[.slice none 0 0,.int .i64 (n:Int)] w fun e w'=>(∃ u,e=.returned u/\Own eStep 75 w.heap.size w' u [])/\Below w.heap.size w w':=by
 obtain ⟨i0,hi,hz0,hz1,hz2⟩:=info_parts Tryz.infoStep;by_cases h0:n=0
 . subst h0
   go_enter Tryz.func103,Tryz.ntmps103;go_wp2;go_ret;exact ⟨⟨_,rfl,Own.nil _ _ _ _⟩,zB _ _⟩
 . have hrz:=fun ty=>Lib.run_append_grow_zeros (P:=Tryz.prog) w 37 3 ty 75 i0 _ .i64 .i64 Tryz.underlying37 Tryz.underlying3 hi hz0 none 0 0 [] (run_firstCells_none (P:=Tryz.prog) w.drew _ _ _ _) n (by omega) (by rw [hz1];decide) (by omega) (by omega) (by rw [hz2];omega) (by rw [hz2];exact growslice_fits (by omega) (by omega))
   rw [Nat.zero_add] at hrz;obtain ⟨G,hG⟩:∃ G,G=grownCap w n 0 75:=⟨_,rfl⟩;rw [<- hG] at hrz;have hGn:n<=G:=by rw [hG];exact grownCap_ge w _ _ _
   have hGm:G<=maxLen:=by rw [hG];exact grownCap_le_maxLen w _ _ _ (by unfold maxLen;omega)
   have hG63:G<=9223372036854775807:=by unfold maxLen at hGm;omega
   obtain ⟨ROW,hROW⟩:∃ ROW,ROW=(([]:List Value).toArray++Builtin.zeroCells (vStep zStep).cells n++Builtin.zeroCells (vStep zStep).cells (G - n)):=⟨_,rfl⟩;rw [<- hROW] at hrz;have hRs:ROW.size=G * 9:=by
    rw [hROW,Array.size_append,Array.size_append,size_zeroCells,size_zeroCells,show (vStep zStep).cells.size=9 from rfl];simp only [List.size_toArray,List.length_nil];omega
   have Hown:=hid (own_room (w:=w) hRs hGm);have Hbel:Hid (Below w.heap.size w (w.drew.alloc (.cells ROW 75))):=hid ((Below.drew1 (zB _ w)).alloc (zA _) _);obtain ⟨W,hW⟩:∃ W,W=w.drew.alloc (.cells ROW 75):=⟨_,rfl⟩;obtain ⟨N,hN⟩:∃ N,N=w.heap.size:=⟨_,rfl⟩;rw [<- hW] at hrz Hown Hbel;rw [<- hN] at hrz Hown Hbel |-;clear hG hROW hRs hW hN;have i1:¬ (n:Int)<0:=by omega
   have i2:(0:Int)<(n:Int):=by omega
   go_enter Tryz.func103,Tryz.ntmps103;go_wp2_with (at_builtin;refine wpList_appRun rfl _ _ 37 3 rfl rfl rfl (hrz _) ?_);go_ret;exact ⟨⟨_,rfl,Hown.out⟩,Hbel.out⟩
theorem concat_c {xs ys:List StepT} {so yo:Option Addr} {n m sc yc Q A A2:Nat} {w:World} (hn:n=xs.length) (hm:m=ys.length) (hQ:Box w Q [.slice so n sc,.slice yo m yc]) (hx:RdStepS A w (.slice so n sc) xs) (hy:RdStepS A2 w (.slice yo m yc) ys) (hsum:n+m<=20) :
 Calls Tryz.prog 64 #[.slice (some ⟨Q,0,none⟩) 2 2] w fun e w'=>(∃ u,e=.returned u/\Own eStep 75 w.heap.size w' u (xs++ys))/\Below w.heap.size w w':=by
 obtain ⟨i0,hi,hz0,hz1,hz2⟩:=info_parts Tryz.infoStep;obtain ⟨L,hL⟩:∃ L,L=[xs,ys]:=⟨_,rfl⟩;have hrow:∀ k,k<2->∃ (z:List StepT) (zo:Option Addr) (q zc B:Nat),L[k]?=some z/\q=z.length/\w.cell? ⟨Q,k,none⟩=some (.slice zo q zc)/\RdStepS B w (.slice zo q zc) z:=by
  intro k hk;by_cases h0:k=0
  . subst h0;exact ⟨xs,so,n,sc,A,by rw [hL];rfl,hn,hQ.cell 0 _ rfl,hx⟩
  . obtain rfl:k=1:=by omega
    exact ⟨ys,yo,m,yc,A2,by rw [hL];rfl,hm,hQ.cell 1 _ rfl,hy⟩
 have hlen:∀ k,((L.take k).flatten).length<=20:=by
  intro k;rw [hL];have:=take_flat_len xs ys k;omega
 have hall:(L.take 2).flatten=xs++ys:=by rw [hL];simp
 have hl:=hQ.lt;have Hrow:=hid hrow;have Hlen:=hid hlen;have Hall:=hid hall;clear hx hy hn hm hsum hQ hrow hlen hall hL;go_enter Tryz.func64,Tryz.ntmps64;go_wp2;go_loop [3,11] (fun sv iv=>∃ k:Nat,k<=2/\iv=.int .i64 k/\sv=.int .i64 (((L.take k).flatten).length:Nat)) (fun _ i=>2 - (intOf i).toNat)
 case atStart=>exact ⟨0,by omega,rfl,rfl⟩
 case round =>
  obtain ⟨k,hk,rfl,rfl⟩:=hrel;by_cases hk2:k<2
  . obtain ⟨z,zo,q,zc,B,hz,hq,hcell,hrd⟩:=Hrow.out k hk2
    have hs1:=Hlen.out (k+1);have hs2:(L.take (k+1)).flatten.length=(L.take k).flatten.length+q:=by rw [take_flat hz,zE,hq]
    obtain ⟨s0,hs0⟩:∃ s,s=(L.take k).flatten.length:=⟨_,rfl⟩;rw [hs2,<- hs0] at hs1;rw [<- hs0] at hs2;have Hs2:=hid hs2;have hwr:IntKind.i64.wrap ((s0:Int)+(q:Int))=(s0:Int)+(q:Int):=IntWalk.i64_in _ (by omega);have hng:¬ ((s0:Int)+(q:Int)<0):=by omega
    rw [<- hs0];clear hs2 hs0 hz hq hrd;go_wp2;go_round
    case rel=>exact ⟨k+1,by omega,by push_cast;rfl,by rw [Hs2.out];push_cast;rfl⟩
    case measure=>simp [intOf];omega
  . obtain rfl:k=2:=by omega
    obtain ⟨S,hS⟩:∃ S,S=(L.take 2).flatten.length:=⟨_,rfl⟩;have hS20:S<=20:=by rw [hS];exact Hlen.out 2
    rw [<- hS];clear hS;go_wp2_with fail;with_reducible refine (grow_c _ hS20).mono ?_
    rintro e w1 ⟨⟨u,rfl,hu⟩,hb1⟩;have Hb1:=hid hb1;have HO0:Hid (Own eStep 75 w.heap.size w1 u ((L.take 0).flatten)):=hid hu;clear hb1 hu;go_wp2;go_loopw [6,27] (fun ov iv wr=>∃ k:Nat,k<=2/\iv=.int .i64 k/\Hid (Own eStep 75 w.heap.size wr ov ((L.take k).flatten))/\Hid (Below w.heap.size w wr)) (fun _ i _=>2 - (intOf i).toNat)
    case atStart=>exact ⟨0,by omega,rfl,HO0,Hb1⟩
    case round =>
     obtain ⟨k,hk,rfl,HO,HB⟩:=hrel;clear HO0 Hb1;by_cases hk2:k<2
     . obtain ⟨z,zo,q,zc,B,hz,hq,hcell,hrd⟩:=Hrow.out k hk2
       have hs1:=Hlen.out (k+1);rw [take_flat hz,zE] at hs1;have Hz:=hid (take_flat hz);have HR:=hid (Rds.onn hrd HB.out);have d0:=(HB.out.cell (p:=⟨Q,k,none⟩) hl).trans hcell;have Hs1:=hid hs1;clear hz hq hrd hcell hs1;go_wp2_with (first | (at_builtin;refine yAB (E:=eStep) rfl _ _ 37 rfl Tryz.underlying37 hi hz0 hz1 hz2 rfl (by decide) rfl rfl HO.out HR.out ?b1 ?b2 ?b3 ?_))
       case b1=>have:=Hs1.out;unfold maxLen;omega
       case b2=>have:=Hs1.out;omega
       case b3=>exact HB.out.size
       intro v' w' hO' hG';have HO2:=hid hO';have HB2:=hid (Grew.below hG' HB.out HB.out.size (fun j hj=>(HO.out.lt j hj).1));clear hO' hG' d0;go_wp2;go_roundw
       case rel=>exact ⟨k+1,by omega,by push_cast;rfl,hid (by rw [Hz.out];exact HO2.out),HB2⟩
       case measure=>simp [intOf];omega
     . obtain rfl:k=2:=by omega
       go_wp2;go_ret;exact ⟨⟨_,rfl,by rw [<- Hall.out];exact HO.out⟩,HB.out⟩
open Go.Sort
def TwoS (v:Value) (w:World) (a b:Value):Prop:=∃ X,v=.slice (some ⟨X,0,none⟩) 2 2/\Box w X [a,b]
theorem TwoS.below {v:Value} {w w':World} {a b:Value} (h:TwoS v w a b) (hb:Below w.heap.size w w'):TwoS v w' a b:=by
 obtain ⟨X,h1,h2⟩:=h;exact ⟨X,h1,h2.on hb⟩
theorem TwoS.new (w:World) (a b:Value):TwoS (.slice (some ⟨w.heap.size,0,none⟩) 2 2) (w.alloc (.cells #[a,b] 37)) a b:=⟨_,rfl,Box.new w [a,b] _⟩
theorem RestartAt_o {o:OffT} {xs ys:List StepT} {u v s t:Value} {w0:World} {A A2 B:Nat} (ho:RdOff B w0 u v o) (hx:RdStepS A w0 s xs) (hy:RdStepS A2 w0 t ys) (hl:LensOk o) (hsum:xs.length+ys.length<=9223372036854775807) :
 Calls Tryz.prog 24 #[.agg #[u,v],s,t] w0 fun e w'=>OffPost w0 (raO o xs ys) (raC o xs ys) e w':=by
 have hle:=hx.le;have hle2:=hy.le;obtain ⟨so,sc,rfl⟩:=hx.shape;obtain ⟨yo,yc,rfl⟩:=hy.shape;obtain ⟨uo,uc,rfl⟩:=RdL.shape ho.1;obtain ⟨vo,vc,rfl⟩:=RdL.shape ho.2;obtain ⟨N1,hN1⟩:∃ n,n=o.trays.length:=⟨_,rfl⟩;obtain ⟨N2,hN2⟩:∃ n,n=o.totals.length:=⟨_,rfl⟩;rw [<- hN1,<- hN2] at ho |-;clear hN1 hN2;obtain ⟨T,hT⟩:∃ T,T=(w0.alloc (.cells #[.slice uo N1 uc,.slice vo N2 vc] 35)).alloc (.cells #[.slice none 0 0,.slice none 0 0] 35):=⟨_,rfl⟩;have z1:(w0.alloc (.cells #[.slice uo N1 uc,.slice vo N2 vc] 35)).heap.size=w0.heap.size+1:=by simp
 have hTz:T.heap.size=w0.heap.size+2:=by rw [hT];simp
 have hP:Box T w0.heap.size [.slice uo N1 uc,.slice vo N2 vc]:=by rw [hT];exact (Box.new w0 [.slice uo N1 uc,.slice vo N2 vc] _).alloc _
 have hR:Box T (w0.heap.size+1) [.slice none 0 0,.slice none 0 0]:=by
  have h:=Box.new (w0.alloc (.cells #[.slice uo N1 uc,.slice vo N2 vc] 35)) [.slice none 0 0,.slice none 0 0] 35;rw [z1,<- hT] at h;exact h
 have hbT:Below w0.heap.size w0 T:=by rw [hT];exact ((zB _ _).alloc (zA _) _).alloc (by rw [z1];omega) _
 have hoT:=RdOff.onn ho hbT;have hvo:=ValidOffice_c hoT;obtain ⟨V,hV⟩:∃ V,V=offB o:=⟨_,rfl⟩;rw [<- hV] at hvo;obtain ⟨C,hC⟩:∃ c,raC o xs ys=c:=⟨_,rfl⟩;obtain ⟨O,hO⟩:∃ r,raO o xs ys=r:=⟨_,rfl⟩;rw [hC,hO];unfold raO at hO;rw [hC] at hO;unfold raC at hC;have hxT:=Rds.onn hx hbT;have hyT:=Rds.onn hy hbT;obtain ⟨n,hn⟩:∃ n,n=xs.length:=⟨_,rfl⟩;obtain ⟨m,hm⟩:∃ n,n=ys.length:=⟨_,rfl⟩;rw [<- hn] at hle hC hxT hsum |-;rw [<- hm] at hle2 hC hyT hsum |-;have c0:=hP.cell 0 _ rfl;have c1:=hP.cell 1 _ rfl;have HT:=hid hT;have HR:=hid hR;have HP:=hid hP;have HbT:=hid hbT;have Hvo:=hid hvo;have HTz:=hid hTz;have HC:=hid hC;have HO:=hid hO;have HV:=hid hV;have HoT:=hid hoT;have HxT:=hid hxT;have HyT:=hid hyT;have Hl:=hid hl;have Hn:=hid hn;have Hm:=hid hm;clear ho hx hy hl hT hP hR hbT hoT hxT hyT hvo hn hm z1 hTz hC hO hV;have w2:IntKind.i64.wrap ((n:Int)+(m:Int))=(n:Int)+(m:Int):=IntWalk.i64_in _ (by omega);go_enter Tryz.func24,Tryz.ntmps24;go_upto_region 1 with fail;rw [<- HT.out];go_wp2_with fail;with_reducible refine Hvo.out.mono ?_
 rintro e w1 ⟨rfl,hb1⟩;have HR1:=hid (HR.out.on hb1);have HP1:=hid (HP.out.on hb1);have Ho1:=hid (RdOff.onn HoT.out hb1);have Hx1:=hid (Rds.onn HxT.out hb1);have Hy1:=hid (Rds.onn HyT.out hb1);have Hb1:=hid (HbT.out.trans (hb1.mono HbT.out.size));have hz1:=hb1.size;clear hb1 c0 c1 HR HP HoT HxT HyT;have c0:=HP1.out.cell 0 _ rfl;have c1:=HP1.out.cell 1 _ rfl;have r0:=HR1.out.cell 0 _ rfl;have r1:=HR1.out.cell 1 _ rfl;have rf0:=HR1.out.free 0;have rf1:=HR1.out.free 1;have HBn:=hid (belowTwo Hb1.out (Nat.le_succ _) (.slice none 0 0) (.slice none 0 0));cases V with
 | false =>
  have HE:Hid (C=1):=hid (by rw [<- HC.out,if_pos HV.out.symm]);have HE2:Hid (O=⟨[],[]⟩):=hid (by rw [<- HO.out,if_neg (by rw [HE.out];decide)]);go_wp2;exact bodyPost_ret (v:=.tuple #[.agg #[.slice none 0 0,.slice none 0 0],.int .i64 1]) (by simp [results,Tryz.results24,go_sem,r0,r1]) rfl ⟨⟨_,_,by rw [HE.out],by rw [HE2.out];exact OwnO.emptyO _⟩,HBn.out⟩
 | true =>
  have HC1:Hid (C=if 20<n+m then 2 else if (runP o (xs++ys)).2<n+m then 6 else 0):=hid (by rw [<- HC.out,if_neg (by rw [<- HV.out];decide)]);by_cases hn20:20<n+m
  . have HE:Hid (C=2):=hid (by rw [HC1.out,if_pos hn20])
    have HE2:Hid (O=⟨[],[]⟩):=hid (by rw [<- HO.out,if_neg (by rw [HE.out];decide)]);have i1:(20:Int)<(n:Int)+(m:Int):=by omega
    go_wp2;exact bodyPost_ret (v:=.tuple #[.agg #[.slice none 0 0,.slice none 0 0],.int .i64 2]) (by simp [results,Tryz.results24,go_sem,r0,r1]) rfl ⟨⟨_,_,by rw [HE.out],by rw [HE2.out];exact OwnO.emptyO _⟩,HBn.out⟩
  . have i1:¬ (20:Int)<(n:Int)+(m:Int):=by omega
    have HC2:Hid (C=if (runP o (xs++ys)).2<n+m then 6 else 0):=hid (by rw [HC1.out,if_neg hn20]);have hpl:(xs++ys).length=n+m:=by rw [zE,<- Hn.out,<- Hm.out]
    have HCa:Hid (afC o (xs++ys)=C):=hid (by unfold afC;rw [hpl,HC2.out]);have HOa:Hid (afO o (xs++ys)=O):=hid (by
     unfold afO;rw [hpl,<- HO.out,HC2.out];by_cases h:(runP o (xs++ys)).2<n+m
     . rw [if_pos h,if_pos h,if_neg (by decide)]
     . rw [if_neg h,if_neg h,if_pos rfl])
    have Haft:Hid (∀ w x,Below w1.heap.size w1 w->RdStepS w.heap.size w x (xs++ys)->Calls Tryz.prog 61 #[.agg #[.slice uo N1 uc,.slice vo N2 vc],x] w fun e w'=>OffPost w O C e w'):=hid (fun w x hw hx=>by
     have h:=officeAfter_o (xs:=xs++ys) (RdOff.onn Ho1.out hw) hx HV.out.symm Hl.out;rw [HCa.out,HOa.out] at h;exact h)
    have Hcon:Hid (∀ w Q,Below w1.heap.size w1 w->Box w Q [.slice so n sc,.slice yo m yc]->Calls Tryz.prog 64 #[.slice (some ⟨Q,0,none⟩) 2 2] w fun e w'=>(∃ u,e=.returned u/\Own eStep 75 w.heap.size w' u (xs++ys))/\Below w.heap.size w w'):=hid (fun w Q hw hQ=>concat_c Hn.out Hm.out hQ (Rds.onn Hx1.out hw) (Rds.onn Hy1.out hw) (by omega));have HRx:=HR1;have Hbx:=Hb1;have HRl:Hid (w0.heap.size+1<w1.heap.size):=hid HR1.out.lt;have rl:=HR1.out.lt;have cl:=HP1.out.lt;clear hpl Ho1 Hx1 Hy1;go_upto_region 5 with fail;refine yBT (W:=w1) 8 (fun i=>match i with | 0=>0 | 1=>0 | 2=>0 | 3=>0 | 4=>0 | 5=>0 | 6=>0 | 7=>2 | 8=>2 | 9=>2 | _=>2) (fun i v w=>match i with | 3=>TwoS v w (.slice so n sc) (.slice yo m yc) | 4=>RdStepS w.heap.size w v (xs++ys) | 5=>∃ r:ShT,v=.tuple #[.agg #[.slice r.1 O.trays.length r.2.1,.slice r.2.2.1 O.totals.length r.2.2.2],.int .i64 C]/\OwnO (fun q=>w1.heap.size<=q/\q<w.heap.size) w (.slice r.1 O.trays.length r.2.1) (.slice r.2.2.1 O.totals.length r.2.2.2) O | 6=>∃ r:ShT,v=.agg #[.slice r.1 O.trays.length r.2.1,.slice r.2.2.1 O.totals.length r.2.2.2]/\OwnO (fun q=>w1.heap.size<=q/\q<w.heap.size) w (.slice r.1 O.trays.length r.2.1) (.slice r.2.2.1 O.totals.length r.2.2.2) O | _=>True) (fun i x v=>match i with | 0=>v=.agg #[.slice uo N1 uc,.slice vo N2 vc] | 1=>v=.slice so n sc | 2=>v=.slice yo m yc | 5=>∃ r:ShT,v=.tuple #[.agg #[.slice r.1 O.trays.length r.2.1,.slice r.2.2.1 O.totals.length r.2.2.2],.int .i64 C] | 6=>∃ r:ShT,v=.agg #[.slice r.1 O.trays.length r.2.1,.slice r.2.2.1 O.totals.length r.2.2.2] | 7=>v=.int .i64 C | 9=>v=.int .i64 C | _=>True) (fun v w=>∃ (r:ShT) (wz:World),Below w1.heap.size w1 wz/\OwnO (fun q=>w1.heap.size<=q/\q<wz.heap.size) wz (.slice r.1 O.trays.length r.2.1) (.slice r.2.2.1 O.totals.length r.2.2.2) O/\w=(wz.setCell ⟨w0.heap.size+1,0,none⟩ (.slice r.1 O.trays.length r.2.1)).setCell ⟨w0.heap.size+1,1,none⟩ (.slice r.2.2.1 O.totals.length r.2.2.2)) (by kernel_rfl) (by kernel_rfl) (by kernel_rfl) (by kernel_rfl) ?_ ?_ ?_ ?_
    . intro i v w w' h hb
      iterate 10 (obtain _ | i:=i;· first | exact h | exact h.below hb | exact Rds.onn h hb | (obtain ⟨r,h1,h2⟩:=h;exact ⟨r,h1,OwnO.keep h2 hb⟩))
      exact h
    . intro i x y v hp h
      iterate 10 (obtain _ | i:=i;· exact h)
      exact h
    . intro vs hvs
      match vs,hvs with
      | [v0,v1,v2,v3,v4,v5,v6,v7,v8,v9],_ =>
       refine ⟨?_,?_,?_,?_,?_,?_,?_,?_,?_,?_,trivial⟩
       . refine yAN ?_ ?_ ?_;exact (by decide);kernel_rfl
         intro wr hC hd;clear hd;with_reducible refine yAH ?_ ?_
         . exact yAG rfl
         have e0:=(hC.cell (p:=⟨w0.heap.size,0,none⟩) cl).trans c0;have e1:=(hC.cell (p:=⟨w0.heap.size,1,none⟩) cl).trans c1;unfold relAt;simp only [putAll];go_simp;simp only [relUpon];first | trivial | exact ⟨zB _ _,by trivial⟩
       . refine yAN ?_ ?_ ?_;exact (by decide);kernel_rfl
         intro wr hC hd;clear hd;with_reducible refine yAH ?_ ?_
         . exact yAG rfl
         unfold relAt;simp only [putAll];go_simp;simp only [relUpon];first | trivial | exact ⟨zB _ _,by trivial⟩
       . refine yAN ?_ ?_ ?_;exact (by decide);kernel_rfl
         intro wr hC hd;clear hd;with_reducible refine yAH ?_ ?_
         . exact yAG rfl
         unfold relAt;simp only [putAll];go_simp;simp only [relUpon];first | trivial | exact ⟨zB _ _,by trivial⟩
       . refine yAN ?_ ?_ ?_;exact (by decide);kernel_rfl
         intro wr hC hd;have d1:v1=.slice so n sc:=(yAC 1 (by kernel_rfl) hd (by decide)).2;subst d1;have d2:v2=.slice yo m yc:=(yAC 2 (by kernel_rfl) hd (by decide)).2;subst d2;clear hd;with_reducible refine yAH ?_ ?_
         . exact yAG rfl
         unfold relAt;simp only [putAll];go_simp;simp only [relUpon];exact ⟨(zB _ _).alloc (zA _) _,TwoS.new wr (.slice so n sc) (.slice yo m yc)⟩
       . refine yAN ?_ ?_ ?_;exact (by decide);kernel_rfl
         intro wr hC hd;have i3:TwoS v3 wr (.slice so n sc) (.slice yo m yc):=(yAC 3 (by kernel_rfl) hd (by decide)).1 rfl rfl;clear hd;with_reducible refine yAH ?_ ?_
         . exact yAG rfl
         obtain ⟨X,rfl,hX⟩:=i3;have hcal:=Hcon.out wr X hC hX;unfold relAt;simp only [putAll];go_simp;simp only [relUpon];with_reducible refine hcal.mono ?_
         rintro e w99 ⟨⟨u9,rfl,hO9⟩,hb9⟩;exact ⟨_,rfl,hb9,Own.rds hO9⟩
       . refine yAN ?_ ?_ ?_;exact (by decide);kernel_rfl
         intro wr hC hd;have d0:v0=.agg #[.slice uo N1 uc,.slice vo N2 vc]:=(yAC 0 (by kernel_rfl) hd (by decide)).2;subst d0;have i4:RdStepS wr.heap.size wr v4 (xs++ys):=(yAC 4 (by kernel_rfl) hd (by decide)).1 rfl rfl;clear hd;with_reducible refine yAH ?_ ?_
         . exact yAG rfl
         have hcal:=Haft.out wr _ hC i4;unfold relAt;simp only [putAll];go_simp;simp only [relUpon];with_reducible refine hcal.mono ?_
         intro e w99 hp;obtain ⟨⟨r,rfl,hO⟩,hb⟩:=hp.r;exact ⟨_,rfl,hb,⟨r.1,r.2.1,r.2.2.1,r.2.2.2,rfl,OwnO.low hO hC.size⟩,r.1,r.2.1,r.2.2.1,r.2.2.2,rfl⟩
       . refine yAN ?_ ?_ ?_;exact (by decide);kernel_rfl
         intro wr hC hd;have d5:∃ r:ShT,v5=.tuple #[.agg #[.slice r.1 O.trays.length r.2.1,.slice r.2.2.1 O.totals.length r.2.2.2],.int .i64 C]:=(yAC 5 (by kernel_rfl) hd (by decide)).2;have i5:∃ r:ShT,v5=.tuple #[.agg #[.slice r.1 O.trays.length r.2.1,.slice r.2.2.1 O.totals.length r.2.2.2],.int .i64 C]/\OwnO (fun q=>w1.heap.size<=q/\q<wr.heap.size) wr (.slice r.1 O.trays.length r.2.1) (.slice r.2.2.1 O.totals.length r.2.2.2) O:=(yAC 5 (by kernel_rfl) hd (by decide)).1 rfl rfl;clear hd;with_reducible refine yAH ?_ ?_
         . exact yAG rfl
         have h8:=i5.choose_spec.1;have h9:=i5.choose_spec.2;generalize i5.choose=r at h8 h9;clear d5 i5;subst h8;unfold relAt;simp only [putAll];go_simp;simp only [relUpon];exact ⟨zB _ _,⟨r.1,r.2.1,r.2.2.1,r.2.2.2,rfl,h9⟩,r.1,r.2.1,r.2.2.1,r.2.2.2,rfl⟩
       . refine oneStep_u ?_ ?_ ?_;exact (by decide);kernel_rfl
         intro wr hd;have d5:∃ r:ShT,v5=.tuple #[.agg #[.slice r.1 O.trays.length r.2.1,.slice r.2.2.1 O.totals.length r.2.2.2],.int .i64 C]:=(yAC 5 (by kernel_rfl) hd (by decide)).2;clear hd;with_reducible refine yAH ?_ ?_
         . exact yAG rfl
         have h8:=d5.choose_spec;generalize d5.choose=r at h8;clear d5;subst h8;unfold relAt;simp only [putAll];go_simp;simp only [relUpon];first | trivial | exact ⟨rfl,by first | rfl | trivial⟩
       . refine oneStep_p ?_ ?_;kernel_rfl
         intro wr hC hd;have d6:∃ r:ShT,v6=.agg #[.slice r.1 O.trays.length r.2.1,.slice r.2.2.1 O.totals.length r.2.2.2]:=(yAC 6 (by kernel_rfl) hd (by decide)).2;have i6:∃ r:ShT,v6=.agg #[.slice r.1 O.trays.length r.2.1,.slice r.2.2.1 O.totals.length r.2.2.2]/\OwnO (fun q=>w1.heap.size<=q/\q<wr.heap.size) wr (.slice r.1 O.trays.length r.2.1) (.slice r.2.2.1 O.totals.length r.2.2.2) O:=(yAC 6 (by kernel_rfl) hd (by decide)).1 rfl rfl;clear hd;with_reducible refine yAH ?_ ?_
         . exact yAG rfl
         have h8:=i6.choose_spec.1;have h9:=i6.choose_spec.2;generalize i6.choose=r at h8 h9;clear d6 i6;subst h8;have e0:=(hC.cell (p:=⟨w0.heap.size+1,0,none⟩) rl).trans r0;have e1:=(hC.cell (p:=⟨w0.heap.size+1,1,none⟩) rl).trans r1;have hq:=HRx.out.on hC;have f0:=hq.free 0;have f1:=hq.free 1;unfold relAt;simp only [putAll];go_simp;simp only [relUpon];first | exact ⟨r,_,hC,h9,rfl⟩ | exact ⟨r.1,r.2.1,r.2.2.1,r.2.2.2,_,hC,h9,rfl⟩
       . refine oneStep_u ?_ ?_ ?_;exact (by decide);kernel_rfl
         intro wr hd;have d7:v7=.int .i64 C:=(yAC 7 (by kernel_rfl) hd (by decide)).2;subst d7;clear hd;with_reducible refine yAH ?_ ?_
         . exact yAG rfl
         unfold relAt;simp only [putAll];go_simp;simp only [relUpon];first | trivial | exact ⟨rfl,by first | rfl | trivial⟩
    . intro vs wq hvs hZ hI
      match vs,hvs,hZ,hI with
      | [v0,v1,v2,v3,v4,v5,v6,v7,v8,v9],_,hZ,hI =>
       replace hZ:∃ (r:ShT) (wz:World),Below w1.heap.size w1 wz/\OwnO (fun q=>w1.heap.size<=q/\q<wz.heap.size) wz (.slice r.1 O.trays.length r.2.1) (.slice r.2.2.1 O.totals.length r.2.2.2) O/\wq=(wz.setCell ⟨w0.heap.size+1,0,none⟩ (.slice r.1 O.trays.length r.2.1)).setCell ⟨w0.heap.size+1,1,none⟩ (.slice r.2.2.1 O.totals.length r.2.2.2):=hZ;have d0:v0=.agg #[.slice uo N1 uc,.slice vo N2 vc]:=hI 0 (by decide) (by decide);subst d0;have d1:v1=.slice so n sc:=hI 1 (by decide) (by decide);subst d1;have d2:v2=.slice yo m yc:=hI 2 (by decide) (by decide);subst d2;have d5:∃ r:ShT,v5=.tuple #[.agg #[.slice r.1 O.trays.length r.2.1,.slice r.2.2.1 O.totals.length r.2.2.2],.int .i64 C]:=hI 5 (by decide) (by decide);have d6:∃ r:ShT,v6=.agg #[.slice r.1 O.trays.length r.2.1,.slice r.2.2.1 O.totals.length r.2.2.2]:=hI 6 (by decide) (by decide);have d7:v7=.int .i64 C:=hI 7 (by decide) (by decide);subst d7;have d9:v9=.int .i64 C:=hI 9 (by decide) (by decide);subst d9;clear hI;simp only [putAll];go_simp;obtain ⟨r,wz,hbz,hOz,rfl⟩:=hZ;have HF:=hid (hOz.res (R:=w0.heap.size+1) (x:=.slice r.1 O.trays.length r.2.1) (y:=.slice r.2.2.1 O.totals.length r.2.2.2) (by have:=HRl.out;omega) (n0:=w0.heap.size) (by have:=HRl.out;omega));have HBf:=hid (belowTwo (Hbx.out.trans (hbz.mono Hbx.out.size)) (Nat.le_succ _) (.slice r.1 O.trays.length r.2.1) (.slice r.2.2.1 O.totals.length r.2.2.2));have Rz:=HRx.out.on hbz;have q0:=Rz.cell 0 _ rfl;have q1:=Rz.cell 1 _ rfl;clear hbz hOz Rz c0 c1 r0 r1 rf0 rf1 rl cl;go_wp2;exact bodyPost_ret (v:=.tuple #[.agg #[.slice r.1 O.trays.length r.2.1,.slice r.2.2.1 O.totals.length r.2.2.2],.int .i64 C]) (by simp [results,Tryz.results24,go_sem,q0,q1]) rfl ⟨⟨_,_,rfl,HF.out⟩,HBf.out⟩
end Go.Proofs.YthdaghfhlfjclaaGreat
