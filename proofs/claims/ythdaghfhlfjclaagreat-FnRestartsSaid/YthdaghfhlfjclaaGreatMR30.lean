/- Lemmas on the way to the law FnRestarts. No condition. -/
import Derived.Test.YthdaghfhlfjclaaGreatMR18
import Derived.Test.YthdaghfhlfjclaaGreatMR27
import Derived.Test.YthdaghfhlfjclaaGreatMR23
import Derived.Test.YthdaghfhlfjclaaGreatMR12
namespace Go.Proofs.YthdaghfhlfjclaaGreat
set_option maxHeartbeats 3000000
set_option linter.unusedSimpArgs false
open Lib (hid)
open Go.ChangeShapes Go.WideShapes Go.ChangeAt Go.RowKit
set_option linter.unusedVariables false
set_option maxRecDepth 100000
theorem str_at (S:ByteArray) {n k:Nat} (hn:S.size=n) (hk:k<n):∃ c:Int,(0<=c/\c<=255)/\∀ w,(Instr.index 9 (.string S) (.int .i64 (k:Int))).run Tryz.prog w=.ok (.int .u8 c) w:=by
 refine ⟨((S[k]'(by omega)).toNat:Int),?_,fun w=>?_⟩
 . have:=(S[k]'(by omega)).toNat_lt;omega
 . rw [run_index_string w 9 S .i64 (k:Int) Tryz.underlying9,dif_pos ⟨by omega,by omega⟩]
   rfl
theorem l03DrawText_any {w:World} {b N:Nat} (n:Nat) (hs:Src w b N) (hN:N<=1000000) (hn:n<=20) :
 Calls Tryz.prog 198 #[.pointer (some ⟨b,0,none⟩),.int .i64 (n:Int)] w fun e w'=>(∃ s:ByteArray,e=.returned (.string s)/\s.size<=n)/\Src w' b (N+4 * n)/\w.grownBy w' (some b):=by
 obtain ⟨i0,hi,hz0,hz1,hz2⟩:=info_parts Tryz.infoU8t;have hbl:=hs.lt;obtain ⟨W,hW⟩:∃ W,W=w.alloc (.cells #[] 5):=⟨_,rfl⟩;have HR0:Hid (Own eB 5 w.heap.size W (.slice (some ⟨w.heap.size,0,none⟩) 0 0) ([]:List Int)):=hid (by rw [hW];exact Own.lit (E:=eB) (xs:=[]) (cs:=#[]) (zA _) rfl rfl (by decide) (fun x hx=>by cases hx));have HS0:Hid (Src W b N/\w.grownBy W (some b)):=hid (by rw [hW];exact ⟨hs.alloc _,World.grownBy_alloc _ _ _⟩);have HW:=hid hW;obtain ⟨S,hS⟩:∃ S,S=charsB:=⟨_,rfl⟩;have hsz:S.size=40:=by rw [hS];decide +kernel
 have Hsz:=hid hsz;have ho:=l03Order_c w;rw [<- hS] at ho;have Ho:=hid ho;clear hW hs hS ho;go_enter Tryz.func198,Tryz.ntmps198;go_wp2_with fail;with_reducible refine Ho.out.mono ?_
 rintro e w1 ⟨rfl,rfl⟩;go_upto_region 3 with fail;rw [<- HW.out];clear HW;go_wp2;go_loopw [6,7] (fun ov i wr=>∃ (k:Nat) (xs:List Int),k<=n/\i=.int .i64 k/\Hid (xs.length=k)/\Own eB 5 w.heap.size wr ov xs/\Src wr b (N+4 * k)/\w.grownBy wr (some b)) (fun _ i _=>n - (intOf i).toNat)
 case atStart=>exact ⟨0,[],zK _,rfl,hid rfl,HR0.out,HS0.out.1,HS0.out.2⟩
 case round =>
  obtain ⟨k,xs,hk,rfl,Hl,hR,hsr,hg⟩:=hrel;clear HR0 HS0;obtain ⟨ro,rc,hro⟩:=hR.shape;rw [Hl.out] at hro;subst hro;by_cases hkn:k<n
  . have hki:(k:Int)<(n:Int):=by omega
    go_wp2_with fail;with_reducible refine (one_any 3 hsr (by omega) (by omega)).mono ?_
    rintro e w1 ⟨⟨q,rfl⟩,hs1,hg1,-⟩;have hR1:=hR.keptS hg1 hbl;have hg1':=yAA hg hg1;clear hR hsr hg hg1;cases q with
    | true =>
     go_wp2_with fail;with_reducible refine (yAK 40 hs1 (by omega) (by omega)).mono ?_
     rintro e w2 ⟨⟨r,rfl,hr0,hr1,_⟩,hs2,hg2,-⟩;have hr2:=hr1 (by omega);obtain ⟨j,rfl⟩:=zG hr0;obtain ⟨c,hc,hix⟩:=str_at S Hsz.out (k:=j) (by omega);have hR2:=hR1.keptS hg2 hbl;have HR:=hid hR2;have HS:=hid hs2;have HG:=hid (yAA hg1' hg2);have Hc:Hid (eB.ok c):=hid hc;have Hb2:Hid (w.heap.size<=w2.heap.size):=hid (by have:=hg1'.size;have:=hg2.size;omega);clear hs1 hg1' hR1 hg2 hR2 hs2 hc hr1 hr2 hr0;go_wp2_with (first | (at_builtin;refine yAB (E:=eB) rfl _ _ 50 rfl Tryz.underlying50 hi hz0 hz1 hz2 rfl (by decide) rfl rfl (HR.out.alloc _) (yAJ (E:=eB) (x:=c) Hc.out rfl) ?b1 ?b2 ?b3 ?_))
     case b1=>rw [Hl.out];unfold maxLen;(try simp) <;> omega
     case b2=>rw [Hl.out];(try simp) <;> omega
     case b3=>have:=Hb2.out;(try simp) <;> omega
     intro s2 w3 hR3 hg;have hg3:=hg.alloc.1;have hne:∀ q,(Value.slice ro k rc).ownBlock=some q->w.heap.size<=q:=fun q hq=>(HR.out.lt q hq).1;have HR3:=hid hR3;have HS3:=hid (HS.out.kept hg3 (fun q hq=>by have:=hne q hq;omega));have HG3:=hid (yAS HG.out hg3 hne);clear hR3 hg hg3 hne HR HS HG;go_wp2;go_roundw
     case rel=>exact ⟨k+1,_,by omega,by go_num,hid (by rw [zE,Hl.out];rfl),HR3.out,HS3.out.mono (by omega),HG3.out⟩
     case measure=>simp [intOf];omega
    | false =>
     go_wp2_with fail;with_reducible refine (yAK 7 hs1 (by omega) (by omega)).mono ?_
     rintro e w2 ⟨⟨r,rfl,hr0,hr1,_⟩,hs2,hg2,-⟩;have hr2:=hr1 (by omega);obtain ⟨j,rfl⟩:=zG hr0;obtain ⟨c,hc,hix⟩:=str_at ⟨#[65,66,48,49,32,74,90]⟩ (n:=7) rfl (k:=j) (by omega);have hR2:=hR1.keptS hg2 hbl;have HR:=hid hR2;have HS:=hid hs2;have HG:=hid (yAA hg1' hg2);have Hc:Hid (eB.ok c):=hid hc;have Hb2:Hid (w.heap.size<=w2.heap.size):=hid (by have:=hg1'.size;have:=hg2.size;omega);clear hs1 hg1' hR1 hg2 hR2 hs2 hc hr1 hr2 hr0;go_wp2_with (first | (at_builtin;refine yAB (E:=eB) rfl _ _ 50 rfl Tryz.underlying50 hi hz0 hz1 hz2 rfl (by decide) rfl rfl (HR.out.alloc _) (yAJ (E:=eB) (x:=c) Hc.out rfl) ?b1 ?b2 ?b3 ?_))
     case b1=>rw [Hl.out];unfold maxLen;(try simp) <;> omega
     case b2=>rw [Hl.out];(try simp) <;> omega
     case b3=>have:=Hb2.out;(try simp) <;> omega
     intro s2 w3 hR3 hg;have hg3:=hg.alloc.1;have hne:∀ q,(Value.slice ro k rc).ownBlock=some q->w.heap.size<=q:=fun q hq=>(HR.out.lt q hq).1;have HR3:=hid hR3;have HS3:=hid (HS.out.kept hg3 (fun q hq=>by have:=hne q hq;omega));have HG3:=hid (yAS HG.out hg3 hne);clear hR3 hg hg3 hne HR HS HG;go_wp2;go_roundw
     case rel=>exact ⟨k+1,_,by omega,by go_num,hid (by rw [zE,Hl.out];rfl),HR3.out,HS3.out.mono (by omega),HG3.out⟩
     case measure=>simp [intOf];omega
  . obtain rfl:k=n:=by omega
    have hbd:∀ x∈xs,0<=x/\x<=255:=hR.2;have hbt:=bytesI_toB hbd;have Hsz9:Hid ((toB xs).size<=k):=hid (Nat.le_of_eq (by rw [toB_size,Hl.out]));rw [<- hbt] at hR;have hcv:=conv_own hR;have HS:=hid hsr;have HG:=hid hg;clear hR hbt hbd hsr hg;go_wp2;go_ret;exact ⟨⟨_,rfl,Hsz9.out⟩,HS.out,HG.out⟩
abbrev stC (x:StepT):List Value:=[.int .i64 x.kd,.int .i64 x.ta,.int .i64 x.tb,.int .i64 x.tc,.int .i64 x.ff,.int .i64 x.ft,.int .i64 x.sf,.int .i64 x.st,.string x.tx]
theorem ok_kd {x:StepT} (h:okStep x) {n:Int} (hn:I64 n):okStep { x with kd:=n }:=⟨hn,h.2⟩
theorem ok_ta {x:StepT} (h:okStep x) {n:Int} (hn:I64 n):okStep { x with ta:=n }:=⟨h.1,hn,h.2.2⟩
theorem ok_tb {x:StepT} (h:okStep x) {n:Int} (hn:I64 n):okStep { x with tb:=n }:=⟨h.1,h.2.1,hn,h.2.2.2⟩
theorem ok_tc {x:StepT} (h:okStep x) {n:Int} (hn:I64 n):okStep { x with tc:=n }:=⟨h.1,h.2.1,h.2.2.1,hn,h.2.2.2.2⟩
theorem ok_ff {x:StepT} (h:okStep x) {n:Int} (hn:I64 n):okStep { x with ff:=n }:=⟨h.1,h.2.1,h.2.2.1,h.2.2.2.1,hn,h.2.2.2.2.2⟩
theorem ok_ft {x:StepT} (h:okStep x) {n:Int} (hn:I64 n):okStep { x with ft:=n }:=⟨h.1,h.2.1,h.2.2.1,h.2.2.2.1,h.2.2.2.2.1,hn,h.2.2.2.2.2.2⟩
theorem ok_sf {x:StepT} (h:okStep x) {n:Int} (hn:I64 n):okStep { x with sf:=n }:=⟨h.1,h.2.1,h.2.2.1,h.2.2.2.1,h.2.2.2.2.1,h.2.2.2.2.2.1,hn,h.2.2.2.2.2.2.2⟩
theorem ok_st {x:StepT} (h:okStep x) {n:Int} (hn:I64 n):okStep { x with st:=n }:=⟨h.1,h.2.1,h.2.2.1,h.2.2.2.1,h.2.2.2.2.1,h.2.2.2.2.2.1,h.2.2.2.2.2.2.1,hn,h.2.2.2.2.2.2.2.2⟩
theorem ok_tx {x:StepT} (h:okStep x) {s:ByteArray} (hn:s.size<=1000):okStep { x with tx:=s }:=⟨h.1,h.2.1,h.2.2.1,h.2.2.2.1,h.2.2.2.2.1,h.2.2.2.2.2.1,h.2.2.2.2.2.2.1,h.2.2.2.2.2.2.2.1,by show s.size<=9223372036854775807;omega⟩
structure SInv (w W:World) (b N R D:Nat) (x:StepT):Prop where
 src:Src W b N
 gr:w.grownBy W (some b)
 hR:Box W R (stC zStep)
 hD:Box W D (stC x)
 bR:w.heap.size<=R
 bD:w.heap.size<=D
 bb:b<w.heap.size
 ne:R ≠ D
 ok:okStep x
theorem SInv.fin {w W:World} {b N R D:Nat} {x:StepT} (h:SInv w W b N R D x):FinP w W b N:=⟨h.src,h.gr⟩
theorem SInv.kept {w W W':World} {b N M R D:Nat} {x:StepT} (h:SInv w W b N R D x) (hs:Src W' b M) (hg:W.grownBy W' (some b)):SInv w W' b M R D x:=by
 have h1:=h.bR;have h2:=h.bD;have h3:=h.bb;exact ⟨hs,yAA h.gr hg,h.hR.keptB hg (fun e=>by have:=zD e;omega),h.hD.keptB hg (fun e=>by have:=zD e;omega),h.bR,h.bD,h.bb,h.ne,h.ok⟩
theorem SInv.put {w W:World} {b N R D j:Nat} {x x':StepT} {v:Value} (h:SInv w W b N R D x) (hj:j<9) (hc:(stC x).set j v=stC x') (ok:okStep x') :
 SInv w (W.setCell ⟨D,j,none⟩ v) b N R D x':=by
 have hf:=h.fin.set (j:=j) (v:=v) h.bb h.bD;have hb:=h.hD.set1 (j:=j) hj v;rw [hc] at hb;exact ⟨hf.1,hf.2,h.hR.keptB (yAR W ⟨D,j,none⟩ v) (fun e=>h.ne (zD e).symm),hb,h.bR,h.bD,h.bb,h.ne,ok⟩
theorem SInv.up {w W:World} {b N M R D:Nat} {x:StepT} (h:SInv w W b N R D x) (hM:N<=M):SInv w W b M R D x:=⟨h.src.mono hM,h.gr,h.hR,h.hD,h.bR,h.bD,h.bb,h.ne,h.ok⟩
theorem SInv.all {w W:World} {b N R D:Nat} {x:StepT} (h:SInv w W b N R D x):(W.cell? ⟨D,0,none⟩=some (.int .i64 x.kd)/\W.cell? ⟨D,1,none⟩=some (.int .i64 x.ta)/\W.cell? ⟨D,2,none⟩=some (.int .i64 x.tb)/\W.cell? ⟨D,3,none⟩=some (.int .i64 x.tc)/\W.cell? ⟨D,4,none⟩=some (.int .i64 x.ff)/\W.cell? ⟨D,5,none⟩=some (.int .i64 x.ft)/\W.cell? ⟨D,6,none⟩=some (.int .i64 x.sf)/\W.cell? ⟨D,7,none⟩=some (.int .i64 x.st)/\W.cell? ⟨D,8,none⟩=some (.string x.tx))/\(W.cell? ⟨R,0,none⟩=some (.int .i64 0)/\W.cell? ⟨R,1,none⟩=some (.int .i64 0)/\W.cell? ⟨R,2,none⟩=some (.int .i64 0)/\W.cell? ⟨R,3,none⟩=some (.int .i64 0)/\W.cell? ⟨R,4,none⟩=some (.int .i64 0)/\W.cell? ⟨R,5,none⟩=some (.int .i64 0)/\W.cell? ⟨R,6,none⟩=some (.int .i64 0)/\W.cell? ⟨R,7,none⟩=some (.int .i64 0)/\W.cell? ⟨R,8,none⟩=some (.string ⟨#[]⟩))/\(W.frozen? ⟨R,0,none⟩=false/\W.frozen? ⟨R,1,none⟩=false/\W.frozen? ⟨R,2,none⟩=false/\W.frozen? ⟨R,3,none⟩=false/\W.frozen? ⟨R,4,none⟩=false/\W.frozen? ⟨R,5,none⟩=false/\W.frozen? ⟨R,6,none⟩=false/\W.frozen? ⟨R,7,none⟩=false/\W.frozen? ⟨R,8,none⟩=false) :=
 ⟨⟨h.hD.cell 0 _ rfl,h.hD.cell 1 _ rfl,h.hD.cell 2 _ rfl,h.hD.cell 3 _ rfl,h.hD.cell 4 _ rfl,h.hD.cell 5 _ rfl,h.hD.cell 6 _ rfl,h.hD.cell 7 _ rfl,h.hD.cell 8 _ rfl⟩,⟨h.hR.cell 0 _ rfl,h.hR.cell 1 _ rfl,h.hR.cell 2 _ rfl,h.hR.cell 3 _ rfl,h.hR.cell 4 _ rfl,h.hR.cell 5 _ rfl,h.hR.cell 6 _ rfl,h.hR.cell 7 _ rfl,h.hR.cell 8 _ rfl⟩,⟨h.hR.free 0,h.hR.free 1,h.hR.free 2,h.hR.free 3,h.hR.free 4,h.hR.free 5,h.hR.free 6,h.hR.free 7,h.hR.free 8⟩⟩
abbrev stRun (W:World) (R:Nat) (x:StepT):World:=(((((((((W.setCell ⟨R,0,none⟩ (.int .i64 x.kd)).setCell ⟨R,1,none⟩ (.int .i64 x.ta)).setCell ⟨R,2,none⟩ (.int .i64 x.tb)).setCell ⟨R,3,none⟩ (.int .i64 x.tc)).setCell ⟨R,4,none⟩ (.int .i64 x.ff)).setCell ⟨R,5,none⟩ (.int .i64 x.ft)).setCell ⟨R,6,none⟩ (.int .i64 x.sf)).setCell ⟨R,7,none⟩ (.int .i64 x.st)).setCell ⟨R,8,none⟩ (.string x.tx))
theorem SInv.done {w W:World} {b N R D:Nat} {x:StepT} (h:SInv w W b N R D x):Box (stRun W R x) R (stC x)/\FinP w (stRun W R x) b N :=
 ⟨(((((((((h.hR.set1 (j:=0) (by simp) (.int .i64 x.kd)).set1 (j:=1) (by simp) (.int .i64 x.ta)).set1 (j:=2) (by simp) (.int .i64 x.tb)).set1 (j:=3) (by simp) (.int .i64 x.tc)).set1 (j:=4) (by simp) (.int .i64 x.ff)).set1 (j:=5) (by simp) (.int .i64 x.ft)).set1 (j:=6) (by simp) (.int .i64 x.sf)).set1 (j:=7) (by simp) (.int .i64 x.st)).set1 (j:=8) (by simp) (.string x.tx)),(((((((((h.fin.set (R:=R) (j:=0) h.bb h.bR).set (R:=R) (j:=1) h.bb h.bR).set (R:=R) (j:=2) h.bb h.bR).set (R:=R) (j:=3) h.bb h.bR).set (R:=R) (j:=4) h.bb h.bR).set (R:=R) (j:=5) h.bb h.bR).set (R:=R) (j:=6) h.bb h.bR).set (R:=R) (j:=7) h.bb h.bR).set (R:=R) (j:=8) h.bb h.bR)⟩
theorem st_store {a:Act} {w:World} {K:Act->World->Prop} {Q:Exit->Act->World->Prop} {s:String} {q R:Nat} {x y:StepT} {af:Array Edge} (hp:a.tmps[2]?.getD undef=.pointer (some ⟨R,0,none⟩)) (hv:a.tmps[q]?.getD undef=vStep x) (hB:Box w R (stC y))
 (h:K a (stRun w R x)):Oper.wp Tryz.prog { dst:=none,op:=Op.store 75 (.tmp 2) (.tmp q),type:=0,pos:=s,after:=af,guard:=none } a w K Q:=by
 obtain ⟨r0,r1,r2,r3,r4,r5,r6,r7,r8⟩:w.cell? ⟨R,0,none⟩=some (.int .i64 y.kd)/\w.cell? ⟨R,1,none⟩=some (.int .i64 y.ta)/\w.cell? ⟨R,2,none⟩=some (.int .i64 y.tb)/\w.cell? ⟨R,3,none⟩=some (.int .i64 y.tc)/\w.cell? ⟨R,4,none⟩=some (.int .i64 y.ff)/\w.cell? ⟨R,5,none⟩=some (.int .i64 y.ft)/\w.cell? ⟨R,6,none⟩=some (.int .i64 y.sf)/\w.cell? ⟨R,7,none⟩=some (.int .i64 y.st)/\w.cell? ⟨R,8,none⟩=some (.string y.tx):=⟨hB.cell 0 _ rfl,hB.cell 1 _ rfl,hB.cell 2 _ rfl,hB.cell 3 _ rfl,hB.cell 4 _ rfl,hB.cell 5 _ rfl,hB.cell 6 _ rfl,hB.cell 7 _ rfl,hB.cell 8 _ rfl⟩;obtain ⟨e0,e1,e2,e3,e4,e5,e6,e7,e8⟩:w.frozen? ⟨R,0,none⟩=false/\w.frozen? ⟨R,1,none⟩=false/\w.frozen? ⟨R,2,none⟩=false/\w.frozen? ⟨R,3,none⟩=false/\w.frozen? ⟨R,4,none⟩=false/\w.frozen? ⟨R,5,none⟩=false/\w.frozen? ⟨R,6,none⟩=false/\w.frozen? ⟨R,7,none⟩=false/\w.frozen? ⟨R,8,none⟩=false:=⟨hB.free 0,hB.free 1,hB.free 2,hB.free 3,hB.free 4,hB.free 5,hB.free 6,hB.free 7,hB.free 8⟩;clear hB;go_simp;exact h
theorem smI {n:Int} (h:-1000<=n/\n<=1000):I64 n:=by unfold I64;omega
theorem l15DrawStep_any {w:World} {b N:Nat} (hs:Src w b N) (hN:N<=100000) :
 Calls Tryz.prog 152 #[.pointer (some ⟨b,0,none⟩)] w fun e w'=>(∃ x:StepT,e=.returned (vStep x)/\okStep x)/\Src w' b (N+60)/\w.grownBy w' (some b):=by
 have hbl:=hs.lt;go_enter Tryz.func152,Tryz.ntmps152;go_wp2_with fail;with_reducible refine (yAK 7 (hs.alloc _) (by omega) (by omega)).mono ?_
 rintro e w1 ⟨⟨r,rfl,hr0,hr1,_⟩,hs1,hg1,-⟩;have hr2:=hr1 (by omega);have hR1:=(Box.new w (stC zStep) 75).keptB hg1 (fun e=>by have:=zD e;omega);have hga:=yAA (World.grownBy_alloc w _ (some b)) hg1;have hsz1:w.heap.size<w1.heap.size:=hR1.lt;obtain ⟨W,hW⟩:∃ W,W=w1.alloc (.cells (stC ⟨1+r,0,0,0,0,1,0,0,⟨#[]⟩⟩).toArray 75):=⟨_,rfl⟩;obtain ⟨kd,hkd⟩:∃ kd,kd=1+r:=⟨_,rfl⟩;have P0:SInv w W b (N+2) w.heap.size w1.heap.size ⟨kd,0,0,0,0,1,0,0,⟨#[]⟩⟩:=by
  rw [hW,hkd];exact ⟨hs1.alloc _,yAA hga (World.grownBy_alloc _ _ _),hR1.alloc _,Box.new w1 _ _,zA _,by omega,hbl,by omega,ok_kd (ok_ft ok_zStep (smI (by omega))) (smI (by omega))⟩
 have hk:1<=kd/\kd<=7:=by omega
 have HW:=hid hW;clear hs hs1 hg1 hR1 hga hW;go_upto_region 2 with fail;rw [show w1.alloc (.cells #[.int .i64 (1+r),.int .i64 0,.int .i64 0,.int .i64 0,.int .i64 0,.int .i64 1,.int .i64 0,.int .i64 0,.string ⟨#[]⟩] 75)=W from HW.out.symm];clear HW hkd hr0 hr1 hr2;generalize w1.heap.size=D at P0 |-;generalize hRR:w.heap.size=R at P0 |-;clear hRR hsz1;as_aux_lemma =>
 go_wp2_with fail;with_reducible refine (yAK 3 P0.src (by omega) (by omega)).mono ?_
 rintro e w2 ⟨⟨a,rfl,ha0,ha1,_⟩,hs2,hg2,-⟩;have ha2:=ha1 (by omega);have P2:=P0.kept hs2 hg2;have c1:=P2.hD.cell 1 _ rfl;have f1:=P2.hD.free 1;have P3:=P2.put (j:=1) (x':=⟨kd,a,0,0,0,1,0,0,⟨#[]⟩⟩) (by decide) rfl (ok_ta P2.ok (smI (by omega)));clear P0 P2 hs2 hg2 ha1;go_wp2_with fail;with_reducible refine (one_any 4 P3.src (by omega) (by omega)).mono ?_
 rintro e w3 ⟨⟨q,rfl⟩,hs3,hg3,-⟩;have P4:=P3.kept hs3 hg3;clear P3 c1 f1 hs3 hg3;go_upto_if 13 with fail;go_cut [] (fun wx=>∃ ff ft:Int,(ff=0/\ft=1\/ff=1/\ft=3)/\SInv w wx b (N+6) R D ⟨kd,a,0,0,ff,ft,0,0,⟨#[]⟩⟩)
 case first =>
  cases q with
  | true =>
   have c4:=P4.hD.cell 4 _ rfl;have c5:=P4.hD.cell 5 _ rfl;have f4:=P4.hD.free 4;have f5:=P4.hD.free 5;go_wp2_with fail;go_meet;exact ⟨1,3,.inr ⟨rfl,rfl⟩,(P4.put (j:=4) (x':=⟨kd,a,0,0,1,1,0,0,⟨#[]⟩⟩) (by decide) rfl (ok_ff P4.ok (smI (by omega)))).put (j:=5) (by decide) rfl (ok_ft (ok_ff P4.ok (smI (by omega))) (smI (by omega)))⟩
  | false =>
   go_wp2_with fail;go_meet;exact ⟨0,1,.inl ⟨rfl,rfl⟩,P4⟩
 case rest =>
  obtain ⟨ff,ft,hft,P5⟩:=hcut;clear P4;have hff:(0<=ff/\ff<=1)/\1<=ft/\ft<=3:=by omega
  as_aux_lemma =>
  have c0:=P5.hD.cell 0 _ rfl;by_cases k7:kd=7
  . subst k7
    go_wp2_with fail;with_reducible refine (yAK 2 P5.src (by omega) (by omega)).mono ?_
    rintro e w6 ⟨⟨s2,rfl,hs0,hs1,_⟩,hs6,hg6,-⟩;have hs2:=hs1 (by omega);have P6:=P5.kept hs6 hg6;clear P5 c0 hs6 hg6 hs1 hft;have c6:=P6.hD.cell 6 _ rfl;have c7:=P6.hD.cell 7 _ rfl;have f6:=P6.hD.free 6;have f7:=P6.hD.free 7;go_upto_region 8 with fail;have P7:=(P6.put (j:=6) (x':=⟨7,a,0,0,ff,ft,1+2 * s2,0,⟨#[]⟩⟩) (v:=.int .i64 (1+2 * s2)) (by decide) rfl (ok_sf P6.ok (smI (by omega)))).put (j:=7) (x':=⟨7,a,0,0,ff,ft,1+2 * s2,0,⟨#[]⟩⟩) (v:=.int .i64 0) (by decide) rfl (ok_st (ok_sf P6.ok (smI (by omega))) (smI (by omega)));clear P6 c6 c7 f6 f7;generalize (w6.setCell ⟨D,6,none⟩ (.int .i64 (1+2 * s2))).setCell ⟨D,7,none⟩ (.int .i64 0)=W7 at P7 |-;have c6:=P7.hD.cell 6 _ rfl;have c7:=P7.hD.cell 7 _ rfl;have f7:=P7.hD.free 7;go_upto_region 9 with fail;have P8:=P7.put (j:=7) (x':=⟨7,a,0,0,ff,ft,1+2 * s2,1+2 * s2+2,⟨#[]⟩⟩) (v:=.int .i64 (1+2 * s2+2)) (by decide) rfl (ok_st P7.ok (smI (by omega)));clear P7 c6 c7 f7;generalize W7.setCell ⟨D,7,none⟩ (.int .i64 (1+2 * s2+2))=W8 at P8 |-;replace P8:=P8.up (M:=N+16) (by omega);have HP:=hid P8;have hRx:=P8.hR;obtain ⟨⟨d0,d1,d2,d3,d4,d5,d6,d7,d8⟩,-,-⟩:=P8.all;clear P8;go_step;go_step;go_step;go_step;go_step;with_reducible refine st_store (R:=R) (x:=⟨7,a,0,0,ff,ft,1+2 * s2,1+2 * s2+2,⟨#[]⟩⟩) ?_ ?_ hRx ?_
    . rfl
    . rfl
    obtain ⟨T,hT,hB,hF⟩:∃ T,T=stRun W8 R ⟨7,a,0,0,ff,ft,1+2 * s2,1+2 * s2+2,⟨#[]⟩⟩/\Box T R (stC ⟨7,a,0,0,ff,ft,1+2 * s2,1+2 * s2+2,⟨#[]⟩⟩)/\FinP w T b (N+16):=⟨_,rfl,HP.out.done⟩;rw [<- hT];have g0:=hB.cell 0 _ rfl;have g1:=hB.cell 1 _ rfl;have g2:=hB.cell 2 _ rfl;have g3:=hB.cell 3 _ rfl;have g4:=hB.cell 4 _ rfl;have g5:=hB.cell 5 _ rfl;have g6:=hB.cell 6 _ rfl;have g7:=hB.cell 7 _ rfl;have g8:=hB.cell 8 _ rfl;clear hT hRx d0 d1 d2 d3 d4 d5 d6 d7 d8;go_wp2;refine bodyPost_ret (v:=vStep ⟨7,a,0,0,ff,ft,1+2 * s2,1+2 * s2+2,⟨#[]⟩⟩) (by simp [results,Tryz.results152,go_sem,g0,g1,g2,g3,g4,g5,g6,g7,g8]) rfl ⟨⟨_,rfl,HP.out.ok⟩,hF.more (by omega)⟩
  by_cases k5:kd=5
  . subst k5
    have c4:=P5.hD.cell 4 _ rfl;have c5:=P5.hD.cell 5 _ rfl;rcases hft with ⟨rfl,rfl⟩ | ⟨rfl,rfl⟩
    . go_wp2_with fail
      with_reducible refine Calls.mono (show Calls Tryz.prog 198 #[.pointer (some ⟨b,0,none⟩),.int .i64 1] _ _ from l03DrawText_any 1 P5.src (by omega) (by omega)) ?_
      rintro e w6 ⟨⟨t1,rfl,ht1⟩,hs6,hg6⟩;have P6:=P5.kept hs6 hg6;have c8:=P6.hD.cell 8 _ rfl;have f8:=P6.hD.free 8;have P7:=P6.put (j:=8) (x':=⟨5,a,0,0,0,1,0,0,t1⟩) (by decide) rfl (ok_tx P6.ok (by omega));clear c0 c4 c5;have c5:=P6.hD.cell 5 _ rfl;have hDb:=P6.hD.lt;clear P5 P6 hs6 hg6;go_wp2_with fail;have hst:=StrAt.new (w:=w6.setCell ⟨D,8,none⟩ (.string t1)) (cs:=#[.string ⟨#[65]⟩,.string ⟨#[66]⟩,.string ⟨#[49]⟩]) (T:=9) (n:=3) (by
       intro k hk;obtain rfl | rfl | rfl:k=0\/k=1\/k=2:=by omega
       all_goals exact ⟨_,rfl,by decide⟩)
      have hzz:(w6.setCell ⟨D,8,none⟩ (.string t1)).heap.size=w6.heap.size:=by simp
      rw [hzz] at hst;with_reducible refine (text_any (nb:=w6.heap.size) (n:=3) (P7.src.alloc _) (by omega) hst (by have:=P7.src.lt;omega) (by omega)).mono ?_
      rintro e w8 ⟨⟨t2,rfl,ht2⟩,hs8,hg8⟩;have P8:=P7.kept hs8 (yAA (World.grownBy_alloc _ _ _) hg8);have c8':=P8.hD.cell 8 _ rfl;have f8':=P8.hD.free 8;have P10:=P8.put (j:=8) (x':=⟨5,a,0,0,0,1,0,0,t2⟩) (by decide) rfl (ok_tx P8.ok (by omega));clear P7 P8 hs8 hg8 c8 f8 c5 hst hzz;go_wp2_with fail;with_reducible refine (yAK 3 P10.src (by omega) (by omega)).mono ?_
      rintro e w9 ⟨⟨c,rfl,hc0,hc1,_⟩,hs9,hg9,-⟩;have hc2:=hc1 (by omega);have P9:=P10.kept hs9 hg9;clear hs9 hg9 hc1 P10 c8' f8';have c3:=P9.hD.cell 3 _ rfl;have f3:=P9.hD.free 3;go_upto_region 19 with fail;have P11:=P9.put (j:=3) (v:=.int .i64 c) (x':=⟨5,a,0,c,0,1,0,0,t2⟩) (by decide) rfl (ok_tc P9.ok (smI (by omega)));clear P9 c3 f3;generalize w9.setCell ⟨D,3,none⟩ (.int .i64 c)=W9 at P11 |-;replace P11:=P11.up (M:=N+16) (by omega);have HP:=hid P11;have hRx:=P11.hR;obtain ⟨⟨d0,d1,d2,d3,d4,d5,d6,d7,d8⟩,-,-⟩:=P11.all;clear P11;go_step;go_step;go_step;go_step;go_step;with_reducible refine st_store (R:=R) (x:=⟨5,a,0,c,0,1,0,0,t2⟩) ?_ ?_ hRx ?_
      . rfl
      . rfl
      obtain ⟨T,hT,hB,hF⟩:∃ T,T=stRun W9 R ⟨5,a,0,c,0,1,0,0,t2⟩/\Box T R (stC ⟨5,a,0,c,0,1,0,0,t2⟩)/\FinP w T b (N+16):=⟨_,rfl,HP.out.done⟩;rw [<- hT];have g0:=hB.cell 0 _ rfl;have g1:=hB.cell 1 _ rfl;have g2:=hB.cell 2 _ rfl;have g3:=hB.cell 3 _ rfl;have g4:=hB.cell 4 _ rfl;have g5:=hB.cell 5 _ rfl;have g6:=hB.cell 6 _ rfl;have g7:=hB.cell 7 _ rfl;have g8:=hB.cell 8 _ rfl;clear hT hRx d0 d1 d2 d3 d4 d5 d6 d7 d8;go_wp2;refine bodyPost_ret (v:=vStep ⟨5,a,0,c,0,1,0,0,t2⟩) (by simp [results,Tryz.results152,go_sem,g0,g1,g2,g3,g4,g5,g6,g7,g8]) rfl ⟨⟨_,rfl,HP.out.ok⟩,hF.more (by omega)⟩
    . go_wp2_with fail
      with_reducible refine Calls.mono (show Calls Tryz.prog 198 #[.pointer (some ⟨b,0,none⟩),.int .i64 2] _ _ from l03DrawText_any 2 P5.src (by omega) (by omega)) ?_
      rintro e w6 ⟨⟨t1,rfl,ht1⟩,hs6,hg6⟩;have P6:=P5.kept hs6 hg6;have c8:=P6.hD.cell 8 _ rfl;have f8:=P6.hD.free 8;have P7:=P6.put (j:=8) (x':=⟨5,a,0,0,1,3,0,0,t1⟩) (by decide) rfl (ok_tx P6.ok (by omega));clear c0 c4 c5;have c5:=P6.hD.cell 5 _ rfl;clear P5 P6 hs6 hg6;go_wp2_with fail;with_reducible refine (yAK 3 P7.src (by omega) (by omega)).mono ?_
      rintro e w9 ⟨⟨c,rfl,hc0,hc1,_⟩,hs9,hg9,-⟩;have hc2:=hc1 (by omega);have P9:=P7.kept hs9 hg9;clear hs9 hg9 hc1 P7 c8 f8 c5;have c3:=P9.hD.cell 3 _ rfl;have f3:=P9.hD.free 3;go_upto_region 19 with fail;have P11:=P9.put (j:=3) (v:=.int .i64 c) (x':=⟨5,a,0,c,1,3,0,0,t1⟩) (by decide) rfl (ok_tc P9.ok (smI (by omega)));clear P9 c3 f3;generalize w9.setCell ⟨D,3,none⟩ (.int .i64 c)=W9 at P11 |-;replace P11:=P11.up (M:=N+16) (by omega);have HP:=hid P11;have hRx:=P11.hR;obtain ⟨⟨d0,d1,d2,d3,d4,d5,d6,d7,d8⟩,-,-⟩:=P11.all;clear P11;go_step;go_step;go_step;go_step;go_step;with_reducible refine st_store (R:=R) (x:=⟨5,a,0,c,1,3,0,0,t1⟩) ?_ ?_ hRx ?_
      . rfl
      . rfl
      obtain ⟨T,hT,hB,hF⟩:∃ T,T=stRun W9 R ⟨5,a,0,c,1,3,0,0,t1⟩/\Box T R (stC ⟨5,a,0,c,1,3,0,0,t1⟩)/\FinP w T b (N+16):=⟨_,rfl,HP.out.done⟩;rw [<- hT];have g0:=hB.cell 0 _ rfl;have g1:=hB.cell 1 _ rfl;have g2:=hB.cell 2 _ rfl;have g3:=hB.cell 3 _ rfl;have g4:=hB.cell 4 _ rfl;have g5:=hB.cell 5 _ rfl;have g6:=hB.cell 6 _ rfl;have g7:=hB.cell 7 _ rfl;have g8:=hB.cell 8 _ rfl;clear hT hRx d0 d1 d2 d3 d4 d5 d6 d7 d8;go_wp2;refine bodyPost_ret (v:=vStep ⟨5,a,0,c,1,3,0,0,t1⟩) (by simp [results,Tryz.results152,go_sem,g0,g1,g2,g3,g4,g5,g6,g7,g8]) rfl ⟨⟨_,rfl,HP.out.ok⟩,hF.more (by omega)⟩
  have e7:(kd == 7)=false:=by simpa using k7
  have e5:(kd == 5)=false:=by simpa using k5
  by_cases k2:kd=2\/kd=3\/kd=4
  . clear k7 k5 e7 e5
    rcases k2 with rfl | rfl | rfl
    . go_wp2_with fail
      with_reducible refine (yAK 3 P5.src (by omega) (by omega)).mono ?_
      rintro e w6 ⟨⟨q2,rfl,hq0,hq1,_⟩,hs6,hg6,-⟩;have hq2:=hq1 (by omega);have P6:=P5.kept hs6 hg6;have c2:=P6.hD.cell 2 _ rfl;have f2:=P6.hD.free 2;clear P5 c0 hs6 hg6 hq1;have P7:=P6.put (j:=2) (v:=.int .i64 q2) (x':=⟨2,a,q2,0,ff,ft,0,0,⟨#[]⟩⟩) (by decide) rfl (ok_tb P6.ok (smI (by omega)));clear P6;go_wp2_with fail;with_reducible refine (yAK 3 P7.src (by omega) (by omega)).mono ?_
      rintro e w9 ⟨⟨c,rfl,hc0,hc1,_⟩,hs9,hg9,-⟩;have hc2:=hc1 (by omega);have P9:=P7.kept hs9 hg9;clear hs9 hg9 hc1 P7 c2 f2 hft;have c3:=P9.hD.cell 3 _ rfl;have f3:=P9.hD.free 3;go_upto_region 19 with fail;have P11:=P9.put (j:=3) (v:=.int .i64 c) (x':=⟨2,a,q2,c,ff,ft,0,0,⟨#[]⟩⟩) (by decide) rfl (ok_tc P9.ok (smI (by omega)));clear P9 c3 f3;generalize w9.setCell ⟨D,3,none⟩ (.int .i64 c)=W9 at P11 |-;replace P11:=P11.up (M:=N+16) (by omega);have HP:=hid P11;have hRx:=P11.hR;obtain ⟨⟨d0,d1,d2,d3,d4,d5,d6,d7,d8⟩,-,-⟩:=P11.all;clear P11;go_step;go_step;go_step;go_step;go_step;with_reducible refine st_store (R:=R) (x:=⟨2,a,q2,c,ff,ft,0,0,⟨#[]⟩⟩) ?_ ?_ hRx ?_
      . rfl
      . rfl
      obtain ⟨T,hT,hB,hF⟩:∃ T,T=stRun W9 R ⟨2,a,q2,c,ff,ft,0,0,⟨#[]⟩⟩/\Box T R (stC ⟨2,a,q2,c,ff,ft,0,0,⟨#[]⟩⟩)/\FinP w T b (N+16):=⟨_,rfl,HP.out.done⟩;rw [<- hT];have g0:=hB.cell 0 _ rfl;have g1:=hB.cell 1 _ rfl;have g2:=hB.cell 2 _ rfl;have g3:=hB.cell 3 _ rfl;have g4:=hB.cell 4 _ rfl;have g5:=hB.cell 5 _ rfl;have g6:=hB.cell 6 _ rfl;have g7:=hB.cell 7 _ rfl;have g8:=hB.cell 8 _ rfl;clear hT hRx d0 d1 d2 d3 d4 d5 d6 d7 d8;go_wp2;refine bodyPost_ret (v:=vStep ⟨2,a,q2,c,ff,ft,0,0,⟨#[]⟩⟩) (by simp [results,Tryz.results152,go_sem,g0,g1,g2,g3,g4,g5,g6,g7,g8]) rfl ⟨⟨_,rfl,HP.out.ok⟩,hF.more (by omega)⟩
    . go_wp2_with fail
      with_reducible refine (yAK 3 P5.src (by omega) (by omega)).mono ?_
      rintro e w6 ⟨⟨q2,rfl,hq0,hq1,_⟩,hs6,hg6,-⟩;have hq2:=hq1 (by omega);have P6:=P5.kept hs6 hg6;have c2:=P6.hD.cell 2 _ rfl;have f2:=P6.hD.free 2;clear P5 c0 hs6 hg6 hq1;have P7:=P6.put (j:=2) (v:=.int .i64 q2) (x':=⟨3,a,q2,0,ff,ft,0,0,⟨#[]⟩⟩) (by decide) rfl (ok_tb P6.ok (smI (by omega)));clear P6;go_wp2_with fail;with_reducible refine (yAK 3 P7.src (by omega) (by omega)).mono ?_
      rintro e w9 ⟨⟨c,rfl,hc0,hc1,_⟩,hs9,hg9,-⟩;have hc2:=hc1 (by omega);have P9:=P7.kept hs9 hg9;clear hs9 hg9 hc1 P7 c2 f2 hft;have c3:=P9.hD.cell 3 _ rfl;have f3:=P9.hD.free 3;go_upto_region 19 with fail;have P11:=P9.put (j:=3) (v:=.int .i64 c) (x':=⟨3,a,q2,c,ff,ft,0,0,⟨#[]⟩⟩) (by decide) rfl (ok_tc P9.ok (smI (by omega)));clear P9 c3 f3;generalize w9.setCell ⟨D,3,none⟩ (.int .i64 c)=W9 at P11 |-;replace P11:=P11.up (M:=N+16) (by omega);have HP:=hid P11;have hRx:=P11.hR;obtain ⟨⟨d0,d1,d2,d3,d4,d5,d6,d7,d8⟩,-,-⟩:=P11.all;clear P11;go_step;go_step;go_step;go_step;go_step;with_reducible refine st_store (R:=R) (x:=⟨3,a,q2,c,ff,ft,0,0,⟨#[]⟩⟩) ?_ ?_ hRx ?_
      . rfl
      . rfl
      obtain ⟨T,hT,hB,hF⟩:∃ T,T=stRun W9 R ⟨3,a,q2,c,ff,ft,0,0,⟨#[]⟩⟩/\Box T R (stC ⟨3,a,q2,c,ff,ft,0,0,⟨#[]⟩⟩)/\FinP w T b (N+16):=⟨_,rfl,HP.out.done⟩;rw [<- hT];have g0:=hB.cell 0 _ rfl;have g1:=hB.cell 1 _ rfl;have g2:=hB.cell 2 _ rfl;have g3:=hB.cell 3 _ rfl;have g4:=hB.cell 4 _ rfl;have g5:=hB.cell 5 _ rfl;have g6:=hB.cell 6 _ rfl;have g7:=hB.cell 7 _ rfl;have g8:=hB.cell 8 _ rfl;clear hT hRx d0 d1 d2 d3 d4 d5 d6 d7 d8;go_wp2;refine bodyPost_ret (v:=vStep ⟨3,a,q2,c,ff,ft,0,0,⟨#[]⟩⟩) (by simp [results,Tryz.results152,go_sem,g0,g1,g2,g3,g4,g5,g6,g7,g8]) rfl ⟨⟨_,rfl,HP.out.ok⟩,hF.more (by omega)⟩
    . go_wp2_with fail
      with_reducible refine (yAK 3 P5.src (by omega) (by omega)).mono ?_
      rintro e w6 ⟨⟨q2,rfl,hq0,hq1,_⟩,hs6,hg6,-⟩;have hq2:=hq1 (by omega);have P6:=P5.kept hs6 hg6;have c2:=P6.hD.cell 2 _ rfl;have f2:=P6.hD.free 2;clear P5 c0 hs6 hg6 hq1;have P7:=P6.put (j:=2) (v:=.int .i64 q2) (x':=⟨4,a,q2,0,ff,ft,0,0,⟨#[]⟩⟩) (by decide) rfl (ok_tb P6.ok (smI (by omega)));clear P6;go_wp2_with fail;with_reducible refine (yAK 3 P7.src (by omega) (by omega)).mono ?_
      rintro e w9 ⟨⟨c,rfl,hc0,hc1,_⟩,hs9,hg9,-⟩;have hc2:=hc1 (by omega);have P9:=P7.kept hs9 hg9;clear hs9 hg9 hc1 P7 c2 f2 hft;have c3:=P9.hD.cell 3 _ rfl;have f3:=P9.hD.free 3;go_upto_region 19 with fail;have P11:=P9.put (j:=3) (v:=.int .i64 c) (x':=⟨4,a,q2,c,ff,ft,0,0,⟨#[]⟩⟩) (by decide) rfl (ok_tc P9.ok (smI (by omega)));clear P9 c3 f3;generalize w9.setCell ⟨D,3,none⟩ (.int .i64 c)=W9 at P11 |-;replace P11:=P11.up (M:=N+16) (by omega);have HP:=hid P11;have hRx:=P11.hR;obtain ⟨⟨d0,d1,d2,d3,d4,d5,d6,d7,d8⟩,-,-⟩:=P11.all;clear P11;go_step;go_step;go_step;go_step;go_step;with_reducible refine st_store (R:=R) (x:=⟨4,a,q2,c,ff,ft,0,0,⟨#[]⟩⟩) ?_ ?_ hRx ?_
      . rfl
      . rfl
      obtain ⟨T,hT,hB,hF⟩:∃ T,T=stRun W9 R ⟨4,a,q2,c,ff,ft,0,0,⟨#[]⟩⟩/\Box T R (stC ⟨4,a,q2,c,ff,ft,0,0,⟨#[]⟩⟩)/\FinP w T b (N+16):=⟨_,rfl,HP.out.done⟩;rw [<- hT];have g0:=hB.cell 0 _ rfl;have g1:=hB.cell 1 _ rfl;have g2:=hB.cell 2 _ rfl;have g3:=hB.cell 3 _ rfl;have g4:=hB.cell 4 _ rfl;have g5:=hB.cell 5 _ rfl;have g6:=hB.cell 6 _ rfl;have g7:=hB.cell 7 _ rfl;have g8:=hB.cell 8 _ rfl;clear hT hRx d0 d1 d2 d3 d4 d5 d6 d7 d8;go_wp2;refine bodyPost_ret (v:=vStep ⟨4,a,q2,c,ff,ft,0,0,⟨#[]⟩⟩) (by simp [results,Tryz.results152,go_sem,g0,g1,g2,g3,g4,g5,g6,g7,g8]) rfl ⟨⟨_,rfl,HP.out.ok⟩,hF.more (by omega)⟩
  have k2':¬ kd=2:=fun e=>k2 (.inl e);have k3':¬ kd=3:=fun e=>k2 (.inr (.inl e));have k4':¬ kd=4:=fun e=>k2 (.inr (.inr e));have e2':(kd == 2)=false:=by simpa using k2'
  have e3':(kd == 3)=false:=by simpa using k3'
  have e4':(kd == 4)=false:=by simpa using k4'
  clear k2;go_wp2_with fail;with_reducible refine (yAK 3 P5.src (by omega) (by omega)).mono ?_
  rintro e w9 ⟨⟨c,rfl,hc0,hc1,_⟩,hs9,hg9,-⟩;have hc2:=hc1 (by omega);have P9:=P5.kept hs9 hg9;clear hs9 hg9 hc1 P5 c0 hft;have c3:=P9.hD.cell 3 _ rfl;have f3:=P9.hD.free 3;go_upto_region 19 with fail;have P11:=P9.put (j:=3) (v:=.int .i64 c) (x':=⟨kd,a,0,c,ff,ft,0,0,⟨#[]⟩⟩) (by decide) rfl (ok_tc P9.ok (smI (by omega)));clear P9 c3 f3;generalize w9.setCell ⟨D,3,none⟩ (.int .i64 c)=W9 at P11 |-;replace P11:=P11.up (M:=N+16) (by omega);have HP:=hid P11;have hRx:=P11.hR;obtain ⟨⟨d0,d1,d2,d3,d4,d5,d6,d7,d8⟩,-,-⟩:=P11.all;clear P11;go_step;go_step;go_step;go_step;go_step;with_reducible refine st_store (R:=R) (x:=⟨kd,a,0,c,ff,ft,0,0,⟨#[]⟩⟩) ?_ ?_ hRx ?_
  . rfl
  . rfl
  obtain ⟨T,hT,hB,hF⟩:∃ T,T=stRun W9 R ⟨kd,a,0,c,ff,ft,0,0,⟨#[]⟩⟩/\Box T R (stC ⟨kd,a,0,c,ff,ft,0,0,⟨#[]⟩⟩)/\FinP w T b (N+16):=⟨_,rfl,HP.out.done⟩;rw [<- hT];have g0:=hB.cell 0 _ rfl;have g1:=hB.cell 1 _ rfl;have g2:=hB.cell 2 _ rfl;have g3:=hB.cell 3 _ rfl;have g4:=hB.cell 4 _ rfl;have g5:=hB.cell 5 _ rfl;have g6:=hB.cell 6 _ rfl;have g7:=hB.cell 7 _ rfl;have g8:=hB.cell 8 _ rfl;clear hT hRx d0 d1 d2 d3 d4 d5 d6 d7 d8;go_wp2;refine bodyPost_ret (v:=vStep ⟨kd,a,0,c,ff,ft,0,0,⟨#[]⟩⟩) (by simp [results,Tryz.results152,go_sem,g0,g1,g2,g3,g4,g5,g6,g7,g8]) rfl ⟨⟨_,rfl,HP.out.ok⟩,hF.more (by omega)⟩
structure LInv (w0 W:World) (b N g n cap:Nat) (xs:List StepT):Prop where
 src:Src W b N
 gr:w0.grownBy W (some b)
 own:OwnStepS w0.heap.size W (.slice (some ⟨g,0,none⟩) n cap) xs
 len:n=xs.length
 bb:b<w0.heap.size
section
variable {w0 W W':World} {b N M g n cap k j q:Nat} {xs:List StepT}
theorem LInv.kept (h:LInv w0 W b N g n cap xs) (hs:Src W' b M) (hg:W.grownBy W' (some b)):LInv w0 W' b M g n cap xs:=⟨hs,yAA h.gr hg,h.own.keptS hg h.bb,h.len,h.bb⟩
theorem LInv.up (h:LInv w0 W b N g n cap xs) (hM:N<=M):LInv w0 W b M g n cap xs:=⟨h.src.mono hM,h.gr,h.own,h.len,h.bb⟩
theorem LInv.cell (h:LInv w0 W b N g n cap xs) (hk:k<n) (hj:j<9) (hq:q=k * 9+j):(∃ y,W.cell? ⟨g,q,none⟩=some y)/\W.frozen? ⟨g,q,none⟩=false:=by
 subst hq;exact Own.cellE (E:=eStep) h.own h.len hk hj
theorem LInv.set {x y:StepT} {v:Value} (h:LInv w0 W b N g n cap xs) (hx:xs[k]?=some x) (hj:j<9) (hq:q=k * 9+j) (hy:(stC x).set j v=stC y) (ok:okStep y):LInv w0 (W.setCell ⟨g,q,none⟩ v) b N g n cap (xs.set k y):=by
 subst hq;have hst:=Own.store1 (E:=eStep) (by decide) h.own h.len hx hj hy ok;have hg:∀ q,some g=some q->w0.heap.size<=q:=fun q e=>(h.own.lt q e).1;exact ⟨h.src.kept hst.2 (fun q e=>by have:=hg q e;have:=h.bb;omega),yAS h.gr hst.2 (fun q e=>hg q e),hst.1,by rw [List.length_set];exact h.len,h.bb⟩
end
theorem at_set {α:Type} {xs:List α} {k:Nat} {x y:α} (h:xs[k]?=some x):(xs.set k y)[k]?=some y:=by
 have hk:=(zS.1 h).1;rw [List.getElem?_set,if_pos rfl,if_pos hk]
theorem l15Spoil_any {w0 w:World} {b N g n cap k:Nat} {xs:List StepT} (h:LInv w0 w b N g n cap xs) (hk:k<n) (hN:N<=100000) :
 Calls Tryz.prog 153 #[.pointer (some ⟨b,0,none⟩),.pointer (some ⟨g,k * 9,none⟩)] w fun e w'=>e=.returned (.tuple #[])/\∃ ys,LInv w0 w' b (N+20) g n cap ys:=by
 obtain ⟨x,hx⟩:∃ x,xs[k]?=some x:=⟨_,zF (by have:=h.len;omega)⟩;have hok:okStep x:=h.own.2 x (zC hx);have Hx:=hid hx;have Hok:=hid hok;clear hx hok;go_enter Tryz.func153,Tryz.ntmps153;go_wp2_with fail;with_reducible refine (yAK 8 h.src (by omega) (by omega)).mono ?_
 rintro e w1 ⟨⟨r,rfl,hr0,hr1,_⟩,hs1,hg1,-⟩;have hr2:=hr1 (by omega);have P1:=h.kept hs1 hg1;clear h hs1 hg1 hr1;by_cases q0:r=0
 . subst q0
   go_wp2_with fail;with_reducible refine Calls.mono (amongL [0,7,8,-1] P1.src (by omega) ?hcs0 ?hn0 (by decide) (by decide)) ?_
   case hcs0=>rfl
   case hn0=>rfl
   rintro e w2 ⟨⟨v,rfl,hv⟩,hs2,hg2⟩;have P2:=P1.kept hs2 hg2;have Hv:Hid (I64 v):=hid (by unfold I64;simp at hv;omega);obtain ⟨⟨y,c0⟩,f0⟩:=P2.cell hk (j:=0) (q:=k * 9) (by decide) rfl;have HP:=hid (P2.set (j:=0) (q:=k * 9) (v:=.int .i64 v) Hx.out (by decide) rfl rfl (ok_kd Hok.out Hv.out));clear P1 P2 hs2 hg2 hv;go_wp2;go_end0;exact ⟨rfl,_,HP.out.up (by omega)⟩
 by_cases q1:r=1
 . subst q1
   go_wp2_with fail;with_reducible refine Calls.mono (amongL [-1,5,6] P1.src (by omega) ?hcs1 ?hn1 (by decide) (by decide)) ?_
   case hcs1=>rfl
   case hn1=>rfl
   rintro e w2 ⟨⟨v,rfl,hv⟩,hs2,hg2⟩;have P2:=P1.kept hs2 hg2;have Hv:Hid (I64 v):=hid (by unfold I64;simp at hv;omega);obtain ⟨⟨y,c0⟩,f0⟩:=P2.cell hk (j:=1) (q:=k * 9+1) (by decide) rfl;have HP:=hid (P2.set (j:=1) (q:=k * 9+1) (v:=.int .i64 v) Hx.out (by decide) rfl rfl (ok_ta Hok.out Hv.out));clear P1 P2 hs2 hg2 hv;go_wp2;go_end0;exact ⟨rfl,_,HP.out.up (by omega)⟩
 by_cases q2:r=2
 . subst q2
   go_wp2_with fail;with_reducible refine Calls.mono (amongL [-1,1,5,6] P1.src (by omega) ?hcs2 ?hn2 (by decide) (by decide)) ?_
   case hcs2=>rfl
   case hn2=>rfl
   rintro e w2 ⟨⟨v,rfl,hv⟩,hs2,hg2⟩;have P2:=P1.kept hs2 hg2;have Hv:Hid (I64 v):=hid (by unfold I64;simp at hv;omega);obtain ⟨⟨y,c0⟩,f0⟩:=P2.cell hk (j:=2) (q:=k * 9+2) (by decide) rfl;have HP:=hid (P2.set (j:=2) (q:=k * 9+2) (v:=.int .i64 v) Hx.out (by decide) rfl rfl (ok_tb Hok.out Hv.out));clear P1 P2 hs2 hg2 hv;go_wp2;go_end0;exact ⟨rfl,_,HP.out.up (by omega)⟩
 by_cases q3:r=3
 . subst q3
   go_wp2_with fail;with_reducible refine Calls.mono (amongL [-1,5,6] P1.src (by omega) ?hcs3 ?hn3 (by decide) (by decide)) ?_
   case hcs3=>rfl
   case hn3=>rfl
   rintro e w2 ⟨⟨v,rfl,hv⟩,hs2,hg2⟩;have P2:=P1.kept hs2 hg2;have Hv:Hid (I64 v):=hid (by unfold I64;simp at hv;omega);obtain ⟨⟨y,c0⟩,f0⟩:=P2.cell hk (j:=3) (q:=k * 9+3) (by decide) rfl;have HP:=hid (P2.set (j:=3) (q:=k * 9+3) (v:=.int .i64 v) Hx.out (by decide) rfl rfl (ok_tc Hok.out Hv.out));clear P1 P2 hs2 hg2 hv;go_wp2;go_end0;exact ⟨rfl,_,HP.out.up (by omega)⟩
 by_cases q4:r=4
 . subst q4
   go_wp2_with fail;with_reducible refine (l02DrawField_any P1.src (by omega)).mono ?_
   rintro e w2 ⟨⟨f,t,rfl,hf,ht⟩,hs2,hg2⟩;have P2:=P1.kept hs2 hg2;have Hf:=hid hf;have Ht:=hid ht;clear hf ht;obtain ⟨⟨y,c0⟩,f0⟩:=P2.cell hk (j:=4) (q:=k * 9+4) (by decide) rfl;obtain ⟨⟨y2,c2⟩,f2⟩:=P2.cell hk (j:=5) (q:=k * 9+5) (by decide) rfl;have P3:=P2.set (j:=4) (q:=k * 9+4) (v:=.int .i64 f) Hx.out (by decide) rfl rfl (ok_ff Hok.out Hf.out);have HP:=hid (P3.set (j:=5) (q:=k * 9+5) (v:=.int .i64 t) (at_set Hx.out) (by decide) rfl rfl (ok_ft (ok_ff Hok.out Hf.out) Ht.out));clear P1 P2 P3 hs2 hg2;go_wp2;go_end0;exact ⟨rfl,_,HP.out.up (by omega)⟩
 by_cases q5:r=5
 . subst q5
   go_wp2_with fail;with_reducible refine (l02DrawField_any P1.src (by omega)).mono ?_
   rintro e w2 ⟨⟨f,t,rfl,hf,ht⟩,hs2,hg2⟩;have P2:=P1.kept hs2 hg2;have Hf:=hid hf;have Ht:=hid ht;clear hf ht;obtain ⟨⟨y,c0⟩,f0⟩:=P2.cell hk (j:=6) (q:=k * 9+6) (by decide) rfl;obtain ⟨⟨y2,c2⟩,f2⟩:=P2.cell hk (j:=7) (q:=k * 9+7) (by decide) rfl;have P3:=P2.set (j:=6) (q:=k * 9+6) (v:=.int .i64 f) Hx.out (by decide) rfl rfl (ok_sf Hok.out Hf.out);have HP:=hid (P3.set (j:=7) (q:=k * 9+7) (v:=.int .i64 t) (at_set Hx.out) (by decide) rfl rfl (ok_st (ok_sf Hok.out Hf.out) Ht.out));clear P1 P2 P3 hs2 hg2;go_wp2;go_end0;exact ⟨rfl,_,HP.out.up (by omega)⟩
 by_cases q6:r=6
 . subst q6
   have hb1:=P1.src.lt;go_wp2_with fail;have hst:=StrAt.new (w:=w1) (cs:=#[.string ⟨#[]⟩,.string ⟨#[65]⟩,.string ⟨#[97]⟩,.string ⟨#[65,66]⟩]) (T:=9) (n:=4) (by
    intro k hk;obtain rfl | rfl | rfl | rfl:k=0\/k=1\/k=2\/k=3:=by omega
    all_goals exact ⟨_,rfl,by decide⟩)
   with_reducible refine (text_any (nb:=w1.heap.size) (n:=4) (P1.src.alloc _) (by omega) hst (by omega) (by omega)).mono ?_
   rintro e w2 ⟨⟨t,rfl,ht⟩,hs2,hg2⟩;have P2:=P1.kept hs2 (yAA (World.grownBy_alloc _ _ _) hg2);obtain ⟨⟨y,c0⟩,f0⟩:=P2.cell hk (j:=8) (q:=k * 9+8) (by decide) rfl;have HP:=hid (P2.set (j:=8) (q:=k * 9+8) (v:=.string t) Hx.out (by decide) rfl rfl (ok_tx (s:=t) Hok.out (by omega)));clear P1 P2 hs2 hg2 hst;go_wp2;go_end0;exact ⟨rfl,_,HP.out.up (by omega)⟩
 obtain rfl:r=7:=by omega
 clear q0 q1 q2 q3 q4 q5 q6;go_wp2_with fail;with_reducible refine (yAK 2 P1.src (by omega) (by omega)).mono ?_
 rintro e w2 ⟨⟨t,rfl,ht0,ht1,_⟩,hs2,hg2,-⟩;have ht2:=ht1 (by omega);have P2:=P1.kept hs2 hg2;have Hf:Hid (I64 1):=hid (smI (by omega));have Ht:Hid (I64 (13+t)):=hid (smI (by omega));clear ht1;obtain ⟨⟨y,c0⟩,f0⟩:=P2.cell hk (j:=6) (q:=k * 9+6) (by decide) rfl;obtain ⟨⟨y2,c2⟩,f2⟩:=P2.cell hk (j:=7) (q:=k * 9+7) (by decide) rfl;have P3:=P2.set (j:=6) (q:=k * 9+6) (v:=.int .i64 1) Hx.out (by decide) rfl rfl (ok_sf Hok.out Hf.out);have HP:=hid (P3.set (j:=7) (q:=k * 9+7) (v:=.int .i64 (13+t)) (at_set Hx.out) (by decide) rfl rfl (ok_st (ok_sf Hok.out Hf.out) Ht.out));clear P1 P2 P3 hs2 hg2;go_wp2;go_end0;exact ⟨rfl,_,HP.out.up (by omega)⟩
structure FSt (w W:World) (b N:Nat) (v:Value) (xs:List StepT):Prop where
 src:Src W b N
 gr:w.grownBy W (some b)
 own:OwnStepS w.heap.size W v xs
 bb:b<w.heap.size
section
variable {w W W':World} {b N M:Nat} {v v':Value} {xs ys:List StepT}
theorem FSt.kept (h:FSt w W b N v xs) (hs:Src W' b M) (hg:W.grownBy W' (some b)):FSt w W' b M v xs:=⟨hs,yAA h.gr hg,h.own.keptS hg h.bb,h.bb⟩
theorem FSt.up (h:FSt w W b N v xs) (hM:N<=M):FSt w W b M v xs:=⟨h.src.mono hM,h.gr,h.own,h.bb⟩
theorem FSt.app (h:FSt w W b N v xs) (ho:OwnStepS w.heap.size W' v' ys) (hg:W.grownBy W' v.ownBlock):FSt w W' b N v' ys :=
 ⟨h.src.kept hg (fun q hq=>by have:=(h.own.lt q hq).1;have:=h.bb;omega),yAS h.gr hg (fun q hq=>(h.own.lt q hq).1),ho,h.bb⟩
theorem FSt.lit (hs:Src W b N) (hg:w.grownBy W (some b)) (hb:b<w.heap.size):FSt w (W.alloc (.cells #[] 75)) b N (.slice (some ⟨W.heap.size,0,none⟩) 0 0) [] :=
 ⟨hs.alloc _,yAA hg (World.grownBy_alloc _ _ _),Own.lit (E:=eStep) (xs:=[]) (cs:=#[]) hg.size rfl rfl (by decide) (fun x hx=>by cases hx),hb⟩
theorem FSt.shape (h:FSt w W b N v xs):∃ ao c,v=.slice ao xs.length c:=h.own.shape
end
theorem l15DrawFlow_any {w:World} {b N:Nat} (hs:Src w b N) (hN:N<=50000) :
 Calls Tryz.prog 107 #[.pointer (some ⟨b,0,none⟩)] w fun e w'=>∃ u xs,e=.returned u/\FSt w w' b (N+410) u xs/\xs.length<=21:=by
 obtain ⟨i0,hi,hz0,hz1,hz2⟩:=info_parts Tryz.infoStep;have hbl:=hs.lt;have f0:=FSt.lit hs (World.grownBy.refl w _) hbl;obtain ⟨W,hW⟩:∃ W,W=w.alloc (.cells #[] 75):=⟨_,rfl⟩;rw [<- hW] at f0;have HW:=hid hW;clear hs hW;go_enter Tryz.func107,Tryz.ntmps107;go_upto_region 2 with fail;rw [<- HW.out];clear HW;go_wp2_with fail;with_reducible refine (one_any 2 f0.src (by omega) (by omega)).mono ?_
 rintro e w1 ⟨⟨q,rfl⟩,hs1,hg1,-⟩;have f1:=f0.kept hs1 hg1;clear f0 hs1 hg1;go_upto_if 10 with fail;go_cut [3,4] (fun v t wx=>∃ (ao:Option Addr) (c n:Nat) (xs:List StepT),v=.slice ao n c/\Hid (n=xs.length)/\n<=1/\FSt w wx b (N+10) (.slice ao n c) xs)
 case first =>
  cases q with
  | true =>
   go_wp2_with fail;with_reducible refine (yAK 3 f1.src (by omega) (by omega)).mono ?_
   rintro e w2 ⟨⟨a,rfl,ha0,ha1,_⟩,hs2,hg2,-⟩;have ha2:=ha1 (by omega);have F2:=hid (f1.kept hs2 hg2);have Hok:Hid (okStep ⟨1,0,0,a,0,1,0,0,⟨#[]⟩⟩):=hid (ok_tc (ok_ft (ok_kd ok_zStep (smI (by omega))) (smI (by omega))) (smI (by omega)));have hsz:w.heap.size<=w2.heap.size:=F2.out.gr.size;clear f1 hs2 hg2 ha1;go_wp2_with (first | (at_builtin;refine yAB (E:=eStep) rfl _ _ 37 rfl Tryz.underlying37 hi hz0 hz1 hz2 rfl (by decide) rfl rfl (F2.out.own.alloc _) (yAJ (E:=eStep) (x:=⟨1,0,0,a,0,1,0,0,⟨#[]⟩⟩) Hok.out rfl) ?b1 ?b2 ?b3 ?_))
   case b1=>unfold maxLen;simp
   case b2=>simp
   case b3=>simp;omega
   intro v3 w3 hO3 hg3;obtain ⟨ao3,c3,hv3⟩:=hO3.shape;simp only [List.nil_append,List.length_cons,List.length_nil] at hv3;have F3:=hid (F2.out.app hO3 hg3.alloc.1);subst hv3;clear hO3 hg3;go_wp2_with fail;go_meet;exact ⟨ao3,c3,1,_,rfl,hid rfl,zA _,F3.out.up (by omega)⟩
  | false =>
   go_wp2_with fail;go_meet;exact ⟨_,_,0,_,rfl,hid rfl,by omega,f1.up (by omega)⟩
 case rest =>
  obtain ⟨ao0,c0,n0,xs0,rfl,Hl0,hn0,f2⟩:=hcut;clear f1;go_wp2_with fail;with_reducible refine (yAK 6 f2.src (by omega) (by omega)).mono ?_
  rintro e w3 ⟨⟨r,rfl,hr0,hr1,_⟩,hs3,hg3,-⟩;have hr2:=hr1 (by omega);have F3:=hid (f2.kept hs3 hg3);clear f2 hs3 hg3 hr1;go_wp2;go_loopw [3,5] (fun v kv wr=>∃ (kk:Int) (ao:Option Addr) (c n:Nat) (xs:List StepT),0<=kk/\kk+n<=6/\kv=.int .i64 kk/\v=.slice ao n c/\Hid (n=xs.length)/\FSt w wr b (N+12+60 * n) (.slice ao n c) xs) (fun _ k _=>(intOf k).toNat)
  case atStart=>exact ⟨r,_,_,n0,xs0,hr0,by omega,rfl,rfl,Hl0,F3.out.up (by omega)⟩
  case round =>
   obtain ⟨kk,ao,c,n,xs,hk0,hkn,rfl,rfl,Hl,f⟩:=hrel;clear F3;by_cases hk:0<kk
   . go_wp2_with fail
     with_reducible refine (l15DrawStep_any f.src (by omega)).mono ?_
     rintro e w4 ⟨⟨x,rfl,hx⟩,hs4,hg4⟩;have F4:=hid (f.kept hs4 hg4);have Hx:=hid hx;have hsz:w.heap.size<=w4.heap.size:=F4.out.gr.size;have hn8:n<=6:=by omega
     clear f hs4 hg4 hx;go_wp2_with (first | (at_builtin;refine yAB (E:=eStep) rfl _ _ 37 rfl Tryz.underlying37 hi hz0 hz1 hz2 rfl (by decide) rfl rfl (F4.out.own.alloc _) (yAJ (E:=eStep) (x:=x) Hx.out rfl) ?b1 ?b2 ?b3 ?_))
     case b1=>rw [<- Hl.out];unfold maxLen;simp;omega
     case b2=>rw [<- Hl.out];simp;omega
     case b3=>simp;omega
     intro v5 w5 hO5 hg5;obtain ⟨ao5,c5,hv5⟩:=hO5.shape;have hl5:(xs++[x]).length=n+1:=by rw [zE,<- Hl.out];rfl
     rw [hl5] at hv5;have F5:=hid (F4.out.app hO5 hg5.alloc.1);have Hl5:=hid hl5.symm;subst hv5;clear hO5 hg5 hl5;go_wp2;go_roundw
     case rel=>exact ⟨kk - 1,ao5,c5,n+1,_,by omega,by omega,by go_num,rfl,Hl5,F5.out.up (by omega)⟩
     case measure=>simp [intOf];omega
   . have hn7:n<=6:=by omega
     have f9:=f.up (M:=N+380) (by omega);clear f hkn hk0;go_upto_region 10 with fail;go_cut [37] (fun cv wx=>∃ q:Bool,cv=.bool q/\(q=true->0<n)/\FSt w wx b (N+382) (.slice ao n c) xs)
     case first =>
      by_cases hn:n=0
      . subst hn
        go_wp2_with fail;go_meet;exact ⟨false,rfl,(fun h=>by cases h),f9.up (by omega)⟩
      . have h2:0<n:=by omega
        go_wp2_with fail;with_reducible refine (one_any 10 f9.src (by omega) (by omega)).mono ?_
        rintro e w4 ⟨⟨q,rfl⟩,hs4,hg4,-⟩;have F4:=hid (f9.kept hs4 hg4);clear f9 hs4 hg4;go_wp2_with fail;go_meet;exact ⟨q,rfl,fun _=>h2,F4.out⟩
     case rest =>
      obtain ⟨q,rfl,hq,f10⟩:=hcut;clear f9;go_upto_if 37 with fail;go_cut [] (fun wx=>∃ xs,Hid (n=xs.length)/\FSt w wx b (N+384+20) (.slice ao n c) xs)
      case first =>
       cases q with
       | true =>
        have hn:=hq rfl;obtain ⟨g,cc,e1,-,-⟩:=f10.own.addr (by rw [<- Hl.out];exact hn);rw [<- Hl.out] at e1;cases e1;go_wp2_with fail;with_reducible refine (yAK (n:Int) f10.src (by omega) (by omega)).mono ?_
        rintro e w4 ⟨⟨r4,rfl,hr40,hr41,_⟩,hs4,hg4,-⟩;have hr42:=hr41 (by omega);obtain ⟨k,rfl⟩:=zG hr40;have f11:=f10.kept hs4 hg4;have hkn:k<n:=by omega
        clear f10 hs4 hg4 hr41;go_wp2_with fail;with_reducible refine (l15Spoil_any (w0:=w) (k:=k) ⟨f11.src,f11.gr,f11.own,Hl.out,f11.bb⟩ hkn (by omega)).mono ?_
        rintro e w5 ⟨rfl,ys,hL⟩;have HF:=hid hL;clear hL f11;go_wp2_with fail;go_meet;exact ⟨ys,hid HF.out.len,⟨HF.out.src.mono (by omega),HF.out.gr,HF.out.own,HF.out.bb⟩⟩
       | false =>
        go_wp2_with fail;go_meet;exact ⟨xs,Hl,f10.up (by omega)⟩
      case rest =>
       obtain ⟨ys,Hy,f12⟩:=hcut;clear f10 hq;go_wp2_with fail;with_reducible refine (one_any 24 f12.src (by omega) (by omega)).mono ?_
       rintro e w6 ⟨⟨q2,rfl⟩,hs6,hg6,-⟩;have F13:=hid (f12.kept hs6 hg6);clear f12 hs6 hg6;cases q2 with
       | false =>
        go_wp2;go_ret;have hy2:ys.length<=21:=by rw [<- Hy.out];omega
        first | exact ⟨_,ys,rfl,F13.out.up (by omega),hy2⟩ | exact ⟨_,rfl,ys,F13.out.up (by omega),hy2⟩
       | true =>
        go_upto_region 14 with fail;have f14:=FSt.lit F13.out.src F13.out.gr F13.out.bb;generalize hW6:w6.alloc (.cells #[] 75)=W6 at f14 |-;generalize w6.heap.size=g6 at f14 |-;clear hW6 F13;go_wp2_with fail;with_reducible refine (yAK 2 f14.src (by omega) (by omega)).mono ?_
        rintro e w7 ⟨⟨r7,rfl,hr70,hr71,_⟩,hs7,hg7,-⟩;have hr72:=hr71 (by omega);have F15:=hid (f14.kept hs7 hg7);have Hok:Hid (okStep ⟨7,0,0,0,0,1,1,3,⟨#[]⟩⟩):=hid (by unfold okStep;decide);clear f14 hs7 hg7 hr71;go_wp2;go_loopw [3,7] (fun v kv wr=>∃ (kk:Int) (ao:Option Addr) (c n:Nat) (xs:List StepT),0<=kk/\kk+n<=21/\kv=.int .i64 kk/\v=.slice ao n c/\Hid (n=xs.length)/\FSt w wr b (N+410) (.slice ao n c) xs) (fun _ k _=>(intOf k).toNat)
        case atStart=>exact ⟨20+r7,_,_,0,[],by omega,by omega,by first | rfl | go_num,rfl,hid rfl,F15.out.up (by omega)⟩
        case round =>
         obtain ⟨kk,ao,c,n,xs,hk0,hkn,rfl,rfl,Hl,f⟩:=hrel;clear F15;by_cases hk:0<kk
         . have F4:=hid f
           have hsz:w.heap.size<=wr.heap.size:=F4.out.gr.size;have hn8:n<=21:=by omega
           clear f;go_wp2_with (first | (at_builtin;refine yAB (E:=eStep) rfl _ _ 37 rfl Tryz.underlying37 hi hz0 hz1 hz2 rfl (by decide) rfl rfl (F4.out.own.alloc _) (yAJ (E:=eStep) (x:=⟨7,0,0,0,0,1,1,3,⟨#[]⟩⟩) Hok.out rfl) ?b1 ?b2 ?b3 ?_))
           case b1=>rw [<- Hl.out];unfold maxLen;simp;omega
           case b2=>rw [<- Hl.out];simp;omega
           case b3=>simp;omega
           intro v5 w5 hO5 hg5;obtain ⟨ao5,c5,hv5⟩:=hO5.shape;have hl5:(xs++[(⟨7,0,0,0,0,1,1,3,⟨#[]⟩⟩:StepT)]).length=n+1:=by rw [zE,<- Hl.out];rfl
           rw [hl5] at hv5;have F5:=hid (F4.out.app hO5 hg5.alloc.1);have Hl5:=hid hl5.symm;subst hv5;clear hO5 hg5 hl5;go_wp2;go_roundw
           case rel=>exact ⟨kk - 1,ao5,c5,n+1,_,by omega,by omega,by go_num,rfl,Hl5,F5.out⟩
           case measure=>simp [intOf];omega
         . have HF:=hid f
           clear f;go_wp2;go_ret;exact ⟨_,rfl,xs,HF.out,by rw [<- Hl.out];omega⟩
end Go.Proofs.YthdaghfhlfjclaaGreat
