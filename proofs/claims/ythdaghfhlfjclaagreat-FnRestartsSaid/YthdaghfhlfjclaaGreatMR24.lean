/- Lemmas on the way to the law FnRestarts. No condition. -/
import Derived.Test.YthdaghfhlfjclaaGreatMR23
import Derived.Test.YthdaghfhlfjclaaGreatMR15
namespace Go.Proofs.YthdaghfhlfjclaaGreat
set_option maxHeartbeats 2000000
set_option linter.unusedSimpArgs false
open Lib (hid)
open Go.ChangeShapes Go.WideShapes Go.ChangeAt Go.RowKit
set_option linter.unusedVariables false
set_option maxRecDepth 100000
theorem wrapI4 (n:Int):eI.ok (IntKind.i64.wrap n):=by show -9223372036854775808<=IntKind.i64.wrap n/\IntKind.i64.wrap n<=9223372036854775807;rw [IntKind.wrap_i64];omega
theorem okSm {n:Int} (h:0<=n/\n<=1000000):eI.ok n:=by show -9223372036854775808<=n/\n<=9223372036854775807;omega
structure CInv (w W:World) (b N R D:Nat) (u:Value) (xs:List Int):Prop where
 src:Src W b N
 gr:w.grownBy W (some b)
 hR:Box W R [.slice none 0 0]
 hD:Box W D [u]
 row:OwnInt64S (w.heap.size+2) W u xs
 bR:R=w.heap.size
 bD:D=w.heap.size+1
 bb:b<w.heap.size
theorem CInv.kept {w W W':World} {b N M R D:Nat} {u:Value} {xs:List Int} (h:CInv w W b N R D u xs) (hs:Src W' b M) (hg:W.grownBy W' (some b)):CInv w W' b M R D u xs:=by
 have h1:=h.bR;have h2:=h.bD;have h3:=h.bb;exact ⟨hs,yAA h.gr hg,h.hR.keptB hg (fun e=>by have:=zD e;omega),h.hD.keptB hg (fun e=>by have:=zD e;omega),h.row.keptS hg (by omega),h.bR,h.bD,h.bb⟩
theorem CInv.mono {w W:World} {b N M R D:Nat} {u:Value} {xs:List Int} (h:CInv w W b N R D u xs) (hM:N<=M):CInv w W b M R D u xs:=⟨h.src.mono hM,h.gr,h.hR,h.hD,h.row,h.bR,h.bD,h.bb⟩
theorem CInv.app {w W W3:World} {b N R D:Nat} {u v:Value} {xs ys:List Int} (h:CInv w W b N R D u xs) (ho:OwnInt64S (w.heap.size+2) W3 v ys) (hg:W.grownBy W3 u.ownBlock):(∃ y,W3.cell? ⟨D,0,none⟩=some y)/\W3.frozen? ⟨D,0,none⟩=false/\CInv w (W3.setCell ⟨D,0,none⟩ v) b N R D v ys:=by
 have h1:=h.bR;have h2:=h.bD;have h3:=h.bb;have hne:∀ q,u.ownBlock=some q->w.heap.size+2<=q:=fun q hq=>(h.row.lt q hq).1;have hD3:=h.hD.keptB hg (fun e=>by have:=hne _ e;omega);have hR3:=h.hR.keptB hg (fun e=>by have:=hne _ e;omega);refine ⟨⟨_,hD3.cell 0 _ rfl⟩,hD3.free 0,?_⟩;have hgD:=yAR W3 ⟨D,0,none⟩ v;refine ⟨(h.src.kept hg (fun q hq=>by have:=hne q hq;omega)).kept hgD (fun q hq=>by have:=zD hq;simp only at this;omega),?_,hR3.other (by show D ≠ R;omega) v,hD3.set1 (j:=0) (by simp) v,ho.kept hgD (.inr (fun e=>by have h:=(ho.lt _ e).1;simp only at h;omega)),h1,h2,h3⟩;exact yAS (yAS h.gr hg (fun q hq=>by have:=hne q hq;omega)) hgD (fun q hq=>by have:=zD hq;simp only at this;omega)
def DrawnC (base n:Nat) (e:Ending) (w':World):Prop:=∃ u xs,e=.returned (.agg #[u])/\OwnInt64S base w' u xs/\xs.length=n
theorem wrap64I (n:Int):eI.ok (wrap64 n):=by show -9223372036854775808<=wrap64 n/\wrap64 n<=9223372036854775807;unfold wrap64;omega
theorem or_all:∀ (a:Fin 3) (c:Fin 9),0<=bits BinOp.or IntKind.i64 (wrap64 (2 ^ a.val)) (wrap64 (8 * 2 ^ c.val))/\bits BinOp.or IntKind.i64 (wrap64 (2 ^ a.val)) (wrap64 (8 * 2 ^ c.val))<=1000000:=by decide +kernel
theorem or_ok {a c:Nat} (ha:a<3) (hc:c<9):eI.ok (bits BinOp.or IntKind.i64 (wrap64 (2 ^ a)) (wrap64 (8 * 2 ^ c))):=okSm (or_all ⟨a,ha⟩ ⟨c,hc⟩)
theorem l02Draw_any {w:World} {b N:Nat} (n:Nat) (hs:Src w b N) (hN:N<=100000) (hn:n<=20) :
 Calls Tryz.prog 196 #[.pointer (some ⟨b,0,none⟩),.int .i64 (n:Int)] w fun e w'=>DrawnC w.heap.size n e w'/\Src w' b (N+10 * n)/\w.grownBy w' (some b):=by
 obtain ⟨i0,hi,hz0,hz1,hz2⟩:=info_parts Tryz.infoInt64;have hbl:=hs.lt;obtain ⟨W,hW⟩:∃ W,W=(w.alloc (.cells #[.slice none 0 0] 88)).alloc (.cells #[.slice none 0 0] 88):=⟨_,rfl⟩;have hc0:CInv w W b N w.heap.size (w.heap.size+1) (.slice none 0 0) []:=by
  have h:=Box.new (w.alloc (.cells #[.slice none 0 0] 88)) [.slice none 0 0] 88;rw [show (w.alloc (.cells #[.slice none 0 0] 88)).heap.size=w.heap.size+1 from by simp] at h;rw [hW];exact ⟨(hs.alloc _).alloc _,yAA (World.grownBy_alloc _ _ _) (World.grownBy_alloc _ _ _),(Box.new w [.slice none 0 0] _).alloc _,h,Own.nil _ _ _ _,rfl,rfl,hbl⟩
 have HC0:=hid hc0;have HW:=hid hW;clear hc0 hW hs;go_enter Tryz.func196,Tryz.ntmps196;go_wp2;rw [<- HW.out];clear HW;obtain ⟨D,hD⟩:∃ D,w.heap.size+1=D:=⟨_,rfl⟩;rw [hD] at HC0 |-;have HD:=hid hD;clear hD;generalize hR:w.heap.size=R at HC0 |-;have HR:=hid hR;clear hR;go_loopw [6] (fun i wr=>∃ (k:Nat) (u:Value) (xs:List Int),k<=n/\i=.int .i64 k/\Hid (xs.length=k)/\CInv w wr b (N+10 * k) R D u xs) (fun i _=>n - (intOf i).toNat)
 case atStart=>exact ⟨0,_,[],zK _,rfl,rfl,HC0.out⟩
 case round =>
  obtain ⟨k,u,xs,hk,rfl,Hl,hc⟩:=hrel;clear HC0;obtain ⟨ao,cap,hu⟩:=hc.row.shape;rw [Hl.out] at hu;subst hu;by_cases hkn:k<n
  . go_wp2_with fail
    refine (yAK 10 hc.src (by omega) (by omega)).mono ?_;rintro e w1 ⟨⟨r,rfl,hr0,hr1,_⟩,hs1,hg1,-⟩;have hr2:=hr1 (by omega);have hc1:=hc.kept hs1 hg1;clear hr1 hg1 hs1 hc;obtain ⟨rr,rfl⟩:=zG hr0;have hr3:rr<10:=by omega
    go_wp2_with fail;refine (yAK 6 hc1.src (by omega) (by omega)).mono ?_;rintro e w2 ⟨⟨q,rfl,hq0,hq1,_⟩,hs2,hg2,-⟩;have hq2:=hq1 (by omega);have hc2:=hc1.kept hs2 hg2;clear hq1 hg2 hs2 hc1;by_cases q0:q=0
    . subst q0
      have d1:=hc2.hD.cell 0 _ rfl;have hdl:=hc2.hD.lt;have hdd:=hid hc2.bD;have HCX:=hid hc2;have hokM:eI.ok (0):=okSm (by decide);clear hc2;go_wp2_with (first | (at_builtin;refine yAB (E:=eI) rfl _ _ 29 rfl Tryz.underlying29 hi hz0 hz1 hz2 rfl (by decide) rfl rfl (HCX.out.row.alloc _) (yAJ (E:=eI) (x:=0) hokM rfl) ?b1 ?b2 ?b3 ?_))
      case b1=>rw [Hl.out];unfold maxLen;simp;omega
      case b2=>rw [Hl.out];simp;omega
      case b3=>have:=hdd.out;simp;omega
      intro v3 w3 hO3 hg3;obtain ⟨ao3,cap3,hv3⟩:=hO3.shape;rw [show (xs++[(0:Int)]).length=k+1 from (by rw [zE,Hl.out];rfl)] at hv3;subst hv3;obtain ⟨⟨y0,c0⟩,f0,hc5⟩:=HCX.out.app hO3 hg3.alloc.1;have HC5:=hid hc5;clear hc5 hO3 hg3 hokM d1 hdl;go_wp2;go_roundw
      case rel=>exact ⟨k+1,_,_,by omega,by go_num,hid (by rw [zE,Hl.out];rfl),HC5.out.mono (by omega)⟩
      case measure=>simp [intOf];omega
    by_cases q1:q=1
    . subst q1
      clear q0;go_wp2_with fail;refine (yAK 3 hc2.src (by omega) (by omega)).mono ?_;rintro e w5 ⟨⟨a,rfl,ha0,ha1,_⟩,hs5,hg5,-⟩;have ha2:=ha1 (by omega);have hc5:=hc2.kept hs5 hg5;clear ha1 hg5 hs5 hc2;obtain ⟨aa,rfl⟩:=zG ha0;have ha3:aa<3:=by omega
      go_wp2_with fail;refine (yAK 9 hc5.src (by omega) (by omega)).mono ?_;rintro e w6 ⟨⟨c,rfl,hc0,hc1,_⟩,hs6,hg6,-⟩;have hcc2:=hc1 (by omega);have hc6:=hc5.kept hs6 hg6;clear hc1 hg6 hs6 hc5;obtain ⟨cc,rfl⟩:=zG hc0;have hc3:cc<9:=by omega
      have d1:=hc6.hD.cell 0 _ rfl;have hdl:=hc6.hD.lt;have hdd:=hid hc6.bD;have HCX:=hid hc6;have hokM:eI.ok (bits BinOp.or IntKind.i64 (wrap64 (2 ^ aa)) (wrap64 (8 * 2 ^ cc))):=or_ok ha3 hc3;clear hc6;go_wp2_with (first | (at_builtin;refine yAB (E:=eI) rfl _ _ 29 rfl Tryz.underlying29 hi hz0 hz1 hz2 rfl (by decide) rfl rfl (HCX.out.row.alloc _) (yAJ (E:=eI) (x:=bits BinOp.or IntKind.i64 (wrap64 (2 ^ aa)) (wrap64 (8 * 2 ^ cc))) hokM rfl) ?b1 ?b2 ?b3 ?_))
      case b1=>rw [Hl.out];unfold maxLen;simp;omega
      case b2=>rw [Hl.out];simp;omega
      case b3=>have:=hdd.out;simp;omega
      intro v3 w3 hO3 hg3;obtain ⟨ao3,cap3,hv3⟩:=hO3.shape;rw [show (xs++[bits BinOp.or IntKind.i64 (wrap64 (2 ^ aa)) (wrap64 (8 * 2 ^ cc))]).length=k+1 from (by rw [zE,Hl.out];rfl)] at hv3;subst hv3;obtain ⟨⟨y0,c0⟩,f0,hc5⟩:=HCX.out.app hO3 hg3.alloc.1;have HC5:=hid hc5;clear hc5 hO3 hg3 hokM d1 hdl;go_wp2;go_roundw
      case rel=>exact ⟨k+1,_,_,by omega,by go_num,hid (by rw [zE,Hl.out];rfl),HC5.out.mono (by omega)⟩
      case measure=>simp [intOf];omega
    by_cases q2:q=2
    . subst q2
      clear q0 q1;go_wp2_with fail;refine (yAK 4096 hc2.src (by omega) (by omega)).mono ?_;rintro e w5 ⟨⟨a,rfl,ha0,ha1,_⟩,hs5,hg5,-⟩;have ha2:=ha1 (by omega);have hc5:=hc2.kept hs5 hg5;clear ha1 hg5 hs5 hc2;have d1:=hc5.hD.cell 0 _ rfl;have hdl:=hc5.hD.lt;have hdd:=hid hc5.bD;have HCX:=hid hc5;have hokM:eI.ok (a):=okSm (by omega);clear hc5;go_wp2_with (first | (at_builtin;refine yAB (E:=eI) rfl _ _ 29 rfl Tryz.underlying29 hi hz0 hz1 hz2 rfl (by decide) rfl rfl (HCX.out.row.alloc _) (yAJ (E:=eI) (x:=a) hokM rfl) ?b1 ?b2 ?b3 ?_))
      case b1=>rw [Hl.out];unfold maxLen;simp;omega
      case b2=>rw [Hl.out];simp;omega
      case b3=>have:=hdd.out;simp;omega
      intro v3 w3 hO3 hg3;obtain ⟨ao3,cap3,hv3⟩:=hO3.shape;rw [show (xs++[a]).length=k+1 from (by rw [zE,Hl.out];rfl)] at hv3;subst hv3;obtain ⟨⟨y0,c0⟩,f0,hc5⟩:=HCX.out.app hO3 hg3.alloc.1;have HC5:=hid hc5;clear hc5 hO3 hg3 hokM d1 hdl;go_wp2;go_roundw
      case rel=>exact ⟨k+1,_,_,by omega,by go_num,hid (by rw [zE,Hl.out];rfl),HC5.out.mono (by omega)⟩
      case measure=>simp [intOf];omega
    have e0:(q == 0)=false:=by simpa using q0
    have e1:(q == 1)=false:=by simpa using q1
    have e2:(q == 2)=false:=by simpa using q2
    clear q0 q1 q2;have d1:=hc2.hD.cell 0 _ rfl;have hdl:=hc2.hD.lt;have hdd:=hid hc2.bD;have HCX:=hid hc2;have hokM:eI.ok (wrap64 (4 * 2 ^ rr)):=wrap64I _;clear hc2;go_wp2_with (first | (at_builtin;refine yAB (E:=eI) rfl _ _ 29 rfl Tryz.underlying29 hi hz0 hz1 hz2 rfl (by decide) rfl rfl (HCX.out.row.alloc _) (yAJ (E:=eI) (x:=wrap64 (4 * 2 ^ rr)) hokM rfl) ?b1 ?b2 ?b3 ?_))
    case b1=>rw [Hl.out];unfold maxLen;simp;omega
    case b2=>rw [Hl.out];simp;omega
    case b3=>have:=hdd.out;simp;omega
    intro v3 w3 hO3 hg3;obtain ⟨ao3,cap3,hv3⟩:=hO3.shape;rw [show (xs++[wrap64 (4 * 2 ^ rr)]).length=k+1 from (by rw [zE,Hl.out];rfl)] at hv3;subst hv3;obtain ⟨⟨y0,c0⟩,f0,hc5⟩:=HCX.out.app hO3 hg3.alloc.1;have HC5:=hid hc5;clear hc5 hO3 hg3 hokM d1 hdl;go_wp2;go_roundw
    case rel=>exact ⟨k+1,_,_,by omega,by go_num,hid (by rw [zE,Hl.out];rfl),HC5.out.mono (by omega)⟩
    case measure=>simp [intOf];omega
  . obtain rfl:k=n:=by omega
    have r1:=hc.hR.cell 0 _ rfl;have r2:=hc.hR.free 0;have d1:=hc.hD.cell 0 _ rfl;have HC:=hid hc;clear hc;go_wp2;refine bodyPost_ret (v:=.agg #[.slice ao k cap]) (by simp [results,Tryz.results196,go_sem,r1]) rfl ⟨⟨_,xs,rfl,?_,Hl.out⟩,?_,?_⟩
    . exact (HC.out.row.kept (yAR _ _ _) (.inr (fun e=>by have h:=(HC.out.row.lt _ e).1;have:=HC.out.bR;simp only at h;omega))).mono (by omega)
    . exact HC.out.src.kept (yAR _ _ _) (fun q hq=>by have h9:R=q:=zD hq;have:=HC.out.bR;have:=HC.out.bb;omega)
    . exact yAS HC.out.gr (yAR _ _ _) (fun q hq=>by have h9:R=q:=zD hq;have:=HC.out.bR;have:=HC.out.bb;omega)
def DrawnDk (base:Nat) (e:Ending) (w':World):Prop:=∃ u d,e=.returned u/\OwnCardS base w' u d/\d.length<=100/\∀ r∈d,r.length<=100
theorem OwnTM.keepS {e:TypeId} {base tp b:Nat} {w w':World} {v:Value} {xss:List (List Int)} (h:OwnTM e base tp w v xss) (hg:w.grownBy w' (some b)) (h1:b<base):OwnTM e base tp w' v xss :=
 BldG.toM (BldG.keepS (rb:=base) (h:BldG eI 2 e base base tp w v xss) hg h1 h1) (zA _)
theorem l02DrawDeck_any {w:World} {b N:Nat} (n m:Nat) (hs:Src w b N) (hN:N<=10000) (hn:n<=20) (hm:m<=20) :
 Calls Tryz.prog 195 #[.pointer (some ⟨b,0,none⟩),.int .i64 (n:Int),.int .i64 (m:Int)] w fun e w'=>DrawnDk w.heap.size e w'/\Src w' b (N+5000)/\w.grownBy w' (some b):=by
 obtain ⟨i0,hi,hz0,hz1,hz2⟩:=info_parts Tryz.infoCard;have hbl:=hs.lt;have hlit:Own eS 88 w.heap.size (w.alloc (.cells #[] 88)) (.slice (some ⟨w.heap.size,0,none⟩) 0 0) []:=Own.lit (E:=eS) (xs:=[]) (cs:=#[]) (zA _) rfl rfl (by decide) (fun x hx=>by cases hx);go_enter Tryz.func195,Tryz.ntmps195;go_wp2_with fail;refine (yAK ((m:Int)+1) (hs.alloc _) (by omega) (by omega)).mono ?_;rintro e w3 ⟨⟨q3,rfl,hq30,hq31,_⟩,hs3,hg3,hz3⟩;have hq32:=hq31 (by omega);have hB3:BldG eI 2 88 w.heap.size w.heap.size w3.heap.size w3 (.slice (some ⟨w.heap.size,0,none⟩) 0 0) ([]:List (List Int)):=BldG.empty (B:=w.heap.size) rfl (hlit.keptS hg3 hbl) (by rw [hz3];simp);have hg3':=yAA (World.grownBy_alloc _ _ _) hg3;clear hq31 hz3 hg3 hlit hs;go_wp2;go_loopw [7,8] (fun v k wr=>∃ (kk:Int) (xss:List (List Int)),0<=kk/\kk+xss.length<=20/\k=.int .i64 kk/\Hid (∀ r∈xss,r.length<=100)/\BldG eI 2 88 w.heap.size w.heap.size wr.heap.size wr v xss/\Src wr b (N+2+200 * xss.length)/\w.grownBy wr (some b)) (fun _ k _=>(intOf k).toNat)
 case atStart=>exact ⟨q3,[],by omega,by simp;omega,rfl,hid (fun r hr=>by cases hr),hB3,hs3.mono (by (try simp) <;> omega),hg3'⟩
 case round =>
  obtain ⟨kk,xss,hk0,hkj,rfl,Hrw,hB,hsr,hgr⟩:=hrel;clear hB3 hs3 hg3';have hsz:w.heap.size<=wr.heap.size:=hgr.size;by_cases hk:0<kk
  . obtain ⟨vo,vc,hv⟩:=hB.shape
    subst hv;go_wp2_with fail;refine (l02Draw_any n hsr (by omega) hn).mono ?_;rintro e w5 ⟨⟨u,xs,rfl,hR,hlx⟩,hs5,hg5⟩;have hB5:=hB.keepS hg5 hbl hbl;have hgr5:=yAA hgr hg5;have hsz5:=hg5.size;obtain ⟨hs',xh,hval,hokx,hlen,hO,hfn⟩:=hB5.app hR (by omega) hsz5;obtain ⟨rao,rcap,hsh⟩:=hR.shape;subst hsh;have hcells:(#[.slice rao xs.length rcap]:Array Value)=(eS.cells xh).toArray:=by rw [<- hval];rfl
    have HO:=hid hO;have Hfn:=hid hfn;have Hlen:=hid hlen;have Hcells:=hid hcells;have hl0:=HO.out.lt;have Hl0:=hid hl0;have Hxl:Hid (xss.length<=20):=hid (by omega);have Hrw6:Hid (∀ r∈xss++[xs],r.length<=100):=hid (fun r hr=>by
     rcases List.mem_append.1 hr with hr | hr
     . exact Hrw.out r hr
     . rw [List.mem_singleton.1 hr];omega)
    have hszr:w.heap.size<=w5.heap.size:=hgr5.size;clear hR hB hB5 hval hlen hO hfn hcells hl0 hlx hg5 hsr hgr hsz5;go_wp2_with (first | (at_builtin;refine yAB (E:=eS) rfl _ _ 78 rfl Tryz.underlying78 hi hz0 hz1 hz2 rfl (by decide) rfl rfl (HO.out.alloc _) (yAJ (E:=eS) (x:=xh) hokx Hcells.out) ?b1 ?b2 ?b3 ?_))
    case b1=>rw [Hlen.out];have:=Hxl.out;unfold maxLen;simp;omega
    case b2=>rw [Hlen.out];have:=Hxl.out;simp;omega
    case b3=>simp;omega
    intro v' w6 hO6 hg6;have hg6':=hg6.alloc;have hB6:=Hfn.out w6 v' hO6 hg6';have hs6:=hs5.kept hg6'.1 (fun q hq=>by have:=(Hl0.out q hq).1;omega);have hgr6:=yAS hgr5 hg6'.1 (fun q hq=>(Hl0.out q hq).1);have HB6:=hid hB6;clear hO6 hg6 hg6' hB6 hs5 hgr5;go_wp2;go_roundw
    case rel=>exact ⟨kk - 1,_,by omega,by simp;omega,by go_num,Hrw6,HB6.out,hs6.mono (by simp;omega),hgr6⟩
    case measure=>simp [intOf];omega
  . have hM:=hB.toM (zA _)
    have hl:xss.length<=100:=by omega
    have hl2:xss.length<=20:=by omega
    clear hB;go_wp2;go_ret;exact ⟨⟨_,xss,rfl,hM,hl,Hrw.out⟩,hsr.mono (by omega),hgr⟩
theorem okL:∀ x∈([-1,0,4095,4096,-9223372036854775808]:List Int),eI.ok x:=by
 intro x hx;show -9223372036854775808<=x/\x<=9223372036854775807
 simp at hx;omega
theorem spoil_step {e:TypeId} {w1 w6:World} {b base G n cap i g c k m:Nat} {x:Int} {xs:List Int} {d:List (List Int)} (hd:OwnTM e base w1.heap.size w1 (.slice (some ⟨G,0,none⟩) n cap) d) (hg:w1.grownBy w6 (some b)) (hb:b<base) (hx:d[i]?=some xs)
 (hcell:w1.cell? ⟨G,i,none⟩=some (.slice (some ⟨g,0,none⟩) m c)) (hm:m=xs.length) (hk:k<m) (hok:eI.ok x) :
 (∃ y,w6.cell? ⟨g,k,none⟩=some (.int .i64 y))/\w6.frozen? ⟨g,k,none⟩=false/\(∃ d',OwnTM e base w1.heap.size (w6.setCell ⟨g,k,none⟩ (.int .i64 x)) (.slice (some ⟨G,0,none⟩) n cap) d'/\d'.length=d.length)/\base<=g/\w6.grownBy (w6.setCell ⟨g,k,none⟩ (.int .i64 x)) (some g):=by
 have hG:base<=G/\G<w1.heap.size:=by
  obtain ⟨q,h1,_⟩:=hd;exact h1.1.lt G rfl
 have hd6:=hd.keepS hg hb;obtain ⟨ao,cc,hc6,hrow,hback⟩:=hd6.row hx;have hc1:w6.cell? ⟨G,i,none⟩=some (.slice (some ⟨g,0,none⟩) m c):=(World.cell?_of_block (w:=w1) (a:=⟨G,i,none⟩) (hg.block G hG.2 (fun e=>by have:=zD e;omega))).trans hcell;rw [hc6] at hc1;injection hc1 with hc1;injection hc1 with e1 e2 e3;subst e1;subst e3;have hgb:base<=g:=(hrow.1.lt g rfl).1;obtain ⟨⟨y,hy⟩,hf,hst,hgs⟩:=Own.storeI hrow.1 rfl (k:=k) (by omega) hok;exact ⟨⟨y,hy⟩,hf,⟨_,hback _ _ ⟨hst,hrow.2⟩ hgs,by rw [List.length_set]⟩,hgb,hgs⟩
theorem l02Spoil_any {w:World} {b N G n cap i base:Nat} {d:List (List Int)} (hs:Src w b N) (hN:N<=100000) (hd:OwnTM 88 base w.heap.size w (.slice (some ⟨G,0,none⟩) n cap) d) (hn:n=d.length) (hi:i<n) (hb:b<base) (hbz:base<=w.heap.size) (hr:∀ r∈d,r.length<=100) :
 Calls Tryz.prog 197 #[.pointer (some ⟨b,0,none⟩),.pointer (some ⟨G,i,none⟩)] w fun e w'=>e=.returned (.tuple #[])/\(∃ d',OwnTM 88 base w'.heap.size w' (.slice (some ⟨G,0,none⟩) n cap) d'/\d'.length=n)/\Src w' b (N+20)/\∀ w0:World,w0.grownBy w (some b)->w0.heap.size<=base->w0.grownBy w' (some b):=by
 obtain ⟨i0,hi0,hz0,hz1,hz2⟩:=info_parts Tryz.infoInt64;have hGb:base<=G:=by
  obtain ⟨q,h1,_⟩:=hd;exact (h1.1.lt G rfl).1
 go_enter Tryz.func197,Tryz.ntmps197;go_wp2_with fail;refine (yAK 3 hs (by omega) (by omega)).mono ?_;rintro e w1 ⟨⟨q,rfl,hq0,hq1,_⟩,hs1,hg1,hz1'⟩;have hq2:=hq1 (by omega);have hd1:=hd.keepS hg1 hb;rw [<- hz1'] at hd1;have hgs:=hg1.size;have hbz1:base<=w1.heap.size:=by omega
 have Hg1:Hid (∀ w0:World,w0.grownBy w (some b)->w0.heap.size<=base->w0.grownBy w1 (some b)):=hid (fun w0 h _=>yAA h hg1);have Hn:=hid hn;clear hq1 hd hs hg1 hz1' hgs hn;by_cases q0:q=0
 . subst q0
   have hu:Own eI 2 w1.heap.size (w1.alloc (.cells #[] 2)) (.slice (some ⟨w1.heap.size,0,none⟩) 0 0) []:=Own.lit (E:=eI) (xs:=[]) (cs:=#[]) (zA _) rfl rfl (by decide) (fun x hx=>by cases hx);have hda:OwnTM 88 base w1.heap.size (w1.alloc (.cells #[] 2)) (.slice (some ⟨G,0,none⟩) n cap) d:=hd1.below ((zB w1.heap.size w1).alloc (zA _) _) (zA _);obtain ⟨⟨y,c0⟩,f0,hput,hgp⟩:=hda.put Hn.out hi hu hbz1 (by simp);have HP:=hid hput;have HG:Hid (∀ w0:World,w0.grownBy w (some b)->w0.heap.size<=base->w0.grownBy ((w1.alloc (.cells #[] 2)).setCell ⟨G,i,none⟩ (.slice (some ⟨w1.heap.size,0,none⟩) 0 0)) (some b)):=hid (fun w0 h h2=>yAS (yAA (Hg1.out w0 h h2) (World.grownBy_alloc _ _ _)) hgp (fun q hq=>by have h9:G=q:=zD hq;omega));have HS:=hid ((hs1.alloc (.cells #[] 2)).kept hgp (fun q hq=>by have h9:G=q:=zD hq;omega));have hln:(d.set i []).length=n:=by rw [List.length_set];exact Hn.out.symm
   clear hd1 hu hda hput hgp hs1;go_wp2;go_end0;exact ⟨rfl,⟨_,by simpa using HP.out,hln⟩,HS.out.mono (by omega),HG.out⟩
 by_cases q1:q=1
 . subst q1
   clear q0;go_wp2_with fail;refine (yAK 2 hs1 (by omega) (by omega)).mono ?_;rintro e w3 ⟨⟨p,rfl,hp0,hp1,_⟩,hs3,hg3,hz3⟩;have hp2:=hp1 (by omega);obtain ⟨pk,rfl⟩:=zG hp0;have hd3:=hd1.keepS hg3 hb;rw [<- hz3] at hd3;have hbz3:base<=w3.heap.size:=by omega
   have Hg3:Hid (∀ w0:World,w0.grownBy w (some b)->w0.heap.size<=base->w0.grownBy w3 (some b)):=hid (fun w0 h h2=>yAA (Hg1.out w0 h h2) hg3);clear hp1 hz3 hg3 hd1 hs1 hbz1;go_wp2_with (first | (at_make;refine wpList_make_full _ rfl _ _ 29 rfl w3.heap.size 2 i0 (.int .i64 0) 1 Tryz.underlying29 hi0 hz0 hz1 _ _ _ _ (20+pk) rfl rfl (by omega) (by omega) ?b1 ?b2 (zA _) ?_))
   case b1=>first | omega | (rw [hz2];omega)
   case b2=>unfold maxLen;omega
   intro w4 hown4 hg4;have hu:=zerosI hown4;have hz4:=hg4.size;have hda:OwnTM 88 base w3.heap.size w4 (.slice (some ⟨G,0,none⟩) n cap) d:=hd3.below ((zB _ _).grown hg4 (zA _) (fun k hk=>by cases hk)) (zA _);obtain ⟨⟨y,c0⟩,f0,hput,hgp⟩:=hda.put Hn.out hi hu hbz3 hz4;have HP:=hid hput;have HG:=hid (fun (w0:World) (h:w0.grownBy w (some b)) (h2:w0.heap.size<=base)=>yAS (yAS (Hg3.out w0 h h2) hg4 (fun q hq=>by cases hq)) hgp (fun q hq=>by have h9:G=q:=zD hq;omega));have HS:=hid ((hs3.kept hg4 (fun q hq=>by cases hq)).kept hgp (fun q hq=>by have h9:G=q:=zD hq;omega));have hln:(d.set i (List.replicate (20+pk) 0)).length=n:=by rw [List.length_set];exact Hn.out.symm
   clear hd3 hu hda hput hgp hs3 hown4 hg4;go_wp2;go_end0;exact ⟨rfl,⟨_,by simpa using HP.out,hln⟩,HS.out.mono (by omega),HG.out⟩
 obtain rfl:q=2:=by omega
 clear q0 q1;obtain ⟨xs,hx⟩:∃ xs,d[i]?=some xs:=⟨_,zF (by have:=Hn.out;omega)⟩;have hxl:=hr xs (zC hx);obtain ⟨ao,c,hcell,hrow,hback⟩:=hd1.row hx;by_cases h0:xs.length=0
 . obtain rfl:xs=[]:=List.eq_nil_of_length_eq_zero h0
   clear h0;simp only [List.length_nil] at hcell;have HD1:=hid hd1;clear hd1 hrow hback;go_wp2;go_end0;exact ⟨rfl,⟨d,HD1.out,Hn.out.symm⟩,hs1.mono (by omega),Hg1.out⟩
 obtain ⟨g,c',hsh,hbg,hgl⟩:=hrow.1.addr (by omega);cases hsh;obtain ⟨m,hm⟩:∃ m,m=xs.length:=⟨_,rfl⟩;rw [<- hm] at hcell hxl h0;have Hm:=hid hm;clear hm;have HD1:=hid hd1;have HS1:=hid hs1;have Hx:=hid hx;have hGl:G<w1.heap.size:=by
  obtain ⟨q,h1,_⟩:=hd1;exact (h1.1.lt G rfl).2
 have hGn:G ≠ b:=by omega
 have hm1:(m:Int)<=100:=by omega
 clear hd1 hs1 hx hrow hback;go_upto_region 7 with fail;have HLit:Hid (Own eI 2 w1.heap.size (w1.alloc (.cells #[.int .i64 (-1),.int .i64 0,.int .i64 4095,.int .i64 4096,.int .i64 (-9223372036854775808)] 2)) (.slice (some ⟨w1.heap.size,0,none⟩) 5 5) [-1,0,4095,4096,-9223372036854775808]):=hid (Own.lit (E:=eI) (zA _) rfl rfl (by decide) okL);have hbl1:b<w1.heap.size:=by omega
 have hneL:∀ k,(Value.slice (some ⟨w1.heap.size,0,none⟩) 5 5).ownBlock=some k->k ≠ b:=fun k hk=>by have h9:w1.heap.size=k:=zD hk;omega
 go_region_law (first
  | (go_simp;go_at_call 67;with_reducible refine (yAK (m:Int) HS1.out.drew (by omega) (by omega)).mono ?_;rintro e w5 ⟨⟨k0,rfl,hk0,hk1,_⟩,hs5,hg5,-⟩;have hk2:=hk1 (by omega);obtain ⟨k,rfl⟩:=zG hk0;have hgA:w1.grownBy w5 (some b):=yAA (yAV _ _) hg5;have hcell5:w5.cell? ⟨G,i,none⟩=some (.slice (some ⟨g,0,none⟩) m c):=(World.cell?_of_block (w:=w1) (a:=⟨G,i,none⟩) (hgA.block G hGl (fun e=>absurd (zD e) hGn))).trans hcell;have hcell5L:∀ o,(w5.alloc o).cell? ⟨G,i,none⟩=some (.slice (some ⟨g,0,none⟩) m c):=(fun o=>(World.cell?_of_block (w:=w5) (a:=⟨G,i,none⟩) ((World.grownBy_alloc w5 o none).block G (zM hGl hgA.size) (fun e=>by cases e))).trans hcell5);clear hg5 hk1)
  | (go_simp;go_at_call 67;with_reducible refine (yAK (m:Int) (HS1.out.alloc _).drew (by omega) (by omega)).mono ?_;rintro e w5 ⟨⟨k0,rfl,hk0,hk1,_⟩,hs5,hg5,-⟩;have hk2:=hk1 (by omega);obtain ⟨k,rfl⟩:=zG hk0;have hgA:w1.grownBy w5 (some b):=yAA (World.grownBy_alloc _ _ _) (yAA (yAV _ _) hg5);have hcell5:w5.cell? ⟨G,i,none⟩=some (.slice (some ⟨g,0,none⟩) m c):=(World.cell?_of_block (w:=w1) (a:=⟨G,i,none⟩) (hgA.block G hGl (fun e=>absurd (zD e) hGn))).trans hcell;have HLt:=hid ((HLit.out.keptS (yAA (yAV _ (some b)) hg5) hbl1).rds);have hcell5L:∀ o,(w5.alloc o).cell? ⟨G,i,none⟩=some (.slice (some ⟨g,0,none⟩) m c):=(fun o=>(World.cell?_of_block (w:=w5) (a:=⟨G,i,none⟩) ((World.grownBy_alloc w5 o none).block G (zM hGl hgA.size) (fun e=>by cases e))).trans hcell5);clear hg5 hk1)
  | (go_simp;go_at_call 69;with_reducible refine Calls.mono (amongL [-1,0,4095,4096,-9223372036854775808] hs5 (by omega) rfl rfl (by decide) (by decide)) ?_;rintro e w6 ⟨⟨x,rfl,hx6⟩,hs6,hg6⟩;have hgB:w1.grownBy w6 (some b):=yAA hgA hg6;have hok:eI.ok x:=okL x hx6;have hst:=spoil_step (x:=x) HD1.out hgB hb Hx.out hcell Hm.out (k:=k) (by omega) hok;have HST:=hid hst;obtain ⟨⟨y6,c6⟩,f6,-⟩:=hst;have hcell6:w6.cell? ⟨G,i,none⟩=some (.slice (some ⟨g,0,none⟩) m c):=(World.cell?_of_block (w:=w1) (a:=⟨G,i,none⟩) (hgB.block G hGl (fun e=>absurd (zD e) hGn))).trans hcell;clear hg6 hok hx6)
  | (go_simp;go_at_call 69;with_reducible refine Calls.mono (among_any (xs:=[-1,0,4095,4096,-9223372036854775808]) hs5 (by omega) HLt.out (zA _) (by decide) hneL) ?_;rintro e w6 ⟨⟨x,rfl,hx6⟩,hs6,hg6,-⟩;have hgB:w1.grownBy w6 (some b):=yAA hgA hg6;have hok:eI.ok x:=okL x hx6;have hst:=spoil_step (x:=x) HD1.out hgB hb Hx.out hcell Hm.out (k:=k) (by omega) hok;have HST:=hid hst;obtain ⟨⟨y6,c6⟩,f6,-⟩:=hst;have hcell6:w6.cell? ⟨G,i,none⟩=some (.slice (some ⟨g,0,none⟩) m c):=(World.cell?_of_block (w:=w1) (a:=⟨G,i,none⟩) (hgB.block G hGl (fun e=>absurd (zD e) hGn))).trans hcell;clear hg6 hok hx6))
 all_goals
  obtain ⟨-,-,⟨d',hd',hl'⟩,hbg6,hg7⟩:=HST.out;have HD':=hid hd';have HL:Hid (d'.length=n):=hid (by rw [hl'];exact Hn.out.symm);have HG:=hid (fun (w0:World) (h:w0.grownBy w (some b)) (h2:w0.heap.size<=base)=>yAS (yAA (Hg1.out w0 h h2) hgB) hg7 (fun q hq=>by have h9:g=q:=zD hq;omega));have HS:=hid (hs6.kept hg7 (fun q hq=>by have h9:g=q:=zD hq;omega));have hz7:w1.heap.size<=(w6.setCell ⟨g,k,none⟩ (.int .i64 x)).heap.size:=zO hgB.size hg7.size;clear hd' hl' hg7 c6 f6 hcell6 hcell5 hs6 hs5 hgA hgB HST hcell;go_wp2;go_end0;exact ⟨rfl,⟨d',HD'.out.mono hz7,HL.out⟩,HS.out.mono (by omega),HG.out⟩
def DrawnD2 (base:Nat) (e:Ending) (w':World):Prop:=∃ u d,e=.returned u/\OwnCardS base w' u d
theorem OwnTM.bld {e:TypeId} {base tp:Nat} {w:World} {v:Value} {xss:List (List Int)} (h:OwnTM e base tp w v xss):BldG eI 2 e base base tp w v xss:=h
theorem l02BentDeck_any {w:World} {b N:Nat} (hs:Src w b N) (hN:N<=1000) :
 Calls Tryz.prog 151 #[.pointer (some ⟨b,0,none⟩)] w fun e w'=>DrawnD2 w.heap.size e w'/\Src w' b (N+20000)/\w.grownBy w' (some b):=by
 obtain ⟨i0,hi,hz0,hz1,hz2⟩:=info_parts Tryz.infoCard;have hbl:=hs.lt;go_enter Tryz.func151,Tryz.ntmps151;go_wp2_with fail;refine (yAK 4 hs (by omega) (by omega)).mono ?_;rintro e w1 ⟨⟨r,rfl,hr0,hr1,_⟩,hs1,hg1,-⟩;have hr2:=hr1 (by omega);clear hr1 hs;obtain ⟨m,hm,hq⟩:∃ m:Nat,(1<=m/\m<=4)/\(m:Int)=1+r:=⟨(1+r).toNat,by omega,by omega⟩;have Hv:=hid (congrArg (Value.int IntKind.i64) hq);clear hq;go_wp2_with fail;rw [<- Hv.out];refine (l02DrawDeck_any m 7 hs1 (by omega) (by omega) (by omega)).mono ?_;rintro e w2 ⟨⟨u,d,rfl,hd,hl,hrw⟩,hs2,hg2⟩;have hg2':=yAA hg1 hg2;have hd2:OwnTM 88 w.heap.size w2.heap.size w2 u d:=by
  obtain ⟨q,h1,h2,h3,h4⟩:=hd;have hz:=hg1.size;exact ⟨q,⟨h1.1.mono hz,h1.2⟩,h2,fun i x xs e1 e2=>⟨(h3 i x xs e1 e2).1.mono hz,(h3 i x xs e1 e2).2⟩,h4⟩
 clear hd hg1 hg2 hs1;go_wp2_with fail;refine (yAK 16 hs2 (by omega) (by omega)).mono ?_;rintro e w3 ⟨⟨q,rfl,hq0,hq1,_⟩,hs3,hg3,hz3⟩;have hq2:=hq1 (by omega);have hd3:=hd2.keepS hg3 hbl;rw [<- hz3] at hd3;have hg3':=yAA hg2' hg3;have hsz3:w.heap.size<=w3.heap.size:=hg3'.size;clear hd2 hg2' hg3 hz3 hs2 hq1;obtain ⟨uo,uc,hu⟩:=hd3.shape;by_cases q0:q=0
 . subst q0
   subst hu;go_wp2_with fail;refine (l02Draw_any (m+1) hs3 (by omega) (by omega)).mono ?_;rintro e w5 ⟨⟨u,xs,rfl,hR,hlx⟩,hs5,hg5⟩;have hB5:=(hd3.keepS hg5 hbl).bld;have hgr5:=yAA hg3' hg5;have hsz5:=hg5.size;obtain ⟨hs',xh,hval,hokx,hlen,hO,hfn⟩:=hB5.app hR (by omega) hsz5;obtain ⟨rao,rcap,hsh⟩:=hR.shape;subst hsh;have hcells:(#[.slice rao xs.length rcap]:Array Value)=(eS.cells xh).toArray:=by rw [<- hval];rfl
   have HO:=hid hO;have Hfn:=hid hfn;have Hlen:=hid hlen;have Hcells:=hid hcells;have hl0:=HO.out.lt;have Hl0:=hid hl0;have hszr:w.heap.size<=w5.heap.size:=hgr5.size;clear hR hB5 hval hlen hO hfn hcells hl0 hlx hg5 hd3 hg3' hsz5;go_wp2_with (first | (at_builtin;refine yAB (E:=eS) rfl _ _ 78 rfl Tryz.underlying78 hi hz0 hz1 hz2 rfl (by decide) rfl rfl (HO.out.alloc _) (yAJ (E:=eS) (x:=xh) hokx Hcells.out) ?b1 ?b2 ?b3 ?_))
   case b1=>rw [Hlen.out];unfold maxLen;simp;omega
   case b2=>rw [Hlen.out];simp;omega
   case b3=>simp;omega
   intro v' w6 hO6 hg6;have hg6':=hg6.alloc;have hM6:=(Hfn.out w6 v' hO6 hg6').toM (zA _);have hs6:=hs5.kept hg6'.1 (fun q hq=>by have:=(Hl0.out q hq).1;omega);have hgr6:=yAS hgr5 hg6'.1 (fun q hq=>(Hl0.out q hq).1);have HM6:=hid hM6;clear hO6 hg6 hg6' hM6 hs5 hgr5;go_wp2;go_ret;exact ⟨⟨_,_,rfl,HM6.out⟩,hs6.mono (by omega),hgr6⟩
 by_cases q1:q=1
 . subst q1
   clear q0;subst hu;by_cases h0:d.length=0
   . obtain rfl:d=[]:=List.eq_nil_of_length_eq_zero h0
     have HD3:=hid hd3;clear hd3 h0;go_wp2;go_ret;exact ⟨⟨_,_,rfl,HD3.out⟩,hs3.mono (by omega),hg3'⟩
   obtain ⟨G,cap,hsh,hbG,hGt,hGl⟩:=hd3.addr (by omega);cases hsh;obtain ⟨n,hn⟩:∃ n,n=d.length:=⟨_,rfl⟩;rw [<- hn] at hd3 h0 hl |-;have Hn:=hid hn;have HD3:=hid hd3;have Hrw:=hid hrw;clear hd3 hrw hn;go_wp2_with fail;refine (yAK (n:Int) hs3 (by omega) (by omega)).mono ?_;rintro e w5 ⟨⟨k0,rfl,hk0,hk1,_⟩,hs5,hg5,hz5⟩;have hk2:=hk1 (by omega);obtain ⟨k,rfl⟩:=zG hk0;have hd5:=HD3.out.keepS hg5 hbl;rw [<- hz5] at hd5;have hg5':=yAA hg3' hg5;have hsz5:w.heap.size<=w5.heap.size:=hg5'.size;have HD5:=hid hd5;have Hg5:=hid hg5';have hkn:k<n:=by omega
   clear hk1 hg5 hz5 hd5 hg5' hg3' HD3 hs3;go_wp2_with fail;with_reducible refine (l02Spoil_any hs5 (by omega) HD5.out Hn.out hkn hbl hsz5 Hrw.out).mono ?_
   rintro e w6 ⟨rfl,⟨d',hd',hl'⟩,hs6,hG6⟩;have hg6:=hG6 w Hg5.out (zA _);have HD6:=hid hd';clear hG6 hd' hl' hs5 HD5 Hg5;go_wp2;go_ret;exact ⟨⟨_,_,rfl,HD6.out⟩,hs6.mono (by omega),hg6⟩
 by_cases q2:q=2
 . subst q2
   clear q0 q1;have hlit:Own eS 88 w.heap.size (w3.alloc (.cells #[] 88)) (.slice (some ⟨w3.heap.size,0,none⟩) 0 0) []:=Own.lit (E:=eS) (xs:=[]) (cs:=#[]) hsz3 rfl rfl (by decide) (fun x hx=>by cases hx);go_wp2_with fail;refine (yAK 2 (hs3.alloc _) (by omega) (by omega)).mono ?_;rintro e w4 ⟨⟨p,rfl,hp0,hp1,_⟩,hs4,hg4,hz4⟩;have hp2:=hp1 (by omega);have hB4:BldG eI 2 88 w.heap.size w.heap.size w4.heap.size w4 (.slice (some ⟨w3.heap.size,0,none⟩) 0 0) ([]:List (List Int)):=BldG.empty (B:=w3.heap.size) rfl (hlit.keptS hg4 hbl) (by rw [hz4];simp);have hg4':=yAA hg3' (yAA (World.grownBy_alloc _ _ _) hg4);clear hp1 hz4 hg4 hlit hs3 hd3 hg3' hu hrw hl;go_wp2;go_loopw [4,5] (fun v k wr=>∃ (kk:Int) (xss:List (List Int)),0<=kk/\kk+xss.length<=41/\k=.int .i64 kk/\BldG eI 2 88 w.heap.size w.heap.size wr.heap.size wr v xss/\Src wr b (N+6000+20 * xss.length)/\w.grownBy wr (some b)) (fun _ k _=>(intOf k).toNat)
   case atStart=>exact ⟨40+p,[],by omega,by simp;omega,rfl,hB4,hs4.mono (by (try simp) <;> omega),hg4'⟩
   case round =>
    obtain ⟨kk,xss,hk0,hkj,rfl,hB,hsr,hgr⟩:=hrel;clear hB4 hs4 hg4';have hsz:w.heap.size<=wr.heap.size:=hgr.size;by_cases hk:0<kk
    . obtain ⟨vo,vc,hv⟩:=hB.shape
      subst hv;go_wp2_with fail;refine (l02Draw_any 1 hsr (by omega) (by omega)).mono ?_;rintro e w5 ⟨⟨u,xs,rfl,hR,hlx⟩,hs5,hg5⟩;have hB5:=hB.keepS hg5 hbl hbl;have hgr5:=yAA hgr hg5;have hsz5:=hg5.size;obtain ⟨hs',xh,hval,hokx,hlen,hO,hfn⟩:=hB5.app hR (by omega) hsz5;obtain ⟨rao,rcap,hsh⟩:=hR.shape;subst hsh;have hcells:(#[.slice rao xs.length rcap]:Array Value)=(eS.cells xh).toArray:=by rw [<- hval];rfl
      have HO:=hid hO;have Hfn:=hid hfn;have Hlen:=hid hlen;have Hcells:=hid hcells;have hl0:=HO.out.lt;have Hl0:=hid hl0;have Hxl:Hid (xss.length<=41):=hid (by omega);have hszr:w.heap.size<=w5.heap.size:=hgr5.size;clear hR hB hB5 hval hlen hO hfn hcells hl0 hlx hg5 hsr hgr hsz5;go_wp2_with (first | (at_builtin;refine yAB (E:=eS) rfl _ _ 78 rfl Tryz.underlying78 hi hz0 hz1 hz2 rfl (by decide) rfl rfl (HO.out.alloc _) (yAJ (E:=eS) (x:=xh) hokx Hcells.out) ?b1 ?b2 ?b3 ?_))
      case b1=>rw [Hlen.out];have:=Hxl.out;unfold maxLen;simp;omega
      case b2=>rw [Hlen.out];have:=Hxl.out;simp;omega
      case b3=>simp;omega
      intro v' w6 hO6 hg6;have hg6':=hg6.alloc;have hB6:=Hfn.out w6 v' hO6 hg6';have hs6:=hs5.kept hg6'.1 (fun q hq=>by have:=(Hl0.out q hq).1;omega);have hgr6:=yAS hgr5 hg6'.1 (fun q hq=>(Hl0.out q hq).1);have HB6:=hid hB6;clear hO6 hg6 hg6' hB6 hs5 hgr5;go_wp2;go_roundw
      case rel=>exact ⟨kk - 1,_,by omega,by simp;omega,by go_num,HB6.out,hs6.mono (by simp;omega),hgr6⟩
      case measure=>simp [intOf];omega
    . have hM:=hB.toM (zA _)
      have hl2:xss.length<=41:=by omega
      clear hB;go_wp2;go_ret;exact ⟨⟨_,xss,rfl,hM⟩,hsr.mono (by omega),hgr⟩
 have e0:(q == 0)=false:=by simpa using q0
 have e1:(q == 1)=false:=by simpa using q1
 have e2:(q == 2)=false:=by simpa using q2
 have HD3:=hid hd3;clear q0 q1 q2 hd3 hu;go_wp2;go_ret;exact ⟨⟨_,_,rfl,HD3.out⟩,hs3.mono (by omega),hg3'⟩
end Go.Proofs.YthdaghfhlfjclaaGreat
