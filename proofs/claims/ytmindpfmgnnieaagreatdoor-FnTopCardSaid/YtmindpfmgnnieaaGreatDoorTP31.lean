/- Lemmas on the way to the law FnTop. No condition. -/
import Derived.Test.YtmindpfmgnnieaaGreatDoorTP29
import Derived.Test.YtmindpfmgnnieaaGreatDoorTP17
import Derived.Test.YtmindpfmgnnieaaGreatDoorTP14
import Derived.Test.YtmindpfmgnnieaaGreatDoorTP16
import Derived.Test.YtmindpfmgnnieaaGreatDoorTP13
namespace Go.Proofs.YtmindpfmgnnieaaGreatDoor
set_option maxHeartbeats 2000000
set_option linter.unusedSimpArgs false
open Lib (hid)
open Go.ChangeShapes Go.WideShapes Go.ChangeAt Go.RowKit Go.Sort
set_option linter.unusedVariables false
set_option maxRecDepth 100000
def keyC (d:List (List Int)) (f t:Int) (i:Nat):List Int:=partC (d.getD i []) f t
def ColsOk (d:List (List Int)) (f t:Int):Prop:=(0<=f/\f<t)/\∀ c∈d,t<=(c.length:Int)
theorem card_open {W:World} {A:Nat} {dv:Value} {d:List (List Int)} {t:Int} (hd:RdInt64SS A W dv d) (ht:0<t) (hc:∀ c∈d,t<=(c.length:Int)) {i:Nat} (hi:i<d.length) :
 ∃ ao cap b off bb oo cc,dv=.slice ao d.length cap/\ao=some ⟨b,off,none⟩/\W.cell? ⟨b,off+i,none⟩=some (.slice (some ⟨bb,oo,none⟩) (d.getD i []).length cc)/\RdI A W (.slice (some ⟨bb,oo,none⟩) (d.getD i []).length cc) (d.getD i [])/\t<=((d.getD i []).length:Int)/\b<W.heap.size:=by
 obtain ⟨ao,cap,rfl,ho⟩:=hd.open;obtain ⟨b,off,rfl,hlt,hcc⟩:=ho (by omega);obtain ⟨x,ro,rc,hx,hcell,hrd⟩:=hcc i hi;have hg:d.getD i []=x:=by rw [List.getD_eq_getElem?_getD,hx];rfl
 have htx:=hc x (zC hx);obtain ⟨ro',rc',hsh,hin⟩:=RdI.open hrd;obtain ⟨bb,oo,hro,_⟩:=hin (by omega);injection hsh with h1 h2 h3;rw [h1,hro] at hcell hrd;refine ⟨_,cap,b,off,bb,oo,rc,rfl,rfl,?_,?_,?_,hlt.2⟩
 . rw [hg];exact hcell
 . rw [hg];exact hrd
 . rw [hg];exact htx
theorem clo_Order {W:World} {A p q:Nat} {d:List (List Int)} {f t:Int} {dv:Value} (hP:Box W p [dv]) (hQ:Box W q [.int .i64 f,.int .i64 t]) (hd:RdInt64SS A W dv d) (hC:ColsOk d f t) (hl:d.length<=1000) {i j:Nat} (hi:i<d.length) (hj:j<d.length) :
 Calls Tryz.prog 115 #[.int .i64 (i:Int),.int .i64 (j:Int),.pointer (some ⟨p,0,none⟩),.pointer (some ⟨q,0,none⟩)] W fun e w'=>e=.returned (.int .i64 (cmpN (rks (keyC d f t i)) (rks (keyC d f t j))))/\Below W.heap.size W w':=by
 obtain ⟨ao,cap,b,off,b1,o1,c1,e1,e2,hc1,hr1,ht1,-⟩:=card_open hd.tight (by have:=hC.1;omega) hC.2 hi;obtain ⟨ao',cap',b',off',b2,o2,c2,e3,e4,hc2,hr2,ht2,-⟩:=card_open hd.tight (by have:=hC.1;omega) hC.2 hj;subst e1;subst e2;injection e3 with e5 e6 e7;rw [<- e5] at e4;injection e4 with e4;injection e4 with e8 e9;subst e8;subst e9;have f1:=cell_regrown (hP.cell 0 _ rfl);have f2:=cell_regrown (hQ.cell 0 _ rfl);have f3:=cell_regrown (hQ.cell 1 _ rfl);have f4:=cell_regrown hc1;have f5:=cell_regrown hc2;have hcon:=fun d os=>yBP (w:=grow (redrawn W d) os) f t hC.1.1 hC.1.2 ht1 ht2 (Rds.regrown hr1 (zA _) d os) (Rds.regrown hr2 (zA _) d os);obtain ⟨R,hR⟩:∃ R,cmpN (rks (keyC d f t i)) (rks (keyC d f t j))=R:=⟨_,rfl⟩;rw [hR];have hcon':∀ x os,Calls Tryz.prog 116 #[.agg #[.slice (some ⟨b1,o1,none⟩) (d.getD i []).length c1],.agg #[.slice (some ⟨b2,o2,none⟩) (d.getD j []).length c2],.agg #[.int .i64 f,.int .i64 t]] (grow (redrawn W x) os) fun e' w'=>e'=.returned (.int .i64 R)/\Below (grow (redrawn W x) os).heap.size (grow (redrawn W x) os) w':=by
  intro x os;rw [<- hR];exact hcon x os
 have Hcon:=hid hcon';obtain ⟨n,hn⟩:∃ n,n=d.length:=⟨_,rfl⟩;rw [<- hn] at f1 hl hi hj;have i1:(i:Int)<(n:Int):=by omega
 have i2:(j:Int)<(n:Int):=by omega
 generalize (d.getD i []).length=n1 at f4 Hcon;generalize (d.getD j []).length=n2 at f5 Hcon;clear hP hQ hd hC hc1 hc2 hr1 hr2 ht1 ht2 hcon hcon' hR hn e5 e6 e7;go_enter Tryz.func115,Tryz.ntmps115;go_upto_region 1 with fail;refine wp_region_quiet_below (by kernel_rfl) (by kernel_rfl) ?_;repeat ((with_reducible refine wpQuiet_step (fun K hK=>?_));go_simp;first | ((with_reducible refine hK _ ?_);clear hK K) | (apply Exists.intro;refine ⟨fun _=>?_,hK _ ?_⟩;((first | (go_at_call 116;with_reducible exact yAG (Hcon.out _ _))));clear hK K))
 refine wpQuiet_nil ?_;intro _ hw';obtain ⟨⟨dq,osq⟩,hw''⟩:=hw';subst hw'';have hbq:=below_regrown W dq osq;generalize grow (redrawn W dq) osq=wq at hbq |-;have Hb:=hid hbq;clear hbq f1 f2 f3 f4 f5;go_wp2;go_ret;exact ⟨rfl,Hb.out⟩
def ltK (d:List (List Int)) (f t:Int) (x y:Int):Prop:=lexL (rks (keyC d f t x.toNat)) (rks (keyC d f t y.toNat))\/(rks (keyC d f t x.toNat)=rks (keyC d f t y.toNat)/\x<y)
theorem cmpT_order {d:List (List Int)} {f t:Int} (hC:ColsOk d f t):CmpT (fun x y=>cmpN (rks (keyC d f t x.toNat)) (rks (keyC d f t y.toNat))) (ltK d f t) d.length:=by
 have hlen:∀ x y:Nat,x<d.length->y<d.length->(rks (keyC d f t x)).length=(rks (keyC d f t y)).length:=by
  intro x y hx hy;have k1:∀ z,z<d.length->(rks (keyC d f t z)).length=t.toNat - f.toNat:=by
   intro z hz;unfold rks keyC;rw [List.length_map,yAN hC.1.1 hC.1.2];have hm:d.getD z []∈d:=by
    rw [List.getD_eq_getElem?_getD,zF hz];exact List.getElem_mem hz
   exact hC.2 _ hm
  rw [k1 x hx,k1 y hy]
 refine ⟨fun a b c h1 h2=>?_,fun x y hxy hy h=>?_,fun x y hxy hy h=>?_⟩
 . unfold ltK at *
   rcases h1 with h1 | ⟨e1,h1⟩ <;> rcases h2 with h2 | ⟨e2,h2⟩
   . exact .inl (lexL_trans h1 h2)
   . exact .inl (by rw [<- e2];exact h1)
   . exact .inl (by rw [e1];exact h2)
   . exact .inr ⟨e1.trans e2,by omega⟩
 . exact .inl (cmpN_neg (by simp only [zR];exact hlen y x hy (by omega)) h)
 . rcases cmpN_pos (by simp only [zR];exact hlen y x hy (by omega)) h with e | e
   . exact .inr ⟨e.symm,by omega⟩
   . exact .inl e
theorem cmpB_order {w:World} {A g p q:Nat} {d:List (List Int)} {f t:Int} {dv:Value} (hP:Box w p [dv]) (hQ:Box w q [.int .i64 f,.int .i64 t]) (hd:RdInt64SS A w dv d) (hC:ColsOk d f t) (hl:d.length<=1000) (hp:p<g) (hq:q<g) (hA:A<=g) (hg:g<=w.heap.size) :
 CmpB (fun x y=>cmpN (rks (keyC d f t x.toNat)) (rks (keyC d f t y.toNat))) d.length g p q w:=by
 intro W hW i j hi hj;have hB:Below g w W:=⟨hW.os,hW.tape,hW.output,hW.size,fun k hk=>hW.block k (by omega) (fun e=>by have:=zD e;omega)⟩;have h:=clo_Order (hP.below hB hp) (hQ.below hB hq) (hd.below hB hA) hC hl hi hj;simpa only [zR] using h
def rangeN (n:Nat):List Int:=(List.range n).map (fun i:Nat=>(i:Int))
theorem rangeN_succ (n:Nat):rangeN (n+1)=rangeN n++[(n:Int)]:=by unfold rangeN;rw [List.range_succ,List.map_append];rfl
theorem yBK (n:Nat):(rangeN n).length=n:=by unfold rangeN;simp
theorem rangeN_rise (n:Nat):(rangeN n).Pairwise (·<·):=by
 unfold rangeN;rw [List.pairwise_map];exact (List.pairwise_lt_range).imp (fun h=>by omega)
theorem yBJ (n:Nat):Rng n (rangeN n):=by
 intro x hx;unfold rangeN at hx;obtain ⟨k,hk,rfl⟩:=List.mem_map.1 hx;exact ⟨k,List.mem_range.1 hk,rfl⟩
theorem orderBy_c {d:List (List Int)} {v:Value} {w:World} {A:Nat} {f t:Int} (hd:RdInt64SS A w v d) (hC:ColsOk d f t) (hl:d.length<=40) :
 Calls Tryz.prog 68 #[v,.agg #[.int .i64 f,.int .i64 t]] w fun e w'=>(∃ r Z,e=.returned r/\OwnInt64S w.heap.size w' r Z/\Z.Perm (rangeN d.length)/\Z.Pairwise (ltK d f t))/\Below w.heap.size w w':=by
 obtain ⟨i0,hi,hz0,hz1,hz2⟩:=info_parts Tryz.infoInt64;obtain ⟨vo,vc,rfl⟩:=hd.shape;obtain ⟨W,hW⟩:∃ W,W=(w.alloc (.cells #[.slice vo d.length vc] 24)).alloc (.cells #[.int .i64 f,.int .i64 t] 27):=⟨_,rfl⟩;have hP:Box W w.heap.size [.slice vo d.length vc]:=by rw [hW];exact (Box.new w [.slice vo d.length vc] _).alloc _
 have hQ:Box W (w.heap.size+1) [.int .i64 f,.int .i64 t]:=by
  have h:=Box.new (w.alloc (.cells #[.slice vo d.length vc] 24)) [.int .i64 f,.int .i64 t] 27;rw [show (w.alloc (.cells #[.slice vo d.length vc] 24)).heap.size=w.heap.size+1 from by simp,<- hW] at h;exact h
 have hb0:Below w.heap.size w W:=by rw [hW];exact ((zB _ _).alloc (zA _) _).alloc (by simp) _
 have hWz:W.heap.size=w.heap.size+2:=by rw [hW];simp
 have Hd:=hid hd.tight;have hO0:OwnInt64S (w.heap.size+2) (W.alloc (.cells #[] 2)) (.slice (some ⟨W.heap.size,0,none⟩) 0 0) (rangeN 0):=Own.lit (E:=eI) (xs:=[]) (cs:=#[]) (by omega) rfl rfl (by decide) (fun x hx=>by cases hx);have hB0:Below (w.heap.size+2) W (W.alloc (.cells #[] 2)):=(zB _ _).alloc (by omega) _;have HO0:=hid hO0;have HB0:=hid hB0;have HP:=hid hP;have HQ:=hid hQ;have Hb0:=hid hb0;have HW:=hid hW;have HC:=hid hC;have HWz:=hid hWz;have p0:=(hP.alloc (.cells #[] 2)).cell 0 _ rfl;obtain ⟨n,hn⟩:∃ n,n=d.length:=⟨_,rfl⟩;rw [<- hn] at HP hl p0 Hd |-;have Hn:=hid hn;clear hP hQ hb0 hWz hd hC hO0 hB0 hW hn;go_enter Tryz.func68,Tryz.ntmps68;go_upto_region 1 with fail;rw [Hn.out,<- HW.out,<- Hn.out];go_wp2;go_loopw [5,10] (fun ov iv wr=>∃ (k g cap:Nat),k<=n/\iv=.int .i64 k/\ov=.slice (some ⟨g,0,none⟩) k cap/\Hid (OwnInt64S (w.heap.size+2) wr (.slice (some ⟨g,0,none⟩) k cap) (rangeN k))/\Hid (Below (w.heap.size+2) W wr)) (fun _ i _=>n - (intOf i).toNat)
 case atStart=>exact ⟨0,W.heap.size,0,zK _,rfl,rfl,HO0,HB0⟩
 case round =>
  obtain ⟨k,g,cap,hk,rfl,rfl,HO,HB⟩:=hrel;clear HO0 HB0 p0;by_cases hkn:k<n
  . have hokk:eI.ok (k:Int):=by show -9223372036854775808<=(k:Int)/\(k:Int)<=9223372036854775807;omega
    have hwr:w.heap.size+2<=wr.heap.size:=by have:=HB.out.size;have:=HWz.out;omega
    go_wp2_with (first | (at_builtin;refine yAB (E:=eI) rfl _ _ 48 rfl Tryz.underlying48 hi hz0 hz1 hz2 rfl (by decide) rfl rfl (HO.out.alloc _) (yAH (E:=eI) (x:=(k:Int)) hokk rfl) ?b1 ?b2 ?b3 ?_))
    case b1=>rw [yBK];unfold maxLen;simp;omega
    case b2=>rw [yBK];simp;omega
    case b3=>simp;omega
    intro v3 w3 hO3 hg3;rw [<- rangeN_succ] at hO3;obtain ⟨g3,cap3,hv3,-,-⟩:=hO3.addr (by rw [yBK];omega);rw [yBK] at hv3;subst hv3;have HO3:=hid hO3;have HB3:=hid (HB.out.grown hg3.alloc.1 hwr (fun q hq=>(HO.out.lt q hq).1));clear hO3 hg3;go_wp2;go_roundw
    case rel=>exact ⟨k+1,g3,cap3,by omega,by go_num,rfl,HO3,HB3⟩
    case measure=>simp [intOf];omega
  . obtain rfl:k=n:=by omega
    have hgl:=HO.out.lt g rfl;have hBw:Below w.heap.size w wr:=Hb0.out.trans (HB.out.mono (by omega));have hdr:RdInt64SS w.heap.size wr (.slice vo k vc) d:=Hd.out.below hBw (zA _);have hPr:Box wr w.heap.size [.slice vo k vc]:=HP.out.below HB.out (by omega);have hQr:Box wr (w.heap.size+1) [.int .i64 f,.int .i64 t]:=HQ.out.below HB.out (by omega);have hcon:=sortStable_c (xs:=rangeN k) (N:=k) (p:=w.heap.size) (q:=w.heap.size+1) HO.out (yBK k).symm hl (rangeN_rise k) (yBJ k) (by have h:=cmpT_order HC.out;rw [<- Hn.out] at h;exact h) (by have h:=cmpB_order (g:=g) hPr hQr hdr HC.out (by have:=Hn.out;omega) (by omega) (by omega) (by omega) (by omega);rw [<- Hn.out] at h;exact h);have Hcon:=hid hcon;have HBw:=hid hBw;have Hgl:=hid hgl;clear hcon hBw hdr hPr hQr hgl;go_wp2_with fail;refine Hcon.out.mono ?_;rintro e w5 ⟨rfl,⟨Z,hp,hw,hO⟩,hg⟩;have HZ:=hid (show Z.Perm (rangeN k)/\Z.Pairwise (ltK d f t) from ⟨hp,hw⟩);have HO5:=hid (hO.mono (base':=w.heap.size) (by omega));have HB5:Hid (Below w.heap.size w w5):=hid (HBw.out.grown hg HBw.out.size (fun q hq=>by have h9:g=q:=zD hq;have:=Hgl.out;omega));clear hp hw hO hg;go_wp2;go_ret;exact ⟨⟨_,Z,rfl,HO5.out,HZ.out⟩,HB5.out⟩
theorem newCard_c {xs:List Int} {v:Value} {w:World} {A:Nat} (ha:RdI A w v xs) (hl:xs.length<=2097152) :
 Calls Tryz.prog 69 #[.agg #[v]] w fun e w'=>(∃ u,e=.returned (.agg #[u])/\OwnInt64S w.heap.size w' u xs)/\Below w.heap.size w w':=by
 obtain ⟨ao,cap,rfl⟩:=ha.shape;obtain ⟨W,hW⟩:∃ W,W=(w.alloc (.cells #[.slice ao xs.length cap] 69)).alloc (.cells #[.slice none 0 0] 69):=⟨_,rfl⟩;have hP:Box W w.heap.size [.slice ao xs.length cap]:=by rw [hW];exact (Box.new w [.slice ao xs.length cap] _).alloc _
 have hQ:Box W (w.heap.size+1) [.slice none 0 0]:=by
  have h:=Box.new (w.alloc (.cells #[.slice ao xs.length cap] 69)) [.slice none 0 0] 69;rw [show (w.alloc (.cells #[.slice ao xs.length cap] 69)).heap.size=w.heap.size+1 from by simp,<- hW] at h;exact h
 have hb0:Below w.heap.size w W:=by rw [hW];exact ((zB _ _).alloc (zA _) _).alloc (by simp) _
 have Ha:=hid (Rds.onn ha hb0);have HQ:=hid hQ;have Hb0:=hid hb0;have HW:=hid hW;have c0:=hP.cell 0 _ rfl;have hlt:=hQ.lt;clear hP hQ hb0 hW ha;go_enter Tryz.func69,Tryz.ntmps69;go_upto_region 1 with fail;rw [<- HW.out];go_wp2_with fail;with_reducible refine (copyInts_c Ha.out hl).mono ?_
 rintro e w1 ⟨u,rfl,hu,hb⟩;obtain ⟨uo,uc,hsu⟩:=hu.shape;subst hsu;have hQ1:=HQ.out.on hb;have r0:=hQ1.cell 0 _ rfl;have r1:=hQ1.free 0;have HU:=hid hu;have Hb:=hid (Hb0.out.trans (hb.mono Hb0.out.size));clear hu hb hQ1;go_wp2;refine bodyPost_ret (v:=.agg #[.slice uo xs.length uc]) (by simp [results,Tryz.results69,go_sem,r0]) rfl ⟨⟨_,rfl,?_⟩,Hb.out.setCell (by show w.heap.size<=w.heap.size+1;omega) _⟩;exact (HU.out.kept (yBL _ _ _) (.inr (fun e=>by have h:=(HU.out.lt _ e).1;simp only at h;omega))).mono (by omega)
theorem within_grown {lo hi:Nat} {w2 wr w':World} {row:Option Nat} (h:Within lo hi w2 wr) (hg:wr.grownBy w' row) (hr:∀ k,row=some k->(lo<=k/\k<hi)\/w2.heap.size<=k):Within lo hi w2 w' :=
 ⟨hg.os.trans h.os,hg.tape.trans h.tape,hg.output.trans h.output,zO h.size hg.size,fun k hk hh=>(hg.block k (zM hk h.size) (fun e=>by have:=hr k e.symm;omega)).trans (h.block k hk hh)⟩
theorem within_same {lo hi:Nat} {w2 wr w':World} (h:Within lo hi w2 wr) (hb:Below wr.heap.size wr w'):Within lo hi w2 w' :=
 ⟨hb.os.trans h.os,hb.tape.trans h.tape,hb.output.trans h.output,zO h.size hb.size,fun k hk hh=>(hb.block k (zM hk h.size)).trans (h.block k hk hh)⟩
theorem within_cell {lo hi:Nat} {w w':World} (h:Within lo hi w w') {p:Addr} (hp:p.block<w.heap.size) (hh:¬ (lo<=p.block/\p.block<hi)):w'.cell? p=w.cell? p:=by
 unfold World.cell?;rw [h.block p.block hp (by omega)]
theorem own_or {v v':Value} {b m:Nat} {w:World} (h:∀ q,v.ownBlock=some q->q=b\/m<=q) (hm:m<=w.heap.size) (hg:v'.ownBlock=v.ownBlock\/∃ k,v'.ownBlock=some k/\w.heap.size<=k):∀ q,v'.ownBlock=some q->q=b\/m<=q:=by
 intro q hq;rcases hg with h6 | ⟨k,h6,h7⟩
 . exact h q (by rw [<- h6];exact hq)
 . rw [h6] at hq;cases hq;exact .inr (zO hm h7)
def RowsOk (d:List (List Int)):Prop:=d.length<=100/\∀ c∈d,c.length<=1000
theorem newDeck_c {d:List (List Int)} {v:Value} {w:World} {A:Nat} (hd:RdInt64SS A w v d) (hr:RowsOk d) :
 Calls Tryz.prog 75 #[v] w fun e w'=>(∃ r,e=.returned r/\OwnCardS w.heap.size w' r d)/\Below w.heap.size w w':=by
 obtain ⟨i0,hi,hz0,hz1,hz2c⟩:=info_parts Tryz.infoCard;have hB0:BldG eI 2 69 w.heap.size w.heap.size (w.alloc (.cells #[] 69)).heap.size (w.alloc (.cells #[] 69)) (.slice (some ⟨w.heap.size,0,none⟩) 0 0) (d.take 0):=BldG.empty (B:=w.heap.size) rfl (Own.lit (E:=eS) (xs:=[]) (cs:=#[]) (zA _) rfl rfl (by decide) (fun x hx=>by cases hx)) (by simp);have Hd:=hid hd.tight;obtain ⟨vo,vc,rfl,ho⟩:=hd.tight.open;have Ho:=hid ho;have HB0:=hid hB0;have HRw:=hid hr.2;have hl:=hr.1;obtain ⟨n,hn⟩:∃ n,n=d.length:=⟨_,rfl⟩;rw [<- hn] at hl |-;have Hn:=hid hn;clear hd ho hB0 hr hn;go_enter Tryz.func75,Tryz.ntmps75;go_wp2;go_loopw [3,9] (fun ov iv wr=>∃ k:Nat,k<=n/\iv=.int .i64 k/\Hid (BldG eI 2 69 w.heap.size w.heap.size wr.heap.size wr ov (d.take k))/\Hid (Below w.heap.size w wr)) (fun _ i _=>n - (intOf i).toNat)
 case atStart=>exact ⟨0,zK _,rfl,HB0,hid ((zB _ _).alloc (zA _) _)⟩
 case round =>
  obtain ⟨k,hk,rfl,HB,Hb⟩:=hrel;clear HB0;by_cases hkn:k<n
  . obtain ⟨b,off,rfl,hlt,hc⟩:=Ho.out (by have:=Hn.out;omega)
    obtain ⟨x,ro,rc,hx,hcell,hrd⟩:=hc k (by have:=Hn.out;omega);have hxl:=HRw.out x (zC hx);have d1:=(Hb.out.cell (p:=⟨b,off+k,none⟩) hlt.2).trans hcell;obtain ⟨W,hW⟩:∃ W,W=wr.alloc (.cells #[.slice ro x.length rc] 69):=⟨_,rfl⟩;have hbW:Below wr.heap.size wr W:=by rw [hW];exact (zB _ _).alloc (zA _) _
    have hX:Box W wr.heap.size [.slice ro x.length rc]:=by rw [hW];exact Box.new wr [.slice ro x.length rc] _
    have hrW:=Rds.onn (hrd.below Hb.out (zA _)) hbW;have HrW:=hid hrW;have HX:=hid hX;have HbW:=hid hbW;have HW:=hid hW;obtain ⟨T,hT⟩:∃ T,T=d.take k:=⟨_,rfl⟩;have Htk:Hid (d.take (k+1)=T++[x]):=hid (by rw [hT];exact yAD hx);have Hxl:Hid (T.length<=100):=hid (by rw [hT,zI];omega);rw [<- hT] at HB;clear hT;have hBs:=HB.out.shape;obtain ⟨oo,oc,hov⟩:=hBs;subst hov;clear hc hcell hrd hx hW hbW hX hrW;go_upto_region 5 with fail;rw [<- HW.out];have c0:=HX.out.cell 0 _ rfl;clear d1 HW;go_wp2_with fail;with_reducible refine (newCard_c HrW.out (by omega)).mono ?_
    rintro e w2 ⟨⟨u,rfl,hu⟩,hb2⟩;obtain ⟨tp,htp⟩:∃ tp,tp=wr.heap.size:=⟨_,rfl⟩;have htb:w.heap.size<=tp:=by have:=Hb.out.size;omega
    have hWz:=HbW.out.size;have hz2:tp<=w2.heap.size:=by have:=hb2.size;omega
    have hB2:BldG eI 2 69 w.heap.size w.heap.size tp w2 (.slice oo T.length oc) T:=by rw [htp];exact (HB.out.below HbW.out (zA _)).below hb2 (by omega)
    have hb2':=(Hb.out.trans (HbW.out.mono (by omega))).trans (hb2.mono (by omega));clear hb2 c0;have hR9:=hu.mono (base':=tp) (by omega);obtain ⟨hs',xh,hval,hokx,hlen,hO,hfn⟩:=hB2.app hR9 htb hz2;obtain ⟨rao,rcap,hsh⟩:=hR9.shape;subst hsh;have hcells:(#[.slice rao x.length rcap]:Array Value)=(eS.cells xh).toArray:=by rw [show eS.cells xh=[xh.val] from rfl,hval]
    have HO:=hid hO;have Hfn:=hid hfn;have Hlen:=hid hlen;have Hcells:=hid hcells;have hl0:=HO.out.lt;have Hl0:=hid hl0;have Hb2:=hid hb2';have hszr:w.heap.size<=w2.heap.size:=hb2'.size;clear hR9 hu hB2 hval hlen hO hfn hcells hl0 hb2';go_wp2_with (first | (at_builtin;refine yAB (E:=eS) rfl _ _ 24 rfl Tryz.underlying24 hi hz0 hz1 hz2c rfl (by decide) rfl rfl (HO.out.alloc _) (yAH (E:=eS) (x:=xh) hokx Hcells.out) ?b1 ?b2 ?b3 ?_))
    case b1=>rw [Hlen.out];have:=Hxl.out;unfold maxLen;simp;omega
    case b2=>rw [Hlen.out];have:=Hxl.out;simp;omega
    case b3=>simp;omega
    intro v' w6 hO6 hg6;have hg6':=hg6.alloc;have HB6:=hid (Hfn.out w6 v' hO6 hg6');have Hb6:=hid (Hb2.out.grown hg6'.1 hszr (fun q hq=>(Hl0.out q hq).1));clear hO6 hg6 hg6';go_wp2;go_roundw
    case rel=>exact ⟨k+1,by omega,by go_num,by rw [Htk.out];exact HB6,Hb6⟩
    case measure=>simp [intOf];omega
  . obtain rfl:k=n:=by omega
    have hM:=HB.out.toM (zA _);rw [zH (by have:=Hn.out;omega)] at hM;have HM:=hid hM;clear hM;go_wp2;go_ret;exact ⟨⟨_,rfl,HM.out⟩,Hb.out⟩
def pickD (d:List (List Int)) (Z:List Int):List (List Int):=Z.map (fun i=>d.getD i.toNat [])
theorem sortedBy_c {d:List (List Int)} {v:Value} {w:World} {A:Nat} {f t:Int} (hd:RdInt64SS A w v d) (hC:ColsOk d f t) (hl40:d.length<=40) (hr:RowsOk d) :
 Calls Tryz.prog 32 #[v,.agg #[.int .i64 f,.int .i64 t]] w fun e w'=>(∃ r Z,e=.returned r/\Z.Perm (rangeN d.length)/\Z.Pairwise (ltK d f t)/\OwnCardS w.heap.size w' r (pickD d Z))/\Below w.heap.size w w':=by
 obtain ⟨i0,hi,hz0,hz1,hz2c⟩:=info_parts Tryz.infoCard;obtain ⟨W,hW⟩:∃ W,W=(w.alloc (.cells #[.int .i64 f,.int .i64 t] 27)).alloc (.cells #[] 69):=⟨_,rfl⟩;have z1:(w.alloc (.cells #[.int .i64 f,.int .i64 t] 27)).heap.size=w.heap.size+1:=by simp
 have hP:Box W w.heap.size [.int .i64 f,.int .i64 t]:=by rw [hW];exact (Box.new w [.int .i64 f,.int .i64 t] _).alloc _
 have hb0:Below w.heap.size w W:=by rw [hW];exact ((zB _ _).alloc (zA _) _).alloc (by simp) _
 have hWz:W.heap.size=w.heap.size+2:=by rw [hW];simp
 have hB0:BldG eI 2 69 w.heap.size w.heap.size W.heap.size W (.slice (some ⟨w.heap.size+1,0,none⟩) 0 0) ([]:List (List Int)):=by
  have h:Own eS 69 w.heap.size W (.slice (some ⟨w.heap.size+1,0,none⟩) 0 0) []:=by
   have e:=Own.lit (E:=eS) (e:=69) (base:=w.heap.size) (w:=w.alloc (.cells #[.int .i64 f,.int .i64 t] 27)) (xs:=[]) (cs:=#[]) (n:=0) (by omega) rfl rfl (by decide) (fun x hx=>by cases hx);rw [z1,<- hW] at e;exact e
  exact BldG.empty (B:=w.heap.size+1) rfl h (by omega)
 have Hd0:=hid (RdInt64SS.onn hd.tight hb0);have HB0:=hid hB0;have Hb0:=hid hb0;have HW:=hid hW;have HWz:=hid hWz;have HC:=hid hC;have HRw:=hid hr.2;have c0:=hP.cell 0 _ rfl;have c1:=hP.cell 1 _ rfl;obtain ⟨vo,vc,rfl,ho⟩:=hd.tight.open;have Ho:=hid ho;obtain ⟨n,hn⟩:∃ n,n=d.length:=⟨_,rfl⟩;rw [<- hn] at hl40 Hd0 |-;have Hn:=hid hn;clear hd ho hB0 hb0 hP hW hWz hC hr z1 hn;go_enter Tryz.func32,Tryz.ntmps32;go_upto_region 2 with fail;rw [<- HW.out];go_wp2_with fail;refine (orderBy_c Hd0.out HC.out (by have:=Hn.out;omega)).mono ?_;rintro e w1 ⟨⟨r,Z,rfl,hZ,hp,hw⟩,hb1⟩;rw [<- Hn.out] at hp;have hzl:Z.length=n:=by rw [hp.length_eq,yBK]
 have hZm:∀ (j:Nat) (z:Int),Z[j]?=some z->∃ m:Nat,m<n/\z=(m:Int):=fun j z hz=>yBJ n z (hp.mem_iff.1 (zC hz));obtain ⟨zo,zc,hzo,hzop⟩:=RdI.open hZ.rds;rw [hzl] at hzo;subst hzo;have HB1:Hid (BldG eI 2 69 w.heap.size w.heap.size w1.heap.size w1 (.slice (some ⟨w.heap.size+1,0,none⟩) 0 0) (pickD d (Z.take 0))):=hid ((HB0.out.below hb1 (zA _)).mono hb1.size);have Hb1:Hid (Below w.heap.size w w1):=hid (Hb0.out.trans (hb1.mono Hb0.out.size));have Hpw:=hid (show Z.Perm (rangeN n)/\Z.Pairwise (ltK d f t) from ⟨hp,hw⟩);have HZo:=hid hzop;have HZm:=hid hZm;have HZlt:Hid (∀ q,(Value.slice zo n zc).ownBlock=some q->w.heap.size+2<=q):=hid (fun q hq=>by have h:=(hZ.lt q hq).1;have:=HWz.out;omega);have Hzl:=hid hzl;clear hZ hp hw hb1 hzop hZm hzl HB0 c0 c1;go_wp2;go_loopw [5,13] (fun ov iv wr=>∃ k:Nat,k<=n/\iv=.int .i64 k/\Hid (BldG eI 2 69 w.heap.size w.heap.size wr.heap.size wr ov (pickD d (Z.take k)))/\Hid (Below w.heap.size w wr)/\Hid (Within (w.heap.size+1) (w.heap.size+2) w1 wr)/\Hid (∀ q,ov.ownBlock=some q->q=w.heap.size+1\/w1.heap.size<=q)) (fun _ i _=>n - (intOf i).toNat)
 case atStart=>exact ⟨0,zK _,rfl,HB1,Hb1,hid (Within.refl _ _ _),hid (fun q hq=>by have h9:w.heap.size+1=q:=zD hq;omega)⟩
 case round =>
  obtain ⟨k,hk,rfl,HB,Hb,Hc,Hq⟩:=hrel;clear HB1;by_cases hkn:k<n
  . obtain ⟨zb,zoff,rfl,zlt,zc1⟩:=HZo.out (by have:=Hzl.out;omega)
    obtain ⟨z,hz,hzc,-⟩:=zc1 k (by have:=Hzl.out;omega);obtain ⟨m,hm,hze⟩:=HZm.out k z hz;subst hze;have d0:=(within_cell Hc.out (p:=⟨zb,zoff+k,none⟩) zlt.2 (by have:=HZlt.out zb rfl;show ¬ (_<=zb/\zb<_);omega)).trans hzc;obtain ⟨b,off,rfl,hlt,hc⟩:=Ho.out (by have:=Hn.out;omega);obtain ⟨x,ro,rc,hx,hcell,hrd⟩:=hc m (by have:=Hn.out;omega);have hxl:=HRw.out x (zC hx);have d1:=(Hb.out.cell (p:=⟨b,off+m,none⟩) hlt.2).trans hcell;have HrW:=hid (Rds.onn hrd Hb.out);have Htk:Hid (pickD d (Z.take (k+1))=pickD d (Z.take k)++[x]):=hid (by unfold pickD;rw [yAD hz,List.map_append];simp [List.getD_eq_getElem?_getD,hx]);have Hxl:Hid ((pickD d (Z.take k)).length<=100):=hid (by unfold pickD;rw [List.length_map,zI];omega);obtain ⟨oo,oc,hov⟩:=HB.out.shape;subst hov;have hmI:(m:Int)<(n:Int):=by omega
    clear hc hcell hrd hx hzc zc1 hz;go_wp2_with fail;with_reducible refine (newCard_c HrW.out (by omega)).mono ?_
    rintro e w2 ⟨⟨u,rfl,hu⟩,hb2⟩;obtain ⟨tp,htp⟩:∃ tp,tp=wr.heap.size:=⟨_,rfl⟩;have htb:w.heap.size<=tp:=by have:=Hb.out.size;omega
    have hz2:tp<=w2.heap.size:=by have:=hb2.size;omega
    have hB2:BldG eI 2 69 w.heap.size w.heap.size tp w2 (.slice oo (pickD d (Z.take k)).length oc) (pickD d (Z.take k)):=by rw [htp];exact HB.out.below hb2 (zA _)
    have hb2':=Hb.out.trans (hb2.mono (by omega));have Hc2:=hid (within_same Hc.out hb2);clear hb2 d0 d1;have hR9:=hu.mono (base':=tp) (by omega);obtain ⟨hs',xh,hval,hokx,hlen,hO,hfn⟩:=hB2.app hR9 htb hz2;obtain ⟨rao,rcap,hsh⟩:=hR9.shape;subst hsh;have hcells:(#[.slice rao x.length rcap]:Array Value)=(eS.cells xh).toArray:=by rw [show eS.cells xh=[xh.val] from rfl,hval]
    have HO:=hid hO;have Hfn:=hid hfn;have Hlen:=hid hlen;have Hcells:=hid hcells;have hl0:=HO.out.lt;have Hl0:=hid hl0;have Hb2:=hid hb2';have hszr:w.heap.size<=w2.heap.size:=hb2'.size;clear hR9 hu hB2 hval hlen hO hfn hcells hl0 hb2';go_wp2_with (first | (at_builtin;refine yAB (E:=eS) rfl _ _ 24 rfl Tryz.underlying24 hi hz0 hz1 hz2c rfl (by decide) rfl rfl (HO.out.alloc _) (yAH (E:=eS) (x:=xh) hokx Hcells.out) ?b1 ?b2 ?b3 ?_))
    case b1=>rw [Hlen.out];have:=Hxl.out;unfold maxLen;simp;omega
    case b2=>rw [Hlen.out];have:=Hxl.out;simp;omega
    case b3=>simp;omega
    intro v' w6 hO6 hg6;have hg6':=hg6.alloc;have HB6:=hid (Hfn.out w6 v' hO6 hg6');have Hb6:=hid (Hb2.out.grown hg6'.1 hszr (fun q hq=>(Hl0.out q hq).1));have Hc6:=hid (within_grown Hc2.out hg6'.1 (fun q hq=>by have:=Hq.out q hq;omega));have Hq6:=hid (own_or Hq.out Hc2.out.size hg6'.2);clear hO6 hg6 hg6';go_wp2;go_roundw
    case rel=>exact ⟨k+1,by omega,by go_num,by rw [Htk.out];exact HB6,Hb6,Hc6,Hq6⟩
    case measure=>simp [intOf];omega
  . obtain rfl:k=n:=by omega
    have hM:=HB.out.toM (zA _);rw [zH (by have:=Hzl.out;omega)] at hM;have HM:=hid hM;clear hM;go_wp2;go_ret;exact ⟨⟨_,Z,rfl,Hpw.out.1,Hpw.out.2,HM.out⟩,Hb.out⟩
def notF (f t:Int) (c:List Int):Bool:=!okTx (partC c f t)
def hasD (d:List (List Int)) (f t:Int):Bool:=!d.any (notF f t)
def colsD (d:List (List Int)):Int:=if d=[] then 20 else (d.headD []).length
def sortC (d:List (List Int)) (f t:Int):Int:=if deckB d=false then 1 else if ¬ fieldP f t (colsD d) then 2 else if hasD d f t=false then 8 else 0
theorem colsD_bd {d:List (List Int)} (h:deckB d=true):0<=colsD d/\colsD d<=20:=by
 unfold colsD;split
 . omega
 . cases d with
   | nil=>exact absurd rfl ‹_›
   | cons c d =>
    have:=(card_len ((yAE h).2 c (List.mem_cons_self ..)).1);show 0<=((c.length:Nat):Int)/\((c.length:Nat):Int)<=20
    omega
theorem yAR {d:List (List Int)} {f t:Int} (h:deckB d=true) (hf:fieldP f t (colsD d)):ColsOk d f t:=by
 refine ⟨⟨hf.1,hf.2.1⟩,fun c hc=>?_⟩;have h1:=((yAE h).2 c hc).2;have h2:=hf.2.2;unfold colsD at h2;rw [if_neg (fun e=>by rw [e] at hc;cases hc)] at h2;omega
theorem yAV {d:List (List Int)} (h:deckB d=true):RowsOk d:=by
 refine ⟨by have:=(yAE h).1;omega,fun c hc=>?_⟩;have:=card_len ((yAE h).2 c hc).1;omega
theorem OwnTM.low {e:TypeId} {base base' tp:Nat} {w:World} {v:Value} {xss:List (List Int)} (h:OwnTM e base tp w v xss) (hb:base'<=base):OwnTM e base' tp w v xss:=by
 obtain ⟨hs,h1,h2,h3,h4⟩:=h;exact ⟨hs,⟨h1.1.mono hb,h1.2⟩,h2,fun i x xs e1 e2=>⟨(h3 i x xs e1 e2).1.mono hb,(h3 i x xs e1 e2).2⟩,h4⟩
theorem clo_HF {y:List Int} {u:Value} {W:World} {q:Nat} {f t:Int} (hQ:Box W q [.int .i64 f,.int .i64 t]) (hy:RdI W.heap.size W u y) (h0:0<=f/\f<t) (ht:t<=(y.length:Int)) :
 Calls Tryz.prog 112 #[.agg #[u],.pointer (some ⟨q,0,none⟩)] W fun e w'=>e=.returned (.bool (notF f t y))/\Below W.heap.size W w':=by
 obtain ⟨ao,cap,rfl,hin⟩:=RdI.open hy;obtain ⟨b,off,rfl,_⟩:=hin (by omega);obtain ⟨T,hT⟩:∃ T,T=W.alloc (.cells #[.slice (some ⟨b,off,none⟩) y.length cap] 69):=⟨_,rfl⟩;have hbT:Below W.heap.size W T:=by rw [hT];exact (zB _ _).alloc (zA _) _
 have hBT:Box T W.heap.size [.slice (some ⟨b,off,none⟩) y.length cap]:=by rw [hT];exact Box.new W [.slice (some ⟨b,off,none⟩) y.length cap] _
 have c0:=hBT.cell 0 _ rfl;have c1:=(hQ.on hbT).cell 0 _ rfl;have c2:=(hQ.on hbT).cell 1 _ rfl;have hcon:=hasField_c (w:=T) f t h0.1 h0.2 ht (Rds.onn hy hbT);have Hcon:=hid hcon;have HT:=hid hT;have HbT:=hid hbT;clear hcon hT hbT hBT hQ hy hin h0;generalize y.length=n at *
 go_enter Tryz.func112,Tryz.ntmps112;go_upto_region 1 with fail;rw [<- HT.out];go_wp2_with fail;with_reducible refine Hcon.out.mono ?_
 rintro e w1 ⟨rfl,hb1⟩;have Hb1:=hid (HbT.out.trans (hb1.mono HbT.out.size));clear hb1;go_wp2;go_ret;exact ⟨rfl,Hb1.out⟩
theorem indexHF {xss:List (List Int)} {v:Value} {w:World} {A:Nat} {p:List Int->Bool} {c:Nat} (ha:RdInt64SS A w v xss)
 (hclo:∀ (W:World) (u:Value) (y:List Int),y∈xss->Below w.heap.size w W->RdI W.heap.size W u y->Calls Tryz.prog 112 #[.agg #[u],.pointer (some ⟨c,0,none⟩)] W fun e w'=>e=.returned (.bool (p y))/\Below W.heap.size W w') :
 Calls Tryz.prog 151 #[v,.func (.func 112) #[] #[.pointer (some ⟨c,0,none⟩)]] w fun e w' =>
  (∃ r:Int,e=.returned (.int .i64 r)/\-1<=r/\((0<=r ↔ xss.any p=true)/\(0<=r->r.toNat<xss.length/\(xss.take r.toNat).any p=false/\∀ x,xss[r.toNat]?=some x->p x=true)))/\Below w.heap.size w w':=by
 have hle:=ha.le;obtain ⟨ao,cap,rfl,ho⟩:=ha.open;obtain ⟨n,hn⟩:∃ n,n=xss.length:=⟨_,rfl⟩;rw [<- hn];have Hn:=hid hn;have Ho:=hid ho;have Hclo:=hid hclo;have hle':n<=9223372036854775807:=by omega
 clear ho hn hle ha hclo;go_enter Tryz.func151,Tryz.ntmps151;go_wp2;go_loopw [8] (fun i wr=>∃ k:Nat,k<=n/\i=.int .i64 k/\Hid ((xss.take k).any p=false)/\Below w.heap.size w wr) (fun i _=>n - (intOf i).toNat)
 case atStart=>exact ⟨0,zK _,rfl,rfl,zB _ _⟩
 case round =>
  obtain ⟨k,hk,rfl,hp,hbb⟩:=hrel;by_cases hkn:k<n
  . obtain ⟨b,off,rfl,hlt,hc⟩:=Ho.out (by have:=Hn.out;omega)
    obtain ⟨y,ro,rc,hy,hcell,hrd⟩:=hc k (by have:=Hn.out;omega);have Hy:=hid hy;replace hcell:=(hbb.cell (p:=⟨b,off+k,none⟩) hlt.2).trans hcell;have hcon:=Hclo.out wr _ _ (zC hy) hbb (Rds.onn hrd hbb);have Hcon:=hid hcon;have Hbb:=hid hbb;clear hy hc hrd hcon hbb;go_wp2_with fail;with_reducible refine Hcon.out.mono ?_
    cases hq:p y with
    | true =>
     have Hq:=hid hq;clear hq;rintro e w1 ⟨rfl,hb1⟩;have Hb2:=hid (Hbb.out.trans (hb1.mono Hbb.out.size));clear hb1;go_wp2;go_ret;refine ⟨⟨_,rfl,by omega,?_,fun _=>?_⟩,Hb2.out⟩
     . have:xss.any p=true:=List.any_eq_true.2 ⟨y,zC Hy.out,Hq.out⟩
       simp [this]
     . rw [zR]
       exact ⟨hkn,hp.out,fun x hx=>by rw [Hy.out] at hx;cases hx;exact Hq.out⟩
    | false =>
     have Hq:=hid hq;clear hq;rintro e w1 ⟨rfl,hb1⟩;have Hb2:=hid (Hbb.out.trans (hb1.mono Hbb.out.size));clear hb1 hcell Hcon;go_wp2;go_roundw
     case rel=>exact ⟨k+1,by omega,by go_num,by show _=false;rw [yAD Hy.out,List.any_append,hp.out];simp [Hq.out],Hb2.out⟩
     case measure=>simp [intOf];omega
  . go_wp2
    go_ret;refine ⟨⟨_,rfl,by omega,?_,fun h=>by omega⟩,hbb⟩;have hq:=hp.out;rw [zH (by have:=Hn.out;omega)] at hq;simp [hq]
theorem containsHF {xss:List (List Int)} {v:Value} {w:World} {A:Nat} {p:List Int->Bool} {c:Nat} (ha:RdInt64SS A w v xss)
 (hclo:∀ (W:World) (u:Value) (y:List Int),y∈xss->Below w.heap.size w W->RdI W.heap.size W u y->Calls Tryz.prog 112 #[.agg #[u],.pointer (some ⟨c,0,none⟩)] W fun e w'=>e=.returned (.bool (p y))/\Below W.heap.size W w') :
 Calls Tryz.prog 111 #[v,.func (.func 112) #[] #[.pointer (some ⟨c,0,none⟩)]] w fun e w' =>
  e=.returned (.bool (xss.any p))/\Below w.heap.size w w':=by
 have Ha:=hid ha;have Hclo:=hid hclo;obtain ⟨ao,cap,rfl⟩:=ha.shape;clear ha hclo;go_enter Tryz.func111,Tryz.ntmps111;go_wp2_with fail;with_reducible refine (indexHF Ha.out Hclo.out).mono ?_
 rintro e w' ⟨⟨r,rfl,hr,hi,-⟩,hb⟩;have Hi:=hid hi;clear hi;go_wp2;go_ret;refine ⟨yAC ?_,hb⟩;rw [Bool.eq_iff_iff,decide_eq_true_iff];exact Hi.out
theorem haveField_c {d:List (List Int)} {v:Value} {w:World} {A:Nat} {f t:Int} (hd:RdInt64SS A w v d) (hC:ColsOk d f t) :
 Calls Tryz.prog 67 #[v,.agg #[.int .i64 f,.int .i64 t]] w fun e w'=>e=.returned (.bool (hasD d f t))/\Below w.heap.size w w':=by
 obtain ⟨vo,vc,rfl⟩:=hd.shape;obtain ⟨T,hT⟩:∃ T,T=w.alloc (.cells #[.int .i64 f,.int .i64 t] 27):=⟨_,rfl⟩;have hbT:Below w.heap.size w T:=by rw [hT];exact (zB _ _).alloc (zA _) _
 have hBT:Box T w.heap.size [.int .i64 f,.int .i64 t]:=by rw [hT];exact Box.new w [.int .i64 f,.int .i64 t] _
 have hcon:=containsHF (w:=T) (p:=notF f t) (c:=w.heap.size) (RdInt64SS.onn hd hbT) (fun V u y hm hV hu=>clo_HF (hBT.on hV) hu hC.1 (hC.2 y hm));have Hcon:=hid hcon;have HT:=hid hT;have HbT:=hid hbT;clear hcon hT hbT hBT hd hC;go_enter Tryz.func67,Tryz.ntmps67;go_upto_region 1 with fail;rw [<- HT.out];go_wp2_with fail;with_reducible refine Hcon.out.mono ?_
 rintro e w1 ⟨rfl,hb1⟩;have Hb1:=hid (HbT.out.trans (hb1.mono HbT.out.size));clear hb1;go_wp2;go_ret;exact ⟨rfl,Hb1.out⟩
theorem yBE {d:List (List Int)} {v:Value} {w:World} {A:Nat} (hd:RdInt64SS A w v d) (hD:deckB d=true) :
 Calls Tryz.prog 39 #[v] w fun e w'=>e=.returned (.int .i64 (colsD d))/\Below w.heap.size w w':=by
 obtain ⟨ao,cap,rfl,ho⟩:=hd.open;obtain ⟨n,hn⟩:∃ n,n=d.length:=⟨_,rfl⟩;rw [<- hn];by_cases h0:n=0
 . have e1:colsD d=20:=by unfold colsD;rw [if_pos (List.eq_nil_of_length_eq_zero (by omega))]
   rw [e1];subst h0;clear hd hD ho e1 hn;go_enter Tryz.func39,Tryz.ntmps39;go_wp2;go_ret;exact ⟨rfl,zB _ _⟩
 . obtain ⟨b,off,rfl,hlt,hc⟩:=ho (by omega)
   obtain ⟨x,ro,rc,hx,hcell,hrd⟩:=hc 0 (by omega);have e1:colsD d=(x.length:Int):=by unfold colsD;rw [if_neg (fun e=>by rw [e] at hx;cases hx),head_of hx]
   have hl:=card_len ((yAE hD).2 x (zC hx)).1;rw [e1];have h1:¬ (n:Int)=0:=by omega
   have h2:0<n:=by omega
   have hcon:=columns_c (w:=w) (ao:=ro) (n:=x.length) (cap:=rc) (by omega);have Hcon:=hid hcon;clear hd hD ho e1 hn hc hx hrd hcon hl;generalize x.length=m at *
   rw [Nat.add_zero] at hcell;go_enter Tryz.func39,Tryz.ntmps39;go_wp2_with fail;with_reducible refine Hcon.out.mono ?_
   rintro e w1 ⟨rfl,hb1⟩;go_wp2;go_ret;exact ⟨rfl,hb1⟩
theorem sortCode_c {d:List (List Int)} {v:Value} {w:World} {A:Nat} {f t:Int} (hd:RdInt64SS A w v d) :
 Calls Tryz.prog 31 #[v,.agg #[.int .i64 f,.int .i64 t]] w fun e w'=>e=.returned (.int .i64 (sortC d f t))/\Below w.heap.size w w':=by
 obtain ⟨vo,vc,rfl⟩:=hd.shape;obtain ⟨T,hT⟩:∃ T,T=w.alloc (.cells #[.int .i64 f,.int .i64 t] 27):=⟨_,rfl⟩;have hbT:Below w.heap.size w T:=by rw [hT];exact (zB _ _).alloc (zA _) _
 have hBT:Box T w.heap.size [.int .i64 f,.int .i64 t]:=by rw [hT];exact Box.new w [.int .i64 f,.int .i64 t] _
 have hdT:=RdInt64SS.onn hd hbT;have HT:=hid hT;have HbT:=hid hbT;have HBT:=hid hBT;have HdT:=hid hdT;obtain ⟨R,hR⟩:∃ R,R=sortC d f t:=⟨_,rfl⟩;rw [<- hR];have HR:=hid hR;clear hT hbT hBT hd hdT hR;cases hv:deckB d with
 | false =>
  have hcon:=ValidDeck_c HdT.out;rw [hv] at hcon;have HR1:Hid (R=1):=hid (by rw [HR.out];unfold sortC;rw [if_pos hv]);have Hcon:=hid hcon;clear hcon hv;generalize d.length=n at *
  go_enter Tryz.func31,Tryz.ntmps31;go_upto_region 1 with fail;rw [<- HT.out];go_wp2_with fail;with_reducible refine Hcon.out.mono ?_
  rintro e w1 ⟨rfl,hb1⟩;have Hb1:=hid (HbT.out.trans (hb1.mono HbT.out.size));clear hb1;go_wp2;go_ret;exact ⟨yAJ HR1.out.symm,Hb1.out⟩
 | true =>
  have hcon:=ValidDeck_c HdT.out;rw [hv] at hcon;have Hcon:=hid hcon;have Hv:=hid hv;clear hcon hv;obtain ⟨n,hn⟩:∃ n,n=d.length:=⟨_,rfl⟩;rw [<- hn] at HdT Hcon |-;clear hn;go_enter Tryz.func31,Tryz.ntmps31;go_upto_region 1 with fail;rw [<- HT.out];go_wp2_with fail;with_reducible refine Hcon.out.mono ?_
  rintro e w1 ⟨rfl,hb1⟩;have hQ1:=HBT.out.on hb1;have hd1:=RdInt64SS.onn HdT.out hb1;have Hb1:=hid (HbT.out.trans (hb1.mono HbT.out.size));have f1:=cell_regrown (hQ1.cell 0 _ rfl);have f2:=cell_regrown (hQ1.cell 1 _ rfl);have hcc:=fun x os=>yBE (w:=grow (redrawn w1 x) os) (RdInt64SS.below hd1 (below_regrown w1 x os) (zA _)) Hv.out;obtain ⟨C,hC⟩:∃ C,C=colsD d:=⟨_,rfl⟩;have hCb:=colsD_bd Hv.out;rw [<- hC] at hCb;have HC:=hid hC;rw [<- hC] at hcc;have hcf:=fun w=>yBN f t C w (by omega);have HQ1:=hid hQ1;have Hd1:=hid hd1;clear hb1 hQ1 hd1 hC hCb;by_cases hf:fieldP f t C
  . rw [decide_eq_true hf] at hcf
    have Hcc:=hid hcc;have Hcf:=hid hcf;have Hf:Hid (ColsOk d f t):=hid (yAR Hv.out (by rw [<- HC.out];exact hf));have hR3:Hid (R=if hasD d f t=false then 8 else 0):=hid (by rw [HR.out];unfold sortC;rw [if_neg (by rw [Hv.out];decide),if_neg (by rw [<- HC.out];exact fun h=>h hf)]);clear hcc hcf hf HC;go_wp2;refine wp_region_quiet_below (by kernel_rfl) (by kernel_rfl) ?_;repeat ((with_reducible refine wpQuiet_step (fun K hK=>?_));go_simp;first | ((with_reducible refine hK _ ?_);clear hK K) | (apply Exists.intro;refine ⟨fun _=>?_,hK _ ?_⟩;((first | (go_at_call 39;with_reducible exact yAG (Hcc.out _ _)) | (go_at_call 29;with_reducible exact yAG (Hcf.out _))));clear hK K))
    refine wpQuiet_nil ?_;intro _ hw';obtain ⟨⟨dq,osq⟩,hw''⟩:=hw';subst hw'';have hbq:=below_regrown w1 dq osq;generalize grow (redrawn w1 dq) osq=wq at hbq |-;have hd2:=RdInt64SS.onn Hd1.out hbq;have hQ2:=HQ1.out.on hbq;have g1:=hQ2.cell 0 _ rfl;have g2:=hQ2.cell 1 _ rfl;have Hb2:=hid (Hb1.out.trans (hbq.mono Hb1.out.size));clear hbq f1 f2;have hch:=haveField_c hd2 Hf.out;obtain ⟨p,hp⟩:∃ p,p=hasD d f t:=⟨_,rfl⟩;have hR4:=hR3.out;rw [<- hp] at hch hR4;have Hch:=hid hch;clear hd2 hQ2 hch;cases p with
    | false =>
     have HR4:=hid hR4;clear hR4 hp;go_wp2_with fail;with_reducible refine Hch.out.mono ?_
     rintro e w2 ⟨rfl,hb2⟩;have Hb3:=hid (Hb2.out.trans (hb2.mono Hb2.out.size));clear hb2;go_wp2;go_ret;exact ⟨yAJ (by rw [HR4.out];rfl),Hb3.out⟩
    | true =>
     have HR4:=hid hR4;clear hR4 hp;go_wp2_with fail;with_reducible refine Hch.out.mono ?_
     rintro e w2 ⟨rfl,hb2⟩;have Hb3:=hid (Hb2.out.trans (hb2.mono Hb2.out.size));clear hb2;go_wp2;go_ret;exact ⟨yAJ (by rw [HR4.out];rfl),Hb3.out⟩
  . rw [decide_eq_false hf] at hcf
    have Hcc:=hid hcc;have Hcf:=hid hcf;have hR3:Hid (R=2):=hid (by rw [HR.out];unfold sortC;rw [if_neg (by rw [Hv.out];decide),if_pos (by rw [<- HC.out];exact hf)]);clear hcc hcf hf HC;go_wp2;refine wp_region_quiet_below (by kernel_rfl) (by kernel_rfl) ?_;repeat ((with_reducible refine wpQuiet_step (fun K hK=>?_));go_simp;first | ((with_reducible refine hK _ ?_);clear hK K) | (apply Exists.intro;refine ⟨fun _=>?_,hK _ ?_⟩;((first | (go_at_call 39;with_reducible exact yAG (Hcc.out _ _)) | (go_at_call 29;with_reducible exact yAG (Hcf.out _))));clear hK K))
    refine wpQuiet_nil ?_;intro _ hw';obtain ⟨⟨dq,osq⟩,hw''⟩:=hw';subst hw'';have hbq:=below_regrown w1 dq osq;generalize grow (redrawn w1 dq) osq=wq at hbq |-;have Hb2:=hid (Hb1.out.trans (hbq.mono Hb1.out.size));clear hbq f1 f2;go_wp2;go_ret;exact ⟨yAJ hR3.out.symm,Hb2.out⟩
def IsOrd (d:List (List Int)) (f t:Int) (Z:List Int):Prop:=Z.Perm (rangeN d.length)/\Z.Pairwise (ltK d f t)
theorem yBI {d:List (List Int)} {f t:Int} (h:sortC d f t=0):deckB d=true/\fieldP f t (colsD d)/\hasD d f t=true:=by
 unfold sortC at h;cases h1:deckB d with
 | false=>rw [if_pos h1] at h;cases h
 | true =>
  rw [if_neg (by rw [h1];decide)] at h;by_cases h2:fieldP f t (colsD d)
  . rw [if_neg (fun e=>e h2)] at h
    cases h3:hasD d f t with
    | false=>rw [if_pos h3] at h;cases h
    | true=>exact ⟨rfl,h2,rfl⟩
  . rw [if_pos h2] at h;cases h
theorem SortedBy_c {d:List (List Int)} {v:Value} {w:World} {A:Nat} {f t:Int} (hd:RdInt64SS A w v d) :
 Calls Tryz.prog 178 #[v,.agg #[.int .i64 f,.int .i64 t]] w fun e w'=>(∃ r,e=.returned (.tuple #[r,.int .i64 (sortC d f t)])/\(sortC d f t=0->∃ Z,IsOrd d f t Z/\OwnCardS w.heap.size w' r (pickD d Z)))/\Below w.heap.size w w':=by
 obtain ⟨vo,vc,rfl⟩:=hd.shape;obtain ⟨T,hT⟩:∃ T,T=w.alloc (.cells #[.int .i64 f,.int .i64 t] 27):=⟨_,rfl⟩;have hbT:Below w.heap.size w T:=by rw [hT];exact (zB _ _).alloc (zA _) _
 have hBT:Box T w.heap.size [.int .i64 f,.int .i64 t]:=by rw [hT];exact Box.new w [.int .i64 f,.int .i64 t] _
 have hdT:=RdInt64SS.onn hd hbT;have HT:=hid hT;have HbT:=hid hbT;have HBT:=hid hBT;have HdT:=hid hdT;have f0:=hBT.cell 0 _ rfl;have f1:=hBT.cell 1 _ rfl;have hcon:=sortCode_c (f:=f) (t:=t) hdT;obtain ⟨R,hR⟩:∃ R,sortC d f t=R:=⟨_,rfl⟩;rw [hR] at hcon |-;have HR:=hid hR;have Hcon:=hid hcon;have hz:RdInt64SS T.heap.size T (.slice vo d.length vc) d:=hdT;clear hT hbT hBT hd hdT hR hcon hz;obtain ⟨n,hn⟩:∃ n,n=d.length:=⟨_,rfl⟩;rw [<- hn] at HdT Hcon |-;clear hn;go_enter Tryz.func178,Tryz.ntmps178;go_upto_region 1 with fail;rw [<- HT.out];go_wp2_with fail;with_reducible refine Hcon.out.mono ?_
 rintro e w1 ⟨rfl,hb1⟩;have hQ1:=HBT.out.on hb1;have hd1:=RdInt64SS.onn HdT.out hb1;have g1:=hQ1.cell 0 _ rfl;have g2:=hQ1.cell 1 _ rfl;have Hd1:=hid hd1;have Hb1:=hid (HbT.out.trans (hb1.mono HbT.out.size));clear hb1 hQ1 hd1 f0 f1;by_cases h0:R=0
 . subst h0
   have hz:=yBI HR.out;have hcs:=sortedBy_c Hd1.out (yAR hz.1 hz.2.1) (yAE hz.1).1 (yAV hz.1);have Hcs:=hid hcs;clear hz hcs;go_wp2_with fail;with_reducible refine Hcs.out.mono ?_
   rintro e w2 ⟨⟨r,Z,rfl,hp,hw,hO⟩,hb2⟩;have HZ:Hid (∃ Z,IsOrd d f t Z/\OwnCardS w.heap.size w2 r (pickD d Z)):=hid ⟨Z,⟨hp,hw⟩,OwnTM.low hO Hb1.out.size⟩;have Hb2:=hid (Hb1.out.trans (hb2.mono Hb1.out.size));clear hp hw hO hb2;go_wp2;go_ret2;exact ⟨⟨_,rfl,HZ.out⟩,Hb2.out⟩
 . go_wp2
   go_ret2;exact ⟨⟨_,rfl,fun h=>absurd h h0⟩,Hb1.out⟩
def cmpK (d:List (List Int)) (f t:Int) (i j:Nat):Int:=cmpN (rks (keyC d f t i)) (rks (keyC d f t j))
def stpP (d:List (List Int)) (f t:Int) (i:Int):Bool:=decide (0<i/\cmpK d f t i.toNat (i.toNat - 1)<0)
def grpP (d:List (List Int)) (f t:Int) (i:Int):Bool:=decide (i=0\/cmpK d f t (i.toNat - 1) i.toNat ≠ 0)
theorem selI_rng (p:Int->Bool):∀ (k:Nat) (x:Int),x∈selI p k->∃ m:Nat,m<k/\x=(m:Int)/\p (m:Int)=true
 | 0,x,h=>by cases h
 | k+1,x,h=>by
  rw [yAX] at h;rcases List.mem_append.1 h with h | h
  . obtain ⟨m,h1,h2⟩:=selI_rng p k x h
    exact ⟨m,by omega,h2⟩
  . split at h
    . rename_i hp
      exact ⟨k,by omega,by simpa using h,hp⟩
    . cases h
theorem stp_zero (d:List (List Int)) (f t:Int):stpP d f t 0=false:=by unfold stpP;exact decide_eq_false (fun h=>by omega)
theorem stp_succ (d:List (List Int)) (f t:Int) (k:Nat):stpP d f t ((k+1:Nat):Int)=decide (cmpK d f t (k+1) k<0):=by
 unfold stpP;rw [zR];exact decide_eq_decide.2 ⟨fun h=>h.2,fun h=>⟨by omega,h⟩⟩
theorem grp_zero (d:List (List Int)) (f t:Int):grpP d f t ((0:Nat):Int)=true:=by unfold grpP;exact decide_eq_true (.inl rfl)
theorem grp_succ (d:List (List Int)) (f t:Int) (k:Nat):grpP d f t ((k+1:Nat):Int)=decide (cmpK d f t k (k+1) ≠ 0):=by
 unfold grpP;rw [zR];exact decide_eq_decide.2 ⟨fun h=>h.elim (fun e=>by omega) id,.inr⟩
def ascB (d:List (List Int)) (f t:Int):Bool:=decide (selI (stpP d f t) d.length=[])
theorem steps_c {d:List (List Int)} {v:Value} {w:World} {A:Nat} {f t:Int} (hd:RdInt64SS A w v d) (hC:ColsOk d f t) (hl:d.length<=1000) :
 Calls Tryz.prog 208 #[v,.agg #[.int .i64 f,.int .i64 t]] w fun e w'=>(∃ r,e=.returned r/\OwnInt64S w.heap.size w' r (selI (stpP d f t) d.length))/\Below w.heap.size w w':=by
 obtain ⟨i0,hi,hz0,hz1,hz2⟩:=info_parts Tryz.infoInt64;obtain ⟨vo,vc,rfl⟩:=hd.shape;obtain ⟨T,hT⟩:∃ T,T=w.alloc (.cells #[.int .i64 f,.int .i64 t] 27):=⟨_,rfl⟩;have hbT:Below w.heap.size w T:=by rw [hT];exact (zB _ _).alloc (zA _) _
 have hBT:Box T w.heap.size [.int .i64 f,.int .i64 t]:=by rw [hT];exact Box.new w [.int .i64 f,.int .i64 t] _
 have hTz:T.heap.size=w.heap.size+1:=by rw [hT];simp
 have hO0:OwnInt64S T.heap.size (T.alloc (.cells #[] 2)) (.slice (some ⟨T.heap.size,0,none⟩) 0 0) (selI (stpP d f t) 1):=by
  rw [yAX,if_neg (by rw [show ((0:Nat):Int)=0 from rfl,stp_zero];decide)];exact Own.lit (E:=eI) (xs:=[]) (cs:=#[]) (zA _) rfl rfl (by decide) (fun x hx=>by cases hx)
 have hB0:Below T.heap.size T (T.alloc (.cells #[] 2)):=(zB _ _).alloc (zA _) _;have Hd:=hid (RdInt64SS.onn hd hbT);have HO0:=hid hO0;have HB0:=hid hB0;have HT:=hid hT;have HbT:=hid hbT;have HBT:=hid hBT;have HC:=hid hC;have HTz:=hid hTz;obtain ⟨n,hn⟩:∃ n,n=d.length:=⟨_,rfl⟩;rw [<- hn] at hl Hd |-;have Hn:=hid hn;clear hd hT hbT hBT hTz hO0 hB0 hC hn;go_enter Tryz.func208,Tryz.ntmps208;go_upto_region 1 with fail;rw [<- HT.out];go_wp2;go_loopw [5,6] (fun ov iv wr=>∃ (k:Nat) (ro:Option Addr) (rc:Nat),(k+1<=n\/k=0)/\iv=.int .i64 ((k:Int)+1)/\ov=.slice ro (selI (stpP d f t) (k+1)).length rc/\Hid (OwnInt64S T.heap.size wr (.slice ro (selI (stpP d f t) (k+1)).length rc) (selI (stpP d f t) (k+1)))/\Hid (Below T.heap.size T wr)) (fun _ i _=>n+1 - (intOf i).toNat)
 case atStart=>exact ⟨0,_,_,.inr rfl,rfl,by rw [yAX,if_neg (by rw [show ((0:Nat):Int)=0 from rfl,stp_zero];decide)];rfl,by rw [show (selI (stpP d f t) (0+1)).length=0 by rw [yAX,if_neg (by rw [show ((0:Nat):Int)=0 from rfl,stp_zero];decide)];rfl];exact HO0,HB0⟩
 case round =>
  obtain ⟨k,ro,rc,hk,rfl,rfl,HO,HB⟩:=hrel;clear HO0 HB0;by_cases hkn:k+1<n
  . have hokk:eI.ok ((k:Int)+1):=by show -9223372036854775808<=(k:Int)+1/\(k:Int)+1<=9223372036854775807;omega
    have Hdr:=hid (RdInt64SS.onn (by have h:=Hd.out;rw [Hn.out] at h;exact h) HB.out);have hQr:=HBT.out.on HB.out;have Hzl:Hid ((selI (stpP d f t) (k+1)).length<=k+1):=hid (yBM _ _);obtain ⟨ao,cap,b,off,b1,o1,c1,e1,e2,hc1,hr1,ht1,hlt1⟩:=card_open Hdr.out (by have:=HC.out.1;omega) HC.out.2 (i:=k+1) (by have:=Hn.out;omega);obtain ⟨ao',cap',b',off',b2,o2,c2,e3,e4,hc2,hr2,ht2,-⟩:=card_open Hdr.out (by have:=HC.out.1;omega) HC.out.2 (i:=k) (by have:=Hn.out;omega);subst e2;rw [e1] at e3;injection e3 with e5 e6 e7;rw [<- e5] at e4;injection e4 with e4;injection e4 with e8 e9;subst e8;subst e9;injection e1 with q1 q2 q3;subst q1;subst q3;clear e5 e6 e7 q2;have f1:=cell_regrown (hQr.cell 0 _ rfl);have f2:=cell_regrown (hQr.cell 1 _ rfl);have f4:=cell_regrown hc1;have f5:=cell_regrown hc2;have hcon:=fun x os=>yBP (w:=grow (redrawn wr x) os) f t HC.out.1.1 HC.out.1.2 ht1 ht2 (Rds.regrown hr1 (zA _) x os) (Rds.regrown hr2 (zA _) x os);obtain ⟨R,hR⟩:∃ R,cmpN (rks (partC (d.getD (k+1) []) f t)) (rks (partC (d.getD k []) f t))=R:=⟨_,rfl⟩;have HRe:Hid (cmpK d f t (k+1) k=R):=hid hR;rw [hR] at hcon;have Hcon:=hid hcon;have hs1:IntKind.i64.wrap ((k:Int)+1 - 1)=(k:Int):=by rw [show (k:Int)+1 - 1=(k:Int) by omega];exact IntWalk.i64_in _ (by omega)
    have hs2:IntKind.i64.wrap (k:Int)=(k:Int):=IntWalk.i64_in _ (by omega);have i0:0<=(k:Int)+1:=by omega
    have i1:(k:Int)+1<(n:Int):=by omega
    have i2:(k:Int)<(n:Int):=by omega
    generalize (d.getD (k+1) []).length=n1 at f4 Hcon;generalize (d.getD k []).length=n2 at f5 Hcon;clear hc1 hc2 hr1 hr2 ht1 ht2 hcon hR hQr;obtain ⟨L,hL⟩:∃ L,L=selI (stpP d f t) (k+1):=⟨_,rfl⟩;rw [<- hL] at HO Hzl |-;have HLs:Hid (selI (stpP d f t) (k+1+1)=L++(if R<0 then [(k:Int)+1] else [])):=hid (by
     rw [yAX,<- hL,stp_succ,HRe.out];by_cases h:R<0
     . rw [if_pos (decide_eq_true h),if_pos h];rfl
     . rw [if_neg (by simpa using h),if_neg h])
    clear hL HRe;by_cases hR0:R<0
    . go_wp2
      refine wp_region_quiet_below (by kernel_rfl) (by kernel_rfl) ?_;repeat ((with_reducible refine wpQuiet_step (fun K hK=>?_));go_simp;first | ((with_reducible refine hK _ ?_);clear hK K) | (apply Exists.intro;refine ⟨fun _=>?_,hK _ ?_⟩;((first | (go_at_call 116;with_reducible exact yAG (Hcon.out _ _))));clear hK K))
      refine wpQuiet_nil ?_;intro _ hw';obtain ⟨⟨dq,osq⟩,hw''⟩:=hw';subst hw'';have hbq:=below_regrown wr dq osq;generalize grow (redrawn wr dq) osq=wq at hbq |-;have HOq:=hid (HO.out.below hbq (zA _));have HBq:=hid (HB.out.trans (hbq.mono HB.out.size));have HS:Hid (L++[(k:Int)+1]=selI (stpP d f t) (k+1+1)):=hid (by rw [HLs.out,if_pos hR0]);clear hbq f1 f2 f4 f5 hs1 hs2;go_wp2_with (first | (at_builtin;refine yAB (E:=eI) rfl _ _ 48 rfl Tryz.underlying48 hi hz0 hz1 hz2 rfl (by decide) rfl rfl (HOq.out.alloc _) (yAH (E:=eI) (x:=(k:Int)+1) hokk rfl) ?b1 ?b2 ?b3 ?_))
      case b1=>have:=Hzl.out;unfold maxLen;simp;omega
      case b2=>have:=Hzl.out;simp;omega
      case b3=>have:=HBq.out.size;simp;omega
      intro v3 w3 hO3 hg3;rw [HS.out] at hO3;obtain ⟨ao3,cap3,hv3⟩:=hO3.shape;subst hv3;have HO3:=hid hO3;have HB3:=hid (HBq.out.grown hg3.alloc.1 HBq.out.size (fun q hq=>(HOq.out.lt q hq).1));clear hO3 hg3;go_wp2;go_roundw
      case rel=>exact ⟨k+1,_,_,by omega,by go_num,rfl,HO3,HB3⟩
      case measure=>simp [intOf];omega
    . go_wp2
      refine wp_region_quiet_below (by kernel_rfl) (by kernel_rfl) ?_;repeat ((with_reducible refine wpQuiet_step (fun K hK=>?_));go_simp;first | ((with_reducible refine hK _ ?_);clear hK K) | (apply Exists.intro;refine ⟨fun _=>?_,hK _ ?_⟩;((first | (go_at_call 116;with_reducible exact yAG (Hcon.out _ _))));clear hK K))
      refine wpQuiet_nil ?_;intro _ hw';obtain ⟨⟨dq,osq⟩,hw''⟩:=hw';subst hw'';have hbq:=below_regrown wr dq osq;generalize grow (redrawn wr dq) osq=wq at hbq |-;have hOq:=HO.out.below hbq (zA _);have HBq:=hid (HB.out.trans (hbq.mono HB.out.size));have hS:L=selI (stpP d f t) (k+1+1):=by rw [HLs.out,if_neg (by omega),List.append_nil]
      have HOq:Hid (OwnInt64S T.heap.size _ (.slice ro L.length rc) (selI (stpP d f t) (k+1+1))):=hid (by rw [<- hS];exact hOq);have HS:=hid hS;clear hbq f1 f2 f4 f5 hOq hS hs1 hs2;go_wp2;go_roundw
      case rel=>exact ⟨k+1,_,_,by omega,by go_num,by rw [HS.out],by rw [<- HS.out];rw [<- HS.out] at HOq;exact HOq,HBq⟩
      case measure=>simp [intOf];omega
  . have hz:(selI (stpP d f t) (k+1))=selI (stpP d f t) n:=by
     rcases hk with h | h
     . rw [show n=k+1 by omega]
     . subst h
       rcases Nat.lt_or_ge 0 n with h2 | h2
       . rw [show n=0+1 by omega]
       . rw [show n=0 by omega,yAX,if_neg (by rw [show ((0:Nat):Int)=0 from rfl,stp_zero];decide)]
         rfl
    have hO:=HO.out;rw [hz] at hO |-;have hO2:=hO.mono (base':=w.heap.size) HbT.out.size;have HO2:=hid hO2;have Hb2:=hid (HbT.out.trans (HB.out.mono HbT.out.size));clear hO hO2 hz HO;have hni:¬ (k:Int)+1<(n:Int):=by omega
    go_wp2;go_ret;exact ⟨⟨_,rfl,HO2.out⟩,Hb2.out⟩
theorem isAscending_c {d:List (List Int)} {v:Value} {w:World} {A:Nat} {f t:Int} (hd:RdInt64SS A w v d) (hC:ColsOk d f t) (hl:d.length<=1000) :
 Calls Tryz.prog 196 #[v,.agg #[.int .i64 f,.int .i64 t]] w fun e w'=>e=.returned (.bool (ascB d f t))/\Below w.heap.size w w':=by
 obtain ⟨vo,vc,rfl⟩:=hd.shape;obtain ⟨T,hT⟩:∃ T,T=w.alloc (.cells #[.int .i64 f,.int .i64 t] 27):=⟨_,rfl⟩;have hbT:Below w.heap.size w T:=by rw [hT];exact (zB _ _).alloc (zA _) _
 have hBT:Box T w.heap.size [.int .i64 f,.int .i64 t]:=by rw [hT];exact Box.new w [.int .i64 f,.int .i64 t] _
 have f0:=hBT.cell 0 _ rfl;have f1:=hBT.cell 1 _ rfl;have hcon:=steps_c (RdInt64SS.onn hd hbT) hC hl;obtain ⟨L,hL⟩:∃ L,L=selI (stpP d f t) d.length:=⟨_,rfl⟩;have hR:ascB d f t=decide (L=[]):=by unfold ascB;rw [<- hL]
 rw [<- hL] at hcon;have hLl:L.length<=d.length:=by rw [hL];exact yBM _ _
 have HLl:Hid (L.length<=1000):=hid (by omega);rw [hR];have Hcon:=hid hcon;have HT:=hid hT;have HbT:=hid hbT;clear hT hbT hBT hd hC hcon hR hL hLl;generalize d.length=n at *
 go_enter Tryz.func196,Tryz.ntmps196;go_upto_region 1 with fail;rw [<- HT.out];go_wp2_with fail;with_reducible refine Hcon.out.mono ?_
 rintro e w1 ⟨⟨r,rfl,hO⟩,hb1⟩;obtain ⟨ao,cap,rfl⟩:=hO.shape;have Hb1:=hid (HbT.out.trans (hb1.mono HbT.out.size));clear hb1 hO;go_wp2;go_ret;refine ⟨yAC ?_,Hb1.out⟩;cases L with
 | nil=>rfl
 | cons a l=>simp;omega
def badD (d:List (List Int)):Bool:=!deckB d
def badW (f t:Int) (d:List (List Int)):Bool:=!decide (fieldP f t (colsD d))
def badL (f t:Int) (s:ByteArray):Bool:=decide (¬ (s.size:Int)=t - f)
def badC (s:ByteArray):Bool:=!chS s
def badH (f t:Int) (d:List (List Int)):Bool:=!hasD d f t
def colC (ds:List (List (List Int))) (f t:Int) (ts:List ByteArray):Int :=
 if ds.any badD=true then 1 else if ds.any (badW f t)=true then 2 else if ts.any (badL f t)=true then 2 else if ts.any badC=true then 7 else if ds.any (badH f t)=true then 8 else 0
theorem any_yes {α:Type} {p:α->Bool} {xs:List α} {k:Nat} {x:α} (hx:xs[k]?=some x) (h:p x=true):xs.any p=true:=List.any_eq_true.2 ⟨x,zC hx,h⟩
theorem any_snoc {α:Type} {p:α->Bool} {xs:List α} {k:Nat} {x:α} (hx:xs[k]?=some x) (h0:(xs.take k).any p=false) (h:p x=false):(xs.take (k+1)).any p=false:=by rw [yAD hx,List.any_append,h0];simp [h]
theorem any_full {α:Type} {p:α->Bool} {xs:List α} {n:Nat} (hn:n=xs.length) (h0:(xs.take n).any p=false):xs.any p=false:=by rw [zH (by omega)] at h0;exact h0
theorem any_mem {α:Type} {p:α->Bool} {xs:List α} {x:α} (h:xs.any p=false) (hx:x∈xs):p x=false:=by
 have:=List.any_eq_false.1 h x hx;simpa using this
theorem collateCode_c {ds:List (List (List Int))} {ts:List ByteArray} {v u:Value} {w:World} {A B:Nat} {f t:Int} (hd:RdDs A w v ds) (ht:Rds eT B w u ts) (hl:ds.length<=1000) (hne:ds ≠ []) (htl:ts.length<=1000) :
 Calls Tryz.prog 195 #[.agg #[.int .i64 f,.int .i64 t],.bool true,u,v] w fun e w'=>e=.returned (.int .i64 (colC ds f t ts))/\Below w.heap.size w w':=by
 obtain ⟨T,hT⟩:∃ T,T=w.alloc (.cells #[.int .i64 f,.int .i64 t] 27):=⟨_,rfl⟩;have hbT:Below w.heap.size w T:=by rw [hT];exact (zB _ _).alloc (zA _) _
 have hBT:Box T w.heap.size [.int .i64 f,.int .i64 t]:=by rw [hT];exact Box.new w [.int .i64 f,.int .i64 t] _
 have hd1:=RdL.onn rowK_D hd hbT;have ht1:=Rds.onn ht hbT;obtain ⟨ao,cap,rfl,ho⟩:=RdL.open rowK_D hd1;obtain ⟨to_,tc,rfl,hto⟩:=RdT.open ht1;obtain ⟨R,hR⟩:∃ R,R=colC ds f t ts:=⟨_,rfl⟩;rw [<- hR];obtain ⟨n,hn⟩:∃ n,n=ds.length:=⟨_,rfl⟩;obtain ⟨m,hm⟩:∃ m,m=ts.length:=⟨_,rfl⟩;rw [<- hn] at hl |-;rw [<- hm] at htl |-;have HR:=hid hR;have Hn:=hid hn;have Hm:=hid hm;have Ho:=hid ho;have Hto:=hid hto;have HT:=hid hT;have HbT:=hid hbT;have HBT:=hid hBT;have f1:=hBT.cell 0 _ rfl;have f2:=hBT.cell 1 _ rfl;clear hd ht hd1 ht1 ho hto hn hm hR hT hbT hBT;go_enter Tryz.func195,Tryz.ntmps195;go_upto_region 1 with fail;rw [<- HT.out];go_wp2;go_loopw [21] (fun iv wr=>∃ k:Nat,k<=n/\iv=.int .i64 k/\Hid ((ds.take k).any badD=false)/\Hid (Below T.heap.size T wr)) (fun i _=>n - (intOf i).toNat)
 case atStart=>exact ⟨0,zK _,rfl,hid rfl,hid (zB _ _)⟩
 case round =>
  obtain ⟨k,hk,rfl,HA,Hb⟩:=hrel;by_cases hkn:k<n
  . obtain ⟨b,off,rfl,hlt,hc⟩:=Ho.out (by have:=Hn.out;omega)
    obtain ⟨x,ro,rc,hx,hcell,hrd⟩:=hc k (by have:=Hn.out;omega);have d1:=(Hb.out.cell (p:=⟨b,off+k,none⟩) hlt.2).trans hcell;have hrw:=RdInt64SS.onn hrd Hb.out;have Hx:=hid hx;clear hc hcell hrd hx;have hcon:=ValidDeck_c hrw;clear hrw;cases hv:deckB x with
    | false =>
     rw [hv] at hcon;have Hcon:=hid hcon;have HE:Hid (R=1):=hid (by rw [HR.out];unfold colC;rw [if_pos (any_yes Hx.out (by unfold badD;rw [hv];rfl))]);clear hcon hv f1 f2;go_wp2_with fail;with_reducible refine Hcon.out.mono ?_
     rintro e w1 ⟨rfl,hb1⟩;have Hb1:=hid (HbT.out.trans ((Hb.out.trans (hb1.mono Hb.out.size)).mono HbT.out.size));clear hb1;go_wp2;go_ret;exact ⟨yAJ HE.out.symm,Hb1.out⟩
    | true =>
     rw [hv] at hcon;have Hcon:=hid hcon;have HA2:=hid (any_snoc Hx.out HA.out (by unfold badD;rw [hv];rfl));clear hcon hv;go_wp2_with fail;with_reducible refine Hcon.out.mono ?_
     rintro e w1 ⟨rfl,hb1⟩;have Hb1:=hid (Hb.out.trans (hb1.mono Hb.out.size));clear hb1 d1;go_wp2;go_roundw
     case rel=>exact ⟨k+1,by omega,by go_num,HA2,Hb1⟩
     case measure=>simp [intOf];omega
  . obtain rfl:k=n:=by omega
    have HA1:=hid (any_full Hn.out HA.out);have Hb0:=Hb;have q1:=HBT.out.on Hb0.out;clear HA Hb;go_wp2;go_loopw [33] (fun iv wr=>∃ k':Nat,k'<=k/\iv=.int .i64 k'/\Hid ((ds.take k').any (badW f t)=false)/\Hid (Below T.heap.size T wr)) (fun i _=>k - (intOf i).toNat)
    case atStart=>exact ⟨0,zK _,rfl,hid rfl,Hb0⟩
    case round =>
     clear q1 Hb0;obtain ⟨j,hj,rfl,HA,Hb⟩:=hrel;by_cases hjn:j<k
     . obtain ⟨b,off,rfl,hlt,hc⟩:=Ho.out (by have:=Hn.out;omega)
       obtain ⟨x,ro,rc,hx,hcell,hrd⟩:=hc j (by have:=Hn.out;omega);have d1:=(Hb.out.cell (p:=⟨b,off+j,none⟩) hlt.2).trans hcell;have hrw:=RdInt64SS.onn hrd Hb.out;have Hx:=hid hx;clear hc hcell hrd hx;have hvx:deckB x=true:=by have:=any_mem HA1.out (zC Hx.out);unfold badD at this;simpa using this
       have hQ:=HBT.out.on Hb.out;have g1:=cell_regrown (hQ.cell 0 _ rfl);have g2:=cell_regrown (hQ.cell 1 _ rfl);obtain ⟨C,hC⟩:∃ C,C=colsD x:=⟨_,rfl⟩;have hCb:=colsD_bd hvx;have hcc:=fun y os=>yBE (w:=grow (redrawn wr y) os) (RdInt64SS.below hrw (below_regrown wr y os) (zA _)) hvx;rw [<- hC] at hCb hcc;have hcf:=fun w=>yBN f t C w (by omega);have Hcc:=hid hcc;have HC:=hid hC;clear hrw hcc hC hCb hQ hvx;by_cases hf:fieldP f t C
       . rw [decide_eq_true hf] at hcf
         have Hcf:=hid hcf;have HA2:=hid (any_snoc Hx.out HA.out (p:=badW f t) (by unfold badW;rw [<- HC.out,decide_eq_true hf];rfl));clear hcf hf HC;go_wp2;refine wp_region_quiet_below (by kernel_rfl) (by kernel_rfl) ?_;repeat ((with_reducible refine wpQuiet_step (fun K hK=>?_));go_simp;first | ((with_reducible refine hK _ ?_);clear hK K) | (apply Exists.intro;refine ⟨fun _=>?_,hK _ ?_⟩;((first | (go_at_call 39;with_reducible exact yAG (Hcc.out _ _)) | (go_at_call 29;with_reducible exact yAG (Hcf.out _))));clear hK K))
         refine wpQuiet_nil ?_;intro _ hw';obtain ⟨⟨dq,osq⟩,hw''⟩:=hw';subst hw'';have hbq:=below_regrown wr dq osq;generalize grow (redrawn wr dq) osq=wq at hbq |-;have Hb1:=hid (Hb.out.trans (hbq.mono Hb.out.size));clear hbq d1 g1 g2;go_wp2;go_roundw
         case rel=>exact ⟨j+1,by omega,by go_num,HA2,Hb1⟩
         case measure=>simp [intOf];omega
       . rw [decide_eq_false hf] at hcf
         have Hcf:=hid hcf;have HE:Hid (R=2):=hid (by rw [HR.out];unfold colC;rw [if_neg (by rw [HA1.out];decide),if_pos (any_yes Hx.out (by unfold badW;rw [<- HC.out,decide_eq_false hf];rfl))]);clear hcf hf HC;go_wp2;refine wp_region_quiet_below (by kernel_rfl) (by kernel_rfl) ?_;repeat ((with_reducible refine wpQuiet_step (fun K hK=>?_));go_simp;first | ((with_reducible refine hK _ ?_);clear hK K) | (apply Exists.intro;refine ⟨fun _=>?_,hK _ ?_⟩;((first | (go_at_call 39;with_reducible exact yAG (Hcc.out _ _)) | (go_at_call 29;with_reducible exact yAG (Hcf.out _))));clear hK K))
         refine wpQuiet_nil ?_;intro _ hw';obtain ⟨⟨dq,osq⟩,hw''⟩:=hw';subst hw'';have hbq:=below_regrown wr dq osq;generalize grow (redrawn wr dq) osq=wq at hbq |-;have Hb1:=hid (HbT.out.trans ((Hb.out.trans (hbq.mono Hb.out.size)).mono HbT.out.size));clear hbq d1 g1 g2;go_wp2;go_ret;exact ⟨yAJ HE.out.symm,Hb1.out⟩
     . obtain rfl:j=k:=by omega
       have HA2:=hid (any_full Hn.out HA.out);have HC:Hid (∀ x∈ds,ColsOk x f t):=hid (fun x hx=>by
        have h1:=any_mem HA1.out hx;have h2:=any_mem HA2.out hx;unfold badD at h1;unfold badW at h2;exact yAR (by simpa using h1) (by simpa using h2))
       have Hb0:=Hb;clear HA Hb;go_wp2;go_loopw [45] (fun iv wr=>∃ k':Nat,k'<=m/\iv=.int .i64 k'/\Hid ((ts.take k').any (badL f t)=false)/\Hid (Below T.heap.size T wr)) (fun i _=>m - (intOf i).toNat)
       case atStart=>exact ⟨0,zK _,rfl,hid rfl,Hb0⟩
       case round =>
        clear Hb0;obtain ⟨i,hi,rfl,HA,Hb⟩:=hrel;by_cases hin:i<m
        . obtain ⟨b,off,rfl,hlt,hc⟩:=Hto.out (by have:=Hm.out;omega)
          obtain ⟨x,hx,hcell,hxs⟩:=hc i (by have:=Hm.out;omega);have d1:=(Hb.out.cell (p:=⟨b,off+i,none⟩) hlt.2).trans hcell;have Hx:=hid hx;have hQ:=HBT.out.on Hb.out;have g1:=hQ.cell 0 _ rfl;have g2:=hQ.cell 1 _ rfl;have hft:0<=f/\f<t/\t<=1000:=by
           rcases ds with _ | ⟨c,ds⟩
           . exact absurd rfl hne
           . have h1:=any_mem HA1.out (List.mem_cons_self ..)
             have h2:=any_mem HA2.out (List.mem_cons_self ..);unfold badD at h1;unfold badW at h2;have h3:fieldP f t (colsD c):=by simpa using h2
             have h4:=colsD_bd (show deckB c=true by simpa using h1);exact ⟨h3.1,h3.2.1,by have:=h3.2.2;omega⟩
          have hwr:IntKind.i64.wrap (t - f)=t - f:=IntWalk.i64_in _ (by omega);clear hc hcell hx hQ;by_cases hs:(x.size:Int)=t - f
          . have HA3:=hid (any_snoc Hx.out HA.out (p:=badL f t) (by unfold badL;exact decide_eq_false (fun h=>h hs)))
            have hs2:((x.size:Int) != t - f)=false:=by simpa using hs
            clear hs;go_wp2;go_roundw
            case rel=>exact ⟨i+1,by omega,by go_num,HA3,Hb⟩
            case measure=>simp [intOf];omega
          . have HE:Hid (R=2):=hid (by rw [HR.out];unfold colC;rw [if_neg (by rw [HA1.out];decide),if_neg (by rw [HA2.out];decide),if_pos (any_yes Hx.out (by unfold badL;exact decide_eq_true hs))])
            have hs2:((x.size:Int) != t - f)=true:=by simpa using hs
            have Hb1:=hid (HbT.out.trans (Hb.out.mono HbT.out.size));clear hs;go_wp2;go_ret;exact ⟨yAJ HE.out.symm,Hb1.out⟩
        . obtain rfl:i=m:=by omega
          have HA3:=hid (any_full Hm.out HA.out);have Hb0:=Hb;clear HA Hb;go_wp2;go_loopw [60] (fun iv wr=>∃ k':Nat,k'<=i/\iv=.int .i64 k'/\Hid ((ts.take k').any badC=false)/\Hid (Below T.heap.size T wr)) (fun q _=>i - (intOf q).toNat)
          case atStart=>exact ⟨0,zK _,rfl,hid rfl,Hb0⟩
          case round =>
           clear Hb0;obtain ⟨q,hq,rfl,HA,Hb⟩:=hrel;by_cases hqn:q<i
           . obtain ⟨b,off,rfl,hlt,hc⟩:=Hto.out (by have:=Hm.out;omega)
             obtain ⟨x,hx,hcell,hxs⟩:=hc q (by have:=Hm.out;omega);have d1:=(Hb.out.cell (p:=⟨b,off+q,none⟩) hlt.2).trans hcell;have Hx:=hid hx;have hca:=fun w=>areCharacters_c x w hxs;clear hc hcell hx;cases hch:chS x with
             | true =>
              rw [hch] at hca;have Hca:=hid hca;have HA4:=hid (any_snoc Hx.out HA.out (p:=badC) (by unfold badC;rw [hch];rfl));clear hca hch;go_wp2_with fail;with_reducible refine (Hca.out _).mono ?_
              rintro e w1 ⟨rfl,rfl⟩;go_wp2;go_roundw
              case rel=>exact ⟨q+1,by omega,by go_num,HA4,Hb⟩
              case measure=>simp [intOf];omega
             | false =>
              rw [hch] at hca;have Hca:=hid hca;have HE:Hid (R=7):=hid (by rw [HR.out];unfold colC;rw [if_neg (by rw [HA1.out];decide),if_neg (by rw [HA2.out];decide),if_neg (by rw [HA3.out];decide),if_pos (any_yes Hx.out (by unfold badC;rw [hch];rfl))]);have Hb1:=hid (HbT.out.trans (Hb.out.mono HbT.out.size));clear hca hch;go_wp2_with fail;with_reducible refine (Hca.out _).mono ?_
              rintro e w1 ⟨rfl,rfl⟩;go_wp2;go_ret;exact ⟨yAJ HE.out.symm,Hb1.out⟩
           . obtain rfl:q=i:=by omega
             have HA4:=hid (any_full Hm.out HA.out);have Hb0:=Hb;clear HA Hb;go_wp2;go_loopw [70] (fun iv wr=>∃ k':Nat,k'<=j/\iv=.int .i64 k'/\Hid ((ds.take k').any (badH f t)=false)/\Hid (Below T.heap.size T wr)) (fun q _=>j - (intOf q).toNat)
             case atStart=>exact ⟨0,zK _,rfl,hid rfl,Hb0⟩
             case round =>
              clear Hb0;obtain ⟨k,hk,rfl,HA,Hb⟩:=hrel;by_cases hkn:k<j
              . obtain ⟨b,off,rfl,hlt,hc⟩:=Ho.out (by have:=Hn.out;omega)
                obtain ⟨x,ro,rc,hx,hcell,hrd⟩:=hc k (by have:=Hn.out;omega);have d1:=(Hb.out.cell (p:=⟨b,off+k,none⟩) hlt.2).trans hcell;have hrw:=RdInt64SS.onn hrd Hb.out;have Hx:=hid hx;clear hc hcell hrd hx;have hQ:=HBT.out.on Hb.out;have g1:=hQ.cell 0 _ rfl;have g2:=hQ.cell 1 _ rfl;have hch:=haveField_c hrw (HC.out x (zC Hx.out));clear hrw hQ;cases hp:hasD x f t with
                | true =>
                 rw [hp] at hch;have Hch:=hid hch;have HA5:=hid (any_snoc Hx.out HA.out (p:=badH f t) (by unfold badH;rw [hp];rfl));clear hch hp;go_wp2_with fail;with_reducible refine Hch.out.mono ?_
                 rintro e w1 ⟨rfl,hb1⟩;have Hb1:=hid (Hb.out.trans (hb1.mono Hb.out.size));clear hb1 d1 g1 g2;go_wp2;go_roundw
                 case rel=>exact ⟨k+1,by omega,by go_num,HA5,Hb1⟩
                 case measure=>simp [intOf];omega
                | false =>
                 rw [hp] at hch;have Hch:=hid hch;have HE:Hid (R=8):=hid (by rw [HR.out];unfold colC;rw [if_neg (by rw [HA1.out];decide),if_neg (by rw [HA2.out];decide),if_neg (by rw [HA3.out];decide),if_neg (by rw [HA4.out];decide),if_pos (any_yes Hx.out (by unfold badH;rw [hp];rfl))]);clear hch hp;go_wp2_with fail;with_reducible refine Hch.out.mono ?_
                 rintro e w1 ⟨rfl,hb1⟩;have Hb1:=hid (HbT.out.trans ((Hb.out.trans (hb1.mono Hb.out.size)).mono HbT.out.size));clear hb1 d1 g1 g2;go_wp2;go_ret;exact ⟨yAJ HE.out.symm,Hb1.out⟩
              . obtain rfl:k=j:=by omega
                have HA5:=hid (any_full Hn.out HA.out);have HE:Hid (R=0):=hid (by rw [HR.out];unfold colC;rw [if_neg (by rw [HA1.out];decide),if_neg (by rw [HA2.out];decide),if_neg (by rw [HA3.out];decide),if_neg (by rw [HA4.out];decide),if_neg (by rw [HA5.out];decide)]);have Hb1:=hid (HbT.out.trans (Hb.out.mono HbT.out.size));go_wp2;go_ret;exact ⟨yAJ HE.out.symm,Hb1.out⟩
theorem groupsOf_c {d:List (List Int)} {v:Value} {w:World} {A:Nat} {f t:Int} (hd:RdInt64SS A w v d) (hC:ColsOk d f t) (hl:d.length<=1000) :
 Calls Tryz.prog 192 #[v,.agg #[.int .i64 f,.int .i64 t]] w fun e w'=>(∃ r,e=.returned r/\OwnInt64S w.heap.size w' r (selI (grpP d f t) d.length))/\Below w.heap.size w w':=by
 obtain ⟨i0,hi,hz0,hz1,hz2⟩:=info_parts Tryz.infoInt64;obtain ⟨vo,vc,rfl⟩:=hd.shape;obtain ⟨T,hT⟩:∃ T,T=w.alloc (.cells #[.int .i64 f,.int .i64 t] 27):=⟨_,rfl⟩;have hbT:Below w.heap.size w T:=by rw [hT];exact (zB _ _).alloc (zA _) _
 have hBT:Box T w.heap.size [.int .i64 f,.int .i64 t]:=by rw [hT];exact Box.new w [.int .i64 f,.int .i64 t] _
 have hO0:OwnInt64S T.heap.size (T.alloc (.cells #[] 2)) (.slice (some ⟨T.heap.size,0,none⟩) 0 0) (selI (grpP d f t) 0):=Own.lit (E:=eI) (xs:=[]) (cs:=#[]) (zA _) rfl rfl (by decide) (fun x hx=>by cases hx);have hB0:Below T.heap.size T (T.alloc (.cells #[] 2)):=(zB _ _).alloc (zA _) _;have Hd:=hid (RdInt64SS.onn hd hbT);have HO0:=hid hO0;have HB0:=hid hB0;have HT:=hid hT;have HbT:=hid hbT;have HBT:=hid hBT;have HC:=hid hC;obtain ⟨n,hn⟩:∃ n,n=d.length:=⟨_,rfl⟩;rw [<- hn] at hl Hd |-;have Hn:=hid hn;clear hd hT hbT hBT hO0 hB0 hC hn;go_enter Tryz.func192,Tryz.ntmps192;go_upto_region 1 with fail;rw [<- HT.out];go_wp2;go_loopw [5,11] (fun ov iv wr=>∃ (k:Nat) (ro:Option Addr) (rc:Nat),k<=n/\iv=.int .i64 k/\ov=.slice ro (selI (grpP d f t) k).length rc/\Hid (OwnInt64S T.heap.size wr (.slice ro (selI (grpP d f t) k).length rc) (selI (grpP d f t) k))/\Hid (Below T.heap.size T wr)) (fun _ i _=>n - (intOf i).toNat)
 case atStart=>exact ⟨0,_,_,zK _,rfl,rfl,HO0,HB0⟩
 case round =>
  obtain ⟨k,ro,rc,hk,rfl,rfl,HO,HB⟩:=hrel;clear HO0 HB0;by_cases hkn:k<n
  . have hokk:eI.ok (k:Int):=by show -9223372036854775808<=(k:Int)/\(k:Int)<=9223372036854775807;omega
    have Hdr:=hid (RdInt64SS.onn (by have h:=Hd.out;rw [Hn.out] at h;exact h) HB.out);have hQr:=HBT.out.on HB.out;have Hzl:Hid ((selI (grpP d f t) k).length<=k):=hid (yBM _ _);obtain ⟨L,hL⟩:∃ L,L=selI (grpP d f t) k:=⟨_,rfl⟩;by_cases hk0:k=0
    . obtain ⟨ao,cap,b,off,b1,o1,c1,e1,e2,hc1,hr1,ht1,hlt1⟩:=card_open Hdr.out (by have:=HC.out.1;omega) HC.out.2 (i:=k) (by have:=Hn.out;omega)
      subst e2;injection e1 with q1 q2 q3;subst q1;subst q3;clear q2;have HS:Hid (L++[(0:Int)]=selI (grpP d f t) (k+1)):=hid (by rw [yAX,<- hL,hk0,grp_zero];rfl);have hokk:eI.ok (0:Int):=by show -9223372036854775808<=(0:Int)/\(0:Int)<=9223372036854775807;omega
      rw [<- hL] at HO Hzl |-;obtain ⟨W,hW⟩:∃ W,W=wr.alloc (.cells #[.slice (some ⟨b1,o1,none⟩) (d.getD k []).length c1] 69):=⟨_,rfl⟩;have hbW:Below wr.heap.size wr W:=by rw [hW];exact (zB _ _).alloc (zA _) _
      have HOW:=hid (HO.out.below hbW (zA _));have HBW:=hid (HB.out.trans (hbW.mono HB.out.size));have HW:=hid hW;have hkz:(k:Int)=0:=by omega
      have Hkz:=hid hkz;clear hL hW hbW hr1 ht1 hlt1 hQr HO HB hkz;subst hk0;rw [Nat.add_zero] at hc1;generalize (d.getD 0 []).length=n1 at *
      go_upto_region 5 with fail;rw [<- HW.out];refine wp_region_quiet_below (by kernel_rfl) (by kernel_rfl) ?_;repeat ((with_reducible refine wpQuiet_step (fun K hK=>?_));go_simp;first | ((with_reducible refine hK _ ?_);clear hK K) | ((with_reducible rw [if_neg]);rotate_left;(intro hgd;cases hgd);(with_reducible refine hK _ ?_);clear hK K) | (apply Exists.intro;refine ⟨fun _=>?_,hK _ ?_⟩;((fail));clear hK K))
      refine wpQuiet_nil ?_;intro _ hw';obtain ⟨⟨dq,osq⟩,hw''⟩:=hw';subst hw'';have hbq:=below_regrown W dq osq;generalize grow (redrawn W dq) osq=wq at hbq |-;have HOq:=hid (HOW.out.below hbq (zA _));have HBq:=hid (HBW.out.trans (hbq.mono HBW.out.size));clear hbq hc1;go_wp2_with (first | (at_builtin;refine yAB (E:=eI) rfl _ _ 48 rfl Tryz.underlying48 hi hz0 hz1 hz2 rfl (by decide) rfl rfl (HOq.out.alloc _) (yAH (E:=eI) (x:=(0:Int)) hokk rfl) ?b1 ?b2 ?b3 ?_))
      case b1=>have:=Hzl.out;unfold maxLen;simp;omega
      case b2=>have:=Hzl.out;simp;omega
      case b3=>have:=HBq.out.size;simp;omega
      intro v3 w3 hO3 hg3;rw [HS.out] at hO3;obtain ⟨ao3,cap3,hv3⟩:=hO3.shape;subst hv3;have HO3:=hid hO3;have HB3:=hid (HBq.out.grown hg3.alloc.1 HBq.out.size (fun q hq=>(HOq.out.lt q hq).1));clear hO3 hg3;go_wp2;go_roundw
      case rel=>exact ⟨0+1,_,_,by omega,by go_num,rfl,HO3,HB3⟩
      case measure=>simp [intOf];omega
    . obtain ⟨j,rfl⟩:∃ j,k=j+1:=⟨k - 1,by omega⟩
      obtain ⟨ao,cap,b,off,b1,o1,c1,e1,e2,hc1,hr1,ht1,hlt1⟩:=card_open Hdr.out (by have:=HC.out.1;omega) HC.out.2 (i:=j) (by have:=Hn.out;omega);obtain ⟨ao',cap',b',off',b2,o2,c2,e3,e4,hc2,hr2,ht2,-⟩:=card_open Hdr.out (by have:=HC.out.1;omega) HC.out.2 (i:=j+1) (by have:=Hn.out;omega);subst e2;rw [e1] at e3;injection e3 with e5 e6 e7;rw [<- e5] at e4;injection e4 with e4;injection e4 with e8 e9;subst e8;subst e9;injection e1 with q1 q2 q3;subst q1;subst q3;clear e5 e6 e7 q2;obtain ⟨W,hW⟩:∃ W,W=wr.alloc (.cells #[.slice (some ⟨b2,o2,none⟩) (d.getD (j+1) []).length c2] 69):=⟨_,rfl⟩;have hbW:Below wr.heap.size wr W:=by rw [hW];exact (zB _ _).alloc (zA _) _
      have hX:Box W wr.heap.size [.slice (some ⟨b2,o2,none⟩) (d.getD (j+1) []).length c2]:=by rw [hW];exact Box.new wr [.slice (some ⟨b2,o2,none⟩) (d.getD (j+1) []).length c2] _
      have hQW:=hQr.on hbW;have f1:=cell_regrown (hQW.cell 0 _ rfl);have f2:=cell_regrown (hQW.cell 1 _ rfl);have f3:=cell_regrown (hX.cell 0 _ rfl);have f4:=cell_regrown ((hbW.cell (p:=⟨b,off+j,none⟩) (World.block_lt_of_cell? wr _ hc1)).trans hc1);have hcon:=fun x os=>yBP (w:=grow (redrawn W x) os) f t HC.out.1.1 HC.out.1.2 ht1 ht2 (Rds.regrown (Rds.onn hr1 hbW) (zA _) x os) (Rds.regrown (Rds.onn hr2 hbW) (zA _) x os);obtain ⟨R,hR⟩:∃ R,cmpN (rks (partC (d.getD j []) f t)) (rks (partC (d.getD (j+1) []) f t))=R:=⟨_,rfl⟩;have HRe:Hid (cmpK d f t j (j+1)=R):=hid hR;rw [hR] at hcon;have Hcon:=hid hcon;have HOW:=hid (HO.out.below hbW (zA _));have HBW:=hid (HB.out.trans (hbW.mono HB.out.size));have HW:=hid hW;have hs1:IntKind.i64.wrap ((j:Int)+1 - 1)=(j:Int):=by rw [show (j:Int)+1 - 1=(j:Int) by omega];exact IntWalk.i64_in _ (by omega)
      have hs2:IntKind.i64.wrap (j:Int)=(j:Int):=IntWalk.i64_in _ (by omega);have hokk:eI.ok ((j:Int)+1):=by show -9223372036854775808<=(j:Int)+1/\(j:Int)+1<=9223372036854775807;omega
      have i0:0<=(j:Int)+1:=by omega
      have i1:(j:Int)+1<(n:Int):=by omega
      have i2:(j:Int)<(n:Int):=by omega
      have i3:¬ (j:Int)+1=0:=by omega
      generalize (d.getD j []).length=n1 at *
      generalize (d.getD (j+1) []).length=n2 at *
      have hLs:selI (grpP d f t) (j+1+1)=L++(if R ≠ 0 then [(j:Int)+1] else []):=by
       rw [yAX,<- hL,grp_succ,HRe.out];by_cases h:R ≠ 0
       . rw [if_pos (decide_eq_true h),if_pos h];rfl
       . rw [if_neg (by simpa using h),if_neg h]
      rw [<- hL] at HOW Hzl |-;have HLs:=hid hLs;clear hc1 hr1 hr2 ht1 ht2 hcon hR hQr hL HRe hW hbW hX hQW HO HB hLs;by_cases hR0:R=0
      . have hS:L=selI (grpP d f t) (j+1+1):=by rw [HLs.out,if_neg (fun h=>h hR0),List.append_nil]
        have HS:=hid hS;clear hS;go_upto_region 5 with fail;rw [<- HW.out];refine wp_region_quiet_below (by kernel_rfl) (by kernel_rfl) ?_;repeat ((with_reducible refine wpQuiet_step (fun K hK=>?_));go_simp;first | ((with_reducible refine hK _ ?_);clear hK K) | ((with_reducible rw [if_neg]);rotate_left;(intro hgd;cases hgd);(with_reducible refine hK _ ?_);clear hK K) | (apply Exists.intro;refine ⟨fun _=>?_,hK _ ?_⟩;((first | (go_at_call 116;with_reducible exact yAG (Hcon.out _ _))));clear hK K))
        refine wpQuiet_nil ?_;intro _ hw';obtain ⟨⟨dq,osq⟩,hw''⟩:=hw';subst hw'';have hbq:=below_regrown W dq osq;generalize grow (redrawn W dq) osq=wq at hbq |-;have hOq:=HOW.out.below hbq (zA _);have HBq:=hid (HBW.out.trans (hbq.mono HBW.out.size));have HOq:Hid (OwnInt64S T.heap.size _ (.slice ro L.length rc) (selI (grpP d f t) (j+1+1))):=hid (by rw [<- HS.out];exact hOq);clear hbq f1 f2 f4 f3 hOq hs1 hs2 hc2;go_wp2;go_roundw
        case rel=>exact ⟨j+1+1,_,_,by omega,by go_num,by rw [HS.out],by rw [<- HS.out];rw [<- HS.out] at HOq;exact HOq,HBq⟩
        case measure=>simp [intOf];omega
      . have hR1:(R != 0)=true:=by simpa using hR0
        have i4:((j:Int)+1 == 0)=false:=by simpa using i3
        have HS:Hid (L++[(j:Int)+1]=selI (grpP d f t) (j+1+1)):=hid (by rw [HLs.out,if_pos hR0]);go_upto_region 5 with fail;rw [<- HW.out];refine wp_region_quiet_below (by kernel_rfl) (by kernel_rfl) ?_;repeat ((with_reducible refine wpQuiet_step (fun K hK=>?_));go_simp;first | ((with_reducible refine hK _ ?_);clear hK K) | ((with_reducible rw [if_neg]);rotate_left;(intro hgd;cases hgd);(with_reducible refine hK _ ?_);clear hK K) | (apply Exists.intro;refine ⟨fun _=>?_,hK _ ?_⟩;((first | (go_at_call 116;with_reducible exact yAG (Hcon.out _ _))));clear hK K))
        refine wpQuiet_nil ?_;intro _ hw';obtain ⟨⟨dq,osq⟩,hw''⟩:=hw';subst hw'';have hbq:=below_regrown W dq osq;generalize grow (redrawn W dq) osq=wq at hbq |-;have HOq:=hid (HOW.out.below hbq (zA _));have HBq:=hid (HBW.out.trans (hbq.mono HBW.out.size));clear hbq f1 f2 f4 f3 hs1 hs2 hc2;go_wp2_with (first | (at_builtin;refine yAB (E:=eI) rfl _ _ 48 rfl Tryz.underlying48 hi hz0 hz1 hz2 rfl (by decide) rfl rfl (HOq.out.alloc _) (yAH (E:=eI) (x:=(j:Int)+1) hokk rfl) ?b1 ?b2 ?b3 ?_))
        case b1=>have:=Hzl.out;unfold maxLen;simp;omega
        case b2=>have:=Hzl.out;simp;omega
        case b3=>have:=HBq.out.size;simp;omega
        intro v3 w3 hO3 hg3;rw [HS.out] at hO3;obtain ⟨ao3,cap3,hv3⟩:=hO3.shape;subst hv3;have HO3:=hid hO3;have HB3:=hid (HBq.out.grown hg3.alloc.1 HBq.out.size (fun q hq=>(HOq.out.lt q hq).1));clear hO3 hg3;go_wp2;go_roundw
        case rel=>exact ⟨j+1+1,_,_,by omega,by go_num,rfl,HO3,HB3⟩
        case measure=>simp [intOf];omega
  . obtain rfl:k=n:=by omega
    have hO2:=HO.out.mono (base':=w.heap.size) HbT.out.size;have HO2:=hid hO2;have Hb2:=hid (HbT.out.trans (HB.out.mono HbT.out.size));clear hO2 HO;go_wp2;go_ret;exact ⟨⟨_,rfl,HO2.out⟩,Hb2.out⟩
end Go.Proofs.YtmindpfmgnnieaaGreatDoor
