/- Lemmas on the way to the law FnTop. No condition. -/
import Derived.Test.YtmindpfmgnnieaaGreatDoorTP39
import Derived.Test.YtmindpfmgnnieaaGreatDoorTP34
import Derived.Test.YtmindpfmgnnieaaGreatDoorTP37
import Derived.Test.YtmindpfmgnnieaaGreatDoorTP16
import Derived.Test.YtmindpfmgnnieaaGreatDoorTP4
namespace Go.Proofs.YtmindpfmgnnieaaGreatDoor
set_option maxHeartbeats 4000000
set_option linter.unusedSimpArgs false
open Lib (hid)
open Go.ChangeShapes Go.WideShapes Go.ChangeAt Go.RowKit Go.Sort
set_option linter.unusedVariables false
set_option maxRecDepth 100000
theorem clo_HE {x y:List Int} {u v:Value} {W:World} {q1 q2:Nat} {f t:Int} (hQ:Box W q1 [v]) (hF:Box W q2 [.int .i64 f,.int .i64 t]) (hx:RdI W.heap.size W u x) (hy:RdI W.heap.size W v y) (h0:0<=f/\f<t) (htx:t<=(x.length:Int)) (hty:t<=(y.length:Int)) :
 Calls Tryz.prog 211 #[.agg #[u],.pointer (some ⟨q1,0,none⟩),.pointer (some ⟨q2,0,none⟩)] W fun e w'=>e=.returned (.bool (eqF f t y x))/\Below W.heap.size W w':=by
 obtain ⟨ao,cap,rfl,hin⟩:=RdI.open hx;obtain ⟨b,off,rfl,_⟩:=hin (by omega);obtain ⟨ao2,cap2,rfl,hin2⟩:=RdI.open hy;obtain ⟨b2,off2,rfl,_⟩:=hin2 (by omega);obtain ⟨T,hT⟩:∃ T,T=W.alloc (.cells #[.slice (some ⟨b,off,none⟩) x.length cap] 69):=⟨_,rfl⟩;have hbT:Below W.heap.size W T:=by rw [hT];exact (zB _ _).alloc (zA _) _
 have hBT:Box T W.heap.size [.slice (some ⟨b,off,none⟩) x.length cap]:=by rw [hT];exact Box.new W [.slice (some ⟨b,off,none⟩) x.length cap] _
 have c0:=hBT.cell 0 _ rfl;have c1:=(hQ.on hbT).cell 0 _ rfl;have c2:=(hF.on hbT).cell 0 _ rfl;have c3:=(hF.on hbT).cell 1 _ rfl;have hk:=yBP (w:=T) f t h0.1 h0.2 htx hty (Rds.onn hx hbT) (Rds.onn hy hbT);unfold eqF;obtain ⟨R,hR⟩:∃ R,cmpN (rks (partC x f t)) (rks (partC y f t))=R:=⟨_,rfl⟩;rw [hR] at hk |-;have Hk:=hid hk;have HT:=hid hT;have HbT:=hid hbT;clear hk hT hbT hBT hQ hF hx hy hin hin2 h0 hR;generalize x.length=n at *
 generalize y.length=m at *
 go_enter Tryz.func211,Tryz.ntmps211;go_upto_region 1 with fail;rw [<- HT.out];go_wp2_with fail;with_reducible refine Hk.out.mono ?_
 rintro e w1 ⟨rfl,hb1⟩;have Hb1:=hid (HbT.out.trans (hb1.mono HbT.out.size));clear hb1 c0 c1 c2 c3;go_wp2;go_ret;exact ⟨yAC (by first | rfl | simp),Hb1.out⟩
theorem indexHE {xss:List (List Int)} {v:Value} {w:World} {A:Nat} {p:List Int->Bool} {c1 c2:Nat} (ha:RdInt64SS A w v xss)
 (hclo:∀ (W:World) (u:Value) (y:List Int),y∈xss->Below w.heap.size w W->RdI W.heap.size W u y->Calls Tryz.prog 211 #[.agg #[u],.pointer (some ⟨c1,0,none⟩),.pointer (some ⟨c2,0,none⟩)] W fun e w'=>e=.returned (.bool (p y))/\Below W.heap.size W w') :
 Calls Tryz.prog 151 #[v,.func (.func 211) #[] #[.pointer (some ⟨c1,0,none⟩),.pointer (some ⟨c2,0,none⟩)]] w fun e w' =>
  (∃ r:Int,e=.returned (.int .i64 r)/\-1<=r/\((0<=r ↔ xss.any p=true)/\(0<=r->r.toNat<xss.length/\(xss.take r.toNat).any p=false/\∀ x,xss[r.toNat]?=some x->p x=true)))/\Below w.heap.size w w':=by
 have hle:=ha.le;obtain ⟨ao,cap,rfl,ho⟩:=ha.open;obtain ⟨n,hn⟩:∃ n,n=xss.length:=⟨_,rfl⟩;rw [<- hn];have Hn:=hid hn;have Ho:=hid ho;have Hclo:=hid hclo;have hle':n<=9223372036854775807:=by omega
 clear ho hn hle ha hclo;go_enter Tryz.func151,Tryz.ntmps151;go_wp2;go_loopw [8] (fun i wr=>∃ k:Nat,k<=n/\i=.int .i64 k/\Hid ((xss.take k).any p=false)/\Below w.heap.size w wr) (fun i _=>n - (intOf i).toNat)
 case atStart=>exact ⟨0,zK _,rfl,rfl,zB _ _⟩
 case round =>
  obtain ⟨k,hk,rfl,hp,hbb⟩:=hrel;by_cases hkn:k<n
  . obtain ⟨b,off,rfl,hlt,hc⟩:=Ho.out (by have:=Hn.out;omega)
    obtain ⟨y,ro,rc,hy,hcell,hrd⟩:=hc k (by have:=Hn.out;omega);have Hy:=hid hy;replace hcell:=(hbb.cell (p:=⟨b,off+k,none⟩) hlt.2).trans hcell;have hcon:=Hclo.out wr _ _ (zC hy) hbb (Rds.onn hrd hbb);have Hcon:=hid hcon;have Hbb:=hid hbb;clear hy hc hrd hcon hbb;go_wp2_with fail;with_reducible refine Hcon.out.mono ?_
    cases hq:p y with
    | true =>
     have Hq:=hid hq;clear hq;rintro e w1 ⟨rfl,hb1⟩;have Hb2:=hid (Hbb.out.trans (hb1.mono Hbb.out.size));clear hb1;go_wp2;go_ret;refine ⟨⟨_,rfl,by omega,?_,fun _=>?_⟩,Hb2.out⟩
     . have:xss.any p=true:=List.any_eq_true.2 ⟨y,zC Hy.out,Hq.out⟩
       simp [this]
     . rw [zR]
       exact ⟨hkn,hp.out,fun x hx=>by rw [Hy.out] at hx;cases hx;exact Hq.out⟩
    | false =>
     have Hq:=hid hq;clear hq;rintro e w1 ⟨rfl,hb1⟩;have Hb2:=hid (Hbb.out.trans (hb1.mono Hbb.out.size));clear hb1 hcell Hcon;go_wp2;go_roundw
     case rel=>exact ⟨k+1,by omega,by go_num,by show _=false;rw [yAD Hy.out,List.any_append,hp.out];simp [Hq.out],Hb2.out⟩
     case measure=>simp [intOf];omega
  . go_wp2
    go_ret;refine ⟨⟨_,rfl,by omega,?_,fun h=>by omega⟩,hbb⟩;have hq:=hp.out;rw [zH (by have:=Hn.out;omega)] at hq;simp [hq]
theorem containsHE {xss:List (List Int)} {v:Value} {w:World} {A:Nat} {p:List Int->Bool} {c1 c2:Nat} (ha:RdInt64SS A w v xss)
 (hclo:∀ (W:World) (u:Value) (y:List Int),y∈xss->Below w.heap.size w W->RdI W.heap.size W u y->Calls Tryz.prog 211 #[.agg #[u],.pointer (some ⟨c1,0,none⟩),.pointer (some ⟨c2,0,none⟩)] W fun e w'=>e=.returned (.bool (p y))/\Below W.heap.size W w') :
 Calls Tryz.prog 111 #[v,.func (.func 211) #[] #[.pointer (some ⟨c1,0,none⟩),.pointer (some ⟨c2,0,none⟩)]] w fun e w' =>
  e=.returned (.bool (xss.any p))/\Below w.heap.size w w':=by
 have Ha:=hid ha;have Hclo:=hid hclo;obtain ⟨ao,cap,rfl⟩:=ha.shape;clear ha hclo;go_enter Tryz.func111,Tryz.ntmps111;go_wp2_with fail;with_reducible refine (indexHE Ha.out Hclo.out).mono ?_
 rintro e w' ⟨⟨r,rfl,hr,hi,-⟩,hb⟩;have Hi:=hid hi;clear hi;go_wp2;go_ret;refine ⟨yAC ?_,hb⟩;rw [Bool.eq_iff_iff,decide_eq_true_iff];exact Hi.out
theorem hasEqual_c {o:List (List Int)} {y:List Int} {u v:Value} {w:World} {A B:Nat} {f t:Int} (ho:RdInt64SS A w v o) (hy:RdI B w u y) (hC:ColsOk o f t) (ht:t<=(y.length:Int)) :
 Calls Tryz.prog 201 #[v,.agg #[u],.agg #[.int .i64 f,.int .i64 t]] w fun e w'=>e=.returned (.bool (hasE o f t y))/\Below w.heap.size w w':=by
 obtain ⟨vo,vc,rfl⟩:=ho.shape;obtain ⟨ao,cap,rfl⟩:=hy.shape;obtain ⟨T,hT⟩:∃ T,T=(w.alloc (.cells #[.slice ao y.length cap] 69)).alloc (.cells #[.int .i64 f,.int .i64 t] 27):=⟨_,rfl⟩;have z1:(w.alloc (.cells #[.slice ao y.length cap] 69)).heap.size=w.heap.size+1:=by simp
 have hP:Box T w.heap.size [.slice ao y.length cap]:=by rw [hT];exact (Box.new w [.slice ao y.length cap] _).alloc _
 have hQ:Box T (w.heap.size+1) [.int .i64 f,.int .i64 t]:=by
  have h:=Box.new (w.alloc (.cells #[.slice ao y.length cap] 69)) [.int .i64 f,.int .i64 t] 27;rw [z1,<- hT] at h;exact h
 have hbT:Below w.heap.size w T:=by rw [hT];exact ((zB _ _).alloc (zA _) _).alloc (by rw [z1];omega) _
 have hcon:=containsHE (w:=T) (p:=eqF f t y) (c1:=w.heap.size) (c2:=w.heap.size+1) (RdInt64SS.onn ho hbT) (fun V u x hm hV hu=>clo_HE (hP.on hV) (hQ.on hV) hu (Rds.onn (Rds.onn hy hbT) hV) hC.1 (hC.2 x hm) ht);unfold hasE;have Hcon:=hid hcon;have HT:=hid hT;have HbT:=hid hbT;clear hcon hT hbT hP hQ ho hy hC z1 ht;generalize o.length=n at *
 generalize y.length=m at *
 go_enter Tryz.func201,Tryz.ntmps201;go_upto_region 1 with fail;rw [<- HT.out];go_wp2_with fail;with_reducible refine Hcon.out.mono ?_
 rintro e w1 ⟨rfl,hb1⟩;have Hb1:=hid (HbT.out.trans (hb1.mono HbT.out.size));clear hb1;go_wp2;go_ret;exact ⟨rfl,Hb1.out⟩
def outM (o:List (List Int)) (f t:Int) (eq:Bool) (y:List Int):Bool:=hasE o f t y != eq
theorem clo_MD {o:List (List Int)} {y:List Int} {u v:Value} {W:World} {q1 q2 q3:Nat} {f t:Int} {eq:Bool} (hO:Box W q1 [v]) (hF:Box W q2 [.int .i64 f,.int .i64 t]) (hE:Box W q3 [.bool eq]) (ho:RdInt64SS W.heap.size W v o) (hy:RdI W.heap.size W u y) (hC:ColsOk o f t) (ht:t<=(y.length:Int)) :
 Calls Tryz.prog 200 #[.agg #[u],.pointer (some ⟨q1,0,none⟩),.pointer (some ⟨q2,0,none⟩),.pointer (some ⟨q3,0,none⟩)] W fun e w'=>e=.returned (.bool (outM o f t eq y))/\Below W.heap.size W w':=by
 obtain ⟨vo,vc,rfl⟩:=ho.shape;obtain ⟨ao,cap,rfl⟩:=hy.shape;obtain ⟨T,hT⟩:∃ T,T=W.alloc (.cells #[.slice ao y.length cap] 69):=⟨_,rfl⟩;have hbT:Below W.heap.size W T:=by rw [hT];exact (zB _ _).alloc (zA _) _
 have hBT:Box T W.heap.size [.slice ao y.length cap]:=by rw [hT];exact Box.new W [.slice ao y.length cap] _
 have c0:=cell_regrown (hBT.cell 0 _ rfl);have c1:=cell_regrown ((hO.on hbT).cell 0 _ rfl);have c2:=cell_regrown ((hF.on hbT).cell 0 _ rfl);have c3:=cell_regrown ((hF.on hbT).cell 1 _ rfl);have c4:=cell_regrown ((hE.on hbT).cell 0 _ rfl);have hoT:=RdInt64SS.onn ho hbT;have hyT:=Rds.onn hy hbT;have hk:=fun x os=>hasEqual_c (w:=grow (redrawn T x) os) (f:=f) (t:=t) (RdInt64SS.below hoT (below_regrown T x os) (zA _)) (Rds.regrown hyT (zA _) x os) hC ht;unfold outM;obtain ⟨R,hR⟩:∃ R,hasE o f t y=R:=⟨_,rfl⟩;rw [hR] at hk |-;have Hk:=hid hk;have HT:=hid hT;have HbT:=hid hbT;clear hk hT hbT hBT hO hF hE ho hy hoT hyT hC hR;generalize o.length=n at *
 generalize y.length=m at *
 go_enter Tryz.func200,Tryz.ntmps200;go_upto_region 1 with fail;rw [<- HT.out];refine wp_region_quiet_below (by kernel_rfl) (by kernel_rfl) ?_;repeat ((with_reducible refine wpQuiet_step (fun K hK=>?_));go_simp;first | ((with_reducible refine hK _ ?_);clear hK K) | (apply Exists.intro;refine ⟨fun _=>?_,hK _ ?_⟩;((first | (go_at_call 201;with_reducible exact yAG (Hk.out _ _))));clear hK K))
 refine wpQuiet_nil ?_;intro _ hw';obtain ⟨⟨dq,osq⟩,hw''⟩:=hw';subst hw'';have hbq:=below_regrown T dq osq;generalize grow (redrawn T dq) osq=wq at hbq |-;have Hb1:=hid (HbT.out.trans (hbq.mono HbT.out.size));clear hbq c0 c1 c2 c3 c4;go_wp2;go_ret;exact ⟨yAC (by cases R <;> cases eq <;> rfl),Hb1.out⟩
theorem indexMD {xss:List (List Int)} {v:Value} {w:World} {A:Nat} {p:List Int->Bool} {c1 c2 c3:Nat} (ha:RdInt64SS A w v xss)
 (hclo:∀ (W:World) (u:Value) (y:List Int),y∈xss->Below w.heap.size w W->RdI W.heap.size W u y->Calls Tryz.prog 200 #[.agg #[u],.pointer (some ⟨c1,0,none⟩),.pointer (some ⟨c2,0,none⟩),.pointer (some ⟨c3,0,none⟩)] W fun e w'=>e=.returned (.bool (p y))/\Below W.heap.size W w') :
 Calls Tryz.prog 151 #[v,.func (.func 200) #[] #[.pointer (some ⟨c1,0,none⟩),.pointer (some ⟨c2,0,none⟩),.pointer (some ⟨c3,0,none⟩)]] w fun e w' =>
  (∃ r:Int,e=.returned (.int .i64 r)/\-1<=r/\((0<=r ↔ xss.any p=true)/\(0<=r->r.toNat<xss.length/\(xss.take r.toNat).any p=false/\∀ x,xss[r.toNat]?=some x->p x=true)))/\Below w.heap.size w w':=by
 have hle:=ha.le;obtain ⟨ao,cap,rfl,ho⟩:=ha.open;obtain ⟨n,hn⟩:∃ n,n=xss.length:=⟨_,rfl⟩;rw [<- hn];have Hn:=hid hn;have Ho:=hid ho;have Hclo:=hid hclo;have hle':n<=9223372036854775807:=by omega
 clear ho hn hle ha hclo;go_enter Tryz.func151,Tryz.ntmps151;go_wp2;go_loopw [8] (fun i wr=>∃ k:Nat,k<=n/\i=.int .i64 k/\Hid ((xss.take k).any p=false)/\Below w.heap.size w wr) (fun i _=>n - (intOf i).toNat)
 case atStart=>exact ⟨0,zK _,rfl,rfl,zB _ _⟩
 case round =>
  obtain ⟨k,hk,rfl,hp,hbb⟩:=hrel;by_cases hkn:k<n
  . obtain ⟨b,off,rfl,hlt,hc⟩:=Ho.out (by have:=Hn.out;omega)
    obtain ⟨y,ro,rc,hy,hcell,hrd⟩:=hc k (by have:=Hn.out;omega);have Hy:=hid hy;replace hcell:=(hbb.cell (p:=⟨b,off+k,none⟩) hlt.2).trans hcell;have hcon:=Hclo.out wr _ _ (zC hy) hbb (Rds.onn hrd hbb);have Hcon:=hid hcon;have Hbb:=hid hbb;clear hy hc hrd hcon hbb;go_wp2_with fail;with_reducible refine Hcon.out.mono ?_
    cases hq:p y with
    | true =>
     have Hq:=hid hq;clear hq;rintro e w1 ⟨rfl,hb1⟩;have Hb2:=hid (Hbb.out.trans (hb1.mono Hbb.out.size));clear hb1;go_wp2;go_ret;refine ⟨⟨_,rfl,by omega,?_,fun _=>?_⟩,Hb2.out⟩
     . have:xss.any p=true:=List.any_eq_true.2 ⟨y,zC Hy.out,Hq.out⟩
       simp [this]
     . rw [zR]
       exact ⟨hkn,hp.out,fun x hx=>by rw [Hy.out] at hx;cases hx;exact Hq.out⟩
    | false =>
     have Hq:=hid hq;clear hq;rintro e w1 ⟨rfl,hb1⟩;have Hb2:=hid (Hbb.out.trans (hb1.mono Hbb.out.size));clear hb1 hcell Hcon;go_wp2;go_roundw
     case rel=>exact ⟨k+1,by omega,by go_num,by show _=false;rw [yAD Hy.out,List.any_append,hp.out];simp [Hq.out],Hb2.out⟩
     case measure=>simp [intOf];omega
  . go_wp2
    go_ret;refine ⟨⟨_,rfl,by omega,?_,fun h=>by omega⟩,hbb⟩;have hq:=hp.out;rw [zH (by have:=Hn.out;omega)] at hq;simp [hq]
theorem deleteMD {d:List (List Int)} {v:Value} {w:World} {base:Nat} {p:List Int->Bool} {c1 c2 c3:Nat} (ho:OwnCardS base w v d) (hl:d.length<=1000) (hB:base<=w.heap.size)
 (hclo:∀ (W:World) (u:Value) (y:List Int),y∈d->Below base w W->RdI W.heap.size W u y->Calls Tryz.prog 200 #[.agg #[u],.pointer (some ⟨c1,0,none⟩),.pointer (some ⟨c2,0,none⟩),.pointer (some ⟨c3,0,none⟩)] W fun e w'=>e=.returned (.bool (p y))/\Below W.heap.size W w') :
 Calls Tryz.prog 199 #[v,.func (.func 200) #[] #[.pointer (some ⟨c1,0,none⟩),.pointer (some ⟨c2,0,none⟩),.pointer (some ⟨c3,0,none⟩)]] w fun e w'=>(∃ r,e=.returned r/\OwD base w' r (d.filter (fun y=>!p y)))/\Below base w w':=by
 obtain ⟨ao0,c0,rfl⟩:=OwnTM.shape ho;have hidx:=indexMD (w:=w) (p:=p) ho.rds (fun W u y hy hW hu=>hclo W u y hy (hW.mono hB) hu);obtain ⟨n,hn⟩:∃ n,n=d.length:=⟨_,rfl⟩;rw [<- hn] at hl ho hidx |-;have Hn:=hid hn;have Ho:=hid ho;have Hclo:=hid hclo;have Hidx:=hid hidx;clear hn ho hclo hidx;go_enter Tryz.func199,Tryz.ntmps199;go_wp2_with fail;with_reducible refine Hidx.out.mono ?_
 rintro e w1 ⟨⟨r,rfl,hr0,hri,hrk⟩,hb1⟩;by_cases hr:r=-1
 . have Hany:Hid (d.any p=false):=hid (by cases h:d.any p with | false=>rfl | true=>have:=hri.2 h;omega)
   have hd:OwD base w1 (.slice ao0 n c0) (d.filter (fun y=>!p y)):=by
    have h1:d.filter (fun y=>!p y)=d:=List.filter_eq_self.2 (fun y hy=>by have:=List.any_eq_false.1 Hany.out y hy;simpa using this);rw [h1];exact (OwD.own Ho.out).onB hb1
   have Hd:=hid hd;have Hb:=hid (hb1.mono hB);subst hr;clear hb1 hri hrk hd hr0;go_wp2;go_ret;exact ⟨⟨_,rfl,Hd.out⟩,Hb.out⟩
 . obtain ⟨k0,rfl⟩:∃ k0:Nat,r=(k0:Int):=⟨r.toNat,by omega⟩
   have h2:=hrk (by omega);rw [zR] at h2;obtain ⟨hk0,hpre,hat⟩:=h2;have hk0:k0<n:=by have:=Hn.out;omega
   have hx0:d[k0]?=some (d[k0]'(by have:=Hn.out;omega)):=zF (by have:=Hn.out;omega);have hp0:=hat _ hx0;obtain ⟨g,c9,hv,-,-,-⟩:=OwnTM.addr Ho.out (by have:=Hn.out;omega);rw [<- Hn.out] at hv;injection hv with e1 e2 e3;subst e1;subst e3;obtain ⟨hs,hO,hhl,hrows,hsep⟩:=OwnTM.orows Ho.out;have Hsep:=hid hsep;clear hsep;have hgb:base<=g:=(hO.lt g rfl).1;have hgw:g<w.heap.size:=(hO.lt g rfl).2;have HR:Hid (Rws (OwRow base w.heap.size) (fun k=>k=g\/k<base) w (hs.take k0) ((d.take k0).filter (fun y=>!p y))):=hid (by
    have h1:(d.take k0).filter (fun y=>!p y)=d.take k0:=List.filter_eq_self.2 (fun y hy=>by have:=List.any_eq_false.1 hpre y hy;simpa using this);rw [h1];refine ⟨by rw [zI,zI,hhl],fun i h x q1 q2=>?_⟩;rw [List.getElem?_take] at q1 q2;split at q1
    . rename_i hi
      rw [if_pos hi] at q2;exact hrows i h x q1 q2
    . cases q1)
   have HR0:Hid (Rws (OwRow base w.heap.size) (fun k=>k=g\/k<base) w (hs.take k0) ((d.take (k0+1)).filter (fun y=>!p y))):=hid (by
    rw [yAD hx0,List.filter_append,show [d[k0]'(by have:=Hn.out;omega)].filter (fun y=>!p y)=[] by simp [hp0],List.append_nil];exact HR.out)
   have HO1:Hid (Own eS 69 base w1 (.slice (some ⟨g,0,none⟩) n c0) hs):=hid (hO.below hb1 (zA _));have HA1:Hid (Agr (fun k=>k=g) w w1):=hid (Agr.on hb1);have Hhs:=hid (show n=hs.length by rw [hhl];exact Hn.out);have Hrows:=hid hrows;have Hgb:=hid hgb;have Hgw:=hid hgw;have hkn1:((k0:Int) == -1)=false:=beq_eq_false_iff_ne.2 (by omega);clear hat hx0 hp0 hO hhl hrows hb1 hri hrk hpre HR e2 hgb hgw;go_wp2;go_loopw [5,6,7] (fun iv jv _ wr=>∃ (i j:Nat) (hs':List SlV),i<j/\j<=n/\iv=.int .i64 i/\jv=.int .i64 j/\Hid (n=hs'.length/\(hs'.take i).Sublist (hs.take j))/\Hid (hs'.drop j=hs.drop j)/\Hid (Rws (OwRow base w.heap.size) (fun k=>k=g\/k<base) w (hs'.take i) ((d.take j).filter (fun y=>!p y)))/\Hid (Own eS 69 base wr (.slice (some ⟨g,0,none⟩) n c0) hs')/\Hid (Agr (fun k=>k=g) w wr)) (fun _ j _ _=>n - (intOf j).toNat)
   case atStart=>exact ⟨k0,k0+1,hs,by omega,by omega,rfl,by go_num,hid ⟨Hhs.out,List.take_sublist_take_left (by omega)⟩,hid rfl,HR0,HO1,HA1⟩
   case round =>
    obtain ⟨i,j,hs',hij,hjn,rfl,rfl,Hls,Hdr,HRs,HO,HA⟩:=hrel;have Hl':=hid Hls.out.1;have Hsu:=hid Hls.out.2;clear Hls;clear HO1 HA1 HR0;by_cases hj:j<n
    . obtain ⟨x,hx⟩:∃ x,d[j]?=some x:=⟨_,zF (by have:=Hn.out;omega)⟩
      obtain ⟨h,hh⟩:∃ h,hs[j]?=some h:=⟨_,zF (by have:=Hhs.out;omega)⟩;have hh':hs'[j]?=some h:=by
       have e:=congrArg (fun l=>l[0]?) Hdr.out;simp only [List.getElem?_drop,Nat.add_zero] at e;rw [e];exact hh
      have hfr:=Hrows.out j h x hh hx;have hrow:RdI wr.heap.size wr h.val x:=OwRow.rd (hfr.step HA.out (fun k h _=>.inl h) (S'':=fun _=>False) (fun k h _=>h.elim)).now;obtain ⟨ro,rc,hhv⟩:=hrow.shape;have hcj:wr.cell? ⟨g,j,none⟩=some (.slice ro x.length rc):=by
       have h9:=Own.cellS HO.out Hl'.out hh';rw [h9,hhv]
      obtain ⟨hci,hfi⟩:=Own.cellE (E:=eS) HO.out Hl'.out (k:=i) (j:=0) (by omega) (by decide);simp only [show eS.sz=1 from rfl,Nat.mul_one,Nat.add_zero] at hci hfi;rw [hhv] at hrow;obtain ⟨W,hW⟩:∃ W,W=wr.alloc (.cells #[.slice ro x.length rc] 69):=⟨_,rfl⟩;have hbW:Below wr.heap.size wr W:=by rw [hW];exact (zB _ _).alloc (zA _) _
      have hX:Box W wr.heap.size [.slice ro x.length rc]:=by rw [hW];exact Box.new wr [.slice ro x.length rc] _
      have hAW:=HA.out.trans (Agr.on (S:=fun k=>k=g) hbW) (fun k h _=>h);have hcon:=Hclo.out W _ x (zC hx) (hAW.below (fun k h=>by have:=Hgb.out;omega) hB) (Rds.onn hrow hbW);have HOW:=hid (HO.out.below hbW (zA _));have HAW:=hid hAW;have Hcon:=hid hcon;have HX:=hid hX;have HW:=hid hW;have Hhv:=hid hhv;have Hfr:=hid hfr;have Hx:=hid hx;have Hh':=hid hh';have Hh:=hid hh;have hzr:=HA.out.size;have hbx:g ≠ wr.heap.size:=by have:=Hgw.out;omega
      have x0:=hX.cell 0 _ rfl;clear hcon hW hbW hX hAW hhv hfr hrow hx hh hh' HA HO;obtain ⟨N,hN⟩:∃ N,x.length=N:=⟨_,rfl⟩;rw [hN] at HW hcj HX Hcon Hhv x0;clear hN;go_upto_region 8 with fail;rw [<- HW.out];cases hq:p x with
      | false =>
       rw [hq] at Hcon;have Hq:=hid hq;clear hq;go_wp2_with fail;with_reducible refine Hcon.out.mono ?_
       rintro e w2 ⟨rfl,hb2⟩;have hO2:=HOW.out.below hb2 (zA _);obtain ⟨⟨u9,hc2⟩,hf2⟩:=Own.cellE (E:=eS) hO2 Hl'.out (k:=i) (j:=0) (by omega) (by decide);have hk2:hs'[i]?=some (hs'[i]'(by have:=Hl'.out;omega)):=zF (by have:=Hl'.out;omega);have hst:=Own.store1 (E:=eS) (by decide) hO2 Hl'.out (x:=hs'[i]'(by have:=Hl'.out;omega)) (y:=h) (v:=.slice ro N rc) hk2 (j:=0) (by decide) (by rw [<- Hhv.out];rfl) trivial;simp only [show eS.sz=1 from rfl,Nat.mul_one,Nat.add_zero] at hst hc2 hf2;have hx2:=HX.out.on hb2;have x2:=hx2.cell 0 _ rfl;have HO3:=hid hst.1;have HA3:=hid ((HAW.out.trans (Agr.on (S:=fun k=>k=g) hb2) (fun k h _=>h)).trans (Agr.of_grown1 (S:=fun k=>k=g) hst.2 rfl) (fun k h _=>h));clear hO2 hst hb2 hx2 hcj x0 hci hfi hk2;go_wp2;go_roundw
       case rel =>
        refine ⟨i+1,j+1,hs'.set i h,by omega,by omega,by go_num,by go_num,hid ⟨by rw [List.length_set];exact Hl'.out,?_⟩,hid ?_,hid ?_,HO3,HA3⟩
        . have e1:(hs'.set i h).take (i+1)=hs'.take i++[h]:=by
           have hil:i<hs'.length:=by have:=Hl'.out;omega
           rw [List.take_add_one,List.take_set_of_le (zA i),List.getElem?_set_self hil];rfl
          rw [e1,yAD Hh.out];exact Hsu.out.append (List.Sublist.refl _)
        . rw [List.drop_set_of_lt (by omega)]
          have e:=congrArg (List.drop 1) Hdr.out;simpa [List.drop_drop] using e
        . have e1:(hs'.set i h).take (i+1)=hs'.take i++[h]:=by
           have hil:i<hs'.length:=by have:=Hl'.out;omega
           rw [List.take_add_one,List.take_set_of_le (zA i),List.getElem?_set_self hil];rfl
          have e2:(d.take (j+1)).filter (fun y=>!p y)=(d.take j).filter (fun y=>!p y)++[x]:=by
           rw [yAD Hx.out,List.filter_append,show [x].filter (fun y=>!p y)=[x] by simp [Hq.out]]
          rw [e1,e2];exact HRs.out.snoc Hfr.out
       case measure=>simp [intOf];omega
      | true =>
       rw [hq] at Hcon;have Hq:=hid hq;clear hq;go_wp2_with fail;with_reducible refine Hcon.out.mono ?_
       rintro e w2 ⟨rfl,hb2⟩;have HO3:=hid (HOW.out.below hb2 (zA _));have HA3:=hid (HAW.out.trans (Agr.on (S:=fun k=>k=g) hb2) (fun k h _=>h));clear hb2 hcj x0 hci hfi;go_wp2;go_roundw
       case rel =>
        refine ⟨i,j+1,hs',by omega,by omega,rfl,by go_num,hid ⟨Hl'.out,Hsu.out.trans (List.take_sublist_take_left (by omega))⟩,hid ?_,hid ?_,HO3,HA3⟩
        . have e:=congrArg (List.drop 1) Hdr.out
          simpa [List.drop_drop] using e
        . have e2:(d.take (j+1)).filter (fun y=>!p y)=(d.take j).filter (fun y=>!p y):=by
           rw [yAD Hx.out,List.filter_append,show [x].filter (fun y=>!p y)=[] by simp [Hq.out],List.append_nil]
          rw [e2];exact HRs.out
       case measure=>simp [intOf];omega
    . obtain rfl:j=n:=by omega
      have hltz:¬ (j:Int)<(j:Int):=by omega
      obtain ⟨hs9,h91,h92,h93,h94⟩:=ownS_clear (j - i) i wr hs' HO.out Hl'.out (by omega);have hcz:c0=c0:=rfl;have hcap:=(HO.out.rds).cap.1;have hcl:∀ ty,(Builtin.clear_ #[24] ty #[.slice (some ⟨g,i,none⟩) (j - i) (c0 - i)]).run Tryz.prog wr=.ok (.tuple #[]) (wr.setCells g i (List.replicate (j - i) (.slice none 0 0))) :=
       fun ty=>run_clear_card wr _ _ ty _ _ Tryz.underlying24 (fun w=>zeroS_run w) rfl rfl g i _ _ (by omega)
        (fun t ht=>by have h:=(Own.cellE (E:=eS) HO.out Hl'.out (k:=i+t) (j:=0) (by omega) (by decide)).1;simp only [show eS.sz=1 from rfl,Nat.mul_one,Nat.add_zero] at h;obtain ⟨u,hu⟩:=h;rw [hu];rfl)
        (fun t ht=>by have h:=(Own.cellE (E:=eS) HO.out Hl'.out (k:=i+t) (j:=0) (by omega) (by decide)).2;simp only [show eS.sz=1 from rfl,Nat.mul_one,Nat.add_zero] at h;exact h)
      have hAf:=HA.out.trans h94 (fun k h _=>h);have HF:Hid (OwD base (wr.setCells g i (List.replicate (j - i) (.slice none 0 0))) (.slice (some ⟨g,0,none⟩) i c0) (d.filter (fun y=>!p y))):=hid (by
       have hR:=HRs.out;rw [show d.take j=d from zH (by have:=Hn.out;omega),<- h93] at hR;exact OwD.of_rows h91 h92.symm (by omega) hR hAf hAf.size (by rw [h93];exact Hsep.out.sub (Hsu.out.trans (List.take_sublist _ _))))
      have HB9:Hid (Below base w (wr.setCells g i (List.replicate (j - i) (.slice none 0 0)))):=hid (hAf.below (fun k h=>by have:=Hgb.out;omega) hB);have hij2:(i:Int)<=(j:Int):=by omega
      have hic:(i:Int)<=(c0:Int):=by omega
      have hjc:(j:Int)<=(c0:Int):=by omega
      generalize wr.setCells g i (List.replicate (j - i) (.slice none 0 0))=W9 at hcl HF HB9;clear h91 h92 h93 h94 hAf hcz;go_wp2;go_ret;exact ⟨⟨_,rfl,HF.out⟩,HB9.out⟩
theorem matched_c {d o:List (List Int)} {u v:Value} {w:World} {A B q:Nat} {f t:Int} (eq:Bool) (hF:Box w q [.int .i64 f,.int .i64 t]) (hd:RdInt64SS A w u d) (ho:RdInt64SS B w v o) (hr:RowsOk d) (hCd:ColsOk d f t) (hCo:ColsOk o f t) :
 Calls Tryz.prog 198 #[u,v,.bool eq,.pointer (some ⟨q,0,none⟩)] w fun e w'=>(∃ r,e=.returned r/\OwD w.heap.size w' r (d.filter (fun y=>!outM o f t eq y)))/\Below w.heap.size w w':=by
 obtain ⟨uo,uc,rfl⟩:=hd.shape;obtain ⟨vo,vc,rfl⟩:=ho.shape;obtain ⟨T,hT⟩:∃ T,T=(w.alloc (.cells #[.slice vo o.length vc] 24)).alloc (.cells #[.bool eq] 4):=⟨_,rfl⟩;have z1:(w.alloc (.cells #[.slice vo o.length vc] 24)).heap.size=w.heap.size+1:=by simp
 have hP:Box T w.heap.size [.slice vo o.length vc]:=by rw [hT];exact (Box.new w [.slice vo o.length vc] _).alloc _
 have hQ:Box T (w.heap.size+1) [.bool eq]:=by
  have h:=Box.new (w.alloc (.cells #[.slice vo o.length vc] 24)) [.bool eq] 4;rw [z1,<- hT] at h;exact h
 have hbT:Below w.heap.size w T:=by rw [hT];exact ((zB _ _).alloc (zA _) _).alloc (by rw [z1];omega) _
 have hnd:=newDeck_c (RdInt64SS.onn hd hbT) hr;have Hnd:=hid hnd;have HP:=hid hP;have HQ:=hid hQ;have HF:=hid (hF.on hbT);have Ho:=hid (RdInt64SS.onn ho hbT);have HCd:=hid hCd;have HCo:=hid hCo;have HT:=hid hT;have HbT:=hid hbT;have hl:d.length<=1000:=by have:=hr.1;omega
 clear hnd hP hQ hF ho hd hCd hCo hT hbT z1 hr;obtain ⟨n,hn⟩:∃ n,n=d.length:=⟨_,rfl⟩;obtain ⟨m,hm⟩:∃ m,m=o.length:=⟨_,rfl⟩;rw [<- hn] at Hnd hl |-;rw [<- hm] at HP Ho HT |-;have Hn:=hid hn;have Hm:=hid hm;clear hn hm;go_enter Tryz.func198,Tryz.ntmps198;go_upto_region 1 with fail;rw [<- HT.out];go_wp2_with fail;with_reducible refine Hnd.out.mono ?_
 rintro e w2 ⟨⟨r,rfl,hO⟩,hb2⟩;have hP2:=HP.out.on hb2;have hQ2:=HQ.out.on hb2;have hF2:=HF.out.on hb2;have ho2:=RdInt64SS.onn Ho.out hb2;have p1:=HP.out.lt;have p2:=HQ.out.lt;have p3:=HF.out.lt;have hdel:=deleteMD (w:=w2) (base:=T.heap.size) (p:=outM o f t eq) (c1:=w.heap.size) (c2:=q) (c3:=w.heap.size+1) hO (by have:=Hn.out;omega) hb2.size (fun V u y hy hV hu =>
  clo_MD (hP2.below hV p1) (hF2.below hV p3) (hQ2.below hV p2) (RdInt64SS.mono (RdInt64SS.below (RdInt64SS.below Ho.out hb2 (zA _)) hV (zA _)) (zO hb2.size hV.size)) hu HCo.out (HCd.out.2 y hy))
 have Hdel:=hid hdel;have hz1:=HbT.out.size;have Hb2:=hid (HbT.out.trans (hb2.mono hz1));clear hO hb2 hP2 hQ2 hF2 ho2 p1 p2 p3 hdel;go_wp2_with fail;with_reducible refine Hdel.out.mono ?_
 rintro e w3 ⟨⟨r3,rfl,hF3⟩,hb3⟩;have HFr:=hid (hF3.mono hz1);have Hb3:=hid (Hb2.out.trans (hb3.mono hz1));clear hF3 hb3;go_wp2;go_ret;exact ⟨⟨_,rfl,HFr.out⟩,Hb3.out⟩
theorem fil_true (a b:List (List Int)) (f t:Int):a.filter (fun y=>!outM b f t true y)=a.filter (hasE b f t):=by
 refine List.filter_congr fun y _=>?_;unfold outM;cases hasE b f t y <;> rfl
theorem fil_false (a b:List (List Int)) (f t:Int):a.filter (fun y=>!outM b f t false y)=a.filter (fun y=>!hasE b f t y):=by
 refine List.filter_congr fun y _=>?_;unfold outM;cases hasE b f t y <;> rfl
def MtPostO (R:Int) (d1 d3:List (List Int)) (n:Nat) (e:Ending) (w':World):Prop :=
 ∃ r,e=.returned (.tuple #[r,.int .i64 R])/\(R=0->∃ g r1 r2 r3 r4,r=.slice (some ⟨g,0,none⟩) 4 4/\Box w' g [r1,r2,r3,r4]/\OwD n w' r1 d1/\OwD n w' r3 d3)
theorem MtPostO.no {R:Int} {d1 d3:List (List Int)} {n:Nat} {e:Ending} {w':World} {r:Value} (h:e=.returned (.tuple #[r,.int .i64 R])) (hR:R ≠ 0):MtPostO R d1 d3 n e w':=⟨r,h,fun q=>absurd q hR⟩
theorem MtPostO.yes {R:Int} {d1 d3:List (List Int)} {n:Nat} {w:World} {e:TypeId} {r1 c1 r3 c3:Value} (h1:OwD n w r1 d1) (h3:OwD n w r3 d3) (hn:n<=w.heap.size) :
 MtPostO R d1 d3 n (.returned (.tuple #[.slice (some ⟨w.heap.size,0,none⟩) 4 4,.int .i64 R])) (w.alloc (.cells #[r1,c1,r3,c3] e)) :=
 have hb:Below w.heap.size w (w.alloc (.cells #[r1,c1,r3,c3] e)):=(zB _ _).alloc (zA _) _
 ⟨_,rfl,fun _=>⟨_,r1,c1,r3,c3,rfl,Box.new w [r1,c1,r3,c3] e,h1.onB hb,h3.onB hb⟩⟩
theorem MatchDecks_c {a b:List (List Int)} {u v:Value} {w:World} {A B:Nat} {f t:Int} (ha:RdInt64SS A w u a) (hb:RdInt64SS B w v b) :
 Calls Tryz.prog 182 #[u,v,.agg #[.int .i64 f,.int .i64 t]] w fun e w'=>MtPostO (matC a b f t) (a.filter (hasE b f t)) (a.filter (fun y=>!hasE b f t y)) w.heap.size e w'/\Below w.heap.size w w':=by
 obtain ⟨i0,hi,hz0,hz1,hz2c⟩:=info_parts Tryz.infoCard;obtain ⟨ao,ac,rfl⟩:=ha.shape;obtain ⟨bo,bc,rfl⟩:=hb.shape;obtain ⟨T,hT⟩:∃ T,T=w.alloc (.cells #[.int .i64 f,.int .i64 t] 27):=⟨_,rfl⟩;have hbT:Below w.heap.size w T:=by rw [hT];exact (zB _ _).alloc (zA _) _
 have hBT:Box T w.heap.size [.int .i64 f,.int .i64 t]:=by rw [hT];exact Box.new w [.int .i64 f,.int .i64 t] _
 have haT:=RdInt64SS.onn ha hbT;have hbT2:=RdInt64SS.onn hb hbT;obtain ⟨T2,hT2⟩:∃ T2,T2=T.alloc (.cells #[.slice ao a.length ac,.slice bo b.length bc] 24):=⟨_,rfl⟩;have hbb:Below T.heap.size T T2:=by rw [hT2];exact (zB _ _).alloc (zA _) _
 have hds:RdDs T2.heap.size T2 (.slice (some ⟨T.heap.size,0,none⟩) 2 2) [a,b]:=by
  rw [hT2];refine RdDs.lit (n:=2) (ds:=[a,b]) (hs:=[⟨ao,a.length,ac⟩,⟨bo,b.length,bc⟩]) rfl rfl rfl (by omega) _ (fun i h x e1 e2=>?_);match i,e1,e2 with
  | 0,e1,e2=>cases e1;cases e2;exact haT
  | 1,e1,e2=>cases e1;cases e2;exact hbT2
 have hcc:=collateCode_c (f:=f) (t:=t) (ts:=[]) hds (Rds.nil eT 0 T2) (by simp) (by simp) (by simp);obtain ⟨C,hC⟩:∃ C,C=colC [a,b] f t []:=⟨_,rfl⟩;rw [<- hC] at hcc;have HC:=hid hC;have Hcc:=hid hcc;have hB2:=hBT.on hbb;have f0:=hBT.cell 0 _ rfl;have f1:=hBT.cell 1 _ rfl;have Hb2:=hid (hbT.trans (hbb.mono hbT.size));have HB2:=hid hB2;have Ha2:=hid (RdInt64SS.onn haT hbb);have HbD2:=hid (RdInt64SS.onn hbT2 hbb);have HT:=hid hT;have HT2:=hid hT2;clear hT hbT hBT haT hbT2 hT2 hbb hds hcc hB2 hC ha hb;obtain ⟨R,hR⟩:∃ R,matC a b f t=R:=⟨_,rfl⟩;rw [hR];have HR:=hid hR;clear hR;obtain ⟨n,hn⟩:∃ n,n=a.length:=⟨_,rfl⟩;obtain ⟨m,hm⟩:∃ m,m=b.length:=⟨_,rfl⟩;rw [<- hn] at Ha2 HT2 |-;rw [<- hm] at HbD2 HT2 |-;have Hn:=hid hn;have Hm:=hid hm;clear hn hm;go_enter Tryz.func182,Tryz.ntmps182;go_upto_region 1 with fail;rw [<- HT.out];go_wp2_with fail;rw [<- HT2.out];with_reducible refine Hcc.out.mono ?_
 rintro e w1 ⟨rfl,hb1⟩;have hB1:=HB2.out.on hb1;have ha1:=RdInt64SS.onn Ha2.out hb1;have hd1:=RdInt64SS.onn HbD2.out hb1;have g0:=hB1.cell 0 _ rfl;have g1:=hB1.cell 1 _ rfl;have HB1:=hid hB1;have Ha1:=hid ha1;have Hd1:=hid hd1;have Hb1:=hid (Hb2.out.trans (hb1.mono Hb2.out.size));clear hb1 hB1 ha1 hd1 f0 f1;by_cases hc0:C=0
 . have hz:=twoC_zero (a:=a) (b:=b) (f:=f) (t:=t) (by unfold twoC;rw [<- HC.out];exact hc0)
   have HZ:=hid hz;have HR2:Hid (R=if ¬ (ascB a f t=true/\ascB b f t=true) then 6 else 0):=hid (by rw [<- HR.out];unfold matC;rw [if_neg (by unfold twoC;rw [<- HC.out];exact fun h=>h hc0)]);subst hc0;have hla:=(yAE hz.1.1).1;have hlb:=(yAE hz.2.1).1;rw [<- Hn.out] at hla;rw [<- Hm.out] at hlb;clear hz;have Ha4:=Ha1;have Hd4:=Hd1;have HB4:=HB1;have Hb4:=Hb1;obtain ⟨w4,hw4⟩:∃ x,x=w1:=⟨_,rfl⟩;subst hw4;obtain ⟨p,hp⟩:∃ p,p=decide (¬ (ascB a f t=true/\ascB b f t=true)):=⟨_,rfl⟩;have Hp:=hid hp;clear hp;go_upto_region 4 with fail;go_cut [19] (fun c wx=>c=.bool p/\Hid (Below w4.heap.size w4 wx))
   case first =>
    have h1:=isAscending_c Ha4.out (yAR HZ.out.1.1 HZ.out.1.2.1) (by have:=Hn.out;omega);cases hxa:ascB a f t with
    | false =>
     rw [hxa] at h1;have H1:=hid h1;have hp0:Hid (p=true):=hid (by rw [Hp.out];exact decide_eq_true (fun h=>by rw [hxa] at h;cases h.1));clear h1 hxa;go_wp2_with fail;with_reducible refine H1.out.mono ?_
     rintro e w5 ⟨rfl,hb5⟩;have Hb5:=hid hb5;clear hb5;go_wp2_with fail;go_meet;exact ⟨by rw [hp0.out],Hb5⟩
    | true =>
     rw [hxa] at h1;have H1:=hid h1;have Hxa:=hid hxa;clear h1 hxa;go_wp2_with fail;with_reducible refine H1.out.mono ?_
     rintro e w5 ⟨rfl,hb5⟩;have hB5:=HB4.out.on hb5;have k0:=hB5.cell 0 _ rfl;have k1:=hB5.cell 1 _ rfl;have h2:=isAscending_c (RdInt64SS.onn Hd4.out hb5) (yAR HZ.out.2.1 HZ.out.2.2.1) (by have:=Hm.out;omega);obtain ⟨y,hy⟩:∃ y,y=ascB b f t:=⟨_,rfl⟩;rw [<- hy] at h2;have Hy:=hid hy;have H2:=hid h2;have Hb5:=hid hb5;clear h2 hb5 hB5 hy g0 g1;go_wp2_with fail;with_reducible refine H2.out.mono ?_
     rintro e w6 ⟨rfl,hb6⟩;have Hb6:Hid (Below w4.heap.size w4 w6):=hid (Hb5.out.trans (hb6.mono Hb5.out.size));clear hb6;go_wp2_with fail;go_meet;refine ⟨?_,Hb6⟩;rw [Hp.out,Hxa.out,<- Hy.out];cases y <;> rfl
   case rest =>
    obtain ⟨rfl,Hc⟩:=hcut;obtain ⟨w6,hw6⟩:∃ x,x=wc:=⟨_,rfl⟩;subst hw6;have hB6:=HB4.out.on Hc.out;have g0:=hB6.cell 0 _ rfl;have g1:=hB6.cell 1 _ rfl;have Ha6:=hid (RdInt64SS.onn Ha4.out Hc.out);have Hd6:=hid (RdInt64SS.onn Hd4.out Hc.out);have HB6:=hid hB6;have Hb6:=hid (Hb4.out.trans (Hc.out.mono Hb4.out.size));clear hB6 Hc;cases p with
    | true =>
     have HE:Hid (R=6):=hid (by rw [HR2.out,if_pos (of_decide_eq_true Hp.out.symm)]);go_wp2;go_ret2;exact ⟨MtPostO.no (r:=.slice none 0 0) (by rw [HE.out];rfl) (by rw [HE.out];decide),Hb6.out⟩
    | false =>
     have HE:Hid (R=0):=hid (by rw [HR2.out,if_neg (of_decide_eq_false Hp.out.symm)]);have HCa:=hid (yAR HZ.out.1.1 HZ.out.1.2.1);have HCb:=hid (yAR HZ.out.2.1 HZ.out.2.2.1);have Hra:=hid (yAV HZ.out.1.1);have Hrb:=hid (yAV HZ.out.2.1);have h1:=matched_c true HB6.out Ha6.out Hd6.out Hra.out HCa.out HCb.out;have H1:=hid h1;clear h1 g0 g1;go_wp2_with fail;with_reducible refine H1.out.mono ?_
     rintro e wa ⟨⟨ra,rfl,hFa⟩,hba⟩;have h2:=matched_c true (HB6.out.on hba) (RdInt64SS.onn Hd6.out hba) (RdInt64SS.onn Ha6.out hba) Hrb.out HCb.out HCa.out;have H2:=hid h2;have HFa:=hid hFa;have Hba:=hid hba;clear h2 hFa hba;go_wp2_with fail;with_reducible refine H2.out.mono ?_
     rintro e wb ⟨⟨rb,rfl,hFb⟩,hbb⟩;have HFb:=hid hFb;have HFa2:=hid (HFa.out.onB hbb);have Hbb:=hid (Hba.out.trans (hbb.mono Hba.out.size));clear hFb hbb;have h3:=matched_c false (HB6.out.on Hbb.out) (RdInt64SS.onn Ha6.out Hbb.out) (RdInt64SS.onn Hd6.out Hbb.out) Hra.out HCa.out HCb.out;have H3:=hid h3;clear h3;go_wp2_with fail;with_reducible refine H3.out.mono ?_
     rintro e wx ⟨⟨rx,rfl,hFx⟩,hbx⟩;have HFx:=hid (hFx.mono (zO Hb6.out.size Hbb.out.size));have HFa3:=hid ((HFa2.out.onB hbx).mono Hb6.out.size);have HFb3:=hid (HFb.out.onB hbx);have Hbx:=hid (Hbb.out.trans (hbx.mono Hbb.out.size));clear hFx hbx;have h4:=matched_c false (HB6.out.on Hbx.out) (RdInt64SS.onn Hd6.out Hbx.out) (RdInt64SS.onn Ha6.out Hbx.out) Hrb.out HCb.out HCa.out;have H4:=hid h4;clear h4;go_wp2_with fail;with_reducible refine H4.out.mono ?_
     rintro e wy ⟨⟨ry,rfl,hFy⟩,hby⟩;have hFa5:=HFa3.out.onB hby;have hFx5:=HFx.out.onB hby;rw [fil_true] at hFa5;rw [fil_false] at hFx5;obtain ⟨o1,k1,rfl⟩:=hFa5.shape;obtain ⟨o2,k2,rfl⟩:=HFb3.out.shape;obtain ⟨o3,k3,rfl⟩:=hFx5.shape;obtain ⟨o4,k4,rfl⟩:=hFy.shape;have Hfin:=hid (MtPostO.yes (w:=wy) (R:=R) (e:=24) (c1:=.slice o2 (b.filter (fun y=>!outM a f t true y)).length k2) (c3:=.slice o4 (b.filter (fun y=>!outM a f t false y)).length k4) hFa5 hFx5 (zO (Hb6.out.trans (Hbx.out.mono Hb6.out.size)).size hby.size));have Hby:=hid ((Hb6.out.trans (Hbx.out.mono Hb6.out.size)).trans (hby.mono (zO Hb6.out.size Hbx.out.size)));have HbA:Hid (Below w.heap.size w (wy.alloc (.cells #[.slice o1 (a.filter (hasE b f t)).length k1,.slice o2 (b.filter (fun y=>!outM a f t true y)).length k2,.slice o3 (a.filter (fun y=>!hasE b f t y)).length k3,.slice o4 (b.filter (fun y=>!outM a f t false y)).length k4] 24))):=hid (Hby.out.alloc Hby.out.size _);clear hFy hby hFa5 hFx5;go_wp2;go_ret2;refine ⟨?_,HbA.out⟩;have h9:=Hfin.out;rw [HE.out] at h9 |-;exact h9
 . have HE:Hid (R=C):=hid (by rw [<- HR.out];unfold matC;rw [if_pos (by unfold twoC;rw [<- HC.out];exact hc0)];unfold twoC;exact HC.out.symm)
   have HE0:Hid (R ≠ 0):=hid (by rw [HE.out];exact hc0);have hc1:(C != 0)=true:=by simpa using hc0
   go_wp2;go_ret2;exact ⟨MtPostO.no (r:=.slice none 0 0) (by rw [HE.out];rfl) HE0.out,Hb1.out⟩
theorem RdT.lit2 (w:World) (a b:ByteArray) (e:TypeId) (ha:a.size<=1000) (hb:b.size<=1000):Rds eT (w.alloc (.cells #[.string a,.string b] e)).heap.size (w.alloc (.cells #[.string a,.string b] e)) (.slice (some ⟨w.heap.size,0,none⟩) 2 2) [a,b] :=
 (Own.lit (E:=eT) (e:=e) (base:=w.heap.size) (w:=w) (xs:=[a,b]) (cs:=#[.string a,.string b]) (n:=2) (zA _) rfl rfl (by unfold maxLen;omega) (fun x hx=>by
  show x.size<=9223372036854775807
  rcases List.mem_cons.1 hx with h | h
  . subst h;omega
  . rcases List.mem_cons.1 h with h | h
    . subst h;omega
    . cases h)).rds
theorem RdDs.lit1 (w:World) (d:List (List Int)) (vo:Option Addr) (vc:Nat) (e:TypeId) (hd:RdInt64SS w.heap.size w (.slice vo d.length vc) d):RdDs (w.alloc (.cells #[.slice vo d.length vc] e)).heap.size (w.alloc (.cells #[.slice vo d.length vc] e)) (.slice (some ⟨w.heap.size,0,none⟩) 1 1) [d]:=by
 refine RdDs.lit (n:=1) (ds:=[d]) (hs:=[⟨vo,d.length,vc⟩]) rfl rfl rfl (by omega) _ (fun i h x e1 e2=>?_);match i,e1,e2 with
 | 0,e1,e2=>cases e1;cases e2;exact hd
theorem clo_SB {y:List Int} {u:Value} {W:World} {q1 q2 q3:Nat} {f t:Int} {lo hi:ByteArray} (hF:Box W q1 [.int .i64 f,.int .i64 t]) (hL:Box W q2 [.string lo]) (hH:Box W q3 [.string hi]) (hy:RdI W.heap.size W u y) (h0:0<=f/\f<t) (ht:t<=(y.length:Int)) (h9:y.length<=1000)
 (hl:(lo.size:Int)=t - f/\chS lo=true) (hh:(hi.size:Int)=t - f/\chS hi=true) :
 Calls Tryz.prog 209 #[.agg #[u],.pointer (some ⟨q1,0,none⟩),.pointer (some ⟨q2,0,none⟩),.pointer (some ⟨q3,0,none⟩)] W fun e w'=>e=.returned (.bool (outB f t lo hi y))/\Below W.heap.size W w':=by
 obtain ⟨ao,cap,rfl,hin⟩:=RdI.open hy;obtain ⟨b,off,rfl,_⟩:=hin (by omega);obtain ⟨T,hT⟩:∃ T,T=W.alloc (.cells #[.slice (some ⟨b,off,none⟩) y.length cap] 69):=⟨_,rfl⟩;have hbT:Below W.heap.size W T:=by rw [hT];exact (zB _ _).alloc (zA _) _
 have hBT:Box T W.heap.size [.slice (some ⟨b,off,none⟩) y.length cap]:=by rw [hT];exact Box.new W [.slice (some ⟨b,off,none⟩) y.length cap] _
 have c0:=hBT.cell 0 _ rfl;have c1:=(hF.on hbT).cell 0 _ rfl;have c2:=(hF.on hbT).cell 1 _ rfl;have c3:=(hL.on hbT).cell 0 _ rfl;have hyT:=Rds.onn hy hbT;have hk1:=compareText_c (W0:=T) f t h0.1 h0.2 ht hyT hl.1 (by omega) hl.2;have hk2:=fun (w:World) (hw:Below T.heap.size T w)=>compareText_c (W0:=w) f t h0.1 h0.2 ht (Rds.onn hyT hw) hh.1 (by omega) hh.2;unfold outB;obtain ⟨R1,hR1⟩:∃ R1,cmpN (rks (partC y f t)) (rks (cds lo))=R1:=⟨_,rfl⟩;obtain ⟨R2,hR2⟩:∃ R2,cmpN (rks (partC y f t)) (rks (cds hi))=R2:=⟨_,rfl⟩;rw [hR1] at hk1 |-;rw [hR2] at hk2 |-;have Hk1:=hid hk1;have Hk2:=hid hk2;have HT:=hid hT;have HbT:=hid hbT;have HBT:=hid hBT;have HF:=hid (hF.on hbT);have HH:=hid (hH.on hbT);clear hk1 hk2 hT hbT hBT hF hL hH hy hyT hin h0 hl hh hR1 hR2;generalize y.length=n at *
 obtain ⟨B,hB⟩:∃ B,(decide (R1<0) || decide (0<R2))=B:=⟨_,rfl⟩;rw [hB];have HB:=hid hB;clear hB;go_enter Tryz.func209,Tryz.ntmps209;go_upto_region 1 with fail;rw [<- HT.out];by_cases h1:R1<0
 . go_wp2_with fail
   with_reducible refine Hk1.out.mono ?_
   rintro e w1 ⟨rfl,hb1⟩;have Hb1:=hid (HbT.out.trans (hb1.mono HbT.out.size));clear hb1 c0 c1 c2 c3;go_wp2;go_ret;exact ⟨yAC (by rw [<- HB.out,decide_eq_true h1];rfl),Hb1.out⟩
 . have H1:=hid h1
   go_wp2_with fail;with_reducible refine Hk1.out.mono ?_
   rintro e w1 ⟨rfl,hb1⟩;have d0:=(HBT.out.on hb1).cell 0 _ rfl;have d1:=(HF.out.on hb1).cell 0 _ rfl;have d2:=(HF.out.on hb1).cell 1 _ rfl;have d3:=(HH.out.on hb1).cell 0 _ rfl;have hk:=Hk2.out w1 hb1;have Hk:=hid hk;have Hb1:=hid (HbT.out.trans (hb1.mono HbT.out.size));clear hb1 c0 c1 c2 c3 hk;go_wp2_with fail;with_reducible refine Hk.out.mono ?_
   rintro e w2 ⟨rfl,hb2⟩;have Hb2:=hid (Hb1.out.trans (hb2.mono Hb1.out.size));clear hb2 d0 d1 d2 d3;go_wp2;go_ret;exact ⟨yAC (by rw [<- HB.out,decide_eq_false (by have:=H1.out;omega)]),Hb2.out⟩
theorem SelectBetween_c {d:List (List Int)} {v:Value} {W0:World} {A:Nat} {f t:Int} {lo hi:ByteArray} (hd:RdInt64SS A W0 v d) (hlo:lo.size<=1000) (hhi:hi.size<=1000) :
 Calls Tryz.prog 197 #[v,.agg #[.int .i64 f,.int .i64 t],.string lo,.string hi] W0 fun e w'=>DkPostO (selC d f t lo hi) (fun x=>x=d.filter (fun y=>!outB f t lo hi y)) W0.heap.size e w'/\Below W0.heap.size W0 w':=by
 obtain ⟨vo,vc,rfl⟩:=hd.shape;obtain ⟨T,hT⟩:∃ T,T=((W0.alloc (.cells #[.int .i64 f,.int .i64 t] 27)).alloc (.cells #[.string lo] 9)).alloc (.cells #[.string hi] 9):=⟨_,rfl⟩;have h3:=box3F W0 [.int .i64 f,.int .i64 t] [.string lo] [.string hi] 27 9 9;rw [<- hT] at h3;obtain ⟨hP,hQ,hR,hbT⟩:=h3;have c0:=hP.cell 0 _ rfl;have c1:=hP.cell 1 _ rfl;have c2:=hQ.cell 0 _ rfl;have c3:=hR.cell 0 _ rfl;have HdT:=hid (RdInt64SS.onn hd hbT);have HP:=hid hP;have HQ:=hid hQ;have HR:=hid hR;obtain ⟨T2,hT2⟩:∃ T2,T2=T.alloc (.cells #[.string lo,.string hi] 9):=⟨_,rfl⟩;have hb2:Below T.heap.size T T2:=by rw [hT2];exact (zB _ _).alloc (zA _) _
 have ht2:Rds eT T2.heap.size T2 (.slice (some ⟨T.heap.size,0,none⟩) 2 2) [lo,hi]:=by rw [hT2];exact RdT.lit2 T lo hi _ hlo hhi
 obtain ⟨T3,hT3⟩:∃ T3,T3=T2.alloc (.cells #[.slice vo d.length vc] 24):=⟨_,rfl⟩;have hb3:Below T2.heap.size T2 T3:=by rw [hT3];exact (zB _ _).alloc (zA _) _
 have hd3:RdDs T3.heap.size T3 (.slice (some ⟨T2.heap.size,0,none⟩) 1 1) [d]:=by rw [hT3];exact RdDs.lit1 T2 d vo vc _ (RdInt64SS.onn HdT.out hb2)
 have hbb:=hb2.trans (hb3.mono hb2.size);have z2:T2.heap.size=T.heap.size+1:=by rw [hT2];simp
 have HT2:=hid hT2;have HT3:=hid hT3;have Hbb:=hid hbb;have HT:=hid hT;have HbT:=hid hbT;obtain ⟨C,hC⟩:∃ C,C=selC d f t lo hi:=⟨_,rfl⟩;rw [<- hC];have HC:=hid hC;have HCc:Hid (Calls Tryz.prog 195 #[.agg #[.int .i64 f,.int .i64 t],.bool true,.slice (some ⟨T.heap.size,0,none⟩) 2 2,.slice (some ⟨T.heap.size+1,0,none⟩) 1 1] T3 fun e w'=>e=.returned (.int .i64 C)/\Below T3.heap.size T3 w'):=hid (by
  have h:=collateCode_c (f:=f) (t:=t) hd3 (Rds.onn ht2 hb3) (by simp) (by simp) (by simp);unfold selC at hC;rw [<- hC,z2] at h;exact h)
 clear hd hT hP hQ hR hbT hlo hhi hC z2 hT2 hT3 hb2 hb3 ht2 hd3 hbb;obtain ⟨n,hn⟩:∃ n,n=d.length:=⟨_,rfl⟩;rw [<- hn] at HdT HT3 |-;have Hn:=hid hn;clear hn;go_enter Tryz.func197,Tryz.ntmps197;go_upto_region 1 with fail;rw [<- HT.out];go_wp2_with fail;rw [<- HT2.out,<- HT3.out];with_reducible refine HCc.out.mono ?_
 rintro e wq ⟨rfl,hb9⟩;have hCC:Below T.heap.size T wq:=Hbb.out.trans (hb9.mono Hbb.out.size);have Hb1:=hid (HbT.out.trans ((Hbb.out.trans (hb9.mono Hbb.out.size)).mono HbT.out.size));have hP1:=HP.out.on hCC;have hQ1:=HQ.out.on hCC;have hR1:=HR.out.on hCC;have hd1:=RdInt64SS.onn HdT.out hCC;clear hCC hb9 c0 c1 c2 c3;by_cases h0:C=0
 . subst h0
   have hz:=colC_zero (ds:=[d]) (f:=f) (t:=t) (ts:=[lo,hi]) HC.out.symm;have hzd:=hz.1 d (by simp);have hzl:=hz.2 lo (by simp);have hzh:=hz.2 hi (by simp);have hnd:=newDeck_c hd1 (yAV hzd.1);have Hnd:=hid hnd;have HP1:=hid hP1;have HQ1:=hid hQ1;have HR1:=hid hR1;have Hzd:=hid hzd;have Hzl:=hid hzl;have Hzh:=hid hzh;clear hz hzd hzl hzh hnd hP1 hQ1 hR1 hd1;go_wp2_with fail;with_reducible refine Hnd.out.mono ?_
   rintro e w2 ⟨⟨r,rfl,hO⟩,hb2⟩;have hP2:=HP1.out.on hb2;have hQ2:=HQ1.out.on hb2;have hR2:=HR1.out.on hb2;have hlen:=(yAE Hzd.out.1).1;have hrows:=(yAV Hzd.out.1).2;have hcol:=yAR Hzd.out.1 Hzd.out.2.1;have hpz:∀ k,k=W0.heap.size\/k=W0.heap.size+1\/k=W0.heap.size+1+1->k<wq.heap.size:=by intro k hk;have h9:=(HP1.out.lt);have h8:=HQ1.out.lt;have h7:=HR1.out.lt;omega
   have hdel:=deleteSB (w:=w2) (base:=wq.heap.size) (p:=outB f t lo hi) (c1:=W0.heap.size) (c2:=W0.heap.size+1) (c3:=W0.heap.size+1+1) hO (by omega) hb2.size (fun V u y hy hV hu =>
    clo_SB (hP2.below hV (hpz _ (.inl rfl))) (hQ2.below hV (hpz _ (.inr (.inl rfl)))) (hR2.below hV (hpz _ (.inr (.inr rfl)))) hu hcol.1 (hcol.2 y hy) (hrows y hy) Hzl.out Hzh.out)
   have Hdel:=hid hdel;have Hb2:=hid (Hb1.out.trans (hb2.mono Hb1.out.size));have hz1:=Hb1.out.size;have hz2:=hb2.size;clear hO hb2 hP2 hQ2 hR2 hlen hrows hcol hpz hdel;go_wp2_with fail;with_reducible refine Hdel.out.mono ?_
   rintro e w3 ⟨⟨r3,rfl,hF3⟩,hb3⟩;have HF:=hid (hF3.mono hz1);have Hb3:=hid (Hb2.out.trans (hb3.mono (by omega)));clear hF3 hb3;go_wp2;go_ret2;exact ⟨⟨_,rfl,fun _=>⟨_,rfl,HF.out⟩⟩,Hb3.out⟩
 . go_wp2
   go_ret2;exact ⟨DkPostO.no rfl h0,Hb1.out⟩
theorem SelectEqual_c {d:List (List Int)} {v:Value} {w:World} {A:Nat} {f t:Int} {s:ByteArray} (hd:RdInt64SS A w v d) (hs:s.size<=1000) :
 Calls Tryz.prog 180 #[v,.agg #[.int .i64 f,.int .i64 t],.string s] w fun e w'=>DkPostO (selC d f t s s) (fun x=>x=d.filter (fun y=>!outB f t s s y)) w.heap.size e w'/\Below w.heap.size w w':=by
 obtain ⟨vo,vc,rfl⟩:=hd.shape;obtain ⟨T,hT⟩:∃ T,T=w.alloc (.cells #[.int .i64 f,.int .i64 t] 27):=⟨_,rfl⟩;have hbT:Below w.heap.size w T:=by rw [hT];exact (zB _ _).alloc (zA _) _
 have hBT:Box T w.heap.size [.int .i64 f,.int .i64 t]:=by rw [hT];exact Box.new w [.int .i64 f,.int .i64 t] _
 have hcon:=SelectBetween_c (f:=f) (t:=t) (RdInt64SS.onn hd hbT) hs hs;have c0:=hBT.cell 0 _ rfl;have c1:=hBT.cell 1 _ rfl;obtain ⟨R,hR⟩:∃ R,selC d f t s s=R:=⟨_,rfl⟩;rw [hR] at hcon |-;have Hcon:=hid hcon;have HT:=hid hT;have HbT:=hid hbT;clear hcon hT hbT hBT hd hs hR;generalize d.length=n at *
 go_enter Tryz.func180,Tryz.ntmps180;go_upto_region 1 with fail;rw [<- HT.out];go_wp2_with fail;with_reducible refine Hcon.out.mono ?_
 rintro e w1 ⟨⟨r,rfl,hp⟩,hb1⟩;have Hp:Hid (R=0->∃ x,x=d.filter (fun y=>!outB f t s s y)/\OwD w.heap.size w1 r x):=hid (fun h=>by obtain ⟨x,h1,h2⟩:=hp h;exact ⟨x,h1,h2.mono HbT.out.size⟩);have Hb1:=hid (HbT.out.trans (hb1.mono HbT.out.size));clear hp hb1;go_wp2;go_ret2;exact ⟨⟨_,rfl,Hp.out⟩,Hb1.out⟩
theorem FirstOfGroups_c {d:List (List Int)} {v:Value} {w:World} {A:Nat} {f t:Int} (hd:RdInt64SS A w v d) :
 Calls Tryz.prog 181 #[v,.agg #[.int .i64 f,.int .i64 t]] w fun e w'=>DkPostO (firC d f t) (fun x=>x=firD d f t) w.heap.size e w'/\Below w.heap.size w w':=by
 obtain ⟨i0,hi,hz0,hz1,hz2c⟩:=info_parts Tryz.infoCard;obtain ⟨vo,vc,rfl⟩:=hd.shape;obtain ⟨T,hT⟩:∃ T,T=w.alloc (.cells #[.int .i64 f,.int .i64 t] 27):=⟨_,rfl⟩;have hbT:Below w.heap.size w T:=by rw [hT];exact (zB _ _).alloc (zA _) _
 have hBT:Box T w.heap.size [.int .i64 f,.int .i64 t]:=by rw [hT];exact Box.new w [.int .i64 f,.int .i64 t] _
 have hdT:=RdInt64SS.onn hd hbT;obtain ⟨T2,hT2⟩:∃ T2,T2=T.alloc (.cells #[.slice vo d.length vc] 24):=⟨_,rfl⟩;have hb2:Below T.heap.size T T2:=by rw [hT2];exact (zB _ _).alloc (zA _) _
 have hds:RdDs T2.heap.size T2 (.slice (some ⟨T.heap.size,0,none⟩) 1 1) [d]:=by rw [hT2];exact RdDs.lit1 T d vo vc _ hdT
 have hcc:=collateCode_c (f:=f) (t:=t) (ts:=[]) hds (Rds.nil eT 0 T2) (by simp) (by simp) (by simp);obtain ⟨C,hC⟩:∃ C,C=firC d f t:=⟨_,rfl⟩;rw [<- hC];have HC:=hid hC;unfold firC at hC;rw [<- hC] at hcc;have Hcc:=hid hcc;have f0:=hBT.cell 0 _ rfl;have f1:=hBT.cell 1 _ rfl;have Hb2:=hid (hbT.trans (hb2.mono hbT.size));have HB2:=hid (hBT.on hb2);have Hd2:=hid (RdInt64SS.onn hdT hb2);have HT:=hid hT;have HT2:=hid hT2;clear hT hbT hBT hdT hT2 hb2 hds hcc hC hd;obtain ⟨n,hn⟩:∃ n,n=d.length:=⟨_,rfl⟩;rw [<- hn] at Hd2 HT2 |-;have Hn:=hid hn;clear hn;go_enter Tryz.func181,Tryz.ntmps181;go_upto_region 1 with fail;rw [<- HT.out];go_wp2_with fail;rw [<- HT2.out];with_reducible refine Hcc.out.mono ?_
 rintro e w1 ⟨rfl,hb1⟩;have hB1:=HB2.out.on hb1;have hd1:=RdInt64SS.onn Hd2.out hb1;have Hb1:=hid (Hb2.out.trans (hb1.mono Hb2.out.size));clear hb1 f0 f1;by_cases hc0:C=0
 . have hz:=(colC_zero (ds:=[d]) (f:=f) (t:=t) (ts:=[]) (by have h9:=HC.out;unfold firC at h9;rw [<- h9];exact hc0)).1 d (by simp)
   have HZ:=hid hz;subst hc0;have hlen:=(yAE hz.1).1;obtain ⟨W,hW⟩:∃ W,W=w1.alloc (.cells #[] 69):=⟨_,rfl⟩;have hbW:Below w1.heap.size w1 W:=by rw [hW];exact (zB _ _).alloc (zA _) _
   have hWz:W.heap.size=w1.heap.size+1:=by rw [hW];simp
   have hB0:BldG eI 2 69 w1.heap.size w1.heap.size W.heap.size W (.slice (some ⟨w1.heap.size,0,none⟩) 0 0) ([]:List (List Int)):=by
    have h:Own eS 69 w1.heap.size W (.slice (some ⟨w1.heap.size,0,none⟩) 0 0) []:=by
     rw [hW];exact Own.lit (E:=eS) (e:=69) (base:=w1.heap.size) (w:=w1) (xs:=[]) (cs:=#[]) (n:=0) (zA _) rfl rfl (by decide) (fun x hx=>by cases hx)
    exact BldG.empty (B:=w1.heap.size) rfl h (by omega)
   have hgr:=groupsOf_c (RdInt64SS.onn hd1 hbW) (yAR hz.1 hz.2.1) (by omega);have hBW:=hB1.on hbW;have c0:=(hB1.alloc (.cells #[] 69)).cell 0 _ rfl;have c1:=(hB1.alloc (.cells #[] 69)).cell 1 _ rfl;have Hgr:=hid hgr;have HB0:=hid hB0;have HbW:=hid hbW;have HW:=hid hW;have HWz:=hid hWz;have HRw:=hid (yAV hz.1).2;obtain ⟨vo',vc',hvs,ho⟩:=hd1.open;injection hvs with q1 q2 q3;subst q1;subst q3;clear q2;have Ho:=hid ho;have hl100:n<=100:=by have:=Hn.out;omega
   clear hgr hB0 hbW hW hWz hz ho hd1 hB1 hBW hlen;go_wp2_with fail;rw [<- HW.out];with_reducible refine Hgr.out.mono ?_
   rintro e w2 ⟨⟨r,rfl,hG⟩,hb2⟩;obtain ⟨G,hGe⟩:∃ G,G=selI (grpP d f t) d.length:=⟨_,rfl⟩;rw [<- hGe] at hG;obtain ⟨zo,zc,hzo,hzop⟩:=RdI.open hG.rds;obtain ⟨m,hm⟩:∃ m,m=G.length:=⟨_,rfl⟩;have hmn:m<=n:=by rw [hm,hGe,Hn.out];exact yBM _ _
   have hZm:∀ (j:Nat) (z:Int),G[j]?=some z->∃ k:Nat,k<n/\z=(k:Int):=fun j z hz=>by
    rw [hGe] at hz;obtain ⟨k,h1,h2,-⟩:=selI_rng _ _ z (zC hz);exact ⟨k,by have:=Hn.out;omega,h2⟩
   subst hzo;rw [<- hm];have Hm:=hid hm;have HGe:=hid hGe;have HB1:Hid (BldG eI 2 69 w1.heap.size w1.heap.size w2.heap.size w2 (.slice (some ⟨w1.heap.size,0,none⟩) 0 0) (pickD d (G.take 0))):=hid ((HB0.out.below hb2 (zA _)).mono hb2.size);have HbL:Hid (Below w1.heap.size w1 w2):=hid (HbW.out.trans (hb2.mono HbW.out.size));have HZo:=hid hzop;have HZm:=hid hZm;have HZlt:Hid (∀ q,(Value.slice zo m zc).ownBlock=some q->w1.heap.size+1<=q):=hid (fun q hq=>by have h:=(hG.lt q (by rw [hm] at hq;exact hq)).1;have:=HWz.out;omega);clear hG hb2 hzop hZm HB0 c0 c1 hm hGe;go_wp2;go_loopw [7,22] (fun ov iv wr=>∃ k:Nat,k<=m/\iv=.int .i64 k/\Hid (BldG eI 2 69 w1.heap.size w1.heap.size wr.heap.size wr ov (pickD d (G.take k)))/\Hid (Below w1.heap.size w1 wr)/\Hid (Within w1.heap.size (w1.heap.size+1) w2 wr)/\Hid (∀ q,ov.ownBlock=some q->q=w1.heap.size\/w2.heap.size<=q)) (fun _ i _=>m - (intOf i).toNat)
   case atStart=>exact ⟨0,zK _,rfl,HB1,HbL,hid (Within.refl _ _ _),hid (fun q hq=>by have h9:w1.heap.size=q:=zD hq;omega)⟩
   case round =>
    obtain ⟨k,hk,rfl,HB,Hb,Hc,Hq⟩:=hrel;clear HB1 HbL;by_cases hkn:k<m
    . obtain ⟨zb,zoff,rfl,zlt,zc1⟩:=HZo.out (by have:=Hm.out;omega)
      obtain ⟨z,hz,hzc,-⟩:=zc1 k (by have:=Hm.out;omega);obtain ⟨p,hp,hze⟩:=HZm.out k z hz;subst hze;have d0:=(within_cell Hc.out (p:=⟨zb,zoff+k,none⟩) zlt.2 (by have:=HZlt.out zb rfl;show ¬ (_<=zb/\zb<_);omega)).trans hzc;obtain ⟨b,off,rfl,hlt,hc⟩:=Ho.out (by have:=Hn.out;omega);obtain ⟨x,ro,rc,hx,hcell,hrd⟩:=hc p (by have:=Hn.out;omega);have hxl:=HRw.out x (zC hx);have d1:=(Hb.out.cell (p:=⟨b,off+p,none⟩) hlt.2).trans hcell;have HrW:=hid (Rds.onn hrd Hb.out);have Htk:Hid (pickD d (G.take (k+1))=pickD d (G.take k)++[x]):=hid (by unfold pickD;rw [yAD hz,List.map_append];simp [List.getD_eq_getElem?_getD,hx]);have Hxl:Hid ((pickD d (G.take k)).length<=100):=hid (by unfold pickD;rw [List.length_map,zI];omega);obtain ⟨oo,oc,hov⟩:=HB.out.shape;subst hov;have hmI:(p:Int)<(n:Int):=by omega
      clear hc hcell hrd hx hzc zc1 hz;go_wp2_with fail;with_reducible refine (newCard_c HrW.out (by omega)).mono ?_
      rintro e w4 ⟨⟨u,rfl,hu⟩,hb4⟩;obtain ⟨tp,htp⟩:∃ tp,tp=wr.heap.size:=⟨_,rfl⟩;have htb:w1.heap.size<=tp:=by have:=Hb.out.size;omega
      have hz2:tp<=w4.heap.size:=by have:=hb4.size;omega
      have hB2:BldG eI 2 69 w1.heap.size w1.heap.size tp w4 (.slice oo (pickD d (G.take k)).length oc) (pickD d (G.take k)):=by rw [htp];exact HB.out.below hb4 (zA _)
      have hb2':=Hb.out.trans (hb4.mono (by omega));have Hc2:=hid (within_same Hc.out hb4);clear hb4 d0 d1;have hR9:=hu.mono (base':=tp) (by omega);obtain ⟨hs',xh,hval,hokx,hlen,hO,hfn⟩:=hB2.app hR9 htb hz2;obtain ⟨rao,rcap,hsh⟩:=hR9.shape;subst hsh;have hcells:(#[.slice rao x.length rcap]:Array Value)=(eS.cells xh).toArray:=by rw [show eS.cells xh=[xh.val] from rfl,hval]
      have HO:=hid hO;have Hfn:=hid hfn;have Hlen:=hid hlen;have Hcells:=hid hcells;have hl0:=HO.out.lt;have Hl0:=hid hl0;have Hb2':=hid hb2';have hszr:w1.heap.size<=w4.heap.size:=hb2'.size;clear hR9 hu hB2 hval hlen hO hfn hcells hl0 hb2';go_wp2_with (first | (at_builtin;refine yAB (E:=eS) rfl _ _ 24 rfl Tryz.underlying24 hi hz0 hz1 hz2c rfl (by decide) rfl rfl (HO.out.alloc _) (yAH (E:=eS) (x:=xh) hokx Hcells.out) ?b1 ?b2 ?b3 ?_))
      case b1=>rw [Hlen.out];have:=Hxl.out;unfold maxLen;simp;omega
      case b2=>rw [Hlen.out];have:=Hxl.out;simp;omega
      case b3=>simp;omega
      intro v' w6 hO6 hg6;have hg6':=hg6.alloc;have HB6:=hid (Hfn.out w6 v' hO6 hg6');have Hb6:=hid (Hb2'.out.grown hg6'.1 hszr (fun q hq=>(Hl0.out q hq).1));have Hc6:=hid (within_grown Hc2.out hg6'.1 (fun q hq=>by have:=Hq.out q hq;omega));have Hq6:=hid (own_or Hq.out Hc2.out.size hg6'.2);clear hO6 hg6 hg6';go_wp2;go_roundw
      case rel=>exact ⟨k+1,by omega,by go_num,by rw [Htk.out];exact HB6,Hb6,Hc6,Hq6⟩
      case measure=>simp [intOf];omega
    . obtain rfl:k=m:=by omega
      have hM:=HB.out.toM (zA _);rw [zH (by have:=Hm.out;omega)] at hM;have hF:=(OwD.own hM).mono Hb1.out.size;rw [HGe.out] at hF;have HF:=hid hF;have HbF:=hid (Hb1.out.trans (Hb.out.mono Hb1.out.size));clear hM hF;go_wp2;go_ret2;exact ⟨⟨_,rfl,fun _=>⟨_,rfl,HF.out⟩⟩,HbF.out⟩
 . have hc1:(C != 0)=true:=by simpa using hc0
   go_wp2;go_ret2;exact ⟨DkPostO.no (r:=.slice none 0 0) rfl hc0,Hb1.out⟩
theorem DkPostO.low {R:Int} {P Q:List (List Int)->Prop} {n n':Nat} {e:Ending} {w':World} (h:DkPostO R P n e w') (hn:n'<=n) (hP:∀ d,P d->Q d):DkPostO R Q n' e w':=by
 obtain ⟨r,he,h2⟩:=h;exact ⟨r,he,fun h0=>by obtain ⟨d,h3,h4⟩:=h2 h0;exact ⟨d,hP d h3,h4.mono hn⟩⟩
theorem deckOf_c {o:OffT} {x:StepT} {u v:Value} {w0:World} {B:Nat} (ho:RdOff B w0 u v o) (h6:o.trays.length=6) (hA:trayP x.ta) (hB:trayP x.tb) (hK:1<=x.kd/\x.kd<=6) (hx:x.tx.size<=1000) :
 Calls Tryz.prog 164 #[.agg #[u,v],vStep x] w0 fun e w'=>DkPostO (dkC o x) (fun d=>d=dkD o x) w0.heap.size e w'/\Below w0.heap.size w0 w':=by
 obtain ⟨uo,uc,rfl⟩:=RdL.shape ho.1;obtain ⟨vo,vc,rfl⟩:=RdL.shape ho.2;obtain ⟨p,hp⟩:=zG hA.1;obtain ⟨q,hq⟩:=zG hB.1;have hp6:p<6:=by have:=hA.2;omega
 have hq6:q<6:=by have:=hB.2;omega
 have ta:=trD_at h6 hA;have tb:=trD_at h6 hB;obtain ⟨a,ha⟩:∃ a,a=trD o x.ta:=⟨_,rfl⟩;obtain ⟨b,hb⟩:∃ b,b=trD o x.tb:=⟨_,rfl⟩;obtain ⟨C,hC⟩:∃ C,C=dkC o x:=⟨_,rfl⟩;obtain ⟨D,hD⟩:∃ D,D=dkD o x:=⟨_,rfl⟩;rw [<- hC,<- hD];unfold dkC at hC;unfold dkD at hD;rw [<- ha,<- hb] at hC hD;rw [<- ha] at ta;rw [<- hb] at tb;clear ha hb;obtain ⟨kd,ta9,tb9,tc9,f,t,sf,st,s⟩:=x;simp only at hp hq hC hD hK hx ta tb;subst hp;subst hq;rw [zR] at ta tb;obtain ⟨T,hT⟩:∃ T,T=(w0.alloc (.cells #[.slice uo o.trays.length uc,.slice vo o.totals.length vc] 147)).alloc (.cells #[.int .i64 kd,.int .i64 (p:Int),.int .i64 (q:Int),.int .i64 tc9,.int .i64 f,.int .i64 t,.int .i64 sf,.int .i64 st,.string s] 90):=⟨_,rfl⟩;have z1:(w0.alloc (.cells #[.slice uo o.trays.length uc,.slice vo o.totals.length vc] 147)).heap.size=w0.heap.size+1:=by simp
 have hP:Box T w0.heap.size [.slice uo o.trays.length uc,.slice vo o.totals.length vc]:=by rw [hT];exact (Box.new w0 [.slice uo o.trays.length uc,.slice vo o.totals.length vc] _).alloc _
 have hS:Box T (w0.heap.size+1) [.int .i64 kd,.int .i64 (p:Int),.int .i64 (q:Int),.int .i64 tc9,.int .i64 f,.int .i64 t,.int .i64 sf,.int .i64 st,.string s]:=by
  have h:=Box.new (w0.alloc (.cells #[.slice uo o.trays.length uc,.slice vo o.totals.length vc] 147)) [.int .i64 kd,.int .i64 (p:Int),.int .i64 (q:Int),.int .i64 tc9,.int .i64 f,.int .i64 t,.int .i64 sf,.int .i64 st,.string s] 90;rw [z1,<- hT] at h;exact h
 have hbT:Below w0.heap.size w0 T:=by rw [hT];exact ((zB _ _).alloc (zA _) _).alloc (by rw [z1];omega) _
 obtain ⟨uo',uc',hs,hop⟩:=RdL.open rowK_D (RdL.onn rowK_D ho.1 hbT);injection hs with e1 e2 e3;subst e1;subst e3;clear e2;obtain ⟨tb0,off,rfl,hlt,hc⟩:=hop (by omega);obtain ⟨a',ao,ac,ha',hac,har⟩:=hc p (by omega);obtain ⟨b',bo,bc,hb',hbc,hbr⟩:=hc q (by omega);rw [ta] at ha';rw [tb] at hb';obtain rfl:=zD ha';obtain rfl:=zD hb';rw [h6] at hT hP |-;have c0:=cell_regrown (hP.cell 0 _ rfl);have c1:=cell_regrown (hS.cell 1 _ rfl);have c2:=cell_regrown (hS.cell 2 _ rfl);have c3:=cell_regrown hac;have c4:=cell_regrown hbc;have HS:=hid hS;have HT:=hid hT;have HbT:=hid hbT;have Har:=hid har;have Hbr:=hid hbr;have HC:=hid hC;have HD:=hid hD;have Hx:=hid hx;have i1:(p:Int)<6:=by omega
 have i2:(q:Int)<6:=by omega
 clear ho h6 hA hB hC hD ta tb hT z1 hP hS hbT hop hc ha' hac har hb' hbc hbr hlt hx;generalize o.totals.length=m at *
 obtain ⟨n1,hn1⟩:∃ n,n=a.length:=⟨_,rfl⟩;obtain ⟨n2,hn2⟩:∃ n,n=b.length:=⟨_,rfl⟩;rw [<- hn1] at Har c3;rw [<- hn2] at Hbr c4;clear hn1 hn2;go_enter Tryz.func164,Tryz.ntmps164;go_upto_region 1 with fail;rw [<- HT.out];refine wp_region_quiet_below (by kernel_rfl) (by kernel_rfl) ?_;repeat ((with_reducible refine wpQuiet_step (fun K hK=>?_));go_simp;first | ((with_reducible refine hK _ ?_);clear hK K) | (apply Exists.intro;refine ⟨fun _=>?_,hK _ ?_⟩;((fail));clear hK K))
 refine wpQuiet_nil ?_;intro _ hw';obtain ⟨⟨dq,osq⟩,hw''⟩:=hw';subst hw'';have hbq:=below_regrown T dq osq;generalize grow (redrawn T dq) osq=wq at hbq |-;have hSq:=HS.out.on hbq;have d0:=hSq.cell 0 _ rfl;have d4:=hSq.cell 4 _ rfl;have d5:=hSq.cell 5 _ rfl;have d8:=hSq.cell 8 _ rfl;have Haq:=hid (RdInt64SS.onn Har.out hbq);have Hbq2:=hid (RdInt64SS.onn Hbr.out hbq);have HSq:=hid hSq;have Hbq:=hid (HbT.out.trans (hbq.mono HbT.out.size));clear hbq c0 c1 c2 c3 c4 hSq;have hcases:kd=1\/kd=2\/kd=5\/kd=6\/kd=3\/kd=4:=by omega
 rcases hcases with rfl | rfl | rfl | rfl | rfl | rfl
 . have hC:C=sortC a f t:=by rw [HC.out];rfl
   have hD:D=pickD a (ordD a f t):=by rw [HD.out];rfl
   have hcon:=SortedBy_c (f:=f) (t:=t) Haq.out;have Hcon:Hid (Calls Tryz.prog 178 #[.slice ao n1 ac,.agg #[.int .i64 f,.int .i64 t]] wq fun e w'=>DkPostO C (fun d=>d=D) w0.heap.size e w'/\Below wq.heap.size wq w'):=hid (hcon.mono (fun e w' h=>⟨by
    rw [hC,hD];exact (by
     obtain ⟨r,he,h2⟩:=h.1;exact ⟨r,he,fun h0=>by obtain ⟨Z,hZ,hO⟩:=h2 h0;exact ⟨_,by rw [<- hZ.eq],(OwD.own hO).mono Hbq.out.size⟩⟩),h.2⟩))
   clear hcon hC hD;go_wp2_with fail;with_reducible refine Hcon.out.mono ?_
   rintro e w9 ⟨⟨r,rfl,hr⟩,hb9⟩;have Hr:=hid hr;have Hb9:=hid (Hbq.out.trans (hb9.mono Hbq.out.size));clear hr hb9;go_wp2;go_ret2;exact ⟨⟨_,rfl,Hr.out⟩,Hb9.out⟩
 . have hC:C=merC a b f t:=by rw [HC.out];rfl
   have hD:D=pickD (a++b) (ordD (a++b) f t):=by rw [HD.out];rfl
   have hcon:=MergeDecks_c (f:=f) (t:=t) Haq.out Hbq2.out;have Hcon:Hid (Calls Tryz.prog 179 #[.slice ao n1 ac,.slice bo n2 bc,.agg #[.int .i64 f,.int .i64 t]] wq fun e w'=>DkPostO C (fun d=>d=D) w0.heap.size e w'/\Below wq.heap.size wq w'):=hid (hcon.mono (fun e w' h=>⟨by
    rw [hC,hD];exact h.1.low Hbq.out.size (fun d h=>by obtain ⟨Z,hZ,rfl⟩:=h;rw [hZ.eq]),h.2⟩))
   clear hcon hC hD;go_wp2_with fail;with_reducible refine Hcon.out.mono ?_
   rintro e w9 ⟨⟨r,rfl,hr⟩,hb9⟩;have Hr:=hid hr;have Hb9:=hid (Hbq.out.trans (hb9.mono Hbq.out.size));clear hr hb9;go_wp2;go_ret2;exact ⟨⟨_,rfl,Hr.out⟩,Hb9.out⟩
 . have hC:C=selC a f t s s:=by rw [HC.out];rfl
   have hD:D=a.filter (fun y=>!outB f t s s y):=by rw [HD.out];rfl
   have hcon:=SelectEqual_c (f:=f) (t:=t) (s:=s) Haq.out Hx.out;have Hcon:Hid (Calls Tryz.prog 180 #[.slice ao n1 ac,.agg #[.int .i64 f,.int .i64 t],.string s] wq fun e w'=>DkPostO C (fun d=>d=D) w0.heap.size e w'/\Below wq.heap.size wq w'):=hid (hcon.mono (fun e w' h=>⟨by
    rw [hC,hD];exact h.1.low Hbq.out.size (fun d h=>h),h.2⟩))
   clear hcon hC hD;go_wp2_with fail;with_reducible refine Hcon.out.mono ?_
   rintro e w9 ⟨⟨r,rfl,hr⟩,hb9⟩;have Hr:=hid hr;have Hb9:=hid (Hbq.out.trans (hb9.mono Hbq.out.size));clear hr hb9;go_wp2;go_ret2;exact ⟨⟨_,rfl,Hr.out⟩,Hb9.out⟩
 . have hC:C=firC a f t:=by rw [HC.out];rfl
   have hD:D=firD a f t:=by rw [HD.out];rfl
   have hcon:=FirstOfGroups_c (f:=f) (t:=t) Haq.out;have Hcon:Hid (Calls Tryz.prog 181 #[.slice ao n1 ac,.agg #[.int .i64 f,.int .i64 t]] wq fun e w'=>DkPostO C (fun d=>d=D) w0.heap.size e w'/\Below wq.heap.size wq w'):=hid (hcon.mono (fun e w' h=>⟨by
    rw [hC,hD];exact h.1.low Hbq.out.size (fun d h=>h),h.2⟩))
   clear hcon hC hD;go_wp2_with fail;with_reducible refine Hcon.out.mono ?_
   rintro e w9 ⟨⟨r,rfl,hr⟩,hb9⟩;have Hr:=hid hr;have Hb9:=hid (Hbq.out.trans (hb9.mono Hbq.out.size));clear hr hb9;go_wp2;go_ret2;exact ⟨⟨_,rfl,Hr.out⟩,Hb9.out⟩
 . have hC:C=matC a b f t:=by rw [HC.out];rfl
   have hD:D=a.filter (hasE b f t):=by rw [HD.out];rfl
   have hcon:=MatchDecks_c (f:=f) (t:=t) Haq.out Hbq2.out;rw [<- hC] at hcon;have Hcon:=hid hcon;have HDe:=hid hD;clear hcon hC hD;go_wp2_with fail;with_reducible refine Hcon.out.mono ?_
   rintro e w9 ⟨⟨r,rfl,hr⟩,hb9⟩;have h9:=(HSq.out.on hb9).cell 0 _ rfl;have Hb9:=hid (Hbq.out.trans (hb9.mono Hbq.out.size));clear hb9 d0 d4 d5 d8;by_cases h0:C=0
   . obtain ⟨g,r1,r2,r3,r4,rfl,hbx,hF1,hF3⟩:=hr h0
     have HF1:=hid (hF1.mono Hbq.out.size);have HF3:=hid (hF3.mono Hbq.out.size);have k0:=hbx.cell 0 _ rfl;subst h0;clear hr hbx hF1 hF3;go_wp2;go_ret2;exact ⟨⟨_,rfl,fun _=>⟨_,rfl,by rw [HDe.out];exact HF1.out⟩⟩,Hb9.out⟩
   . have h1:(C != 0)=true:=by simpa using h0
     have H0:=hid h0;clear hr h0;go_wp2;go_ret2;exact ⟨DkPostO.no rfl H0.out,Hb9.out⟩
 . have hC:C=matC a b f t:=by rw [HC.out];rfl
   have hD:D=a.filter (fun y=>!hasE b f t y):=by rw [HD.out];rfl
   have hcon:=MatchDecks_c (f:=f) (t:=t) Haq.out Hbq2.out;rw [<- hC] at hcon;have Hcon:=hid hcon;have HDe:=hid hD;clear hcon hC hD;go_wp2_with fail;with_reducible refine Hcon.out.mono ?_
   rintro e w9 ⟨⟨r,rfl,hr⟩,hb9⟩;have h9:=(HSq.out.on hb9).cell 0 _ rfl;have Hb9:=hid (Hbq.out.trans (hb9.mono Hbq.out.size));clear hb9 d0 d4 d5 d8;by_cases h0:C=0
   . obtain ⟨g,r1,r2,r3,r4,rfl,hbx,hF1,hF3⟩:=hr h0
     have HF1:=hid (hF1.mono Hbq.out.size);have HF3:=hid (hF3.mono Hbq.out.size);have k0:=hbx.cell 2 _ rfl;subst h0;clear hr hbx hF1 hF3;go_wp2;go_ret2;exact ⟨⟨_,rfl,fun _=>⟨_,rfl,by rw [HDe.out];exact HF3.out⟩⟩,Hb9.out⟩
   . have h1:(C != 0)=true:=by simpa using h0
     have H0:=hid h0;clear hr h0;go_wp2;go_ret2;exact ⟨DkPostO.no rfl H0.out,Hb9.out⟩
theorem colO_cons (d:List (List Int)) (ts:List (List (List Int))):colO (d :: ts)=if d=[] then colO ts else colsD d:=by
 cases d with
 | nil=>rw [if_pos rfl];rfl
 | cons c r=>rw [if_neg (by simp)];rfl
theorem colO_at {ts:List (List (List Int))} {k:Nat} {d:List (List Int)} (h:ts[k]?=some d):colO (ts.drop k)=if d=[] then colO (ts.drop (k+1)) else colsD d:=by
 obtain ⟨h1,e⟩:=zS.1 h;rw [List.drop_eq_getElem_cons h1,e,colO_cons]
theorem officeColumns_c {o:OffT} {u v:Value} {w:World} {B:Nat} (ho:RdOff B w u v o) :
 Calls Tryz.prog 162 #[.agg #[u,v]] w fun e w'=>e=.returned (.int .i64 (colO o.trays))/\Below w.heap.size w w':=by
 have hle:=RdL.le ho.1;obtain ⟨uo,uc,rfl⟩:=RdL.shape ho.1;obtain ⟨vo,vc,rfl⟩:=RdL.shape ho.2;obtain ⟨T,hT⟩:∃ T,T=w.alloc (.cells #[.slice uo o.trays.length uc,.slice vo o.totals.length vc] 147):=⟨_,rfl⟩;have hbT:Below w.heap.size w T:=by rw [hT];exact (zB _ _).alloc (zA _) _
 have hBT:Box T w.heap.size [.slice uo o.trays.length uc,.slice vo o.totals.length vc]:=by rw [hT];exact Box.new w [.slice uo o.trays.length uc,.slice vo o.totals.length vc] _
 have h1:=RdL.onn rowK_D ho.1 hbT;obtain ⟨uo',uc',hs,hop⟩:=RdL.open rowK_D h1;injection hs with e1 e2 e3;subst e1;subst e3;clear e2;have c0:=hBT.cell 0 _ rfl;have Hop:=hid hop;have HT:=hid hT;have HbT:=hid hbT;obtain ⟨ts,hts⟩:∃ ts,ts=o.trays:=⟨_,rfl⟩;rw [<- hts] at Hop HT c0 hle |-;obtain ⟨n,hn⟩:∃ n,n=ts.length:=⟨_,rfl⟩;rw [<- hn] at Hop HT c0 hle |-;have Hn:=hid hn;obtain ⟨R,hR⟩:∃ R,R=colO ts:=⟨_,rfl⟩;rw [<- hR];have HR:=hid hR;clear hT hbT hBT ho h1 hop hn hR;generalize o.totals.length=m at *
 go_enter Tryz.func162,Tryz.ntmps162;go_upto_region 1 with fail;rw [<- HT.out];go_wp2;go_loopw [8] (fun iv wr=>∃ k:Nat,k<=n/\iv=.int .i64 k/\Hid (R=colO (ts.drop k))/\Hid (Below T.heap.size T wr)) (fun i _=>n - (intOf i).toNat)
 case atStart=>exact ⟨0,zK _,rfl,hid (by rw [List.drop_zero];exact HR.out),hid (zB _ _)⟩
 case round =>
  obtain ⟨k,hk,rfl,HK,Hb⟩:=hrel;by_cases hkn:k<n
  . obtain ⟨b,off,rfl,hlt,hc⟩:=Hop.out (by omega)
    obtain ⟨d,ro,rc,hd,hcell,hrd⟩:=hc k hkn;have d1:=(Hb.out.cell (p:=⟨b,off+k,none⟩) hlt.2).trans hcell;have hK:=HK.out;rw [colO_at hd] at hK;by_cases h0:d.length=0
    . have HK2:Hid (R=colO (ts.drop (k+1))):=hid (by rw [hK,if_pos (List.eq_nil_of_length_eq_zero h0)])
      rw [h0] at d1;clear hc hcell hrd hK c0 HK;go_wp2;go_roundw
      case rel=>exact ⟨k+1,by omega,by go_num,HK2,Hb⟩
      case measure=>simp [intOf];omega
    . obtain ⟨ro',rc',hs,hop2⟩:=RdInt64SS.open (RdInt64SS.onn hrd Hb.out)
      injection hs with e1 e2 e3;subst e1;subst e3;clear e2;obtain ⟨b2,off2,rfl,hlt2,hc2⟩:=hop2 (by omega);obtain ⟨x,xo,xc,hx,hxc,hxr⟩:=hc2 0 (by omega);have hxl:=hxr.le;have HE:Hid (R=(x.length:Int)):=hid (by rw [hK,if_neg (fun e=>h0 (by rw [e];rfl))];unfold colsD;rw [if_neg (fun e=>h0 (by rw [e];rfl)),head_of hx]);rw [Nat.add_zero] at hxc;obtain ⟨dl,hdl⟩:∃ q,q=d.length:=⟨_,rfl⟩;rw [<- hdl] at d1 h0;have i1:0<dl:=by omega
      have i2:(0:Int)<(dl:Int):=by omega
      have hcc:=fun W=>columns_c (ao:=xo) (n:=x.length) (cap:=xc) (w:=W) (by omega);have Hcc:=hid hcc;clear hc hcell hrd hK c0 HK hop2 hc2 hx hxr hcc hdl hxl;generalize x.length=xl at *
      go_wp2_with fail;with_reducible refine (Hcc.out _).mono ?_
      rintro e w2 ⟨rfl,hb2⟩;have Hb2:=hid (HbT.out.trans ((Hb.out.trans (hb2.mono Hb.out.size)).mono HbT.out.size));clear hb2;go_wp2;go_ret;exact ⟨yAJ HE.out.symm,Hb2.out⟩
  . obtain rfl:k=n:=by omega
    have HE:Hid (R=20):=hid (by rw [HK.out,List.drop_of_length_le (by have:=Hn.out;omega)];rfl);have Hb2:=hid (HbT.out.trans (Hb.out.mono HbT.out.size));clear HK;go_wp2;go_ret;exact ⟨yAJ HE.out.symm,Hb2.out⟩
end Go.Proofs.YtmindpfmgnnieaaGreatDoor
