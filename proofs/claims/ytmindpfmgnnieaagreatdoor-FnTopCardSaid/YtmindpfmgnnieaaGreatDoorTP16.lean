/- Lemmas on the way to the law FnTop. No condition. -/
import Derived.Test.YtmindpfmgnnieaaGreatDoorTP14
import Derived.Test.YtmindpfmgnnieaaGreatDoorTP13
import Derived.Test.YtmindpfmgnnieaaGreatDoorTP4
import Derived.Test.YtmindpfmgnnieaaGreatDoorTP3
namespace Go.Proofs.YtmindpfmgnnieaaGreatDoor
set_option maxHeartbeats 1000000
set_option linter.unusedSimpArgs false
open Lib (hid)
open Go.ChangeShapes Go.WideShapes Go.ChangeAt Go.RowKit Go.Sort
set_option linter.unusedVariables false
set_option maxRecDepth 100000
def badHole (x:Int):Bool:=!decide (0<=x/\x<=4095)
def cardB (h:List Int):Bool:=decide (1<=h.length/\h.length<=20) && !h.any badHole
def okAt (d:List (List Int)) (c:List Int):Bool:=cardB c && decide (c.length=(d.headD []).length)
def deckB (d:List (List Int)):Bool:=d.all (okAt d) && decide (d.length<=40)
theorem yAE {d:List (List Int)} (h:deckB d=true):d.length<=40/\∀ c∈d,cardB c=true/\c.length=(d.headD []).length:=by
 unfold deckB at h;rw [Bool.and_eq_true,decide_eq_true_eq,List.all_eq_true] at h;refine ⟨h.2,fun c hc=>?_⟩;have:=h.1 c hc;unfold okAt at this;rw [Bool.and_eq_true,decide_eq_true_eq] at this;exact this
theorem all_take_snoc {α:Type} {d:List α} {k:Nat} {x:α} (p:α->Bool) (h:d[k]?=some x):(d.take (k+1)).all p=((d.take k).all p && p x):=by
 rw [yAD h,List.all_append];simp
theorem all_not {α:Type} {d:List α} {k:Nat} {x:α} {p:α->Bool} (h:d[k]?=some x) (hp:p x=false):d.all p=false:=by
 rw [List.all_eq_false];exact ⟨x,zC h,by rw [hp];decide⟩
theorem head_of {d:List (List Int)} {x:List Int} (h:d[0]?=some x):d.headD []=x:=by
 cases d with
 | nil=>cases h
 | cons a b=>exact zD h
theorem columns_c {ao:Option Addr} {n cap:Nat} {w:World} (hn:n<=9223372036854775807) :
 Calls Tryz.prog 79 #[.agg #[.slice ao n cap]] w fun e w'=>e=.returned (.int .i64 n)/\Below w.heap.size w w':=by
 go_enter Tryz.func79,Tryz.ntmps79;go_wp2_with fail;with_reducible refine (size_any0 hn).mono ?_
 rintro e w1 ⟨rfl,rfl⟩;go_wp2;go_ret;exact ⟨rfl,(zB _ _).alloc (zA _) _⟩
theorem clo_badHole (x:Int) (w:World) (_h:okInt64 x):Calls Tryz.prog 122 #[.int .i64 x] w fun e w'=>e=.returned (.bool (badHole x))/\w=w':=by
 go_enter Tryz.func122,Tryz.ntmps122;go_wp2_with fail;refine (yAY _ _ _ _).mono ?_;rintro e w' ⟨rfl,rfl⟩;go_wp2;go_ret;exact ⟨yAC (by unfold badHole;simp),rfl⟩
theorem indexFunc_badHole {xs:List Int} {v:Value} {w:World} {A:Nat} (ha:RdI A w v xs) :
 Calls Tryz.prog 143 #[v,.func (.func 122) #[] #[]] w fun e w'=>(∃ r:Int,e=.returned (.int .i64 r)/\-1<=r/\(0<=r ↔ xs.any badHole=true))/\w=w':=by
 have hle:=ha.le;obtain ⟨ao,cap,rfl,ho⟩:=ha.open;obtain ⟨l,hl⟩:∃ l,l=xs.length:=⟨_,rfl⟩;rw [<- hl];have Hl:=hid hl;have Ho:=hid ho;have hl':l<=9223372036854775807:=by omega
 clear ho hl hle ha;go_enter Tryz.func143,Tryz.ntmps143;go_wp2;go_loop [8] (fun i=>∃ k:Nat,k<=l/\i=.int .i64 k/\Hid ((xs.take k).any badHole=false)) (fun i=>l - (intOf i).toNat)
 case atStart=>exact ⟨0,zK _,rfl,rfl⟩
 case round =>
  obtain ⟨k,hk,rfl,hp⟩:=hrel;by_cases hkn:k<l
  . obtain ⟨b,off,rfl,hlt,hc⟩:=Ho.out (by have:=Hl.out;omega)
    obtain ⟨x,hx,hcx,bx⟩:=hc k (by have:=Hl.out;omega);have Hx:=hid hx;have Hb:=hid bx;clear hx hc bx;cases hq:badHole x with
    | true =>
     have Hq:=hid hq;clear hq;go_wp2_with (go_at_call 122;refine (clo_badHole x _ Hb.out).mono ?_;rw [Hq.out];rintro e w' ⟨rfl,rfl⟩);go_ret;refine ⟨⟨_,rfl,by omega,?_⟩,rfl⟩;have:xs.any badHole=true:=List.any_eq_true.2 ⟨x,zC Hx.out,Hq.out⟩;simp [this]
    | false =>
     have Hq:=hid hq;clear hq;go_wp2_with (go_at_call 122;refine (clo_badHole x _ Hb.out).mono ?_;rw [Hq.out];rintro e w' ⟨rfl,rfl⟩);go_round
     case rel=>exact ⟨k+1,by omega,by go_num,by show _=false;rw [yAD Hx.out,List.any_append,hp.out];simp [Hq.out]⟩
     case measure=>simp [intOf];omega
  . go_wp2
    go_ret;refine ⟨⟨_,rfl,by omega,?_⟩,rfl⟩;have hq:=hp.out;rw [zH (by have:=Hl.out;omega)] at hq;exact any_end hq
theorem any_badHole {xs:List Int} {v:Value} {w:World} {A:Nat} (ha:RdI A w v xs) :
 Calls Tryz.prog 101 #[v,.func (.func 122) #[] #[]] w fun e w'=>e=.returned (.bool (xs.any badHole))/\w=w':=by
 have Ha:=hid ha;obtain ⟨ao,cap,rfl⟩:=ha.shape;clear ha;go_enter Tryz.func101,Tryz.ntmps101;go_wp2_with fail;refine (indexFunc_badHole Ha.out).mono ?_;rintro e w' ⟨⟨r,rfl,hr,hi⟩,rfl⟩;have Hi:=hid hi;clear hi;go_wp2;go_ret;refine ⟨yAC ?_,rfl⟩;rw [Bool.eq_iff_iff,decide_eq_true_iff];exact Hi.out
theorem ValidCard_c {xs:List Int} {v:Value} {w:World} {A:Nat} (ha:RdI A w v xs) :
 Calls Tryz.prog 78 #[.agg #[v]] w fun e w'=>e=.returned (.bool (cardB xs))/\Below w.heap.size w w':=by
 have hle:=ha.le;have hb0:Below w.heap.size w (w.alloc (.cells #[v] 69)):=(zB _ _).alloc (zA _) _;have hB0:Box (w.alloc (.cells #[v] 69)) w.heap.size [v]:=Box.new w [v] 69;have ha0:=Rds.onn ha hb0;obtain ⟨ao,cap,rfl⟩:=ha.shape;have Ha0:=hid ha0;have Hb0:=hid hb0;have HB0:=hid hB0;obtain ⟨n,hn⟩:∃ n,n=xs.length:=⟨_,rfl⟩;obtain ⟨W0,hW0⟩:∃ W0,W0=w.alloc (.cells #[.slice ao xs.length cap] 69):=⟨_,rfl⟩;rw [<- hW0] at Ha0 Hb0 HB0;unfold cardB;rw [<- hn] at Ha0 HB0 hle hW0 |-;have HW0:=hid hW0;clear ha ha0 hb0 hB0 hW0 hn;have hcol:=fun W=>columns_c (ao:=ao) (n:=n) (cap:=cap) (w:=W) hle;have Hcol:=hid hcol;clear hcol;by_cases hc:1<=n/\n<=20
 . rw [decide_eq_true hc,Bool.true_and]
   have hci:(1:Int)<=(n:Int)/\(n:Int)<=20:=by omega
   have Hci:=hid hci;clear hci hc;go_enter Tryz.func78,Tryz.ntmps78;go_wp2_with fail;rw [<- HW0.out];with_reducible refine (Hcol.out _).mono ?_
   rintro e w1 ⟨rfl,hb1⟩;have hB1:=HB0.out.on hb1;have q0:=hB1.cell 0 _ rfl;have Ha1:=hid (Rds.onn Ha0.out hb1);have Hb1:=hid (Hb0.out.trans (hb1.mono Hb0.out.size));clear hB1 hb1;go_wp2_with fail;with_reducible refine (yAY _ _ _ _).mono ?_
   rw [decide_eq_true Hci.out];rintro e w2 ⟨rfl,rfl⟩;go_wp2_with fail;with_reducible refine (any_badHole Ha1.out).mono ?_
   rintro e w3 ⟨rfl,rfl⟩;go_wp2;go_ret;exact ⟨rfl,Hb1.out⟩
 . rw [decide_eq_false hc,Bool.false_and]
   have hci:¬ ((1:Int)<=(n:Int)/\(n:Int)<=20):=by omega
   have Hci:=hid hci;clear hci hc;go_enter Tryz.func78,Tryz.ntmps78;go_wp2_with fail;rw [<- HW0.out];with_reducible refine (Hcol.out _).mono ?_
   rintro e w1 ⟨rfl,hb1⟩;have Hb1:=hid (Hb0.out.trans (hb1.mono Hb0.out.size));clear hb1;go_wp2_with fail;with_reducible refine (yAY _ _ _ _).mono ?_
   rw [decide_eq_false Hci.out];rintro e w2 ⟨rfl,rfl⟩;go_wp2;go_ret;exact ⟨rfl,Hb1.out⟩
theorem SameCard_c {xs ys:List Int} {va vb:Value} {w:World} {A B:Nat} (ha:RdI A w va xs) (hb:RdI B w vb ys) :
 Calls Tryz.prog 74 #[.agg #[va],.agg #[vb]] w fun e w'=>e=.returned (.bool (decide (xs=ys)))/\Below w.heap.size w w':=by
 have hb0:Below w.heap.size w ((w.alloc (.cells #[va] 69)).alloc (.cells #[vb] 69)):=((zB _ _).alloc (zA _) _).alloc (by simp) _;have ha0:=Rds.onn ha hb0;have hb0':=Rds.onn hb hb0;obtain ⟨ao,cap,rfl⟩:=ha.shape;obtain ⟨bo,bcap,rfl⟩:=hb.shape;have Hc:=hid (equalI_c ha0 hb0');have Hb0:=hid hb0;clear ha hb ha0 hb0 hb0';go_enter Tryz.func74,Tryz.ntmps74;go_wp2_with fail;with_reducible refine Hc.out.mono ?_
 rintro e w1 ⟨rfl,m,rfl⟩;have Hb1:=hid (Hb0.out.drewNy m);clear Hb0 Hc;generalize World.drewN _ m=w2 at Hb1 |-;go_wp2;go_ret;exact ⟨rfl,Hb1.out⟩
theorem ValidDeck_c {xss:List (List Int)} {v:Value} {w:World} {A:Nat} (ha:RdInt64SS A w v xss) :
 Calls Tryz.prog 37 #[v] w fun e w'=>e=.returned (.bool (deckB xss))/\Below w.heap.size w w':=by
 have hle:=ha.le;obtain ⟨ao,cap,rfl,ho⟩:=ha.open;obtain ⟨n,hn⟩:∃ n,n=xss.length:=⟨_,rfl⟩;have hdk:deckB xss=(xss.all (okAt xss) && decide (n<=40)):=by unfold deckB;rw [hn]
 rw [hdk,<- hn];have Hn:=hid hn;have Ho:=hid ho;have hle':n<=9223372036854775807:=by omega
 clear ho hn hle ha hdk;go_enter Tryz.func37,Tryz.ntmps37;go_wp2;go_loopw [7] (fun i wr=>∃ k:Nat,k<=n/\i=.int .i64 k/\Hid ((xss.take k).all (okAt xss)=true)/\Below w.heap.size w wr) (fun i _=>n - (intOf i).toNat)
 case atStart=>exact ⟨0,zK _,rfl,hid (by simp),zB _ _⟩
 case round =>
  obtain ⟨k,hk,rfl,hp,hb⟩:=hrel;by_cases hkn:k<n
  . obtain ⟨b,off,rfl,hlt,hc⟩:=Ho.out (by have:=Hn.out;omega)
    obtain ⟨x,ro,rc,hx,hcell,hrd⟩:=hc k (by have:=Hn.out;omega);obtain ⟨y,qo,qc,hy,hcell0,hrd0⟩:=hc 0 (by have:=Hn.out;omega);have hyl:=hrd0.le;have hxl:=hrd.le;have hh:=head_of hy;replace hcell:=(hb.cell (p:=⟨b,off+k,none⟩) hlt.2).trans hcell;replace hcell0:=(hb.cell (p:=⟨b,off+0,none⟩) hlt.2).trans hcell0;obtain ⟨T,hT⟩:∃ T,T=wr.alloc (.cells #[.slice ro x.length rc] 69):=⟨_,rfl⟩;have hbT:Below wr.heap.size wr T:=by rw [hT];exact (zB _ _).alloc (zA _) _
    have hBT:Box T wr.heap.size [.slice ro x.length rc]:=by rw [hT];exact Box.new wr [.slice ro x.length rc] _
    have f0:=cell_regrown (hBT.cell 0 _ rfl);have hbl:=World.block_lt_of_cell? wr _ hcell0;have f1:=cell_regrown ((hbT.cell (p:=⟨b,off,none⟩) hbl).trans hcell0);have hkni:(k:Int)<(n:Int):=by omega
    have hn0:0<n:=by omega
    have hok:okAt xss x=(cardB x && decide (x.length=y.length)):=by unfold okAt;rw [hh]
    have hval:=ValidCard_c (Rds.onn (Rds.onn hrd hb) hbT);have hvalA:=fun d os=>ValidCard_c (w:=grow (redrawn T d) os) (A:=T.heap.size) (xs:=x) (Rds.regrown (Rds.onn (Rds.onn hrd hb) hbT) (zA _) d os);have hst:=all_take_snoc (okAt xss) hx;have hno:=fun h=>all_not (p:=okAt xss) hx h;have Hb:=hid hb;have HbT:=hid hbT;have HT:=hid hT;have HvalA:=hid hvalA;have Hok:=hid hok;have Hst:=hid hst;have Hno:=hid hno;clear hc hx hy hrd hrd0 hb hbT hBT hT hval hvalA hok hst hno hh;cases hcb:cardB x with
    | false =>
     rw [hcb] at HvalA Hok;rw [Bool.false_and] at Hok;clear hcb;go_upto_region 4 with fail;rw [<- HT.out];clear hcell hcell0;refine wp_region_quiet_below (by kernel_rfl) (by kernel_rfl) ?_;repeat ((with_reducible refine wpQuiet_step (fun K hK=>?_));go_simp;first | ((with_reducible refine hK _ ?_);clear hK K) | (apply Exists.intro;refine ⟨fun _=>?_,hK _ ?_⟩;((first | (go_at_call 78;with_reducible exact yAG (HvalA.out _ _))));clear hK K))
     refine wpQuiet_nil ?_;intro _ hw';obtain ⟨⟨dq,osq⟩,hw''⟩:=hw';subst hw'';have hbq:=below_regrown T dq osq;generalize grow (redrawn T dq) osq=wq at hbq |-;have Hb1:=hid (Hb.out.trans ((HbT.out.trans (hbq.mono HbT.out.size)).mono Hb.out.size));clear hbq f0 f1;go_wp2;go_ret;exact ⟨by rw [Hno.out Hok.out];rfl,Hb1.out⟩
    | true =>
     rw [hcb] at HvalA Hok;rw [Bool.true_and] at Hok;clear hcb;by_cases hl:x.length=y.length
     . rw [decide_eq_true hl] at Hok
       obtain ⟨m,hm⟩:∃ m,m=y.length:=⟨_,rfl⟩;rw [<- hm] at hl f1 hcell0 hyl;rw [hl] at f0 hcell HT HvalA;have HT2:=hid HT.out;have Hc1:=hid (fun d os=>columns_c (ao:=ro) (n:=m) (cap:=rc) (w:=grow (redrawn T d) os) hyl);have Hc2:=hid (fun d os=>columns_c (ao:=qo) (n:=m) (cap:=qc) (w:=grow (redrawn T d) os) hyl);clear hl hm hxl;go_upto_region 4 with fail;rw [<- HT2.out];clear hcell hcell0;refine wp_region_quiet_below (by kernel_rfl) (by kernel_rfl) ?_;repeat ((with_reducible refine wpQuiet_step (fun K hK=>?_));go_simp;first | ((with_reducible refine hK _ ?_);clear hK K) | (apply Exists.intro;refine ⟨fun _=>?_,hK _ ?_⟩;((first | (go_at_call 78;with_reducible exact yAG (HvalA.out _ _)) | (go_at_call 79;first | with_reducible exact yAG (Hc1.out _ _) | with_reducible exact yAG (Hc2.out _ _))));clear hK K))
       refine wpQuiet_nil ?_;intro _ hw';obtain ⟨⟨dq,osq⟩,hw''⟩:=hw';subst hw'';have hbq:=below_regrown T dq osq;generalize grow (redrawn T dq) osq=wq at hbq |-;have Hb1:=hid (Hb.out.trans ((HbT.out.trans (hbq.mono HbT.out.size)).mono Hb.out.size));clear hbq f0 f1;go_wp2;go_roundw
       case rel=>exact ⟨k+1,by omega,by go_num,hid (by rw [Hst.out,hp.out,Hok.out];rfl),Hb1.out⟩
       case measure=>simp [intOf];omega
     . rw [decide_eq_false hl] at Hok
       obtain ⟨m,hm⟩:∃ m,m=y.length:=⟨_,rfl⟩;obtain ⟨p,hp2⟩:∃ p,p=x.length:=⟨_,rfl⟩;rw [<- hm] at hl f1 hcell0 hyl;rw [<- hp2] at hl f0 hcell hxl HT HvalA;have HT2:=hid HT.out;have hl2:((p:Int) != (m:Int))=true:=by simp;omega
       have hl3:(p != m)=true:=by simp;omega
       have Hc1:=hid (fun d os=>columns_c (ao:=ro) (n:=p) (cap:=rc) (w:=grow (redrawn T d) os) hxl);have Hc2:=hid (fun d os=>columns_c (ao:=qo) (n:=m) (cap:=qc) (w:=grow (redrawn T d) os) hyl);clear hm hp2;go_upto_region 4 with fail;rw [<- HT2.out];clear hcell hcell0;refine wp_region_quiet_below (by kernel_rfl) (by kernel_rfl) ?_;repeat ((with_reducible refine wpQuiet_step (fun K hK=>?_));go_simp;first | ((with_reducible refine hK _ ?_);clear hK K) | (apply Exists.intro;refine ⟨fun _=>?_,hK _ ?_⟩;((first | (go_at_call 78;with_reducible exact yAG (HvalA.out _ _)) | (go_at_call 79;first | with_reducible exact yAG (Hc1.out _ _) | with_reducible exact yAG (Hc2.out _ _))));clear hK K))
       refine wpQuiet_nil ?_;intro _ hw';obtain ⟨⟨dq,osq⟩,hw''⟩:=hw';subst hw'';have hbq:=below_regrown T dq osq;generalize grow (redrawn T dq) osq=wq at hbq |-;have Hb1:=hid (Hb.out.trans ((HbT.out.trans (hbq.mono HbT.out.size)).mono Hb.out.size));clear hbq f0 f1;go_wp2;go_ret;exact ⟨by rw [Hno.out Hok.out];rfl,Hb1.out⟩
  . obtain rfl:k=n:=by omega
    have hal:=hp.out;rw [zH (by have:=Hn.out;omega)] at hal;have Hal:=hid hal;clear hal;go_wp2;go_ret;exact ⟨yAC (by rw [Hal.out];simp;omega),hb⟩
abbrev RdCardS (B:Nat) (w:World) (v:Value) (xss:List (List Int)):Prop:=RdInt64SS B w v xss
abbrev OwnTCardS (base tp:Nat) (w:World) (v:Value) (xss:List (List Int)):Prop:=OwnTM 69 base tp w v xss
def OwnCardS (base:Nat) (w:World) (v:Value) (xss:List (List Int)):Prop:=OwnTM 69 base w.heap.size w v xss
theorem OwnCardS.rds {base:Nat} {w:World} {v:Value} {x:List (List Int)} (h:OwnCardS base w v x):RdCardS w.heap.size w v x:=OwnTM.rds h
theorem Tryz.infoCard:(Tryz.prog.info? 69).map (fun i=>(i.zero,i.size,i.bytes))=some (some (.agg #[.slice none 0 0]),1,24):=by kernel_rfl
theorem any_take_snoc {α:Type} {d:List α} {k:Nat} {x:α} (p:α->Bool) (h:d[k]?=some x):(d.take (k+1)).any p=((d.take k).any p || p x):=by
 rw [yAD h,List.any_append];simp
theorem l02Ok_c {xs:List Int} {w:World} {A b off:Nat} {ro:Option Addr} {rc:Nat} (hcell:w.cell? ⟨b,off,none⟩=some (.slice ro xs.length rc)) (ha:RdI A w (.slice ro xs.length rc) xs) :
 Calls Tryz.prog 107 #[.pointer (some ⟨b,off,none⟩)] w fun e w'=>e=.returned (.bool (cardB xs))/\w=w':=by
 have hle:=ha.le;obtain ⟨ro',cap',hs,ho⟩:=ha.open;injection hs with h1 h2 h3;subst h1;subst h3;obtain ⟨n,hn⟩:∃ n,n=xs.length:=⟨_,rfl⟩;have hcb:cardB xs=(decide (1<=n/\n<=20) && !xs.any badHole):=by unfold cardB;rw [hn]
 rw [hcb];rw [<- hn] at hcell ho hle;have Hn:=hid hn;have Ho:=hid ho;clear ha ho hn h2 hcb;go_enter Tryz.func107,Tryz.ntmps107;go_wp2;go_loop [3] (fun i=>∃ k:Nat,k<=n/\i=.int .i64 k/\Hid ((xs.take k).any badHole=false)) (fun i=>n - (intOf i).toNat)
 case atStart=>exact ⟨0,zK _,rfl,rfl⟩
 case round =>
  obtain ⟨k,hk,rfl,hp⟩:=hrel;by_cases hkn:k<n
  . obtain ⟨rb,roff,rfl,hlt,hcc⟩:=Ho.out (by omega)
    obtain ⟨x,hx,hcx,bx⟩:=hcc k (by omega);have Hx:=hid hx;have hkni:(k:Int)<(n:Int):=by omega
    have hst:=any_take_snoc badHole hx;rw [hp.out,Bool.false_or] at hst;have Hst:=hid hst;clear hx hcc hst bx;by_cases hq:0<=x/\x<=4095
    . have hbh:badHole x=false:=by unfold badHole;simp [hq]
      have Hbh:=hid hbh;have Hq:=hid hq;clear hbh hq;go_wp2_with fail;with_reducible refine (yAM _ _ _ _).mono ?_
      rw [decide_eq_true Hq.out];rintro e w' ⟨rfl,rfl⟩;go_wp2;go_round
      case rel=>exact ⟨k+1,by omega,by go_num,hid (by rw [Hst.out,Hbh.out])⟩
      case measure=>simp [intOf];omega
    . have hbh:badHole x=true:=by unfold badHole;simp;omega
      have Hbh:=hid hbh;have Hq:=hid hq;have hany:xs.any badHole=true:=List.any_eq_true.2 ⟨x,zC Hx.out,hbh⟩;have Hany:=hid hany;clear hbh hq hany;go_wp2_with fail;with_reducible refine (yAM _ _ _ _).mono ?_
      rw [decide_eq_false Hq.out];rintro e w' ⟨rfl,rfl⟩;go_wp2;go_ret;exact ⟨yAC (by rw [Hany.out];simp),rfl⟩
  . obtain rfl:k=n:=by omega
    have hal:=hp.out;rw [zH (by have:=Hn.out;omega)] at hal;have Hal:=hid hal;clear hal;go_wp2_with fail;with_reducible refine (yAM _ _ _ _).mono ?_
    rintro e w' ⟨rfl,rfl⟩;go_wp2;go_ret;exact ⟨yAC (by rw [Hal.out,Bool.not_false,Bool.and_true,Bool.eq_iff_iff];simp;omega),rfl⟩
theorem l02Deck_c {xss:List (List Int)} {v:Value} {w:World} {A:Nat} (ha:RdInt64SS A w v xss) :
 Calls Tryz.prog 61 #[v] w fun e w'=>e=.returned (.bool (deckB xss))/\∃ m,w'=w.drewN m:=by
 have hle:=ha.le;obtain ⟨ao,cap,rfl,ho⟩:=ha.open;obtain ⟨n,hn⟩:∃ n,n=xss.length:=⟨_,rfl⟩;have hdk:deckB xss=(xss.all (okAt xss) && decide (n<=40)):=by unfold deckB;rw [hn]
 rw [hdk,<- hn];have Hn:=hid hn;have Ho:=hid ho;have hle':n<=9223372036854775807:=by omega
 clear ho hn hle ha hdk;go_enter Tryz.func61,Tryz.ntmps61;go_wp2;go_loopw [3] (fun i wr=>∃ k:Nat,k<=n/\i=.int .i64 k/\Hid ((xss.take k).all (okAt xss)=true)/\∃ m,wr=w.drewN m) (fun i _=>n - (intOf i).toNat)
 case atStart=>exact ⟨0,zK _,rfl,hid (by simp),0,rfl⟩
 case round =>
  obtain ⟨k,hk,rfl,hp,m,rfl⟩:=hrel;by_cases hkn:k<n
  . obtain ⟨b,off,rfl,hlt,hc⟩:=Ho.out (by have:=Hn.out;omega)
    obtain ⟨x,ro,rc,hx,hcell,hrd⟩:=hc k (by have:=Hn.out;omega);obtain ⟨y,qo,qc,hy,hcell0,hrd0⟩:=hc 0 (by have:=Hn.out;omega);have hh:=head_of hy;have hcell0':w.cell? ⟨b,off,none⟩=some (.slice qo y.length qc):=hcell0;have hkni:(k:Int)<(n:Int):=by omega
    have hn0:0<n:=by omega
    have hyl:=hrd0.le;have hxl:=hrd.le;have hok:okAt xss x=(cardB x && decide (x.length=y.length)):=by unfold okAt;rw [hh]
    have hcon:=fun q=>l02Ok_c (w:=w.drewN q) (b:=b) (off:=off+k) (xs:=x) (ro:=ro) (rc:=rc) hcell (hrd.drewN q);have hst:=all_take_snoc (okAt xss) hx;have hno:=fun h=>all_not (p:=okAt xss) hx h;have Hcon:=hid hcon;have Hok:=hid hok;have Hst:=hid hst;have Hno:=hid hno;clear hc hx hy hrd hrd0 hcon hok hst hno hh hcell0;cases hcb:cardB x with
    | false =>
     rw [hcb] at Hcon Hok;rw [Bool.false_and] at Hok;clear hcb;go_wp2;go_quiet ((go_at_call 107;first | with_reducible exact quiet_at (Hcon.out _) | with_reducible exact yBA (Hcon.out _)));go_wp2;go_ret;exact ⟨by rw [Hno.out Hok.out];rfl,_,World.drewN_drewN _ _ _⟩
    | true =>
     rw [hcb] at Hcon Hok;rw [Bool.true_and] at Hok;clear hcb;by_cases hl:x.length=y.length
     . rw [decide_eq_true hl] at Hok
       obtain ⟨p,hm⟩:∃ p,p=y.length:=⟨_,rfl⟩;rw [<- hm] at hl hcell0' hyl;rw [hl] at hcell;clear hl hm hxl;go_wp2;go_quiet ((go_at_call 107;first | with_reducible exact quiet_at (Hcon.out _) | with_reducible exact yBA (Hcon.out _)));go_wp2;go_roundw
       case rel=>exact ⟨k+1,by omega,by go_num,hid (by rw [Hst.out,hp.out,Hok.out];rfl),_,rfl⟩
       case measure=>simp [intOf];omega
     . rw [decide_eq_false hl] at Hok
       obtain ⟨p,hm⟩:∃ p,p=y.length:=⟨_,rfl⟩;obtain ⟨q,hq⟩:∃ q,q=x.length:=⟨_,rfl⟩;rw [<- hm] at hl hcell0' hyl;rw [<- hq] at hl hcell hxl;have hl2:((q:Int) != (p:Int))=true:=by simp;omega
       have hl3:(q != p)=true:=by simp;omega
       clear hm hq;go_wp2;go_quiet ((go_at_call 107;first | with_reducible exact quiet_at (Hcon.out _) | with_reducible exact yBA (Hcon.out _)));go_wp2;go_ret;exact ⟨by rw [Hno.out Hok.out];rfl,_,World.drewN_drewN _ _ _⟩
  . obtain rfl:k=n:=by omega
    have hal:=hp.out;rw [zH (by have:=Hn.out;omega)] at hal;have Hal:=hid hal;clear hal;go_wp2;go_ret;exact ⟨yAC (by rw [Hal.out];simp;omega),m,rfl⟩
def PreS (xs ys:List Int) (k:Nat):Prop:=∀ j,j<k->xs[j]?=ys[j]?
theorem l00Same_c {xs ys:List Int} {va vb:Value} {w:World} {A B:Nat} (ha:RdI A w va xs) (hb:RdI B w vb ys) :
 Calls Tryz.prog 40 #[va,vb] w fun e w'=>e=.returned (.bool (decide (xs=ys)))/\∃ m,w'=w.drewN m:=by
 have hle:=ha.le;obtain ⟨ao,cap,rfl,ho⟩:=ha.open;obtain ⟨bo,bcap,rfl,hob⟩:=hb.open;have hle2:=hb.le;obtain ⟨n,hn⟩:∃ n,n=xs.length:=⟨_,rfl⟩;obtain ⟨p,hp⟩:∃ p,p=ys.length:=⟨_,rfl⟩;rw [<- hn,<- hp];have Hn:=hid hn;have Hp:=hid hp;have Ho:=hid ho;have Hob:=hid hob;have hn':n<=9223372036854775807:=by omega
 have hp':p<=9223372036854775807:=by omega
 clear ho hob hn hp hle hle2 ha hb;by_cases hnp:n=p
 . subst hnp
   go_enter Tryz.func40,Tryz.ntmps40;go_wp2;go_loopw [5] (fun i wr=>∃ k:Nat,k<=n/\i=.int .i64 k/\PreS xs ys k/\∃ m,wr=w.drewN m) (fun i _=>n - (intOf i).toNat)
   case atStart=>exact ⟨0,zK _,rfl,fun j hj=>by omega,0,rfl⟩
   case round =>
    obtain ⟨k,hk,rfl,hpre,m,rfl⟩:=hrel;by_cases hkn:k<n
    . obtain ⟨b,off,rfl,hlt,hc⟩:=Ho.out (by have:=Hn.out;omega)
      obtain ⟨x,hx,hcx,bx⟩:=hc k (by have:=Hn.out;omega);obtain ⟨b2,off2,rfl,hlt2,hc2⟩:=Hob.out (by have:=Hp.out;omega);obtain ⟨y,hy,hcy,by'⟩:=hc2 k (by have:=Hp.out;omega);have Hx:=hid hx;have Hy:=hid hy;have hkni:(k:Int)<(n:Int):=by omega
      clear hx hy hc hc2 bx by'
      by_cases hxy:x=y
      . subst hxy
        have hd:((x:Int) != x)=false:=by simp
        go_wp2;go_quiet (fail);go_wp2;go_roundw
        case rel=>exact ⟨k+1,by omega,by go_num,fun j hj=>by
         by_cases e:j<k
         . exact hpre j e
         . obtain rfl:j=k:=by omega
           rw [Hx.out,Hy.out],_,rfl⟩
        case measure=>simp [intOf];omega
      . have hd:((x:Int) != y)=true:=by simpa using hxy
        have Hne:Hid (¬ xs=ys):=hid (fun h=>by rw [h,Hy.out] at Hx;exact hxy (zD Hx.out).symm);go_wp2;go_quiet (fail);go_wp2;go_ret;exact ⟨yAC (by rw [decide_eq_false Hne.out]),_,World.drewN_drewN _ _ _⟩
    . obtain rfl:k=n:=by omega
      have He:Hid (xs=ys):=hid (by
       apply List.ext_getElem?;intro j;by_cases hj:j<k
       . exact hpre j hj
       . rw [List.getElem?_eq_none (by have:=Hn.out;omega),List.getElem?_eq_none (by have:=Hp.out;omega)])
      go_wp2;go_ret;exact ⟨yAC (by rw [decide_eq_true He.out]),m,rfl⟩
 . have Hne:Hid (¬ xs=ys):=hid (fun h=>hnp (by rw [Hn.out,Hp.out,h]))
   have hnp2:((n:Int) != (p:Int))=true:=by simp;omega
   go_enter Tryz.func40,Tryz.ntmps40;go_wp2;go_ret;exact ⟨yAC (by rw [decide_eq_false Hne.out]),0,rfl⟩
theorem BldG.apps {e e2:TypeId} {base rb tp tw:Nat} {w:World} {v u:Value} {xss yss:List (List Int)} (h:BldG eI 2 e base rb tp w v xss) (hu:OwnTM e2 tp tw w u yss) (hrb:rb<=tp) (htw:tw<=w.heap.size) (htp:tp<=w.heap.size) :
 ∃ hs ks:List SlV,hs.length=xss.length/\Own eS e base w v hs/\ks.length=yss.length/\Own eS e2 tp w u ks /\
  ∀ w' v',Own eS e base w' v' (hs++ks)->Grew w w' v v'->BldG eI 2 e base rb w'.heap.size w' v' (xss++yss):=by
 obtain ⟨hs,h1,h2,h3,h4,h5⟩:=h;obtain ⟨ks,k1,k2,k3,k4,k5⟩:=hu;refine ⟨hs,ks,h2,h1.1,k2,k1.1,fun w' v' ho hg=>?_⟩;have hrl:∀ (i:Nat) (x:SlV),hs[i]?=some x->∀ k,x.val.ownBlock=some k->k<tp:=by
  intro i x e1 k hk;have hi:i<xss.length:=by rw [<- h2];exact yBG e1
  exact (h3 i x (xss[i]'hi) e1 (zF hi)).2 k hk
 have hkl:∀ (i:Nat) (x:SlV),ks[i]?=some x->∀ k,x.val.ownBlock=some k->tp<=k/\k<tw:=by
  intro i x e1 k hk;have hi:i<yss.length:=by rw [<- k2];exact yBG e1
  have h9:=k3 i x (yss[i]'hi) e1 (zF hi);exact ⟨(h9.1.lt k hk).1,h9.2 k hk⟩
 have hvk:∀ (i:Nat) (x:SlV),ks[i]?=some x->Apart v x.val:=fun i x e1 g h6 h7=>by
  have:=(hkl i x e1 g h7).1;have:=h1.2 g h6;omega
 have hnew:∀ (y:Value),(∀ k,y.ownBlock=some k->k<w.heap.size)->Apart v y->Apart v' y:=by
  intro y hy ha g h6 h7;rcases hg.2 with h8 | ⟨k,h8,h9⟩
  . exact ha g (by rw [<- h8];exact h6) h7
  . have:=hy g h7
    rw [h6] at h8;cases h8;omega
 have hrow:∀ (i j:Nat) (x y:SlV),hs[i]?=some x->ks[j]?=some y->Apart x.val y.val:=fun i j x y e1 e2 g h6 h7=>by
  have:=(hkl j y e2 g h7).1;have:=hrl i x e1 g h6;omega
 have hsz:=hg.1.size;refine ⟨hs++ks,ho.top,by simp [h2,k2],?_,?_,?_⟩
 . intro i x ys e1 e2
   rcases Nat.lt_or_ge i hs.length with hi | hi
   . rw [zL hi] at e1
     rw [zL (by omega)] at e2;exact ((h3 i x ys e1 e2).keep hg.1 (h4 i x e1).kept).mono (by omega)
   . rw [zJ hi] at e1
     rw [zJ (by omega),<- h2] at e2;have h9:=k3 _ x ys e1 e2;exact ((h9.1.mono hrb).kept hg.1 (hvk _ x e1).kept).top
 . intro i x e1
   rcases Nat.lt_or_ge i hs.length with hi | hi
   . rw [zL hi] at e1
     exact hnew _ (fun k hk=>by have:=hrl i x e1 k hk;omega) (h4 i x e1)
   . rw [zJ hi] at e1
     exact hnew _ (fun k hk=>by have:=hkl _ x e1 k hk;omega) (hvk _ x e1)
 . intro i j x y hij e1 e2
   rcases Nat.lt_or_ge i hs.length with hi | hi
   . rw [zL hi] at e1
     rcases Nat.lt_or_ge j hs.length with hj | hj
     . rw [zL hj] at e2
       exact h5 i j x y hij e1 e2
     . rw [zJ hj] at e2
       exact hrow i _ x y e1 e2
   . rw [zJ hi] at e1
     rcases Nat.lt_or_ge j hs.length with hj | hj
     . rw [zL hj] at e2
       intro g h6 h7;exact hrow j _ y x e2 e1 g h7 h6
     . rw [zJ hj] at e2
       exact k5 _ _ x y (by omega) e1 e2
end Go.Proofs.YtmindpfmgnnieaaGreatDoor
