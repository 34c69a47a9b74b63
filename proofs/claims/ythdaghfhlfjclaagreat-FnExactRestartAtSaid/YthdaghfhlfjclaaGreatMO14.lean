/- Lemmas on the way to the law that OfficeAt returns what the reference's returns. No condition. -/
import Derived.Test.YthdaghfhlfjclaaGreatMO11
import Derived.Test.YthdaghfhlfjclaaGreatMO10
import Derived.Test.YthdaghfhlfjclaaGreatMO5
import Derived.Test.YthdaghfhlfjclaaGreatMO4
namespace Go.Proofs.YthdaghfhlfjclaaGreat
set_option linter.unusedSimpArgs false
open Lib (hid)
open Go.ChangeShapes Go.WideShapes Go.ChangeAt Go.RowKit Go.Sort
set_option linter.unusedVariables false
set_option maxRecDepth 100000
def badHole (x:Int):Bool:=!decide (0≤x∧x≤4095)
def cardB (h:List Int):Bool:=decide (1≤h.length∧h.length≤20) && !h.any badHole
def okAt (d:List (List Int)) (c:List Int):Bool:=cardB c && decide (c.length=(d.headD []).length)
def deckB (d:List (List Int)):Bool:=d.all (okAt d) && decide (d.length≤40)
theorem deckB_parts {d:List (List Int)} (h:deckB d=true):d.length≤40∧∀ c∈d,cardB c=true∧c.length=(d.headD []).length:=by
 unfold deckB at h;rw [Bool.and_eq_true,decide_eq_true_eq,List.all_eq_true] at h;refine ⟨h.2,fun c hc=>?_⟩
 have:=h.1 c hc;unfold okAt at this;rw [Bool.and_eq_true,decide_eq_true_eq] at this;exact this
theorem all_take_snoc {α:Type} {d:List α} {k:Nat} {x:α} (p:α→Bool) (h:d[k]?=some x):(d.take (k+1)).all p=((d.take k).all p && p x):=by
 rw [take_snoc h,List.all_append];simp
theorem all_not {α:Type} {d:List α} {k:Nat} {x:α} {p:α→Bool} (h:d[k]?=some x) (hp:p x=false):d.all p=false:=by
 rw [List.all_eq_false];exact ⟨x,List.mem_of_getElem? h,by rw [hp];decide⟩
theorem head_of {d:List (List Int)} {x:List Int} (h:d[0]?=some x):d.headD []=x:=by
 cases d with
 | nil=>cases h
 | cons a b=>exact Option.some.inj h
theorem columns_c {ao:Option Addr} {n cap:Nat} {w:World} (hn:n≤9223372036854775807) :
 Calls Tryz.prog 90 #[.agg #[.slice ao n cap]] w fun e w'=>e=.returned (.int .i64 n)∧Below w.heap.size w w':=by
 go_enter Tryz.func90,Tryz.ntmps90
 go_wp2_with fail
 with_reducible refine (size_any0 hn).mono ?_
 rintro e w1 ⟨rfl,rfl⟩
 go_wp2
 go_ret
 exact ⟨rfl,(Below.refl _ _).alloc (Nat.le_refl _) _⟩
theorem clo_badHole (x:Int) (w:World) (_h:okInt64 x):Calls Tryz.prog 173 #[.int .i64 x] w fun e w'=>e=.returned (.bool (badHole x))∧w=w':=by
 go_enter Tryz.func173,Tryz.ntmps173
 go_wp2_with fail
 refine (inside_any _ _ _ _).mono ?_
 rintro e w' ⟨rfl,rfl⟩
 go_wp2
 go_ret
 exact ⟨ret_bool (by unfold badHole;simp),rfl⟩
theorem indexFunc_badHole {xs:List Int} {v:Value} {w:World} {A:Nat} (ha:RdI A w v xs) :
 Calls Tryz.prog 205 #[v,.func (.func 173) #[] #[]] w fun e w'=>(∃ r:Int,e=.returned (.int .i64 r)∧-1≤r∧(0≤r ↔ xs.any badHole=true))∧w=w':=by
 have hle:=ha.le;obtain ⟨ao,cap,rfl,ho⟩:=ha.open;obtain ⟨l,hl⟩:∃ l,l=xs.length:=⟨_,rfl⟩;rw [← hl];have Hl:=hid hl;have Ho:=hid ho;have hl':l≤9223372036854775807:=by omega
 clear ho hl hle ha;go_enter Tryz.func205,Tryz.ntmps205
 go_wp2
 go_loop [8] (fun i=>∃ k:Nat,k≤l∧i=.int .i64 k∧Hid ((xs.take k).any badHole=false)) (fun i=>l - (intOf i).toNat)
 case atStart=>exact ⟨0,Nat.zero_le _,rfl,rfl⟩
 case round =>
  obtain ⟨k,hk,rfl,hp⟩:=hrel;by_cases hkn:k<l
  · obtain ⟨b,off,rfl,hlt,hc⟩:=Ho.out (by have:=Hl.out;omega)
    obtain ⟨x,hx,hcx,bx⟩:=hc k (by have:=Hl.out;omega);have Hx:=hid hx;have Hb:=hid bx;clear hx hc bx;cases hq:badHole x with
    | true =>
     have Hq:=hid hq;clear hq;go_wp2_with (go_at_call 173;refine (clo_badHole x _ Hb.out).mono ?_;rw [Hq.out];rintro e w' ⟨rfl,rfl⟩)
     go_ret
     refine ⟨⟨_,rfl,by omega,?_⟩,rfl⟩
     have:xs.any badHole=true:=List.any_eq_true.2 ⟨x,List.mem_of_getElem? Hx.out,Hq.out⟩;simp [this]
    | false =>
     have Hq:=hid hq;clear hq;go_wp2_with (go_at_call 173;refine (clo_badHole x _ Hb.out).mono ?_;rw [Hq.out];rintro e w' ⟨rfl,rfl⟩)
     go_round
     case rel=>exact ⟨k+1,by omega,by go_num,by show _=false;rw [take_snoc Hx.out,List.any_append,hp.out];simp [Hq.out]⟩
     case measure=>simp [intOf];omega
  · go_wp2
    go_ret
    refine ⟨⟨_,rfl,by omega,?_⟩,rfl⟩
    have hq:=hp.out;rw [List.take_of_length_le (by have:=Hl.out;omega)] at hq;exact any_end hq
theorem any_badHole {xs:List Int} {v:Value} {w:World} {A:Nat} (ha:RdI A w v xs) :
 Calls Tryz.prog 172 #[v,.func (.func 173) #[] #[]] w fun e w'=>e=.returned (.bool (xs.any badHole))∧w=w':=by
 have Ha:=hid ha;obtain ⟨ao,cap,rfl⟩:=ha.shape;clear ha;go_enter Tryz.func172,Tryz.ntmps172
 go_wp2_with fail
 refine (indexFunc_badHole Ha.out).mono ?_
 rintro e w' ⟨⟨r,rfl,hr,hi⟩,rfl⟩
 have Hi:=hid hi;clear hi;go_wp2
 go_ret
 refine ⟨ret_bool ?_,rfl⟩
 rw [Bool.eq_iff_iff,decide_eq_true_iff];exact Hi.out
theorem ValidCard_c {xs:List Int} {v:Value} {w:World} {A:Nat} (ha:RdI A w v xs) :
 Calls Tryz.prog 131 #[.agg #[v]] w fun e w'=>e=.returned (.bool (cardB xs))∧Below w.heap.size w w':=by
 have hle:=ha.le;have hb0:Below w.heap.size w (w.alloc (.cells #[v] 88)):=(Below.refl _ _).alloc (Nat.le_refl _) _;have hB0:Box (w.alloc (.cells #[v] 88)) w.heap.size [v]:=Box.new w [v] 88;have ha0:=Rds.onn ha hb0;obtain ⟨ao,cap,rfl⟩:=ha.shape;have Ha0:=hid ha0;have Hb0:=hid hb0;have HB0:=hid hB0;obtain ⟨n,hn⟩:∃ n,n=xs.length:=⟨_,rfl⟩;obtain ⟨W0,hW0⟩:∃ W0,W0=w.alloc (.cells #[.slice ao xs.length cap] 88):=⟨_,rfl⟩;rw [← hW0] at Ha0 Hb0 HB0;unfold cardB;rw [← hn] at Ha0 HB0 hle hW0 ⊢;have HW0:=hid hW0;clear ha ha0 hb0 hB0 hW0 hn;have hcol:=fun W=>columns_c (ao:=ao) (n:=n) (cap:=cap) (w:=W) hle;have Hcol:=hid hcol;clear hcol;by_cases hc:1≤n∧n≤20
 · rw [decide_eq_true hc,Bool.true_and]
   have hci:(1:Int)≤(n:Int)∧(n:Int)≤20:=by omega
   have Hci:=hid hci;clear hci hc;go_enter Tryz.func131,Tryz.ntmps131
   go_wp2_with fail
   rw [← HW0.out];with_reducible refine (Hcol.out _).mono ?_
   rintro e w1 ⟨rfl,hb1⟩
   have hB1:=HB0.out.on hb1;have q0:=hB1.cell 0 _ rfl;have Ha1:=hid (Rds.onn Ha0.out hb1);have Hb1:=hid (Hb0.out.trans (hb1.mono Hb0.out.size));clear hB1 hb1;go_wp2_with fail
   with_reducible refine (inside_any _ _ _ _).mono ?_
   rw [decide_eq_true Hci.out];rintro e w2 ⟨rfl,rfl⟩
   go_wp2_with fail
   with_reducible refine (any_badHole Ha1.out).mono ?_
   rintro e w3 ⟨rfl,rfl⟩
   go_wp2
   go_ret
   exact ⟨rfl,Hb1.out⟩
 · rw [decide_eq_false hc,Bool.false_and]
   have hci:¬ ((1:Int)≤(n:Int)∧(n:Int)≤20):=by omega
   have Hci:=hid hci;clear hci hc;go_enter Tryz.func131,Tryz.ntmps131
   go_wp2_with fail
   rw [← HW0.out];with_reducible refine (Hcol.out _).mono ?_
   rintro e w1 ⟨rfl,hb1⟩
   have Hb1:=hid (Hb0.out.trans (hb1.mono Hb0.out.size));clear hb1;go_wp2_with fail
   with_reducible refine (inside_any _ _ _ _).mono ?_
   rw [decide_eq_false Hci.out];rintro e w2 ⟨rfl,rfl⟩
   go_wp2
   go_ret
   exact ⟨rfl,Hb1.out⟩
set_option maxHeartbeats 1000000 in
theorem ValidDeck_c {xss:List (List Int)} {v:Value} {w:World} {A:Nat} (ha:RdInt64SS A w v xss) :
 Calls Tryz.prog 89 #[v] w fun e w'=>e=.returned (.bool (deckB xss))∧Below w.heap.size w w':=by
 have hle:=ha.le;obtain ⟨ao,cap,rfl,ho⟩:=ha.open;obtain ⟨n,hn⟩:∃ n,n=xss.length:=⟨_,rfl⟩;have hdk:deckB xss=(xss.all (okAt xss) && decide (n≤40)):=by unfold deckB;rw [hn]
 rw [hdk,← hn];have Hn:=hid hn;have Ho:=hid ho;have hle':n≤9223372036854775807:=by omega
 clear ho hn hle ha hdk;go_enter Tryz.func89,Tryz.ntmps89
 go_wp2
 go_loopw [7] (fun i wr=>∃ k:Nat,k≤n∧i=.int .i64 k∧Hid ((xss.take k).all (okAt xss)=true)∧Below w.heap.size w wr) (fun i _=>n - (intOf i).toNat)
 case atStart=>exact ⟨0,Nat.zero_le _,rfl,hid (by simp),Below.refl _ _⟩
 case round =>
  obtain ⟨k,hk,rfl,hp,hb⟩:=hrel;by_cases hkn:k<n
  · obtain ⟨b,off,rfl,hlt,hc⟩:=Ho.out (by have:=Hn.out;omega)
    obtain ⟨x,ro,rc,hx,hcell,hrd⟩:=hc k (by have:=Hn.out;omega);obtain ⟨y,qo,qc,hy,hcell0,hrd0⟩:=hc 0 (by have:=Hn.out;omega);have hyl:=hrd0.le;have hxl:=hrd.le;have hh:=head_of hy;replace hcell:=(hb.cell (p:=⟨b,off+k,none⟩) hlt.2).trans hcell;replace hcell0:=(hb.cell (p:=⟨b,off+0,none⟩) hlt.2).trans hcell0;obtain ⟨T,hT⟩:∃ T,T=wr.alloc (.cells #[.slice ro x.length rc] 88):=⟨_,rfl⟩;have hbT:Below wr.heap.size wr T:=by rw [hT];exact (Below.refl _ _).alloc (Nat.le_refl _) _
    have hBT:Box T wr.heap.size [.slice ro x.length rc]:=by rw [hT];exact Box.new wr [.slice ro x.length rc] _
    have f0:=cell_regrown (hBT.cell 0 _ rfl);have hbl:=World.block_lt_of_cell? wr _ hcell0;have f1:=cell_regrown ((hbT.cell (p:=⟨b,off,none⟩) hbl).trans hcell0);have hkni:(k:Int)<(n:Int):=by omega
    have hn0:0<n:=by omega
    have hok:okAt xss x=(cardB x && decide (x.length=y.length)):=by unfold okAt;rw [hh]
    have hval:=ValidCard_c (Rds.onn (Rds.onn hrd hb) hbT);have hvalA:=fun d os=>ValidCard_c (w:=grow (redrawn T d) os) (A:=T.heap.size) (xs:=x) (Rds.regrown (Rds.onn (Rds.onn hrd hb) hbT) (Nat.le_refl _) d os);have hst:=all_take_snoc (okAt xss) hx;have hno:=fun h=>all_not (p:=okAt xss) hx h;have Hb:=hid hb;have HbT:=hid hbT;have HT:=hid hT;have HvalA:=hid hvalA;have Hok:=hid hok;have Hst:=hid hst;have Hno:=hid hno;clear hc hx hy hrd hrd0 hb hbT hBT hT hval hvalA hok hst hno hh;cases hcb:cardB x with
    | false =>
     rw [hcb] at HvalA Hok;rw [Bool.false_and] at Hok;clear hcb;go_upto_region 4 with fail
     rw [← HT.out];clear hcell hcell0;refine wp_region_quiet_below (by kernel_rfl) (by kernel_rfl) ?_
     repeat ((with_reducible refine wpQuiet_step (fun K hK=>?_));go_simp;first | ((with_reducible refine hK _ ?_);clear hK K) | (apply Exists.intro;refine ⟨fun _=>?_,hK _ ?_⟩;((first | (go_at_call 131;with_reducible exact qb_below (HvalA.out _ _))));clear hK K))
     refine wpQuiet_nil ?_
     intro _ hw';obtain ⟨⟨dq,osq⟩,hw''⟩:=hw';subst hw'';have hbq:=below_regrown T dq osq;generalize grow (redrawn T dq) osq=wq at hbq ⊢;have Hb1:=hid (Hb.out.trans ((HbT.out.trans (hbq.mono HbT.out.size)).mono Hb.out.size));clear hbq f0 f1;go_wp2
     go_ret
     exact ⟨by rw [Hno.out Hok.out];rfl,Hb1.out⟩
    | true =>
     rw [hcb] at HvalA Hok;rw [Bool.true_and] at Hok;clear hcb;by_cases hl:x.length=y.length
     · rw [decide_eq_true hl] at Hok
       obtain ⟨m,hm⟩:∃ m,m=y.length:=⟨_,rfl⟩;rw [← hm] at hl f1 hcell0 hyl;rw [hl] at f0 hcell HT HvalA;have HT2:=hid HT.out;have Hc1:=hid (fun d os=>columns_c (ao:=ro) (n:=m) (cap:=rc) (w:=grow (redrawn T d) os) hyl);have Hc2:=hid (fun d os=>columns_c (ao:=qo) (n:=m) (cap:=qc) (w:=grow (redrawn T d) os) hyl);clear hl hm hxl;go_upto_region 4 with fail
       rw [← HT2.out];clear hcell hcell0;refine wp_region_quiet_below (by kernel_rfl) (by kernel_rfl) ?_
       repeat ((with_reducible refine wpQuiet_step (fun K hK=>?_));go_simp;first | ((with_reducible refine hK _ ?_);clear hK K) | (apply Exists.intro;refine ⟨fun _=>?_,hK _ ?_⟩;((first | (go_at_call 131;with_reducible exact qb_below (HvalA.out _ _)) | (go_at_call 90;first | with_reducible exact qb_below (Hc1.out _ _) | with_reducible exact qb_below (Hc2.out _ _))));clear hK K))
       refine wpQuiet_nil ?_
       intro _ hw';obtain ⟨⟨dq,osq⟩,hw''⟩:=hw';subst hw'';have hbq:=below_regrown T dq osq;generalize grow (redrawn T dq) osq=wq at hbq ⊢;have Hb1:=hid (Hb.out.trans ((HbT.out.trans (hbq.mono HbT.out.size)).mono Hb.out.size));clear hbq f0 f1;go_wp2
       go_roundw
       case rel=>exact ⟨k+1,by omega,by go_num,hid (by rw [Hst.out,hp.out,Hok.out];rfl),Hb1.out⟩
       case measure=>simp [intOf];omega
     · rw [decide_eq_false hl] at Hok
       obtain ⟨m,hm⟩:∃ m,m=y.length:=⟨_,rfl⟩;obtain ⟨p,hp2⟩:∃ p,p=x.length:=⟨_,rfl⟩;rw [← hm] at hl f1 hcell0 hyl;rw [← hp2] at hl f0 hcell hxl HT HvalA;have HT2:=hid HT.out;have hl2:((p:Int) != (m:Int))=true:=by simp;omega
       have hl3:(p != m)=true:=by simp;omega
       have Hc1:=hid (fun d os=>columns_c (ao:=ro) (n:=p) (cap:=rc) (w:=grow (redrawn T d) os) hxl);have Hc2:=hid (fun d os=>columns_c (ao:=qo) (n:=m) (cap:=qc) (w:=grow (redrawn T d) os) hyl);clear hm hp2;go_upto_region 4 with fail
       rw [← HT2.out];clear hcell hcell0;refine wp_region_quiet_below (by kernel_rfl) (by kernel_rfl) ?_
       repeat ((with_reducible refine wpQuiet_step (fun K hK=>?_));go_simp;first | ((with_reducible refine hK _ ?_);clear hK K) | (apply Exists.intro;refine ⟨fun _=>?_,hK _ ?_⟩;((first | (go_at_call 131;with_reducible exact qb_below (HvalA.out _ _)) | (go_at_call 90;first | with_reducible exact qb_below (Hc1.out _ _) | with_reducible exact qb_below (Hc2.out _ _))));clear hK K))
       refine wpQuiet_nil ?_
       intro _ hw';obtain ⟨⟨dq,osq⟩,hw''⟩:=hw';subst hw'';have hbq:=below_regrown T dq osq;generalize grow (redrawn T dq) osq=wq at hbq ⊢;have Hb1:=hid (Hb.out.trans ((HbT.out.trans (hbq.mono HbT.out.size)).mono Hb.out.size));clear hbq f0 f1;go_wp2
       go_ret
       exact ⟨by rw [Hno.out Hok.out];rfl,Hb1.out⟩
  · obtain rfl:k=n:=by omega
    have hal:=hp.out;rw [List.take_of_length_le (by have:=Hn.out;omega)] at hal;have Hal:=hid hal;clear hal;go_wp2
    go_ret
    exact ⟨ret_bool (by rw [Hal.out];simp;omega),hb⟩
abbrev RdCardS (B:Nat) (w:World) (v:Value) (xss:List (List Int)):Prop:=RdInt64SS B w v xss
abbrev szCardS (x:List (List Int)):Int:=szInt64SS x
abbrev cntCardS (x:List (List Int)):Nat:=cntInt64SS x
abbrev mkCardS (k:Int) (x:List (List Int)):List (List Int):=mkInt64SS k x
theorem cntCardS_le (x:List (List Int)):(cntCardS x:Int)≤16 * szCardS x:=cntInt64SS_le x
theorem szCardS_nonneg (x:List (List Int)):0≤szCardS x:=szInt64SS_nonneg x
theorem szCardS_len (x:List (List Int)):(x.length:Int)≤szCardS x:=szInt64SS_len x
abbrev OwnTCardS (base tp:Nat) (w:World) (v:Value) (xss:List (List Int)):Prop:=OwnTM 88 base tp w v xss
def OwnCardS (base:Nat) (w:World) (v:Value) (xss:List (List Int)):Prop:=OwnTM 88 base w.heap.size w v xss
theorem OwnCardS.top {base:Nat} {w:World} {v:Value} {x:List (List Int)} (h:OwnCardS base w v x):OwnTCardS base w.heap.size w v x:=h
theorem OwnCardS.rds {base:Nat} {w:World} {v:Value} {x:List (List Int)} (h:OwnCardS base w v x):RdCardS w.heap.size w v x:=OwnTM.rds h
theorem szCard_c {xs:List Int} {v:Value} {w:World} {A:Nat} (left:Int) (ha:RdI A w v xs) (h0:0≤left) (h1:left≤1048576) :
 Calls Tryz.prog 116 #[.agg #[v],.int .i64 left] w fun e w'=>e=.returned (.int .i64 (if left<xs.length then -1 else left - xs.length))∧Below w.heap.size w w':=by
 have hle:=ha.le;have hb0:Below w.heap.size w (w.alloc (.cells #[v] 152)):=(Below.refl _ _).alloc (Nat.le_refl _) _;have ha0:=Rds.onn ha hb0;obtain ⟨ao,cap,rfl⟩:=ha.shape;have Ha0:=hid ha0;have Hb0:=hid hb0;clear ha ha0 hb0;by_cases h:left<xs.length
 · have Hc:=hid (szI left Ha0.out h0 h1)
   rw [if_pos h] at Hc ⊢;go_enter Tryz.func116,Tryz.ntmps116
   go_wp2_with fail
   with_reducible refine Hc.out.mono ?_
   rintro e w1 ⟨rfl,rfl⟩
   go_wp2
   go_ret
   exact ⟨rfl,Hb0.out⟩
 · have Hc:=hid (szI left Ha0.out h0 h1)
   rw [if_neg h] at Hc ⊢;have hq:¬ left - (xs.length:Int)<0:=by omega
   go_enter Tryz.func116,Tryz.ntmps116
   go_wp2_with fail
   with_reducible refine Hc.out.mono ?_
   rintro e w1 ⟨rfl,rfl⟩
   go_wp2
   go_ret
   exact ⟨rfl,Hb0.out⟩
theorem szCardS_c {xss:List (List Int)} {v:Value} {w:World} {A:Nat} {left:Int} (ha:RdCardS A w v xss) (h1:left≤1048576) (h2:szCardS xss≤left) :
 Calls Tryz.prog 77 #[v,.int .i64 left] w fun e w'=>e=.returned (.int .i64 (left - szCardS xss))∧Below w.heap.size w w':=by
 have hle:=ha.le;obtain ⟨ao,cap,rfl,ho⟩:=ha.open;obtain ⟨n,hn⟩:∃ n,n=xss.length:=⟨_,rfl⟩;rw [← hn];have Hn:=hid hn;have Ho:=hid ho;have hle':n≤9223372036854775807:=by omega
 have h2':n+sumBy (fun r=>(r.length:Int)) xss≤left:=by unfold szCardS szInt64SS at h2;omega
 have h3:=sumBy_nonneg (f:=fun r:List Int=>(r.length:Int)) (fun r=>by omega) xss;have H2:=hid h2';have h4:(n:Int)≤left:=by omega
 clear ho hn hle ha h2 h2' h3;go_enter Tryz.func77,Tryz.ntmps77
 go_wp2
 go_loopw [1,5] (fun l i wr=>∃ k:Nat,k≤n∧i=.int .i64 k∧∃ lf:Int,l=.int .i64 lf∧(lf≤1048576∧0≤lf)∧Hid (lf=left - n - sumBy (fun r=>(r.length:Int)) (xss.take k))∧Below w.heap.size w wr) (fun _ i _=>n - (intOf i).toNat)
 case atStart=>exact ⟨0,Nat.zero_le _,rfl,left - n,rfl,by omega,by show left - n=_;simp [sumBy],Below.refl _ _⟩
 case round =>
  obtain ⟨k,hk,rfl,lf,rfl,⟨hl1,hl2⟩,hlf,hb⟩:=hrel;by_cases hkn:k<n
  · obtain ⟨b,off,rfl,hlt,hc⟩:=Ho.out (by have:=Hn.out;omega)
    obtain ⟨x,ro,rc,hx,hcell,hrd⟩:=hc k (by have:=Hn.out;omega);replace hcell:=(hb.cell (p:=⟨b,off+k,none⟩) hlt.2).trans hcell;have Hx:=hid hx;have Hrd:=hid (Rds.onn hrd hb);have hf:(x.length:Int)≤lf:=by
     rw [hlf.out];have h4:=sumBy_snoc (fun r:List Int=>(r.length:Int)) hx;have h5:=sumBy_take_le (f:=fun r:List Int=>(r.length:Int)) (fun r=>by omega) xss (k+1);have:=H2.out;omega
    have Hb:=hid hb;clear hx hc hrd hb;go_wp2_with fail
    with_reducible refine (szCard_c lf Hrd.out hl2 hl1).mono ?_
    rw [if_neg (by omega)];rintro e w1 ⟨rfl,hb1⟩
    have Hb1:=hid (Hb.out.trans (hb1.mono Hb.out.size));clear hb1 hcell;go_wp2
    go_roundw
    case rel=>exact ⟨k+1,by omega,by go_num,lf - x.length,rfl,by omega,by show lf - x.length=_;rw [sumBy_snoc (fun r:List Int=>(r.length:Int)) Hx.out,hlf.out];omega,Hb1.out⟩
    case measure=>simp [intOf];omega
  · go_wp2
    go_ret
    refine ⟨ret_int ?_,hb⟩
    rw [hlf.out,List.take_of_length_le (by have:=Hn.out;omega)];unfold szCardS szInt64SS;have:=Hn.out;omega
theorem szCardS_no {xss:List (List Int)} {v:Value} {w:World} {A:Nat} {left:Int} (ha:RdCardS A w v xss) (h0:0≤left∧left≤1048576) (h2:¬ szCardS xss≤left) :
 Calls Tryz.prog 77 #[v,.int .i64 left] w fun e w'=>e=.returned (.int .i64 (-1))∧Below w.heap.size w w':=by
 have h1:=h0.2;have h00:=h0.1;have hle:=ha.le;obtain ⟨ao,cap,rfl,ho⟩:=ha.open;obtain ⟨n,hn⟩:∃ n,n=xss.length:=⟨_,rfl⟩;rw [← hn];have Hn:=hid hn;have Ho:=hid ho;have hle':n≤9223372036854775807:=by omega
 have h2':¬ n+sumBy (fun r=>(r.length:Int)) xss≤left:=by unfold szCardS szInt64SS at h2;omega
 have H2:=hid h2';clear ho hn hle ha h2 h0 h2';by_cases hb:left<n
 · clear H2
   go_enter Tryz.func77,Tryz.ntmps77
   go_wp2
   go_ret
   exact ⟨rfl,Below.refl _ _⟩
 go_enter Tryz.func77,Tryz.ntmps77
 go_wp2
 go_loopw [1,5] (fun l i wr=>∃ k:Nat,k≤n∧i=.int .i64 k∧∃ lf:Int,l=.int .i64 lf∧(lf≤1048576∧0≤lf)∧Hid (lf=left - n - sumBy (fun r=>(r.length:Int)) (xss.take k))∧Below w.heap.size w wr) (fun _ i _=>n - (intOf i).toNat)
 case atStart=>exact ⟨0,Nat.zero_le _,rfl,left - n,rfl,by omega,by show left - n=_;simp [sumBy],Below.refl _ _⟩
 case round =>
  obtain ⟨k,hk,rfl,lf,rfl,⟨hl1,hl2⟩,hlf,hb⟩:=hrel;by_cases hkn:k<n
  · obtain ⟨b,off,rfl,hlt,hc⟩:=Ho.out (by have:=Hn.out;omega)
    obtain ⟨x,ro,rc,hx,hcell,hrd⟩:=hc k (by have:=Hn.out;omega);replace hcell:=(hb.cell (p:=⟨b,off+k,none⟩) hlt.2).trans hcell;have Hx:=hid hx;have Hrd:=hid (Rds.onn hrd hb);have Hb:=hid hb;clear hx hc hrd hb;by_cases hf:lf<x.length
    · go_wp2_with fail
      with_reducible refine (szCard_c lf Hrd.out hl2 hl1).mono ?_
      rw [if_pos hf];rintro e w1 ⟨rfl,hb1⟩
      have Hb1:=hid (Hb.out.trans (hb1.mono Hb.out.size));clear hb1 hcell;go_wp2
      go_ret
      exact ⟨rfl,Hb1.out⟩
    · go_wp2_with fail
      with_reducible refine (szCard_c lf Hrd.out hl2 hl1).mono ?_
      rw [if_neg (by omega)];rintro e w1 ⟨rfl,hb1⟩
      have Hb1:=hid (Hb.out.trans (hb1.mono Hb.out.size));clear hb1 hcell;go_wp2
      go_roundw
      case rel=>exact ⟨k+1,by omega,by go_num,lf - x.length,rfl,by omega,by show lf - x.length=_;rw [sumBy_snoc (fun r:List Int=>(r.length:Int)) Hx.out,hlf.out];omega,Hb1.out⟩
      case measure=>simp [intOf];omega
  · exfalso
    have h6:=hlf.out;rw [List.take_of_length_le (by have:=Hn.out;omega)] at h6;have:=H2.out;omega
theorem eqCard_c {xs:List Int} {va vb:Value} {w:World} {A B:Nat} (ha:RdI A w va xs) (hb:RdI B w vb xs) :
 Calls Tryz.prog 147 #[.agg #[va],.agg #[vb]] w fun e w'=>e=.returned (.bool true)∧Below w.heap.size w w':=by
 have hb0:Below w.heap.size w ((w.alloc (.cells #[va] 88)).alloc (.cells #[vb] 88)):=((Below.refl _ _).alloc (Nat.le_refl _) _).alloc (by simp) _;have ha0:=Rds.onn ha hb0;have hb0':=Rds.onn hb hb0;obtain ⟨ao,cap,rfl⟩:=ha.shape;obtain ⟨bo,bcap,rfl⟩:=hb.shape;have Hc:=hid (eqI_same ha0 hb0');have Hb0:=hid hb0;clear ha hb ha0 hb0 hb0';go_enter Tryz.func147,Tryz.ntmps147
 go_wp2_with fail
 with_reducible refine Hc.out.mono ?_
 rintro e w1 ⟨rfl,m,rfl⟩
 have Hb1:=hid (Hb0.out.drewNy m);clear Hb0 Hc;generalize World.drewN _ m=w2 at Hb1 ⊢;go_wp2
 go_ret
 exact ⟨rfl,Hb1.out⟩
theorem eqCardS_c {xss:List (List Int)} {va vb:Value} {w:World} {A B:Nat} (ha:RdCardS A w va xss) (hb:RdCardS B w vb xss) :
 Calls Tryz.prog 96 #[va,vb] w fun e w'=>e=.returned (.bool true)∧Below w.heap.size w w':=by
 obtain ⟨bo,bcap,rfl,hob⟩:=hb.open;have Hob:=hid hob;clear hob hb;have hle:=ha.le;obtain ⟨ao,cap,rfl,ho⟩:=ha.open;obtain ⟨n,hn⟩:∃ n,n=xss.length:=⟨_,rfl⟩;rw [← hn];have Hn:=hid hn;have Ho:=hid ho;have hle':n≤9223372036854775807:=by omega
 clear ho hn hle ha;go_enter Tryz.func96,Tryz.ntmps96
 go_wp2
 go_loopw [5] (fun i wr=>∃ k:Nat,k≤n∧i=.int .i64 k∧Below w.heap.size w wr) (fun i _=>n - (intOf i).toNat)
 case atStart=>exact ⟨0,Nat.zero_le _,rfl,Below.refl _ _⟩
 case round =>
  obtain ⟨k,hk,rfl,hb⟩:=hrel;by_cases hkn:k<n
  · obtain ⟨b,off,rfl,hlt,hc⟩:=Ho.out (by have:=Hn.out;omega)
    obtain ⟨x,ro,rc,hx,hcell,hrd⟩:=hc k (by have:=Hn.out;omega);have Hx:=hid hx;obtain ⟨b2,off2,rfl,hlt2,hc2⟩:=Hob.out (by have:=Hn.out;omega);obtain ⟨x2,ro2,rc2,hx2,hcell2,hrd2⟩:=hc2 k (by have:=Hn.out;omega);obtain rfl:x=x2:=Option.some.inj (Hx.out.symm.trans hx2);replace hcell:=(hb.cell (p:=⟨b,off+k,none⟩) hlt.2).trans hcell;replace hcell2:=(hb.cell (p:=⟨b2,off2+k,none⟩) hlt2.2).trans hcell2;have Hrd:=hid (Rds.onn hrd hb);have Hrd2:=hid (Rds.onn hrd2 hb);have Hb:=hid hb;have f1:=cell_regrown hcell;have f2:=cell_regrown hcell2;clear hx hc hrd hx2 hc2 hrd2 hb hcell hcell2;go_wp2
    refine wp_region_quiet_below (by kernel_rfl) (by kernel_rfl) ?_
    repeat ((with_reducible refine wpQuiet_step (fun K hK=>?_));go_simp;first | ((with_reducible refine hK _ ?_);clear hK K) | (apply Exists.intro;refine ⟨fun _=>?_,hK _ ?_⟩;((go_at_call 147;exact qb_below (eqCard_c (Hrd.out.regrown (Nat.le_refl _) _ _) (Hrd2.out.regrown (Nat.le_refl _) _ _))));clear hK K))
    refine wpQuiet_nil ?_
    intro _ hw';obtain ⟨⟨dq,osq⟩,hw''⟩:=hw';subst hw'';have hbq:=below_regrown wr dq osq;generalize grow (redrawn wr dq) osq=wq at hbq ⊢;have Hb1:=hid (Hb.out.trans (hbq.mono Hb.out.size));clear hbq f1 f2;go_wp2
    go_roundw
    case rel=>exact ⟨k+1,by omega,by go_num,Hb1.out⟩
    case measure=>simp [intOf];omega
  · go_wp2
    go_ret
    exact ⟨rfl,hb⟩
theorem grown_setC (w:World) (a:Addr) (u:Value):w.grownBy (w.setCell a u) (some a.block) :=
 ⟨rfl,rfl,rfl,by simp [World.setCell],fun k hk hne=>Below.heap_setCell _ _ _ _ (fun e=>hne (by rw [e]))⟩
theorem Tryz.infoCard:(Tryz.prog.info? 88).map (fun i=>(i.zero,i.size,i.bytes))=some (some (.agg #[.slice none 0 0]),1,24):=by kernel_rfl
theorem toCard_c {xs:List Int} {v:Value} {w:World} {A:Nat} (ha:RdI A w v xs) (hl:xs.length≤1048576) :
 Calls Tryz.prog 129 #[.agg #[v]] w fun e w'=>∃ u,e=.returned (.agg #[u])∧Own eI 2 w.heap.size w' u xs∧Below w.heap.size w w':=by
 obtain ⟨W,hW⟩:∃ W,W=((w.alloc (.cells #[v] 152)).alloc (.cells #[.slice none 0 0] 88)).alloc (.cells #[.slice none 0 0] 88):=⟨_,rfl⟩;have hs1:(w.alloc (.cells #[v] 152)).heap.size=w.heap.size+1:=by simp
 have hs2:((w.alloc (.cells #[v] 152)).alloc (.cells #[.slice none 0 0] 88)).heap.size=w.heap.size+1+1:=by simp
 have hb0:Below w.heap.size w W:=by rw [hW];exact (((Below.refl w.heap.size w).alloc (Nat.le_refl _) _).alloc (by simp) _).alloc (by simp;omega) _
 have hB1:Box W (w.heap.size+1) [.slice none 0 0]:=by
  have h:=(Box.new (w.alloc (.cells #[v] 152)) [.slice none 0 0] 88).alloc (.cells #[.slice none 0 0] 88);rw [hs1] at h;rw [hW];exact h
 have hB2:Box W (w.heap.size+1+1) [.slice none 0 0]:=by
  have h:=Box.new ((w.alloc (.cells #[v] 152)).alloc (.cells #[.slice none 0 0] 88)) [.slice none 0 0] 88;rw [hs2] at h;rw [hW];exact h
 have ha0:=Rds.onn ha hb0;obtain ⟨ao,cap,rfl⟩:=ha.shape;have Ha0:=hid ha0;have Hb0:=hid hb0;have HB1:=hid hB1;have HB2:=hid hB2;have HW:=hid hW;clear ha ha0 hb0 hB1 hB2 hW hs1 hs2;go_enter Tryz.func129,Tryz.ntmps129
 go_wp2_with fail
 rw [← HW.out];with_reducible refine (toI Ha0.out hl).mono ?_
 rintro e w1 ⟨u,rfl,hu,hb1⟩
 have hx1:=HB1.out.on hb1;have hx2:=HB2.out.on hb1;have hl2:=HB2.out.lt;have d1:=hx1.cell 0 _ rfl;have f1:=hx1.free 0;have d2:=hx2.cell 0 _ rfl;have f2:=hx2.free 0;obtain ⟨uo,uc,rfl⟩:=hu.shape;have g0:=((hx1.other (p:=⟨w.heap.size+1+1,0,none⟩) (by show w.heap.size+1+1 ≠ w.heap.size+1;omega) (.slice uo xs.length uc)).set1 (j:=0) (by simp) (.slice uo xs.length uc)).cell 0 (.slice uo xs.length uc) rfl;have hlt:=hu.lt;have hsz:=Hb0.out.size;have hu2:=(hu.kept (grown_setC w1 ⟨w.heap.size+1+1,0,none⟩ (.slice uo xs.length uc)) (.inr (fun h=>by have h9:=(hlt _ h).1;simp only at h9;omega))).kept (grown_setC _ ⟨w.heap.size+1,0,none⟩ (.slice uo xs.length uc)) (.inr (fun h=>by have h9:=(hlt _ h).1;simp only at h9;omega));have Hu:=hid (hu2.mono hsz);have hb2:=Hb0.out.trans (hb1.mono hsz);have Hb1:=hid ((hb2.setCell (p:=⟨w.heap.size+1+1,0,none⟩) (by show w.heap.size≤w.heap.size+1+1;omega) (.slice uo xs.length uc)).setCell (p:=⟨w.heap.size+1,0,none⟩) (by show w.heap.size≤w.heap.size+1;omega) (.slice uo xs.length uc));clear hx1 hx2 hu hb1 hlt hu2 hb2;go_wp2
 exact bodyPost_ret (v:=.agg #[.slice uo xs.length uc]) (by simp [results,Tryz.results129,go_sem,g0]) rfl ⟨_,rfl,Hu.out,Hb1.out⟩
theorem toCardS_c {w:World} {A:Nat} {xss:List (List Int)} {v:Value} (ha:RdCardS A w v xss) (hl:szCardS xss≤1048576) :
 Calls Tryz.prog 86 #[v] w fun e w'=>∃ u,e=.returned u∧OwnCardS w.heap.size w' u xss∧Below w.heap.size w w':=by
 have hl2:xss.length≤1048576:=by have:=szCardS_len xss;omega
 have hrow:∀ (k:Nat) (x:List Int),xss[k]?=some x→x.length≤1048576:=by
  intro k x hx;have h4:=sumBy_snoc (fun r:List Int=>(r.length:Int)) hx;have h5:=sumBy_take_le (f:=fun r:List Int=>(r.length:Int)) (fun r=>by omega) xss (k+1);have h6:=sumBy_nonneg (f:=fun r:List Int=>(r.length:Int)) (fun r=>by omega) (xss.take k);unfold szCardS szInt64SS at hl;omega
 have ha:=ha.tight;have hle:=ha.le;obtain ⟨ao,cap,rfl,ho⟩:=ha.open;obtain ⟨n,hn⟩:∃ n,n=xss.length:=⟨_,rfl⟩;rw [← hn];have Hn:=hid hn;have Ho:=hid ho;have Hrow:=hid hrow;have hle':n≤1048576:=by omega
 obtain ⟨i0,hi,hz0,hz1,hz2⟩:=info_parts Tryz.infoCard;clear ho hn hle ha hl hl2 hrow;go_enter Tryz.func86,Tryz.ntmps86
 go_wp2_with (first | (at_make;refine wpList_make_full _ rfl _ _ 78 rfl w.heap.size 88 i0 (.agg #[.slice none 0 0]) 1 Tryz.underlying78 hi hz0 hz1 _ _ _ _ n rfl rfl rfl rfl ?b1 ?b2 (Nat.le_refl _) ?_))
 case b1=>first | omega | (rw [hz2];omega)
 case b2=>unfold maxLen;omega
 intro w1 hown hgr;have hb1:Below w.heap.size w w1:=(Below.refl _ _).grown hgr (Nat.le_refl _) (fun k hk=>by cases hk);have hown0:OwnTM 88 w.heap.size w1.heap.size w1 (.slice (some ⟨w.heap.size,0,none⟩) n n) (xss.take 0++List.replicate (n - 0) []):=by
  have h1:Own eS 88 w.heap.size w1 (.slice (some ⟨w.heap.size,0,none⟩) n n) (List.replicate n ⟨none,0,0⟩):=by
   refine ⟨?_,fun x hx=>trivial⟩
   have hown2:w1.ownsRow w.heap.size 88 eS.sz (.slice (some ⟨w.heap.size,0,none⟩) n n) n (madeCells (Value.agg #[.slice none 0 0]).cells (n * eS.sz)).toList:=by rw [show n * eS.sz=n from Nat.mul_one n];exact hown
   rw [Elt.all_made (E:=eS) (z:=⟨none,0,0⟩) (zv:=Value.agg #[.slice none 0 0]) (by decide) rfl n] at hown2;simpa using hown2
  refine ⟨List.replicate n ⟨none,0,0⟩,h1.top,by simp,?_,?_,?_⟩
  · intro i h xs e1 e2
    simp only [List.take_zero,List.nil_append,Nat.sub_zero] at e2
    rw [List.getElem?_replicate] at e1 e2;by_cases hi:i<n
    · rw [if_pos hi] at e1 e2;cases e1;cases e2;exact ⟨Own.nil _ _ _ _,fun k hk=>by cases hk⟩
    · rw [if_neg hi] at e1;cases e1
  · intro i h e1
    rw [List.getElem?_replicate] at e1;by_cases hi:i<n
    · rw [if_pos hi] at e1;cases e1;intro g _ hg;cases hg
    · rw [if_neg hi] at e1;cases e1
  · intro i j h h' _ e1 e2
    rw [List.getElem?_replicate] at e1;by_cases hi:i<n
    · rw [if_pos hi] at e1;cases e1;intro g hg;cases hg
    · rw [if_neg hi] at e1;cases e1
 clear hown hgr;go_wp2
 go_loopw [4] (fun i wr=>∃ k:Nat,k≤n∧i=.int .i64 k∧OwnTM 88 w.heap.size wr.heap.size wr (.slice (some ⟨w.heap.size,0,none⟩) n n) (xss.take k++List.replicate (n - k) [])∧Below w.heap.size w wr) (fun i _=>n - (intOf i).toNat)
 case atStart=>exact ⟨0,Nat.zero_le _,rfl,hown0,hb1⟩
 case round =>
  obtain ⟨k,hk,rfl,hw,hb⟩:=hrel;by_cases hkn:k<n
  · obtain ⟨b,off,rfl,hlt,hc⟩:=Ho.out (by have:=Hn.out;omega)
    obtain ⟨x,ro,rc,hx,hcell,hrd⟩:=hc k (by have:=Hn.out;omega);have hrd2:=hrd.below hb (Nat.le_refl _);have hl3:=Hrow.out k x hx;have Hx:=hid hx;clear hx hc hrd hb1 hown0;have d:=(hb.cell (p:=⟨b,off+k,none⟩) hlt.2).trans hcell;clear hcell;have Hrd:=hid hrd2;clear hrd2;have hb0:=hb.size;go_wp2_with fail
    with_reducible refine (toCard_c Hrd.out hl3).mono ?_
    rintro e w2 ⟨u,rfl,hu,hb2⟩
    have hw2:=hw.below hb2 (Nat.le_refl _);have hb3:Below w.heap.size w w2:=hb.trans (hb2.mono hb0);have hlen:n=(xss.take k++List.replicate (n - k) []).length:=by have:=Hn.out;simp;omega
    obtain ⟨uo,uc,rfl⟩:=hu.shape;obtain ⟨⟨y,hy⟩,hf,ho,hg⟩:=hw2.put hlen hkn hu hb0 hb2.size;have Hst:=hid ho;have Hb3:=hid hb3;clear ho hlen hb hb2 hw hw2 hb3 d hu hg;go_wp2
    go_roundw
    case rel=>exact ⟨k+1,by omega,by go_num,by have h:=Hst.out;rw [set_take_rows Hx.out Hn.out hkn] at h;simpa using h,Hb3.out.setCell (Nat.le_refl _) _⟩
    case measure=>simp [intOf];omega
  · go_wp2
    go_ret
    refine ⟨_,rfl,?_,hb⟩
    have:=Hn.out;rw [List.take_of_length_le (by omega),show n - k=0 by omega] at hw;simpa [OwnCardS] using hw
theorem markCardS_c {xss:List (List Int)} {base top:Nat} {v:Value} {w:World} (k:Int) (ha:OwnTCardS base top w v xss) (hk:0≤k) (hl:k+cntCardS xss≤9223372036854775807) :
 Calls Tryz.prog 99 #[v,.int .i64 k] w fun e w'=>e=.returned (.int .i64 (k+cntCardS xss))∧OwnTCardS base top w' v (mkCardS k xss)∧Within base top w w':=by
 have hle:=ha.rds.le;obtain ⟨ao,cap,rfl⟩:=ha.shape;obtain ⟨n,hn⟩:∃ n,n=xss.length:=⟨_,rfl⟩;have hcnt:(cntCardS xss:Int)=sumBy (fun r:List Int=>(r.length:Int)) xss:=by unfold cntCardS cntInt64SS;have:=sumBy_nonneg (f:=fun r:List Int=>(r.length:Int)) (fun r=>by omega) xss;omega
 rw [hcnt] at hl ⊢;rw [← hn] at ha ⊢;have Hn:=hid hn;have Hl:=hid hl;have hle':n≤9223372036854775807:=by omega
 clear hn hle hl hcnt;go_enter Tryz.func99,Tryz.ntmps99
 go_wp2
 go_loopw [1,5] (fun c i wr=>∃ j:Nat,j≤n∧i=.int .i64 j∧∃ s:Int,c=.int .i64 (k+s)∧s=sumBy (fun r:List Int=>(r.length:Int)) (xss.take j)∧0≤s∧OwnTM 88 base top wr (.slice ao n cap) (mkRows k (xss.take j)++xss.drop j)∧Within base top w wr) (fun _ i _=>n - (intOf i).toNat)
 case atStart=>exact ⟨0,Nat.zero_le _,rfl,0,by simp,by simp [sumBy],by omega,by simpa [mkRows] using ha,Within.refl _ _ _⟩
 case round =>
  obtain ⟨j,hj,rfl,s,rfl,hs,hs0,hw,hwi⟩:=hrel;clear ha;by_cases hjn:j<n
  · have hlen:(mkRows k (xss.take j)++xss.drop j).length=n:=by have:=Hn.out;rw [List.length_append,mkRows_length];simp;omega
    obtain ⟨g,cp,hv,hg1,hg2,hg3⟩:=hw.addr (by omega);obtain ⟨hv1,hv2,hv3⟩:=Value.slice.inj hv;subst hv1;subst hv3;clear hv2;have hx:xss[j]?=some (xss[j]'(by have:=Hn.out;omega)):=List.getElem?_eq_getElem _;generalize xss[j]'(by have:=Hn.out;omega)=x at hx;have hx2:(mkRows k (xss.take j)++xss.drop j)[j]?=some x:=by
     have h0:(mkRows k (xss.take j)).length=j:=by rw [mkRows_length];have:=Hn.out;simp;omega
     rw [List.getElem?_append_right (by omega),h0,Nat.sub_self,List.getElem?_drop,Nat.add_zero];exact hx
    obtain ⟨ro,rc,hcell,hown,hback⟩:=hw.row hx2;have h4:=sumBy_snoc (fun r:List Int=>(r.length:Int)) hx;have h5:=sumBy_take_le (f:=fun r:List Int=>(r.length:Int)) (fun r=>by omega) xss (j+1);have hl2:(k+s)+x.length≤9223372036854775807:=by have:=Hl.out;omega
    have Hx:=hid hx;have ho1:=hown.1;have ho2:=hown.2;have Ho1:=hid ho1;have Ho2:=hid ho2;have Hback:=hid hback;have Hs:=hid hs;have Hwi:=hid hwi;clear hx hx2 hown ho1 ho2 hback hs hw hv hwi h4 h5 hlen;go_wp2_with fail
    with_reducible refine (markI (k+s) Ho1.out (by omega) hl2).mono ?_
    rintro e w2 ⟨rfl,ho,hg,hz⟩
    have ht:=Hback.out w2 _ ⟨ho,Ho2.out⟩ hg;rw [Hs.out,mkRows_set Hx.out] at ht;have Ht:=hid ht;have hwi2:Within base top w w2:=Hwi.out.trans (Within.of_grown hg fun q hq=>⟨(Ho1.out.lt q hq).1,Ho2.out q hq⟩);have Hwi2:=hid hwi2;clear ho hg ht hwi2 hz;go_wp2
    go_roundw
    case rel=>exact ⟨j+1,by omega,by go_num,s+x.length,by go_num,by rw [sumBy_snoc (fun r:List Int=>(r.length:Int)) Hx.out,← Hs.out],by omega,Ht.out,Hwi2.out⟩
    case measure=>simp [intOf];omega
  · go_wp2
    go_ret
    have:=Hn.out;rw [List.take_of_length_le (by omega)] at hs;rw [List.take_of_length_le (by omega),List.drop_of_length_le (by omega),List.append_nil] at hw;exact ⟨ret_int (by rw [hs]),hw,hwi⟩
theorem heldCardS_c {xss:List (List Int)} {v:Value} {w:World} {A:Nat} (k:Int) (ha:RdCardS A w v (mkCardS k xss)) (hk:0≤k) (hl:k+cntCardS xss≤9223372036854775807) :
 Calls Tryz.prog 101 #[v,.int .i64 k] w fun e w'=>e=.returned (.int .i64 (k+cntCardS xss))∧Below w.heap.size w w':=by
 have hle:=ha.le;obtain ⟨ao,cap,rfl,ho⟩:=ha.open;have e0:(mkCardS k xss).length=xss.length:=mkRows_length _ _;rw [e0] at hle ho ⊢;obtain ⟨n,hn⟩:∃ n,n=xss.length:=⟨_,rfl⟩;have hcnt:(cntCardS xss:Int)=sumBy (fun r:List Int=>(r.length:Int)) xss:=by unfold cntCardS cntInt64SS;have:=sumBy_nonneg (f:=fun r:List Int=>(r.length:Int)) (fun r=>by omega) xss;omega
 rw [hcnt] at hl ⊢;rw [← hn] at ho ⊢;have Hn:=hid hn;have Ho:=hid ho;have Hl:=hid hl;have hle':n≤9223372036854775807:=by omega
 clear ho hn hle ha hl hcnt e0;go_enter Tryz.func101,Tryz.ntmps101
 go_wp2
 go_loopw [1,5] (fun c i wr=>∃ j:Nat,j≤n∧i=.int .i64 j∧∃ s:Int,c=.int .i64 (k+s)∧Hid (s=sumBy (fun r:List Int=>(r.length:Int)) (xss.take j))∧0≤s∧wr=w) (fun _ i _=>n - (intOf i).toNat)
 case atStart=>exact ⟨0,Nat.zero_le _,rfl,0,by simp,by show (0:Int)=_;simp [sumBy],by omega,by first | rfl | trivial⟩
 case round =>
  obtain ⟨j,hj,rfl,s,rfl,hs,hs0,rfl⟩:=hrel;by_cases hjn:j<n
  · obtain ⟨b,off,rfl,hlt,hc⟩:=Ho.out (by omega)
    obtain ⟨y,ro,rc,hy,hcell,hrd⟩:=hc j hjn;have hx:xss[j]?=some (xss[j]'(by have:=Hn.out;omega)):=List.getElem?_eq_getElem _;generalize xss[j]'(by have:=Hn.out;omega)=x at hx;have hy2:y=markL (k+s) x.length:=by
     have:=mkRows_get (k:=k) hx;rw [← hs.out] at this;exact Option.some.inj (hy.symm.trans this)
    subst hy2;have h4:=sumBy_snoc (fun r:List Int=>(r.length:Int)) hx;have h5:=sumBy_take_le (f:=fun r:List Int=>(r.length:Int)) (fun r=>by omega) xss (j+1);have hl2:(k+s)+x.length≤9223372036854775807:=by have:=Hl.out;have:=hs.out;omega
    have Hx:=hid hx;have Hrd:=hid hrd;clear hx hc hrd hy h4 h5;go_wp2_with fail
    with_reducible refine (heldI (k+s) Hrd.out (by omega) hl2).mono ?_
    rintro e w1 ⟨rfl,rfl⟩
    go_wp2
    go_roundw
    case rel=>exact ⟨j+1,by omega,by go_num,s+x.length,by go_num,by show s+x.length=_;rw [sumBy_snoc (fun r:List Int=>(r.length:Int)) Hx.out,← hs.out],by omega,by first | rfl | trivial⟩
    case measure=>simp [intOf];omega
  · go_wp2
    go_ret
    refine ⟨ret_int ?_,Below.refl _ _⟩
    rw [hs.out,List.take_of_length_le (by have:=Hn.out;omega)]
theorem any_take_snoc {α:Type} {d:List α} {k:Nat} {x:α} (p:α→Bool) (h:d[k]?=some x):(d.take (k+1)).any p=((d.take k).any p || p x):=by
 rw [take_snoc h,List.any_append];simp
theorem l02Ok_c {xs:List Int} {w:World} {A b off:Nat} {ro:Option Addr} {rc:Nat} (hcell:w.cell? ⟨b,off,none⟩=some (.slice ro xs.length rc)) (ha:RdI A w (.slice ro xs.length rc) xs) :
 Calls Tryz.prog 118 #[.pointer (some ⟨b,off,none⟩)] w fun e w'=>e=.returned (.bool (cardB xs))∧w=w':=by
 have hle:=ha.le;obtain ⟨ro',cap',hs,ho⟩:=ha.open;injection hs with h1 h2 h3;subst h1;subst h3;obtain ⟨n,hn⟩:∃ n,n=xs.length:=⟨_,rfl⟩;have hcb:cardB xs=(decide (1≤n∧n≤20) && !xs.any badHole):=by unfold cardB;rw [hn]
 rw [hcb];rw [← hn] at hcell ho hle;have Hn:=hid hn;have Ho:=hid ho;clear ha ho hn h2 hcb;go_enter Tryz.func118,Tryz.ntmps118
 go_wp2
 go_loop [3] (fun i=>∃ k:Nat,k≤n∧i=.int .i64 k∧Hid ((xs.take k).any badHole=false)) (fun i=>n - (intOf i).toNat)
 case atStart=>exact ⟨0,Nat.zero_le _,rfl,rfl⟩
 case round =>
  obtain ⟨k,hk,rfl,hp⟩:=hrel;by_cases hkn:k<n
  · obtain ⟨rb,roff,rfl,hlt,hcc⟩:=Ho.out (by omega)
    obtain ⟨x,hx,hcx,bx⟩:=hcc k (by omega);have Hx:=hid hx;have hkni:(k:Int)<(n:Int):=by omega
    have hst:=any_take_snoc badHole hx;rw [hp.out,Bool.false_or] at hst;have Hst:=hid hst;clear hx hcc hst bx;by_cases hq:0≤x∧x≤4095
    · have hbh:badHole x=false:=by unfold badHole;simp [hq]
      have Hbh:=hid hbh;have Hq:=hid hq;clear hbh hq;go_wp2_with fail
      with_reducible refine (l00In_any _ _ _ _).mono ?_
      rw [decide_eq_true Hq.out];rintro e w' ⟨rfl,rfl⟩
      go_wp2
      go_round
      case rel=>exact ⟨k+1,by omega,by go_num,hid (by rw [Hst.out,Hbh.out])⟩
      case measure=>simp [intOf];omega
    · have hbh:badHole x=true:=by unfold badHole;simp;omega
      have Hbh:=hid hbh;have Hq:=hid hq;have hany:xs.any badHole=true:=List.any_eq_true.2 ⟨x,List.mem_of_getElem? Hx.out,hbh⟩;have Hany:=hid hany;clear hbh hq hany;go_wp2_with fail
      with_reducible refine (l00In_any _ _ _ _).mono ?_
      rw [decide_eq_false Hq.out];rintro e w' ⟨rfl,rfl⟩
      go_wp2
      go_ret
      exact ⟨ret_bool (by rw [Hany.out];simp),rfl⟩
  · obtain rfl:k=n:=by omega
    have hal:=hp.out;rw [List.take_of_length_le (by have:=Hn.out;omega)] at hal;have Hal:=hid hal;clear hal;go_wp2_with fail
    with_reducible refine (l00In_any _ _ _ _).mono ?_
    rintro e w' ⟨rfl,rfl⟩
    go_wp2
    go_ret
    exact ⟨ret_bool (by rw [Hal.out,Bool.not_false,Bool.and_true,Bool.eq_iff_iff];simp;omega),rfl⟩
set_option maxHeartbeats 1000000 in
theorem l02Deck_c {xss:List (List Int)} {v:Value} {w:World} {A:Nat} (ha:RdInt64SS A w v xss) :
 Calls Tryz.prog 79 #[v] w fun e w'=>e=.returned (.bool (deckB xss))∧∃ m,w'=w.drewN m:=by
 have hle:=ha.le;obtain ⟨ao,cap,rfl,ho⟩:=ha.open;obtain ⟨n,hn⟩:∃ n,n=xss.length:=⟨_,rfl⟩;have hdk:deckB xss=(xss.all (okAt xss) && decide (n≤40)):=by unfold deckB;rw [hn]
 rw [hdk,← hn];have Hn:=hid hn;have Ho:=hid ho;have hle':n≤9223372036854775807:=by omega
 clear ho hn hle ha hdk;go_enter Tryz.func79,Tryz.ntmps79
 go_wp2
 go_loopw [3] (fun i wr=>∃ k:Nat,k≤n∧i=.int .i64 k∧Hid ((xss.take k).all (okAt xss)=true)∧∃ m,wr=w.drewN m) (fun i _=>n - (intOf i).toNat)
 case atStart=>exact ⟨0,Nat.zero_le _,rfl,hid (by simp),0,rfl⟩
 case round =>
  obtain ⟨k,hk,rfl,hp,m,rfl⟩:=hrel;by_cases hkn:k<n
  · obtain ⟨b,off,rfl,hlt,hc⟩:=Ho.out (by have:=Hn.out;omega)
    obtain ⟨x,ro,rc,hx,hcell,hrd⟩:=hc k (by have:=Hn.out;omega);obtain ⟨y,qo,qc,hy,hcell0,hrd0⟩:=hc 0 (by have:=Hn.out;omega);have hh:=head_of hy;have hcell0':w.cell? ⟨b,off,none⟩=some (.slice qo y.length qc):=hcell0;have hkni:(k:Int)<(n:Int):=by omega
    have hn0:0<n:=by omega
    have hyl:=hrd0.le;have hxl:=hrd.le;have hok:okAt xss x=(cardB x && decide (x.length=y.length)):=by unfold okAt;rw [hh]
    have hcon:=fun q=>l02Ok_c (w:=w.drewN q) (b:=b) (off:=off+k) (xs:=x) (ro:=ro) (rc:=rc) hcell (hrd.drewN q);have hst:=all_take_snoc (okAt xss) hx;have hno:=fun h=>all_not (p:=okAt xss) hx h;have Hcon:=hid hcon;have Hok:=hid hok;have Hst:=hid hst;have Hno:=hid hno;clear hc hx hy hrd hrd0 hcon hok hst hno hh hcell0;cases hcb:cardB x with
    | false =>
     rw [hcb] at Hcon Hok;rw [Bool.false_and] at Hok;clear hcb;go_wp2
     go_quiet ((go_at_call 118;first | with_reducible exact quiet_at (Hcon.out _) | with_reducible exact quiet_at0 (Hcon.out _)))
     go_wp2
     go_ret
     exact ⟨by rw [Hno.out Hok.out];rfl,_,World.drewN_drewN _ _ _⟩
    | true =>
     rw [hcb] at Hcon Hok;rw [Bool.true_and] at Hok;clear hcb;by_cases hl:x.length=y.length
     · rw [decide_eq_true hl] at Hok
       obtain ⟨p,hm⟩:∃ p,p=y.length:=⟨_,rfl⟩;rw [← hm] at hl hcell0' hyl;rw [hl] at hcell;clear hl hm hxl;go_wp2
       go_quiet ((go_at_call 118;first | with_reducible exact quiet_at (Hcon.out _) | with_reducible exact quiet_at0 (Hcon.out _)))
       go_wp2
       go_roundw
       case rel=>exact ⟨k+1,by omega,by go_num,hid (by rw [Hst.out,hp.out,Hok.out];rfl),_,rfl⟩
       case measure=>simp [intOf];omega
     · rw [decide_eq_false hl] at Hok
       obtain ⟨p,hm⟩:∃ p,p=y.length:=⟨_,rfl⟩;obtain ⟨q,hq⟩:∃ q,q=x.length:=⟨_,rfl⟩;rw [← hm] at hl hcell0' hyl;rw [← hq] at hl hcell hxl;have hl2:((q:Int) != (p:Int))=true:=by simp;omega
       have hl3:(q != p)=true:=by simp;omega
       clear hm hq;go_wp2
       go_quiet ((go_at_call 118;first | with_reducible exact quiet_at (Hcon.out _) | with_reducible exact quiet_at0 (Hcon.out _)))
       go_wp2
       go_ret
       exact ⟨by rw [Hno.out Hok.out];rfl,_,World.drewN_drewN _ _ _⟩
  · obtain rfl:k=n:=by omega
    have hal:=hp.out;rw [List.take_of_length_le (by have:=Hn.out;omega)] at hal;have Hal:=hid hal;clear hal;go_wp2
    go_ret
    exact ⟨ret_bool (by rw [Hal.out];simp;omega),m,rfl⟩
end Go.Proofs.YthdaghfhlfjclaaGreat
