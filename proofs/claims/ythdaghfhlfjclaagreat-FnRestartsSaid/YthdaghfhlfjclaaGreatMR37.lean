/- Lemmas on the way to the law FnRestarts. No condition. -/
import Derived.Test.YthdaghfhlfjclaaGreatMR36
import Derived.Test.YthdaghfhlfjclaaGreatMR32
import Derived.Test.YthdaghfhlfjclaaGreatMR22
import Derived.Test.YthdaghfhlfjclaaGreatMR5
import Derived.Test.YthdaghfhlfjclaaGreatMR35
import Derived.Test.YthdaghfhlfjclaaGreatMR17
import Derived.Test.YthdaghfhlfjclaaGreatMR30
import Derived.Test.YthdaghfhlfjclaaGreatMR3
import Derived.Test.YthdaghfhlfjclaaGreatMR29
import Derived.Test.YthdaghfhlfjclaaGreatMR24
namespace Go.Proofs.YthdaghfhlfjclaaGreat
set_option maxHeartbeats 8000000
set_option linter.unusedSimpArgs false
open Lib (hid)
open Go.ChangeShapes Go.WideShapes Go.ChangeAt Go.RowKit Go.Sort
set_option linter.unusedVariables false
set_option maxRecDepth 100000
section
variable {base P:Nat} {Y Y' S:Nat->Prop} {w w':World} {u v:Value} {o:OffT}
theorem OutS.turn (h:OutS base Y P w u v o) (hA:Agr S w w') (hS:∀ k,S k->k<w.heap.size->Y k) (hY:∀ k,Y' k->(Y k\/w.heap.size<=k)/\k<w'.heap.size):OutS base Y' P w' u v o:=by
 have hl:=h.off.lt;refine ⟨h.off.agr hA (fun k hk hlt=>⟨.inr (.inr (hS k hk hlt)),fun e=>(h.ne k (.inl e)).2 (hS k hk hlt),fun e=>(h.ne k (.inr e)).2 (hS k hk hlt)⟩) (fun k hk hlt=>?_),yBJ h.box hA (fun e=>h.pb.2 (hS P e h.box.lt)),fun q hq=>⟨(h.ne q hq).1,fun hy=>?_⟩,⟨h.pb.1,fun hy=>?_⟩,zO h.hb hA.size,fun k hk=>(hY k hk).2⟩
 . rcases hk with e | e | e
   . exact .inl e
   . exact .inr (.inl e)
   . rcases (hY k e).1 with h1 | h1
     . exact .inr (.inr h1)
     . omega
 . have hlt:q<w.heap.size:=by rcases hq with e | e;exact (hl.1 q e).2;exact (hl.2 q e).2
   rcases (hY q hy).1 with h1 | h1
   . exact (h.ne q hq).2 h1
   . omega
 . have:=h.box.lt
   rcases (hY P hy).1 with h1 | h1
   . exact h.pb.2 h1
   . omega
theorem OutS.first {t:TypeId} (h:OffN base (fun k=>k<base) w u v o) (hb:base<=w.heap.size):OutS base (fun _=>False) w.heap.size (w.alloc (.cells #[u,v] t)) u v o:=by
 have hB:=Box.new w [u,v] t;have hl:=h.lt;have hb1:Below w.heap.size w (w.alloc (.cells #[u,v] t)):=(zB _ _).alloc (zA _) _;refine ⟨h.agr (S':=fun _=>False) (Agr.on hb1) (fun k hk _=>hk.elim) (fun k hk hlt=>?_),hB,fun q hq=>⟨?_,fun e=>e⟩,⟨hb,fun e=>e⟩,zO hb hb1.size,fun k hk=>hk.elim⟩
 . rcases hk with e | e | e
   . omega
   . exact e
   . exact e.elim
 . rcases hq with e | e
   . have:=(hl.1 q e).2;omega
   . have:=(hl.2 q e).2;omega
end
theorem sStepMinutes_c {o:OffT} {xs:List StepT} {u v s:Value} {w0:World} {A B:Nat} {pc:Int} (ho:RdOff B w0 u v o) (hx:RdStepS A w0 s xs) (hl:LensOk o) :
 Calls Tryz.prog 9 #[.agg #[u,v],s,.int .i64 pc] w0 fun e w'=>(∃ r,e=.returned (.tuple #[r,.int .i64 (smC o xs pc)])/\OwnInt64S w0.heap.size w' r (smL o xs pc))/\Below w0.heap.size w0 w':=by
 obtain ⟨i0,hi,hz0,hz1,hz2⟩:=info_parts Tryz.infoInt64;obtain ⟨uo,uc,rfl⟩:=RdL.shape ho.1;obtain ⟨vo,vc,rfl⟩:=RdL.shape ho.2;have hle:=hx.le;obtain ⟨so,sc,rfl,hso⟩:=yBG hx.tight;obtain ⟨T,hT⟩:∃ T,T=w0.alloc (.cells #[.slice uo o.trays.length uc,.slice vo o.totals.length vc] 35):=⟨_,rfl⟩;have hbT:Below w0.heap.size w0 T:=by rw [hT];exact (zB _ _).alloc (zA _) _
 have hBT:Box T w0.heap.size [.slice uo o.trays.length uc,.slice vo o.totals.length vc]:=by rw [hT];exact Box.new w0 [.slice uo o.trays.length uc,.slice vo o.totals.length vc] _
 have hoT:=RdOff.onn ho hbT;have hvo:=l15Ok_c hoT hBT;obtain ⟨V,hV⟩:∃ V,V=offB o:=⟨_,rfl⟩;rw [<- hV] at hvo;obtain ⟨R,hR⟩:∃ R,smC o xs pc=R:=⟨_,rfl⟩;rw [hR];obtain ⟨LR,hLR⟩:∃ LR,smL o xs pc=LR:=⟨_,rfl⟩;rw [hLR];obtain ⟨n,hn⟩:∃ n,n=xs.length:=⟨_,rfl⟩;have HV:=hid hV;have HR:=hid hR;have HLR:=hid hLR;have HT:=hid hT;have HbT:=hid hbT;have HBT:=hid hBT;have HoT:=hid hoT;have Hvo:=hid hvo;have Hso:=hid hso;have Hl:=hid hl;rw [<- hn] at hle Hso |-;have Hn:=hid hn;clear ho hx hl hso hT hbT hBT hoT hvo hV hR hLR hn;go_enter Tryz.func9,Tryz.ntmps9;go_wp2_with fail;rw [<- HT.out];with_reducible refine Hvo.out.mono ?_
 rintro e w1 ⟨rfl,hb1⟩;have HB1:=hid (HBT.out.on hb1);have Ho1:=hid (RdOff.onn HoT.out hb1);have Hb1:=hid (HbT.out.trans (hb1.mono HbT.out.size));clear hb1;cases V with
 | false =>
  have HE:Hid (R=1):=hid (by rw [<- HR.out];unfold smC;rw [if_pos HV.out.symm]);have HE2:Hid (LR=[]):=hid (by rw [<- HLR.out];unfold smL;rw [if_pos HV.out.symm]);go_wp2;go_ret2;exact ⟨⟨.slice none 0 0,by rw [HE.out];rfl,by rw [HE2.out];exact Own.nil _ _ _ _⟩,Hb1.out⟩
 | true =>
  have HR1:Hid (R=if 20<n\/¬ (1<=pc/\pc<=100) then 2 else if minL o pc xs=none then 6 else 0):=hid (by rw [<- HR.out];unfold smC;rw [if_neg (by rw [<- HV.out];decide),Hn.out]);have HL1:Hid (LR=if 20<n\/¬ (1<=pc/\pc<=100) then [] else (minL o pc xs).getD []):=hid (by rw [<- HLR.out];unfold smL;rw [if_neg (by rw [<- HV.out];decide),Hn.out]);by_cases hn20:20<n
  . have HE:Hid (R=2):=hid (by rw [HR1.out,if_pos (.inl hn20)])
    have HE2:Hid (LR=[]):=hid (by rw [HL1.out,if_pos (.inl hn20)]);have i1:(20:Int)<(n:Int):=by omega
    go_wp2;go_ret2;exact ⟨⟨.slice none 0 0,by rw [HE.out];rfl,by rw [HE2.out];exact Own.nil _ _ _ _⟩,Hb1.out⟩
  . have i1:¬ (20:Int)<(n:Int):=by omega
    by_cases hpc:1<=pc/\pc<=100
    case neg =>
     have HE:Hid (R=2):=hid (by rw [HR1.out,if_pos (.inr hpc)]);have HE2:Hid (LR=[]):=hid (by rw [HL1.out,if_pos (.inr hpc)]);have hpc2:pc<1\/100<pc:=by omega
     have Hpc:=hid hpc2;clear hpc hpc2;go_wp2_with fail;with_reducible refine (l00In_no _ _ _ _ Hpc.out).mono ?_
     rintro e w2 ⟨rfl,rfl⟩;go_wp2;go_ret2;exact ⟨⟨.slice none 0 0,by rw [HE.out];rfl,by rw [HE2.out];exact Own.nil _ _ _ _⟩,Hb1.out⟩
    have HR2:Hid (R=if minL o pc xs=none then 6 else 0):=hid (by rw [HR1.out,if_neg (fun h=>h.elim hn20 (fun h=>h hpc))]);have HL2:Hid (LR=(minL o pc xs).getD []):=hid (by rw [HL1.out,if_neg (fun h=>h.elim hn20 (fun h=>h hpc))]);have Hpc:=hid hpc;clear hpc;go_wp2_with fail;with_reducible refine (yBI _ _ _ _ Hpc.out.1 Hpc.out.2).mono ?_
    rintro e w2 ⟨rfl,rfl⟩;have hcp0:=copy_of HV.out.symm Hl.out;have How:=hid (l15Own_c Ho1.out HB1.out ⟨hcp0.1,hcp0.2.1,hcp0.2.2,Hl.out⟩);clear hcp0;go_wp2_with fail;with_reducible refine How.out.mono ?_
    rintro e w3 ⟨⟨u1,v1,rfl,⟨ua,uac,rfl⟩,⟨va,vac,rfl⟩,hN⟩,hb3⟩;obtain ⟨bs,hbs⟩:∃ bs,bs=w1.heap.size:=⟨_,rfl⟩;obtain ⟨P,hP⟩:∃ P,P=w3.heap.size:=⟨_,rfl⟩;obtain ⟨W2,hW2⟩:∃ W2,W2=w3.alloc (.cells #[.slice ua o.trays.length uac,.slice va o.totals.length vac] 35):=⟨_,rfl⟩;obtain ⟨W,hW⟩:∃ W,W=W2.alloc (.cells #[] 2):=⟨_,rfl⟩;have hbs0:w0.heap.size<bs:=by rw [hbs];exact HB1.out.lt
    have hbsP:bs<=P:=by rw [hbs,hP];exact hb3.size
    have hb32:Below w3.heap.size w3 W2:=by rw [hW2];exact (zB _ _).alloc (zA _) _
    have hPW2:W2.heap.size=P+1:=by rw [hW2,hP];simp
    have hbW:Below W2.heap.size W2 W:=by rw [hW];exact (zB _ _).alloc (zA _) _
    have hWz:W.heap.size=P+2:=by rw [hW];simp [hPW2]
    rw [<- hbs] at hN;have hS1:OutS bs (fun _=>False) P W2 (.slice ua o.trays.length uac) (.slice va o.totals.length vac) o:=by
     have h:=OutS.first (t:=35) hN (by rw [<- hP];exact hbsP)
     rw [<- hW2,<- hP] at h;exact h
    have hS2:OutS bs (fun q=>(Value.slice (some ⟨P+1,0,none⟩) 0 0).ownBlock=some q) P W (.slice ua o.trays.length uac) (.slice va o.totals.length vac) o :=
     hS1.turn (S:=fun _=>False) (Agr.on hbW) (fun k hk _=>hk.elim) (fun k hk=>by have h9:P+1=k:=zD hk;exact ⟨.inr (by omega),by omega⟩)
    have hO0:OwnInt64S bs W (.slice (some ⟨P+1,0,none⟩) 0 0) []:=by
     have h:=Own.lit (E:=eI) (e:=2) (base:=bs) (w:=W2) (xs:=[]) (cs:=#[]) (n:=0) (by omega) rfl rfl (by decide) (fun x hx=>by cases hx);rw [hPW2,<- hW] at h;exact h
    have hb0W:Below w0.heap.size w0 W:=Hb1.out.trans (((hb3.mono (by rw [<- hbs];omega)).trans (hb32.mono (by rw [<- hP];omega))).trans (hbW.mono (by omega)));have HO0:=hid hO0;have HS0:=hid hS2;have HbW:=hid hb0W;have HVO:Hid (offB o=true/\LensOk o):=hid ⟨HV.out.symm,Hl.out⟩;obtain ⟨M,hM⟩:∃ M,M=minL o pc xs:=⟨_,rfl⟩;have HM:=hid hM;rw [<- hM] at HR2 HL2;have HM0:Hid (M=(minL o pc (xs.drop 0)).map (fun l=>[]++l)):=hid (by rw [List.drop_zero,hM];cases minL o pc xs <;> rfl);have HW2:=hid hW2;have HW:=hid hW;have HP:=hid hP;have HPW2:=hid hPW2;have Hbs0:=hid hbs0;clear hbs hb3 hN hbs0 hbsP hb32 hPW2 hbW hWz hS1 hS2 hO0 hb0W hM hW2 hW hP How;go_wp2;rw [<- HW2.out,<- HW.out,<- HP.out];go_loopw [9,10] (fun ov iv wr=>∃ (k:Nat) (oc:OffT) (u v:Value) (oo:Option Addr) (occ:Nat) (L:List Int),k<=n/\iv=.int .i64 k/\ov=.slice oo k occ/\Hid (OwnInt64S bs wr (.slice oo k occ) L)/\Hid (L.length=k)/\Hid (OutS bs (fun q=>(Value.slice oo k occ).ownBlock=some q) P wr u v oc)/\Hid (offB oc=true/\LensOk oc)/\Hid (M=(minL oc pc (xs.drop k)).map (fun l=>L++l))/\Hid (Below w0.heap.size w0 wr)) (fun _ i _=>n - (intOf i).toNat)
    case atStart=>exact ⟨0,o,_,_,_,_,[],zK _,rfl,rfl,HO0,hid rfl,HS0,HVO,HM0,HbW⟩
    case round =>
     obtain ⟨k,oc,u,v,oo,occ,L,hk,rfl,rfl,HO,HLl,HS,HVo,HMk,Hb⟩:=hrel;clear HO0 HS0 HVO HM0 HbW;by_cases hkn:k<n
     . obtain ⟨sb,soff,rfl,slt,scc⟩:=Hso.out (by omega)
       obtain ⟨x,hxk,⟨e0,e1,e2,e3,e4,e5,e6,e7,e8⟩,bx⟩:=scc k hkn;have hst0:StAt w0 sb (soff+k * 9) x:=⟨slt.2,e0,e1,e2,e3,e4,e5,e6,e7,e8⟩;have HSt:=hid (hst0.on Hb.out);have Hsb:=hid slt.2;have Hx:=hid hxk;have hvp:=yBF HVo.out.1;have hcb:=colO_bd (fun d hd=>(hvp.2.2 d hd).1);have Hwd:=hid (l15Width_c HS.out.off.rd HS.out.box);have Hsp:=hid (l15Step_c x (colO oc.trays) sb (soff+k * 9) wr bx hcb HSt.out);have Hms:=hid (minL_step (o:=oc) (m:=pc) hxk);obtain ⟨V2,hV2⟩:∃ V2,V2=stB x (colO oc.trays):=⟨_,rfl⟩;rw [<- hV2] at Hsp;have HV2:=hid hV2;have Hvp:=hid hvp;have hLk:Hid (L.length<=1000):=hid (by rw [HLl.out];omega);clear scc hxk e0 e1 e2 e3 e4 e5 e6 e7 e8 bx hst0 hvp hcb hV2 slt;go_wp2_with (first | (go_at_call 42;with_reducible refine Hwd.out.mono ?_;rintro e w9 ⟨rfl,rfl⟩) | fail);with_reducible refine Hsp.out.mono ?_
       rintro e w4 ⟨rfl,hb4⟩;have HS4:=hid (HS.out.on hb4);have HSt4:=hid (HSt.out.on hb4);have HO4:=hid (Own.below HO.out hb4 (zA _));have Hb4:=hid (Hb.out.trans (hb4.mono Hb.out.size));clear hb4 HS HSt HO Hwd Hsp;cases V2 with
       | false =>
        have HE:Hid (M=none):=hid (by rw [HMk.out,Hms.out,if_neg (by unfold stpC;rw [if_pos HV2.out.symm];decide)];rfl);have HE1:Hid (R=6):=hid (by rw [HR2.out,if_pos HE.out]);have HE2:Hid (LR=[]):=hid (by rw [HL2.out,HE.out];rfl);go_wp2;go_ret2;exact ⟨⟨.slice none 0 0,by rw [HE1.out];rfl,by rw [HE2.out];exact Own.nil _ _ _ _⟩,Hb4.out⟩
       | true =>
        have hst:StOk x (colO oc.trays):=of_decide_eq_true HV2.out.symm;obtain ⟨p,hp⟩:=zG hst.ta.1;obtain ⟨q,hq⟩:=zG hst.tb.1;have hp6:p<6:=by have:=hst.ta.2;omega
        have hq6:q<6:=by have:=hst.tb.2;omega
        have ta:=trD_at Hvp.out.1 hst.ta;have tb:=trD_at Hvp.out.1 hst.tb;have ha40:=(yAF (Hvp.out.2.2 _ (zC ta)).1).1;have hb40:=(yAF (Hvp.out.2.2 _ (zC tb)).1).1;obtain ⟨g1,uc1,hug⟩:=HS4.out.off.addr (by rw [Hvp.out.1];omega);rw [Hvp.out.1] at hug;subst hug;have hmn:=minO_bd (x:=x) HVo.out.1 hst Hpc.out;obtain ⟨mn,hmn0⟩:∃ mn,mn=minO oc x pc:=⟨_,rfl⟩;rw [<- hmn0] at hmn;have Hmn0:=hid hmn0;have hFf:=hst.ff;have hcb:=colO_bd (ts:=oc.trays) (fun d hd=>(Hvp.out.2.2 d hd).1);unfold minO at hmn0;obtain ⟨a,ha⟩:∃ a,a=trD oc x.ta:=⟨_,rfl⟩;obtain ⟨b,hb⟩:∃ b,b=trD oc x.tb:=⟨_,rfl⟩;rw [<- ha] at ta ha40;rw [<- hb] at tb hb40;rw [<- ha,<- hb] at hmn0;rw [hp,zR] at ta;rw [hq,zR] at tb;obtain ⟨uo',uc',hs,hop⟩:=RdL.open yBH HS4.out.off.rd.1;rw [Hvp.out.1] at hs;injection hs with e1 e2 e3;subst e1;subst e3;clear e2;obtain ⟨tb0,off0,hgb,hlt,hc⟩:=hop (by rw [Hvp.out.1];omega);have hg1:g1=tb0/\0=off0:=by injection hgb with hgb;injection hgb with a1 a2;exact ⟨a1,a2⟩
        obtain ⟨rfl,rfl⟩:=hg1;obtain ⟨a',ao,ac,ha',hac,har⟩:=hc p (by rw [Hvp.out.1];omega);obtain ⟨b',bo,bc,hb',hbc,hbr⟩:=hc q (by rw [Hvp.out.1];omega);rw [ta] at ha';rw [tb] at hb';obtain rfl:=zD ha';obtain rfl:=zD hb';obtain ⟨n1,hn1⟩:∃ n,n=a.length:=⟨_,rfl⟩;obtain ⟨n2,hn2⟩:∃ n,n=b.length:=⟨_,rfl⟩;rw [<- hn1] at hac ha40;rw [<- hn2] at hbc hb40;rw [<- hn1,<- hn2] at hmn0;rw [Nat.zero_add] at hac hbc;have hbox:=HS4.out.box;have p0:=cell_regrown (hbox.cell 0 _ rfl);have x1:=HSt4.out.c1;rw [hp] at x1;have x1r:=cell_regrown x1;have t0:=cell_regrown hac;have ip:(p:Int)<6:=by omega
        have iq:(q:Int)<6:=by omega
        have Hbc:=hid hbc;have Hst:=hid hst;have Hhlt:=hid hlt.2;have Hq:=hid hq;obtain ⟨pn,hpn⟩:=zG (show 0<=pc by have:=Hpc.out.1;omega);have hpn100:pn<=100:=by have:=Hpc.out.2;omega
        have hm1:n1 * pn<=4000:=zO (Nat.mul_le_mul ha40 hpn100) (by decide);have hm2:(n1+n2) * pn<=8000:=zO (Nat.mul_le_mul (show n1+n2<=80 by omega) hpn100) (by decide);obtain ⟨fw,hfw⟩:=zG (show 0<=x.ft - x.ff by have:=hFf.2.1;omega);have hfw20:fw<=20:=by have:=hFf.1;have:=hFf.2.2;omega
        have hm3:n1 * (2 * fw)<=1600:=zO (Nat.mul_le_mul ha40 (show 2 * fw<=40 by omega)) (by decide);have hm4:n1 * (2 * fw) * pn<=160000:=zO (Nat.mul_le_mul hm3 hpn100) (by decide);have HFf:Hid (-1000<=x.ff/\x.ff<=1000/\-1000<=x.ft/\x.ft<=1000):=hid (by have:=hFf.1;have:=hFf.2.1;have:=hFf.2.2;omega);have Hfw:=hid hfw;have Hmn:=hid hmn0;have Hbd:=hid hmn;have Hpn:=hid hpn;have Hm:=hid (show n1 * pn<=4000/\(n1+n2) * pn<=8000/\n1 * (2 * fw)<=1600/\n1 * (2 * fw) * pn<=160000 from ⟨hm1,hm2,hm3,hm4⟩);have Hn12:=hid (show n1<=40/\n2<=40 from ⟨ha40,hb40⟩);clear hst ta tb hmn hFf hcb ha hb hp hq hmn0 hop hc ha' hb' hac hbc har hbr hn1 hn2 hgb hlt x1 hfw hpn hpn100 hm1 hm2 hm3 hm4 hfw20 ha40 hb40;go_wp2;refine wp_region_quiet_below (by kernel_rfl) (by kernel_rfl) ?_;repeat ((with_reducible refine wpQuiet_step (fun K hK=>?_));go_simp;first | ((with_reducible refine hK _ ?_);clear hK K) | (apply Exists.intro;refine ⟨fun _=>?_,hK _ ?_⟩;((fail));clear hK K))
        refine wpQuiet_nil ?_;intro _ hw';obtain ⟨⟨dq,osq⟩,hw''⟩:=hw';subst hw'';have hbq:=below_regrown w4 dq osq;generalize grow (redrawn w4 dq) osq=wq at hbq |-;have HS5:=hid (HS4.out.on hbq);have HSt5:=hid (HSt4.out.on hbq);have HO5:=hid (Own.below HO4.out hbq (zA _));have Hb5:=hid (Hb4.out.trans (hbq.mono Hb4.out.size));have hbc5:=(hbq.cell (p:=⟨g1,q,none⟩) Hhlt.out).trans Hbc.out;have Hbc5:=hid hbc5;clear hbq HS4 HSt4 HO4 Hb4 p0 x1r t0 hbox hbc5;have x0:=HSt5.out.c0;by_cases htw:twoP x.kd
        . have Htw:=hid htw
          have hk1:(x.kd == 1)=false:=by unfold twoP at htw;rw [beq_eq_false_iff_ne];omega
          have Hex:Hid (mn=((n1:Int)+n2) * pc):=hid (by rw [Hmn.out,if_pos htw];push_cast;rfl);have Hok:Hid (eI.ok (((n1:Int)+n2) * pc)):=hid (by rw [<- Hex.out];show _/\_;have:=Hbd.out;omega);have hw1:IntKind.i64.wrap ((n1:Int)+n2)=(n1:Int)+n2:=IntWalk.i64_in _ (by have:=Hn12.out;omega);have hw2:IntKind.i64.wrap (((n1:Int)+n2) * pc)=((n1:Int)+n2) * pc:=IntWalk.i64_in _ (by have:=Hok.out;exact this);have p0:=cell_regrown (HS5.out.box.cell 0 _ rfl);have x2:=HSt5.out.c2;rw [Hq.out] at x2;have x2r:=cell_regrown x2;have t0:=cell_regrown Hbc5.out;clear htw x2;go_wp2_with (go_at_call 43;with_reducible refine (l15Both_yes _ _ Htw.out).mono ?_;rintro e w9 ⟨rfl,rfl⟩);refine wp_region_quiet_below (by kernel_rfl) (by kernel_rfl) ?_;repeat ((with_reducible refine wpQuiet_step (fun K hK=>?_));go_simp;first | ((with_reducible refine hK _ ?_);clear hK K) | (apply Exists.intro;refine ⟨fun _=>?_,hK _ ?_⟩;((fail));clear hK K))
          refine wpQuiet_nil ?_;intro _ hw';obtain ⟨⟨dq,osq⟩,hw''⟩:=hw';subst hw'';have hbq:=below_regrown wq dq osq;generalize grow (redrawn wq dq) osq=wq2 at hbq |-;have HS6:=hid (HS5.out.on hbq);have HSt6:=hid (HSt5.out.on hbq);have HO6:=hid (Own.below HO5.out hbq (zA _));have Hb6:=hid (Hb5.out.trans (hbq.mono Hb5.out.size));clear hbq HS5 HSt5 HO5 Hb5 p0 x2r t0 x0;have x0:=HSt6.out.c0;have hdo:=l15Do_c HS6.out HSt6.out (Nat.lt_trans Hsb.out Hbs0.out) HVo.out.1 HV2.out.symm;have Hdo:=hid hdo;clear hdo;go_wp2_with fail;with_reducible refine Hdo.out.mono ?_
          rintro e w8 ⟨R9,rfl,hiff,hdf,hok,hno⟩;have Hb8:=hid (Hb6.out.trans ((hdf.below HS6.out).mono (Nat.le_of_lt Hbs0.out)));by_cases hR9:R9=0
          case neg =>
           have HE:Hid (M=none):=hid (by rw [HMk.out,Hms.out,if_neg (fun h=>hR9 (hiff.2 h))];rfl);have HE1:Hid (R=6):=hid (by rw [HR2.out,if_pos HE.out]);have HE2:Hid (LR=[]):=hid (by rw [HL2.out,HE.out];rfl);have h1:(R9 != 0)=true:=by simpa using hR9
           clear hR9 hiff hdf hok hno;go_wp2;go_ret2;exact ⟨⟨.slice none 0 0,by rw [HE1.out];rfl,by rw [HE2.out];exact Own.nil _ _ _ _⟩,Hb8.out⟩
          have hC0:=hiff.1 hR9;obtain ⟨u8,v8',hS8⟩:=hok hR9;have hYn:∀ q2,(Value.slice oo k occ).ownBlock=some q2->¬ (q2=P\/(Value.slice (some ⟨g1,0,none⟩) 6 uc1).ownBlock=some q2\/v.ownBlock=some q2):=fun q2 hq2 h=>by
           rcases h with e | e | e
           . exact HS6.out.pb.2 (by rw [<- e];exact hq2)
           . exact (HS6.out.ne q2 (.inl e)).2 hq2
           . exact (HS6.out.ne q2 (.inr e)).2 hq2
          have HO8:=hid ((OwnT.agr (Own.top HO6.out) hdf hYn).1);have HS8:=hid hS8;have HM2:Hid (M=(minL (stpD oc x) pc (xs.drop (k+1))).map (fun l=>(L++[mn])++l)):=hid (by
           rw [HMk.out,Hms.out,if_pos hC0,<- Hmn0.out];cases minL (stpD oc x) pc (xs.drop (k+1)) <;> simp)
          have HVn:=hid (show offB (stpD oc x)=true/\LensOk (stpD oc x) from ⟨stp_ok (x:=x) HVo.out.1 hC0,stp_lens (x:=x) HVo.out.1 HVo.out.2 hC0⟩);subst hR9;clear hiff hdf hok hno hC0 hYn hS8 Hdo HS6 HSt6 HO6;go_wp2_with (at_builtin;refine yAB (E:=eI) rfl _ _ 29 rfl Tryz.underlying29 hi hz0 hz1 hz2 rfl (by decide) rfl rfl (HO8.out.alloc _) (yAJ (E:=eI) (x:=((n1:Int)+n2) * pc) Hok.out rfl) ?b1 ?b2 ?b3 ?_)
          case b1=>have:=hLk.out;unfold maxLen;simp;omega
          case b2=>have:=hLk.out;simp;omega
          case b3=>have:=HS8.out.hb;first | (simp;omega) | omega
          intro v7 w7 hO7 hg7;obtain ⟨oo7,oc7,hv7⟩:=hO7.shape;rw [show (L++[((n1:Int)+n2) * pc]).length=k+1 by rw [zE,HLl.out];rfl] at hv7;subst hv7;rw [<- Hex.out] at hO7;have hg8:=hg7.alloc;have hA7:Agr (fun q=>(Value.slice oo k occ).ownBlock=some q) w8 w7:=Agr.of_grown hg8.1 (fun q hq _=>hq);have hS7:OutS bs (fun q=>(Value.slice oo7 (k+1) oc7).ownBlock=some q) P w7 u8 v8' (stpD oc x):=HS8.out.turn hA7 (fun q hq _=>hq) (fun q hq=>⟨by
           rcases hg8.2 with e | ⟨z,e,hz⟩
           . exact .inl (by rw [<- e];exact hq)
           . rw [e] at hq;cases hq;exact .inr hz,(hO7.lt q hq).2⟩)
          have hb7:Below w0.heap.size w0 w7:=Hb8.out.trans (hA7.below (fun q hq=>by have:=(HO8.out.lt q hq).1;have:=Hbs0.out;omega) Hb8.out.size);have HO7:=hid hO7;have HS7:=hid hS7;have Hb7:=hid hb7;clear hO7 hg7 hg8 hA7 hS7 hb7;go_wp2;go_roundw
          case rel=>exact ⟨k+1,stpD oc x,_,_,_,_,L++[mn],by omega,by go_num,rfl,HO7,hid (by rw [zE,HLl.out];rfl),HS7,HVn,HM2,Hb7⟩
          case measure=>simp [intOf];omega
        . have Htw:=hid htw
          by_cases hk1:x.kd=1
          . have Hex:Hid (mn=(n1:Int) * (2 * (x.ft - x.ff)) * pc):=hid (by rw [Hmn.out,if_neg htw,if_pos hk1,Int.mul_assoc,Int.mul_comm pc,<- Int.mul_assoc])
            have Hok:Hid (eI.ok ((n1:Int) * (2 * (x.ft - x.ff)) * pc)):=hid (by rw [<- Hex.out];show _/\_;have:=Hbd.out;omega);have hw1:IntKind.i64.wrap (x.ft - x.ff)=x.ft - x.ff:=IntWalk.i64_in _ (by have:=HFf.out;omega);have hw2:IntKind.i64.wrap (2 * (x.ft - x.ff))=2 * (x.ft - x.ff):=IntWalk.i64_in _ (by have:=HFf.out;omega);have h16:(n1:Int) * (2 * (x.ft - x.ff))=((n1 * (2 * fw):Nat):Int):=by rw [Hfw.out];push_cast;rfl
            have h17:0<=(n1:Int) * (2 * (x.ft - x.ff))/\(n1:Int) * (2 * (x.ft - x.ff))<=1600:=by rw [h16];have:=Hm.out.2.2.1;omega
            have hw3:IntKind.i64.wrap ((n1:Int) * (2 * (x.ft - x.ff)))=(n1:Int) * (2 * (x.ft - x.ff)):=IntWalk.i64_in _ (by omega);clear h16 h17;have hw4:IntKind.i64.wrap ((n1:Int) * (2 * (x.ft - x.ff)) * pc)=(n1:Int) * (2 * (x.ft - x.ff)) * pc:=IntWalk.i64_in _ (by have:=Hok.out;exact this);have x4:=cell_regrown HSt5.out.c4;have x5:=cell_regrown HSt5.out.c5;have Hk1:=hid hk1;rw [hk1] at x0;clear htw hk1;go_wp2_with (go_at_call 43;with_reducible refine (l15Both_no 1 _ (by rw [<- Hk1.out];exact Htw.out)).mono ?_;rintro e w9 ⟨rfl,rfl⟩);refine wp_region_quiet_below (by kernel_rfl) (by kernel_rfl) ?_;repeat ((with_reducible refine wpQuiet_step (fun K hK=>?_));go_simp;first | ((with_reducible refine hK _ ?_);clear hK K) | (apply Exists.intro;refine ⟨fun _=>?_,hK _ ?_⟩;((fail));clear hK K))
            refine wpQuiet_nil ?_;intro _ hw';obtain ⟨⟨dq,osq⟩,hw''⟩:=hw';subst hw'';have hbq:=below_regrown wq dq osq;generalize grow (redrawn wq dq) osq=wq2 at hbq |-;have HS6:=hid (HS5.out.on hbq);have HSt6:=hid (HSt5.out.on hbq);have HO6:=hid (Own.below HO5.out hbq (zA _));have Hb6:=hid (Hb5.out.trans (hbq.mono Hb5.out.size));clear hbq HS5 HSt5 HO5 Hb5 x4 x5 x0;have hdo:=l15Do_c HS6.out HSt6.out (Nat.lt_trans Hsb.out Hbs0.out) HVo.out.1 HV2.out.symm;have Hdo:=hid hdo;clear hdo;go_wp2_with fail;with_reducible refine Hdo.out.mono ?_
            rintro e w8 ⟨R9,rfl,hiff,hdf,hok,hno⟩;have Hb8:=hid (Hb6.out.trans ((hdf.below HS6.out).mono (Nat.le_of_lt Hbs0.out)));by_cases hR9:R9=0
            case neg =>
             have HE:Hid (M=none):=hid (by rw [HMk.out,Hms.out,if_neg (fun h=>hR9 (hiff.2 h))];rfl);have HE1:Hid (R=6):=hid (by rw [HR2.out,if_pos HE.out]);have HE2:Hid (LR=[]):=hid (by rw [HL2.out,HE.out];rfl);have h1:(R9 != 0)=true:=by simpa using hR9
             clear hR9 hiff hdf hok hno;go_wp2;go_ret2;exact ⟨⟨.slice none 0 0,by rw [HE1.out];rfl,by rw [HE2.out];exact Own.nil _ _ _ _⟩,Hb8.out⟩
            have hC0:=hiff.1 hR9;obtain ⟨u8,v8',hS8⟩:=hok hR9;have hYn:∀ q2,(Value.slice oo k occ).ownBlock=some q2->¬ (q2=P\/(Value.slice (some ⟨g1,0,none⟩) 6 uc1).ownBlock=some q2\/v.ownBlock=some q2):=fun q2 hq2 h=>by
             rcases h with e | e | e
             . exact HS6.out.pb.2 (by rw [<- e];exact hq2)
             . exact (HS6.out.ne q2 (.inl e)).2 hq2
             . exact (HS6.out.ne q2 (.inr e)).2 hq2
            have HO8:=hid ((OwnT.agr (Own.top HO6.out) hdf hYn).1);have HS8:=hid hS8;have HM2:Hid (M=(minL (stpD oc x) pc (xs.drop (k+1))).map (fun l=>(L++[mn])++l)):=hid (by
             rw [HMk.out,Hms.out,if_pos hC0,<- Hmn0.out];cases minL (stpD oc x) pc (xs.drop (k+1)) <;> simp)
            have HVn:=hid (show offB (stpD oc x)=true/\LensOk (stpD oc x) from ⟨stp_ok (x:=x) HVo.out.1 hC0,stp_lens (x:=x) HVo.out.1 HVo.out.2 hC0⟩);subst hR9;clear hiff hdf hok hno hC0 hYn hS8 Hdo HS6 HSt6 HO6;go_wp2_with (at_builtin;refine yAB (E:=eI) rfl _ _ 29 rfl Tryz.underlying29 hi hz0 hz1 hz2 rfl (by decide) rfl rfl (HO8.out.alloc _) (yAJ (E:=eI) (x:=(n1:Int) * (2 * (x.ft - x.ff)) * pc) Hok.out rfl) ?b1 ?b2 ?b3 ?_)
            case b1=>have:=hLk.out;unfold maxLen;simp;omega
            case b2=>have:=hLk.out;simp;omega
            case b3=>have:=HS8.out.hb;first | (simp;omega) | omega
            intro v7 w7 hO7 hg7;obtain ⟨oo7,oc7,hv7⟩:=hO7.shape;rw [show (L++[(n1:Int) * (2 * (x.ft - x.ff)) * pc]).length=k+1 by rw [zE,HLl.out];rfl] at hv7;subst hv7;rw [<- Hex.out] at hO7;have hg8:=hg7.alloc;have hA7:Agr (fun q=>(Value.slice oo k occ).ownBlock=some q) w8 w7:=Agr.of_grown hg8.1 (fun q hq _=>hq);have hS7:OutS bs (fun q=>(Value.slice oo7 (k+1) oc7).ownBlock=some q) P w7 u8 v8' (stpD oc x):=HS8.out.turn hA7 (fun q hq _=>hq) (fun q hq=>⟨by
             rcases hg8.2 with e | ⟨z,e,hz⟩
             . exact .inl (by rw [<- e];exact hq)
             . rw [e] at hq;cases hq;exact .inr hz,(hO7.lt q hq).2⟩)
            have hb7:Below w0.heap.size w0 w7:=Hb8.out.trans (hA7.below (fun q hq=>by have:=(HO8.out.lt q hq).1;have:=Hbs0.out;omega) Hb8.out.size);have HO7:=hid hO7;have HS7:=hid hS7;have Hb7:=hid hb7;clear hO7 hg7 hg8 hA7 hS7 hb7;go_wp2;go_roundw
            case rel=>exact ⟨k+1,stpD oc x,_,_,_,_,L++[mn],by omega,by go_num,rfl,HO7,hid (by rw [zE,HLl.out];rfl),HS7,HVn,HM2,Hb7⟩
            case measure=>simp [intOf];omega
          . have Hex:Hid (mn=(n1:Int) * pc):=hid (by rw [Hmn.out,if_neg htw,if_neg hk1])
            have Hok:Hid (eI.ok ((n1:Int) * pc)):=hid (by rw [<- Hex.out];show _/\_;have:=Hbd.out;omega);have hw1:IntKind.i64.wrap (n1:Int)=(n1:Int):=IntWalk.i64_in _ (by have:=Hn12.out;omega);have hw2:IntKind.i64.wrap ((n1:Int) * pc)=(n1:Int) * pc:=IntWalk.i64_in _ (by have:=Hok.out;exact this);have hk2:(x.kd == 1)=false:=beq_eq_false_iff_ne.2 hk1;clear htw hk1;have hdo:=l15Do_c HS5.out HSt5.out (Nat.lt_trans Hsb.out Hbs0.out) HVo.out.1 HV2.out.symm;have Hdo:=hid hdo;clear hdo;go_wp2_with (first | (go_at_call 43;with_reducible refine (l15Both_no _ _ Htw.out).mono ?_;rintro e w9 ⟨rfl,rfl⟩) | fail);with_reducible refine Hdo.out.mono ?_
            rintro e w6 ⟨R9,rfl,hiff,hdf,hok,hno⟩;have Hb6:=hid (Hb5.out.trans ((hdf.below HS5.out).mono (Nat.le_of_lt Hbs0.out)));by_cases hR9:R9=0
            case neg =>
             have HE:Hid (M=none):=hid (by rw [HMk.out,Hms.out,if_neg (fun h=>hR9 (hiff.2 h))];rfl);have HE1:Hid (R=6):=hid (by rw [HR2.out,if_pos HE.out]);have HE2:Hid (LR=[]):=hid (by rw [HL2.out,HE.out];rfl);have h1:(R9 != 0)=true:=by simpa using hR9
             clear hR9 hiff hdf hok hno;go_wp2;go_ret2;exact ⟨⟨.slice none 0 0,by rw [HE1.out];rfl,by rw [HE2.out];exact Own.nil _ _ _ _⟩,Hb6.out⟩
            have hC0:=hiff.1 hR9;obtain ⟨u6,v6',hS6⟩:=hok hR9;have hYn:∀ q2,(Value.slice oo k occ).ownBlock=some q2->¬ (q2=P\/(Value.slice (some ⟨g1,0,none⟩) 6 uc1).ownBlock=some q2\/v.ownBlock=some q2):=fun q2 hq2 h=>by
             rcases h with e | e | e
             . exact HS5.out.pb.2 (by rw [<- e];exact hq2)
             . exact (HS5.out.ne q2 (.inl e)).2 hq2
             . exact (HS5.out.ne q2 (.inr e)).2 hq2
            have HO6:=hid ((OwnT.agr (Own.top HO5.out) hdf hYn).1);have HS6:=hid hS6;have HM2:Hid (M=(minL (stpD oc x) pc (xs.drop (k+1))).map (fun l=>(L++[mn])++l)):=hid (by
             rw [HMk.out,Hms.out,if_pos hC0,<- Hmn0.out];cases minL (stpD oc x) pc (xs.drop (k+1)) <;> simp)
            have HVn:=hid (show offB (stpD oc x)=true/\LensOk (stpD oc x) from ⟨stp_ok (x:=x) HVo.out.1 hC0,stp_lens (x:=x) HVo.out.1 HVo.out.2 hC0⟩);subst hR9;clear hiff hdf hok hno hC0 hYn hS6 Hdo HS5 HSt5 HO5;go_wp2_with (at_builtin;refine yAB (E:=eI) rfl _ _ 29 rfl Tryz.underlying29 hi hz0 hz1 hz2 rfl (by decide) rfl rfl (HO6.out.alloc _) (yAJ (E:=eI) (x:=(n1:Int) * pc) Hok.out rfl) ?b1 ?b2 ?b3 ?_)
            case b1=>have:=hLk.out;unfold maxLen;simp;omega
            case b2=>have:=hLk.out;simp;omega
            case b3=>have:=HS6.out.hb;first | (simp;omega) | omega
            intro v7 w7 hO7 hg7;obtain ⟨oo7,oc7,hv7⟩:=hO7.shape;rw [show (L++[(n1:Int) * pc]).length=k+1 by rw [zE,HLl.out];rfl] at hv7;subst hv7;rw [<- Hex.out] at hO7;have hg8:=hg7.alloc;have hA7:Agr (fun q=>(Value.slice oo k occ).ownBlock=some q) w6 w7:=Agr.of_grown hg8.1 (fun q hq _=>hq);have hS7:OutS bs (fun q=>(Value.slice oo7 (k+1) oc7).ownBlock=some q) P w7 u6 v6' (stpD oc x):=HS6.out.turn hA7 (fun q hq _=>hq) (fun q hq=>⟨by
             rcases hg8.2 with e | ⟨z,e,hz⟩
             . exact .inl (by rw [<- e];exact hq)
             . rw [e] at hq;cases hq;exact .inr hz,(hO7.lt q hq).2⟩)
            have hb7:Below w0.heap.size w0 w7:=Hb6.out.trans (hA7.below (fun q hq=>by have:=(HO6.out.lt q hq).1;have:=Hbs0.out;omega) Hb6.out.size);have HO7:=hid hO7;have HS7:=hid hS7;have Hb7:=hid hb7;clear hO7 hg7 hg8 hA7 hS7 hb7;go_wp2;go_roundw
            case rel=>exact ⟨k+1,stpD oc x,_,_,_,_,L++[mn],by omega,by go_num,rfl,HO7,hid (by rw [zE,HLl.out];rfl),HS7,HVn,HM2,Hb7⟩
            case measure=>simp [intOf];omega
     . obtain rfl:k=n:=by omega
       have hME:M=some L:=by
        rw [HMk.out,List.drop_of_length_le (by have:=Hn.out;omega)];simp [minL]
       have HE1:Hid (R=0):=hid (by rw [HR2.out,hME,if_neg (by simp)]);have HE2:Hid (LR=L):=hid (by rw [HL2.out,hME];rfl);have HOf:=hid (HO.out.mono (Nat.le_of_lt Hbs0.out));clear hME;go_wp2;go_ret2;exact ⟨⟨_,by rw [HE1.out];rfl,by rw [HE2.out];exact HOf.out⟩,Hb.out⟩
noncomputable def runP:OffT->List StepT->OffT × Nat
 | o,[]=>(o,0)
 | o,x :: xs=>if stpC o x=0 then ((runP (stpD o x) xs).1,(runP (stpD o x) xs).2+1) else (o,0)
theorem runP_le:∀ (o:OffT) (xs:List StepT),(runP o xs).2<=xs.length
 | o,[]=>zA _
 | o,x :: xs=>by
  unfold runP;split
  . have:=runP_le (stpD o x) xs
    simp only [List.length_cons];omega
  . exact zK _
theorem runP_ok:∀ (o:OffT) (xs:List StepT),offB o=true->LensOk o->offB (runP o xs).1=true/\LensOk (runP o xs).1
 | o,[],hv,hl=>⟨hv,hl⟩
 | o,x :: xs,hv,hl=>by
  unfold runP;split
  . rename_i h
    exact runP_ok (stpD o x) xs (stp_ok hv h) (stp_lens hv hl h)
  . exact ⟨hv,hl⟩
theorem runP_cons (o:OffT) (x:StepT) (xs:List StepT):runP o (x :: xs)=if stpC o x=0 then ((runP (stpD o x) xs).1,(runP (stpD o x) xs).2+1) else (o,0):=rfl
theorem runP_app:∀ (o:OffT) (xs ys:List StepT),runP o (xs++ys)=if (runP o xs).2<xs.length then runP o xs else ((runP (runP o xs).1 ys).1,(runP (runP o xs).1 ys).2+xs.length)
 | o,[],ys=>by simp [runP]
 | o,x :: xs,ys=>by
  have ih:=runP_app (stpD o x) xs ys;rw [List.cons_append,runP_cons o x (xs++ys),runP_cons o x xs];by_cases h:stpC o x=0
  . rw [if_pos h,if_pos h]
    simp only [List.length_cons];by_cases h2:(runP (stpD o x) xs).2<xs.length
    . rw [if_pos h2] at ih
      rw [if_pos (by omega),ih]
    . rw [if_neg h2] at ih
      rw [if_neg (by omega),ih];congr 1
  . rw [if_neg h,if_neg h,if_pos (by simp)]
theorem runP_at {o:OffT} {xs:List StepT} {k:Nat} {x:StepT} (h:xs[k]?=some x):runP o (xs.drop k)=if stpC o x=0 then ((runP (stpD o x) (xs.drop (k+1))).1,(runP (stpD o x) (xs.drop (k+1))).2+1) else (o,0):=by
 obtain ⟨h1,e⟩:=zS.1 h;rw [List.drop_eq_getElem_cons h1,e];rfl
theorem runP_end {o:OffT} {xs:List StepT} {k:Nat} (h:xs.length<=k):runP o (xs.drop k)=(o,0):=by rw [List.drop_eq_nil_of_le h];rfl
noncomputable def oaC (o:OffT) (xs:List StepT) (n:Int):Int:=if offB o=false then 1 else if 20<xs.length\/¬ (0<=n/\n<=xs.length) then 2 else if (runP o (xs.take n.toNat)).2<n.toNat then 6 else 0
noncomputable def oaO (o:OffT) (xs:List StepT) (n:Int):OffT:=if oaC o xs n=0 then (runP o (xs.take n.toNat)).1 else ⟨[],[]⟩
noncomputable def raC (o:OffT) (xs ys:List StepT):Int:=if offB o=false then 1 else if 20<xs.length+ys.length then 2 else if (runP o (xs++ys)).2<xs.length+ys.length then 6 else 0
noncomputable def raO (o:OffT) (xs ys:List StepT):OffT:=if raC o xs ys=0 then (runP o (xs++ys)).1 else ⟨[],[]⟩
theorem OffN.nil (base:Nat) (X:Nat->Prop) (w:World):OffN base X w (.slice none 0 0) (.slice none 0 0) ⟨[],[]⟩:=⟨[],[],Own.nil _ _ _ _,Own.nil _ _ _ _,RwsG.nil _ _ _,RwsG.nil _ _ _,fun q hq=>by cases hq⟩
def RefPost (w0:World) (o:OffT) (C:Int) (e:Ending) (w':World):Prop :=
 (∃ u' v',e=.returned (.tuple #[.agg #[u',v'],.int .i64 C])/\OffN w0.heap.size (fun k=>k<w0.heap.size) w' u' v' o)/\Below w0.heap.size w0 w'
theorem RefPost.sh {w0 w':World} {o:OffT} {C:Int} {e:Ending} (h:RefPost w0 o C e w'):(∃ a1 c1 a2 c2,e=.returned (.tuple #[.agg #[.slice a1 o.trays.length c1,.slice a2 o.totals.length c2],.int .i64 C])/\OffN w0.heap.size (fun k=>k<w0.heap.size) w' (.slice a1 o.trays.length c1) (.slice a2 o.totals.length c2) o)/\Below w0.heap.size w0 w':=by
 obtain ⟨⟨u',v',h1,h2⟩,h3⟩:=h;obtain ⟨⟨a1,c1,e1⟩,a2,c2,e2⟩:=h2.shape;subst e1;subst e2;exact ⟨⟨a1,c1,a2,c2,h1,h2⟩,h3⟩
theorem yBO {w0 w:World} {R:Nat} (hb:Below w0.heap.size w0 w) (hR:w0.heap.size<=R) (x y:Value):Below w0.heap.size w0 ((w.setCell ⟨R,0,none⟩ x).setCell ⟨R,1,none⟩ y):=(hb.setCell hR _).setCell hR _
theorem OffN.res {base R:Nat} {w0 w:World} {u v x y:Value} {o:OffT} (h:OffN base (fun k=>k<base) w u v o) (hR:R<base) (hn:w0.heap.size<=base):OffN w0.heap.size (fun k=>k<w0.heap.size) ((w.setCell ⟨R,0,none⟩ x).setCell ⟨R,1,none⟩ y) u v o:=by
 have hl:=h.lt;exact (h.low hn).agr (agr2 w R x y) (fun k (hk:k=R) _=>⟨by omega,fun e=>by have:=(hl.1 k e).1;omega,fun e=>by have:=(hl.2 k e).1;omega⟩) (fun k hk _=>by have h9:k<w0.heap.size:=hk;show k<base;omega)
theorem OutS.plain {base P:Nat} {Y:Nat->Prop} {w:World} {u v:Value} {o:OffT} (h:OutS base Y P w u v o):OffN base (fun k=>k<base) w u v o:=h.off.more (fun k hk _=>.inr (.inl hk))
theorem l15Run_c {o:OffT} {xs:List StepT} {u v s:Value} {w0:World} {A B P0:Nat} (ho:RdOff B w0 u v o) (hP0:Box w0 P0 [u,v]) (hx:RdStepS A w0 s xs) (hv:offB o=true) (hl:LensOk o) :
 Calls Tryz.prog 59 #[.pointer (some ⟨P0,0,none⟩),s] w0 fun e w'=>RefPost w0 (runP o xs).1 (runP o xs).2 e w':=by
 have hle:=hx.le;obtain ⟨so,sc,rfl,hso⟩:=yBG hx.tight;obtain ⟨T,hT⟩:∃ T,T=w0.alloc (.cells #[.slice none 0 0,.slice none 0 0] 35):=⟨_,rfl⟩;have hbT:Below w0.heap.size w0 T:=by rw [hT];exact (zB _ _).alloc (zA _) _
 have hTz:T.heap.size=w0.heap.size+1:=by rw [hT];simp
 have hRT:Box T w0.heap.size [.slice none 0 0,.slice none 0 0]:=by rw [hT];exact Box.new w0 [.slice none 0 0,.slice none 0 0] _
 have hcp0:=copy_of hv hl;have How:=hid (l15Own_c (RdOff.onn ho hbT) (hP0.on hbT) ⟨hcp0.1,hcp0.2.1,hcp0.2.2,hl⟩);obtain ⟨n,hn⟩:∃ n,n=xs.length:=⟨_,rfl⟩;obtain ⟨RR,hRR⟩:∃ r,runP o xs=r:=⟨_,rfl⟩;have HR0:Hid (RR=((runP o (xs.drop 0)).1,(runP o (xs.drop 0)).2+0)):=hid (by rw [List.drop_zero];exact hRR.symm);have HT:=hid hT;have HbT:=hid hbT;have HRT:=hid hRT;have Hso:=hid hso;have HTz:=hid hTz;have HV:=hid (And.intro hv hl);rw [<- hn] at hle Hso |-;rw [hRR];have Hn:=hid hn;clear ho hx hv hl hso hT hbT hRT hcp0 hn hRR hTz hP0;go_enter Tryz.func59,Tryz.ntmps59;go_upto_region 1 with fail;rw [<- HT.out];go_wp2_with fail;with_reducible refine How.out.mono ?_
 rintro e w3 ⟨⟨u1,v1,rfl,⟨ua,uac,rfl⟩,⟨va,vac,rfl⟩,hN⟩,hb3⟩;obtain ⟨P,hP⟩:∃ P,P=w3.heap.size:=⟨_,rfl⟩;obtain ⟨W,hW⟩:∃ W,W=w3.alloc (.cells #[.slice ua o.trays.length uac,.slice va o.totals.length vac] 35):=⟨_,rfl⟩;have hb32:Below w3.heap.size w3 W:=by rw [hW];exact (zB _ _).alloc (zA _) _
 have hS1:OutS T.heap.size (fun _=>False) P W (.slice ua o.trays.length uac) (.slice va o.totals.length vac) o:=by
  have h:=OutS.first (t:=35) hN hb3.size
  rw [<- hW,<- hP] at h;exact h
 have hbW:=HbT.out.trans ((hb3.trans (hb32.mono hb3.size)).mono HbT.out.size);have HS0:=hid hS1;have HbW:=hid hbW;have HRW:=hid ((HRT.out.on hb3).on hb32);have HW:=hid hW;have HP:=hid hP;clear hb3 hN hb32 hS1 hbW hW hP How HRT;go_upto_region 2 with fail;rw [<- HW.out,<- HP.out];go_wp2;go_loopw [7] (fun iv wr=>∃ (k:Nat) (oc:OffT) (u v:Value),k<=n/\iv=.int .i64 k/\Hid (OutS T.heap.size (fun _=>False) P wr u v oc)/\Hid (Box wr w0.heap.size [.slice none 0 0,.slice none 0 0])/\Hid (offB oc=true/\LensOk oc)/\Hid (RR=((runP oc (xs.drop k)).1,(runP oc (xs.drop k)).2+k))/\Hid (Below w0.heap.size w0 wr)) (fun i _=>n - (intOf i).toNat)
 case atStart=>exact ⟨0,o,_,_,zK _,rfl,HS0,HRW,HV,HR0,HbW⟩
 case round =>
  obtain ⟨k,oc,u,v,hk,rfl,HS,HRb,HVo,HRk,Hb⟩:=hrel;clear HS0 HRW HV HR0 HbW;obtain ⟨⟨ua,uc,rfl⟩,va,vc,rfl⟩:=HS.out.off.shape;obtain ⟨N1,hN1⟩:∃ m,m=oc.trays.length:=⟨_,rfl⟩;obtain ⟨N2,hN2⟩:∃ m,m=oc.totals.length:=⟨_,rfl⟩;rw [<- hN1,<- hN2] at HS;clear hN1 hN2;by_cases hkn:k<n
  . obtain ⟨sb,soff,rfl,slt,scc⟩:=Hso.out (by omega)
    obtain ⟨x,hxk,⟨e0,e1,e2,e3,e4,e5,e6,e7,e8⟩,bx⟩:=scc k hkn;have hst0:StAt w0 sb (soff+k * 9) x:=⟨slt.2,e0,e1,e2,e3,e4,e5,e6,e7,e8⟩;have HSt:=hid (hst0.on Hb.out);have Hsb:=hid (show sb<T.heap.size by rw [HTz.out];have:=slt.2;omega);have hvp:=yBF HVo.out.1;have hcb:=colO_bd (fun d hd=>(hvp.2.2 d hd).1);have Hwd:Hid (∀ w,Below wr.heap.size wr w->Calls Tryz.prog 42 #[.pointer (some ⟨P,0,none⟩)] w fun e w'=>e=.returned (.int .i64 (colO oc.trays))/\w=w'):=hid (fun w hw=>l15Width_c (HS.out.on hw).off.rd (HS.out.on hw).box);have Hms:=hid (runP_at (o:=oc) hxk);obtain ⟨V2,hV2⟩:∃ V2,V2=stB x (colO oc.trays):=⟨_,rfl⟩;obtain ⟨CO,hCO⟩:∃ c,c=colO oc.trays:=⟨_,rfl⟩;have Hsp:Hid (∀ w,Below wr.heap.size wr w->Calls Tryz.prog 41 #[.pointer (some ⟨sb,soff+k * 9,none⟩),.int .i64 CO] w fun e w'=>e=.returned (.bool V2)/\Below w.heap.size w w'):=hid (fun w hw=>by rw [hV2,hCO];exact l15Step_c x (colO oc.trays) sb (soff+k * 9) w bx hcb (HSt.out.on hw));rw [<- hCO] at Hwd;have HV2:=hid hV2;have ik:(k:Int)<(n:Int):=by omega
    clear scc hxk e0 e1 e2 e3 e4 e5 e6 e7 e8 bx hst0 hvp hcb hV2 hCO slt;go_upto_region 5 with fail;cases V2 with
    | false =>
     have HE:Hid (RR=(oc,k)):=hid (by rw [HRk.out,Hms.out,if_neg (by unfold stpC;rw [if_pos HV2.out.symm];decide)];simp);refine yBT (W:=wr) 12 (fun i=>match i with | 0=>0 | 1=>0 | 2=>0 | 3=>0 | 4=>0 | 5=>0 | 6=>0 | 7=>0 | 8=>0 | 9=>0 | 10=>0 | 11=>0 | 12=>2 | _=>2) (fun i v w=>match i with  | _=>True) (fun i x v=>match i with | 0=>v=.slice (some ⟨sb,soff,none⟩) n sc | 1=>v=.int .i64 k | 2=>v=.pointer (some ⟨sb,soff+k * 9,none⟩) | 3=>v=.int .i64 CO | 4=>v=.bool false | 5=>v=.bool true | 6=>v=.bool true | 7=>v=undef | 8=>v=undef | 9=>v=undef | 10=>v=undef | 11=>v=undef | _=>True) (fun v w=>Below wr.heap.size wr w/\v=.bool true) (by kernel_rfl) (by kernel_rfl) (by kernel_rfl) (by kernel_rfl) ?_ ?_ ?_ ?_
     . intro i v w w' h hb
       iterate 13 (obtain _ | i:=i;· exact h)
       exact h
     . intro i x y v hp h
       iterate 13 (obtain _ | i:=i;· exact h)
       exact h
     . intro vs hvs
       match vs,hvs with
       | [v0,v1,v2,v3,v4,v5,v6,v7,v8,v9,v10,v11,v12],_ =>
        refine ⟨?_,?_,?_,?_,?_,?_,?_,?_,?_,?_,?_,?_,?_,trivial⟩
        . refine yAN ?_ ?_ ?_;exact (by decide);kernel_rfl
          intro wy hC hd;clear hd;with_reducible refine yAH ?_ ?_
          . exact yAG rfl
          unfold relAt;simp only [putAll];go_simp;simp only [relUpon];first | trivial | exact ⟨zB _ _,by trivial⟩
        . refine yAN ?_ ?_ ?_;exact (by decide);kernel_rfl
          intro wy hC hd;clear hd;with_reducible refine yAH ?_ ?_
          . exact yAG rfl
          unfold relAt;simp only [putAll];go_simp;simp only [relUpon];first | trivial | exact ⟨zB _ _,by trivial⟩
        . refine yAN ?_ ?_ ?_;exact (by decide);kernel_rfl
          intro wy hC hd;have d0:v0=.slice (some ⟨sb,soff,none⟩) n sc:=(yAC 0 (by kernel_rfl) hd (by decide)).2;subst d0;have d1:v1=.int .i64 k:=(yAC 1 (by kernel_rfl) hd (by decide)).2;subst d1;clear hd;with_reducible refine yAH ?_ ?_
          . exact yAG rfl
          unfold relAt;simp only [putAll];go_simp;simp only [relUpon];first | trivial | exact ⟨zB _ _,by trivial⟩
        . refine yAN ?_ ?_ ?_;exact (by decide);kernel_rfl
          intro wy hC hd;clear hd;with_reducible refine yAH ?_ ?_
          . exact yAG rfl
          unfold relAt;simp only [putAll];go_simp;simp only [relUpon];with_reducible refine (Hwd.out wy hC).mono ?_
          rintro e w99 ⟨rfl,rfl⟩;first | exact ⟨_,rfl,zB _ _,rfl⟩ | exact ⟨_,rfl,zB _ _,trivial,rfl⟩
        . refine yAN ?_ ?_ ?_;exact (by decide);kernel_rfl
          intro wy hC hd;have d2:v2=.pointer (some ⟨sb,soff+k * 9,none⟩):=(yAC 2 (by kernel_rfl) hd (by decide)).2;subst d2;have d3:v3=.int .i64 CO:=(yAC 3 (by kernel_rfl) hd (by decide)).2;subst d3;clear hd;with_reducible refine yAH ?_ ?_
          . exact yAG rfl
          unfold relAt;simp only [putAll];go_simp;simp only [relUpon];with_reducible refine (Hsp.out wy hC).mono ?_
          rintro e w99 ⟨rfl,hb9⟩;first | exact ⟨_,rfl,hb9,rfl⟩ | exact ⟨_,rfl,hb9,trivial,rfl⟩
        . refine yAN ?_ ?_ ?_;exact (by decide);kernel_rfl
          intro wy hC hd;have d4:v4=.bool false:=(yAC 4 (by kernel_rfl) hd (by decide)).2;subst d4;clear hd;with_reducible refine yAH ?_ ?_
          . exact yAG rfl
          unfold relAt;simp only [putAll];go_simp;simp only [relUpon];first | trivial | exact ⟨zB _ _,by trivial⟩
        . refine yAN ?_ ?_ ?_;exact (by decide);kernel_rfl
          intro wy hC hd;have d5:v5=.bool true:=(yAC 5 (by kernel_rfl) hd (by decide)).2;subst d5;clear hd;with_reducible refine yAH ?_ ?_
          . exact yAG rfl
          unfold relAt;simp only [putAll];go_simp;simp only [relUpon];first | trivial | exact ⟨zB _ _,by trivial⟩
        . refine yAN ?_ ?_ ?_;exact (by decide);kernel_rfl
          intro wy hC hd;have d6:v6=.bool true:=(yAC 6 (by kernel_rfl) hd (by decide)).2;subst d6;clear hd;with_reducible refine relAtG_no ?_ ?_
          . exact wanted_no (by kernel_rfl) rfl rfl rfl rfl (by simp)
          exact ⟨zB _ _,trivial,rfl⟩
        . refine yAN ?_ ?_ ?_;exact (by decide);kernel_rfl
          intro wy hC hd;have d6:v6=.bool true:=(yAC 6 (by kernel_rfl) hd (by decide)).2;subst d6;clear hd;with_reducible refine relAtG_no ?_ ?_
          . exact wanted_no (by kernel_rfl) rfl rfl rfl rfl (by simp)
          exact ⟨zB _ _,trivial,rfl⟩
        . refine yAN ?_ ?_ ?_;exact (by decide);kernel_rfl
          intro wy hC hd;have d6:v6=.bool true:=(yAC 6 (by kernel_rfl) hd (by decide)).2;subst d6;clear hd;with_reducible refine relAtG_no ?_ ?_
          . exact wanted_no (by kernel_rfl) rfl rfl rfl rfl (by simp)
          exact ⟨zB _ _,trivial,rfl⟩
        . refine yAN ?_ ?_ ?_;exact (by decide);kernel_rfl
          intro wy hC hd;have d6:v6=.bool true:=(yAC 6 (by kernel_rfl) hd (by decide)).2;subst d6;clear hd;with_reducible refine relAtG_no ?_ ?_
          . exact wanted_no (by kernel_rfl) rfl rfl rfl rfl (by simp)
          exact ⟨zB _ _,trivial,rfl⟩
        . refine yAN ?_ ?_ ?_;exact (by decide);kernel_rfl
          intro wy hC hd;have d6:v6=.bool true:=(yAC 6 (by kernel_rfl) hd (by decide)).2;subst d6;clear hd;with_reducible refine relAtG_no ?_ ?_
          . exact wanted_no (by kernel_rfl) rfl rfl rfl rfl (by simp)
          exact ⟨zB _ _,trivial,rfl⟩
        . refine oneStep_p ?_ ?_;kernel_rfl
          intro wy hC hd;have d6:v6=.bool true:=(yAC 6 (by kernel_rfl) hd (by decide)).2;subst d6;clear hd;with_reducible refine yAH ?_ ?_
          . exact yAG rfl
          unfold relAt;simp only [putAll];go_simp;simp only [relUpon];exact ⟨hC,by first | rfl | trivial⟩
     . intro vs wq hvs hZ hI
       match vs,hvs,hZ,hI with
       | [v0,v1,v2,v3,v4,v5,v6,v7,v8,v9,v10,v11,v12],_,hZ,hI =>
        replace hZ:Below wr.heap.size wr wq/\v12=.bool true:=hZ;have d0:v0=.slice (some ⟨sb,soff,none⟩) n sc:=hI 0 (by decide) (by decide);subst d0;have d1:v1=.int .i64 k:=hI 1 (by decide) (by decide);subst d1;have d2:v2=.pointer (some ⟨sb,soff+k * 9,none⟩):=hI 2 (by decide) (by decide);subst d2;have d3:v3=.int .i64 CO:=hI 3 (by decide) (by decide);subst d3;have d4:v4=.bool false:=hI 4 (by decide) (by decide);subst d4;have d5:v5=.bool true:=hI 5 (by decide) (by decide);subst d5;have d6:v6=.bool true:=hI 6 (by decide) (by decide);subst d6;have d7:v7=undef:=hI 7 (by decide) (by decide);subst d7;have d8:v8=undef:=hI 8 (by decide) (by decide);subst d8;have d9:v9=undef:=hI 9 (by decide) (by decide);subst d9;have d10:v10=undef:=hI 10 (by decide) (by decide);subst d10;have d11:v11=undef:=hI 11 (by decide) (by decide);subst d11;clear hI;simp only [putAll];go_simp;obtain ⟨hC,rfl⟩:=hZ;have HSq:=HS.out.on hC;have x0:=HSq.box.cell 0 _ rfl;have x1:=HSq.box.cell 1 _ rfl;have hRq:=HRb.out.on hC;have r0:=hRq.cell 0 _ rfl;have r1:=hRq.cell 1 _ rfl;have rf0:=hRq.free 0;have rf1:=hRq.free 1;have HF:=hid (HSq.plain.res (w0:=w0) (R:=w0.heap.size) (x:=.slice ua N1 uc) (y:=.slice va N2 vc) (by have:=HTz.out;omega) (by have:=HTz.out;omega));have HBf:=hid (yBO (Hb.out.trans (hC.mono Hb.out.size)) (zA _) (.slice ua N1 uc) (.slice va N2 vc));clear hC HSq hRq;go_wp2;exact bodyPost_ret (v:=.tuple #[.agg #[.slice ua N1 uc,.slice va N2 vc],.int .i64 k]) (by simp [results,Tryz.results59,go_sem,r0,r1]) rfl ⟨⟨_,_,by rw [HE.out],by rw [HE.out];exact HF.out⟩,HBf.out⟩
    | true =>
     refine yBT (W:=wr) 10 (fun i=>match i with | 0=>0 | 1=>0 | 2=>0 | 3=>0 | 4=>0 | 5=>0 | 6=>0 | 7=>0 | 8=>0 | 9=>0 | 10=>2 | 11=>1 | 12=>1 | _=>2) (fun i v w=>match i with  | _=>True) (fun i x v=>match i with | 0=>v=.slice (some ⟨sb,soff,none⟩) n sc | 1=>v=.int .i64 k | 2=>v=.pointer (some ⟨sb,soff+k * 9,none⟩) | 3=>v=.int .i64 CO | 4=>v=.bool true | 5=>v=.bool false | 6=>v=.bool false | 7=>v=.slice (some ⟨sb,soff,none⟩) n sc | 8=>v=.int .i64 k | 9=>v=.pointer (some ⟨sb,soff+k * 9,none⟩) | 11=>∀ R:Int,x=.int .i64 R->v=.bool (R != 0) | 12=>∀ R:Int,x=.int .i64 R->v=.bool (R != 0) | _=>True) (fun v w=>∃ R:Int,v=.int .i64 R/\∃ wx:World,Below wr.heap.size wr wx/\DoPost T.heap.size (fun _=>False) P (.slice ua N1 uc) (.slice va N2 vc) oc x wx (.returned v) w) (by kernel_rfl) (by kernel_rfl) (by kernel_rfl) (by kernel_rfl) ?_ ?_ ?_ ?_
     . intro i v w w' h hb
       iterate 13 (obtain _ | i:=i;· exact h)
       exact h
     . intro i x y v hp h
       iterate 13 (obtain _ | i:=i;· first | exact h | exact absurd rfl hp)
       exact h
     . intro vs hvs
       match vs,hvs with
       | [v0,v1,v2,v3,v4,v5,v6,v7,v8,v9,v10,v11,v12],_ =>
        refine ⟨?_,?_,?_,?_,?_,?_,?_,?_,?_,?_,?_,?_,?_,trivial⟩
        . refine yAN ?_ ?_ ?_;exact (by decide);kernel_rfl
          intro wy hC hd;clear hd;with_reducible refine yAH ?_ ?_
          . exact yAG rfl
          unfold relAt;simp only [putAll];go_simp;simp only [relUpon];first | trivial | exact ⟨zB _ _,by trivial⟩
        . refine yAN ?_ ?_ ?_;exact (by decide);kernel_rfl
          intro wy hC hd;clear hd;with_reducible refine yAH ?_ ?_
          . exact yAG rfl
          unfold relAt;simp only [putAll];go_simp;simp only [relUpon];first | trivial | exact ⟨zB _ _,by trivial⟩
        . refine yAN ?_ ?_ ?_;exact (by decide);kernel_rfl
          intro wy hC hd;have d0:v0=.slice (some ⟨sb,soff,none⟩) n sc:=(yAC 0 (by kernel_rfl) hd (by decide)).2;subst d0;have d1:v1=.int .i64 k:=(yAC 1 (by kernel_rfl) hd (by decide)).2;subst d1;clear hd;with_reducible refine yAH ?_ ?_
          . exact yAG rfl
          unfold relAt;simp only [putAll];go_simp;simp only [relUpon];first | trivial | exact ⟨zB _ _,by trivial⟩
        . refine yAN ?_ ?_ ?_;exact (by decide);kernel_rfl
          intro wy hC hd;clear hd;with_reducible refine yAH ?_ ?_
          . exact yAG rfl
          unfold relAt;simp only [putAll];go_simp;simp only [relUpon];with_reducible refine (Hwd.out wy hC).mono ?_
          rintro e w99 ⟨rfl,rfl⟩;first | exact ⟨_,rfl,zB _ _,rfl⟩ | exact ⟨_,rfl,zB _ _,trivial,rfl⟩
        . refine yAN ?_ ?_ ?_;exact (by decide);kernel_rfl
          intro wy hC hd;have d2:v2=.pointer (some ⟨sb,soff+k * 9,none⟩):=(yAC 2 (by kernel_rfl) hd (by decide)).2;subst d2;have d3:v3=.int .i64 CO:=(yAC 3 (by kernel_rfl) hd (by decide)).2;subst d3;clear hd;with_reducible refine yAH ?_ ?_
          . exact yAG rfl
          unfold relAt;simp only [putAll];go_simp;simp only [relUpon];with_reducible refine (Hsp.out wy hC).mono ?_
          rintro e w99 ⟨rfl,hb9⟩;first | exact ⟨_,rfl,hb9,rfl⟩ | exact ⟨_,rfl,hb9,trivial,rfl⟩
        . refine yAN ?_ ?_ ?_;exact (by decide);kernel_rfl
          intro wy hC hd;have d4:v4=.bool true:=(yAC 4 (by kernel_rfl) hd (by decide)).2;subst d4;clear hd;with_reducible refine yAH ?_ ?_
          . exact yAG rfl
          unfold relAt;simp only [putAll];go_simp;simp only [relUpon];first | trivial | exact ⟨zB _ _,by trivial⟩
        . refine yAN ?_ ?_ ?_;exact (by decide);kernel_rfl
          intro wy hC hd;have d5:v5=.bool false:=(yAC 5 (by kernel_rfl) hd (by decide)).2;subst d5;clear hd;with_reducible refine yAH ?_ ?_
          . exact yAG rfl
          unfold relAt;simp only [putAll];go_simp;simp only [relUpon];first | trivial | exact ⟨zB _ _,by trivial⟩
        . refine yAN ?_ ?_ ?_;exact (by decide);kernel_rfl
          intro wy hC hd;have d6:v6=.bool false:=(yAC 6 (by kernel_rfl) hd (by decide)).2;subst d6;clear hd;with_reducible refine yAH ?_ ?_
          . exact wanted_yes (by kernel_rfl) rfl rfl rfl rfl (by simp)
          unfold relAt;simp only [putAll];go_simp;simp only [relUpon];first | trivial | exact ⟨zB _ _,by trivial⟩
        . refine yAN ?_ ?_ ?_;exact (by decide);kernel_rfl
          intro wy hC hd;have d6:v6=.bool false:=(yAC 6 (by kernel_rfl) hd (by decide)).2;subst d6;clear hd;with_reducible refine yAH ?_ ?_
          . exact wanted_yes (by kernel_rfl) rfl rfl rfl rfl (by simp)
          unfold relAt;simp only [putAll];go_simp;simp only [relUpon];first | trivial | exact ⟨zB _ _,by trivial⟩
        . refine yAN ?_ ?_ ?_;exact (by decide);kernel_rfl
          intro wy hC hd;have d6:v6=.bool false:=(yAC 6 (by kernel_rfl) hd (by decide)).2;subst d6;have d7:v7=.slice (some ⟨sb,soff,none⟩) n sc:=(yAC 7 (by kernel_rfl) hd (by decide)).2;subst d7;have d8:v8=.int .i64 k:=(yAC 8 (by kernel_rfl) hd (by decide)).2;subst d8;clear hd;with_reducible refine yAH ?_ ?_
          . exact wanted_yes (by kernel_rfl) rfl rfl rfl rfl (by simp)
          unfold relAt;simp only [putAll];go_simp;simp only [relUpon];first | trivial | exact ⟨zB _ _,by trivial⟩
        . refine oneStep_p ?_ ?_;kernel_rfl
          intro wy hC hd;have d6:v6=.bool false:=(yAC 6 (by kernel_rfl) hd (by decide)).2;subst d6;have d9:v9=.pointer (some ⟨sb,soff+k * 9,none⟩):=(yAC 9 (by kernel_rfl) hd (by decide)).2;subst d9;clear hd;with_reducible refine yAH ?_ ?_
          . exact wanted_yes (by kernel_rfl) rfl rfl rfl rfl (by simp)
          have hdo:=l15Do_c (HS.out.on hC) (HSt.out.on hC) Hsb.out HVo.out.1 HV2.out.symm;unfold relAt;simp only [putAll];go_simp;simp only [relUpon];with_reducible refine hdo.mono ?_
          intro e w99 h;obtain ⟨R,rfl,h2⟩:=h;first | exact ⟨_,rfl,R,rfl,wy,hC,R,rfl,h2⟩ | exact ⟨_,rfl,⟨R,rfl⟩,wy,hC,R,rfl,h2⟩
        . refine oneStep_s ?_ ?_ ?_;exact (by decide);kernel_rfl
          intro wy hA hd;replace hA:∃ R:Int,v10=.int .i64 R/\∃ wx:World,Below wr.heap.size wr wx/\DoPost T.heap.size (fun _=>False) P (.slice ua N1 uc) (.slice va N2 vc) oc x wx (.returned v10) wy:=hA;have d6:v6=.bool false:=(yAC 6 (by kernel_rfl) hd (by decide)).2;subst d6;clear hd;with_reducible refine yAH ?_ ?_
          . exact wanted_yes (by kernel_rfl) rfl rfl rfl rfl (by simp)
          have h8:=hA.choose_spec.1;generalize hA.choose=R at h8;clear hA;subst h8;unfold relAt;simp only [putAll];go_simp;simp only [relUpon];first | trivial | exact ⟨rfl,trivial⟩ | exact ⟨rfl,fun R2 h2=>by injection h2 with _ h2;subst h2;rfl⟩
        . refine oneStep_s ?_ ?_ ?_;exact (by decide);kernel_rfl
          intro wy hA hd;replace hA:∃ R:Int,v10=.int .i64 R/\∃ wx:World,Below wr.heap.size wr wx/\DoPost T.heap.size (fun _=>False) P (.slice ua N1 uc) (.slice va N2 vc) oc x wx (.returned v10) wy:=hA;have d6:v6=.bool false:=(yAC 6 (by kernel_rfl) hd (by decide)).2;subst d6;have d11:∀ R:Int,v10=.int .i64 R->v11=.bool (R != 0):=(yAC 11 (by kernel_rfl) hd (by decide)).2;clear hd;with_reducible refine yAH ?_ ?_
          . exact yAG rfl
          have h8:=hA.choose_spec.1;generalize hA.choose=R at h8;clear hA;subst h8;have h11:=d11 R rfl;subst h11;unfold relAt;simp only [putAll];go_simp;simp only [relUpon];first | trivial | exact ⟨rfl,trivial⟩ | exact ⟨rfl,fun R2 h2=>by injection h2 with _ h2;subst h2;rfl⟩
     . intro vs wq hvs hZ hI
       match vs,hvs,hZ,hI with
       | [v0,v1,v2,v3,v4,v5,v6,v7,v8,v9,v10,v11,v12],_,hZ,hI =>
        replace hZ:∃ R:Int,v10=.int .i64 R/\∃ wx:World,Below wr.heap.size wr wx/\DoPost T.heap.size (fun _=>False) P (.slice ua N1 uc) (.slice va N2 vc) oc x wx (.returned v10) wq:=hZ;have d0:v0=.slice (some ⟨sb,soff,none⟩) n sc:=hI 0 (by decide) (by decide);subst d0;have d1:v1=.int .i64 k:=hI 1 (by decide) (by decide);subst d1;have d2:v2=.pointer (some ⟨sb,soff+k * 9,none⟩):=hI 2 (by decide) (by decide);subst d2;have d3:v3=.int .i64 CO:=hI 3 (by decide) (by decide);subst d3;have d4:v4=.bool true:=hI 4 (by decide) (by decide);subst d4;have d5:v5=.bool false:=hI 5 (by decide) (by decide);subst d5;have d6:v6=.bool false:=hI 6 (by decide) (by decide);subst d6;have d7:v7=.slice (some ⟨sb,soff,none⟩) n sc:=hI 7 (by decide) (by decide);subst d7;have d8:v8=.int .i64 k:=hI 8 (by decide) (by decide);subst d8;have d9:v9=.pointer (some ⟨sb,soff+k * 9,none⟩):=hI 9 (by decide) (by decide);subst d9;have d11:∀ R:Int,v10=.int .i64 R->v11=.bool (R != 0):=hI 11 (by decide) (by decide);have d12:∀ R:Int,v10=.int .i64 R->v12=.bool (R != 0):=hI 12 (by decide) (by decide);clear hI;simp only [putAll];go_simp;obtain ⟨R9,rfl,w5,hb5,R9',hR9',hiff,hdf,hok,hno⟩:=hZ;obtain rfl:R9=R9':=by injection hR9' with h;injection h
        have h12:=d12 R9 rfl;subst h12;have HSw:=HS.out.on hb5;have hT5:T.heap.size<=w5.heap.size:=HSw.hb;have hAq:Agr (fun q=>q=P\/(Value.slice ua N1 uc).ownBlock=some q\/(Value.slice va N2 vc).ownBlock=some q) w5 wq:=hdf;have hbq:Below T.heap.size w5 wq:=hdf.below HSw;have hRq:=yBJ (HRb.out.on hb5) hAq (fun h=>by
         have hl9:=HSw.off.lt;rcases h with e | e | e
         . have:=HSw.pb.1;have:=HTz.out;omega
         . have:=(hl9.1 _ e).1;have:=HTz.out;omega
         . have:=(hl9.2 _ e).1;have:=HTz.out;omega)
        have HRq:=hid hRq;have Hbq:=hid ((Hb.out.trans (hb5.mono Hb.out.size)).trans (hbq.mono (by have:=HTz.out;omega)));by_cases hR9:R9=0
        case neg =>
         have HE:Hid (RR=(oc,k)):=hid (by rw [HRk.out,Hms.out,if_neg (fun h=>hR9 (hiff.2 h))];simp);have HSq:=hno hR9;have h1:(R9 != 0)=true:=by simpa using hR9
         have x0:=HSq.box.cell 0 _ rfl;have x1:=HSq.box.cell 1 _ rfl;have r0:=HRq.out.cell 0 _ rfl;have r1:=HRq.out.cell 1 _ rfl;have rf0:=HRq.out.free 0;have rf1:=HRq.out.free 1;have HF:=hid (HSq.plain.res (w0:=w0) (R:=w0.heap.size) (x:=.slice ua N1 uc) (y:=.slice va N2 vc) (by have:=HTz.out;omega) (by have:=HTz.out;omega));have HBf:=hid (yBO Hbq.out (zA _) (.slice ua N1 uc) (.slice va N2 vc));rw [h1];clear hiff hdf hok hno hR9 HSw hAq hbq hRq HSq hT5 hb5 hR9' h1 d11 d12;go_wp2;exact bodyPost_ret (v:=.tuple #[.agg #[.slice ua N1 uc,.slice va N2 vc],.int .i64 k]) (by simp [results,Tryz.results59,go_sem,r0,r1]) rfl ⟨⟨_,_,by rw [HE.out],by rw [HE.out];exact HF.out⟩,HBf.out⟩
        have hC0:=hiff.1 hR9;obtain ⟨u6,v6,hS6⟩:=hok hR9;have HVn:=hid (show offB (stpD oc x)=true/\LensOk (stpD oc x) from ⟨stp_ok (x:=x) HVo.out.1 hC0,stp_lens (x:=x) HVo.out.1 HVo.out.2 hC0⟩);have HRn:Hid (RR=((runP (stpD oc x) (xs.drop (k+1))).1,(runP (stpD oc x) (xs.drop (k+1))).2+(k+1))):=hid (by rw [HRk.out,Hms.out,if_pos hC0];simp only [Prod.mk.injEq,true_and];omega);have HS6:=hid hS6;subst hR9;clear hiff hdf hok hno hC0 HSw hAq hbq hRq hT5 hb5 hS6 hR9' d11 d12;go_wp2;go_roundw
        case rel=>exact ⟨k+1,stpD oc x,_,_,by omega,by go_num,HS6,HRq,HVn,HRn,Hbq⟩
        case measure=>simp [intOf];omega
  . obtain rfl:k=n:=by omega
    have HE:Hid (RR=(oc,k)):=hid (by rw [HRk.out,runP_end (by have:=Hn.out;omega)];simp);have ik:¬ (k:Int)<(k:Int):=by omega
    have x0:=HS.out.box.cell 0 _ rfl;have x1:=HS.out.box.cell 1 _ rfl;have r0:=HRb.out.cell 0 _ rfl;have r1:=HRb.out.cell 1 _ rfl;have rf0:=HRb.out.free 0;have rf1:=HRb.out.free 1;have HF:=hid (HS.out.plain.res (w0:=w0) (R:=w0.heap.size) (x:=.slice ua N1 uc) (y:=.slice va N2 vc) (by have:=HTz.out;omega) (by have:=HTz.out;omega));have HBf:=hid (yBO Hb.out (zA _) (.slice ua N1 uc) (.slice va N2 vc));go_wp2;exact bodyPost_ret (v:=.tuple #[.agg #[.slice ua N1 uc,.slice va N2 vc],.int .i64 k]) (by simp [results,Tryz.results59,go_sem,r0,r1]) rfl ⟨⟨_,_,by rw [HE.out],by rw [HE.out];exact HF.out⟩,HBf.out⟩
theorem new_ok {d:List (List Int)} (h:Deck5 d):offB ⟨[d,[],[],[],[],[]],[]⟩=true/\LensOk ⟨[d,[],[],[],[],[]],[]⟩:=by
 refine ⟨?_,fun l hl=>by cases hl⟩;have h0:deckB []=true:=by decide
 have h1:=h.ok;unfold offB;cases d with
 | nil=>decide
 | cons c cs=>simp [h0,h1,colsD,colO]
theorem Own.takeV {α:Type} {E:Elt α} {e:TypeId} {base n c k:Nat} {ao:Option Addr} {w:World} {xs:List α} (h:Own E e base w (.slice ao n c) xs) (hk:k<=n):Own E e base w (.slice ao k c) (xs.take k):=by
 rcases h.1.2 with ⟨h0,h1⟩ | ⟨g,cap,cur,hv,_⟩
 . cases h0
   obtain rfl:k=0:=by omega
   have hx:xs=[]:=List.eq_nil_of_length_eq_zero h1;subst hx;exact h
 . cases hv
   exact h.takeK hk
structure OInv (w W:World) (b N:Nat) (u v:Value) (o:OffT):Prop where
 off:OffN w.heap.size (fun k=>k<w.heap.size) W u v o
 lens:LensOk o
 src:Src W b N
 gr:w.grownBy W (some b)
 bb:b<w.heap.size
section
variable {w W W':World} {b N M:Nat} {u v:Value} {o:OffT}
theorem OffN.keptB (h:OffN w.heap.size (fun k=>k<w.heap.size) W u v o) (hg:W.grownBy W' (some b)) (hb:b<w.heap.size):OffN w.heap.size (fun k=>k<w.heap.size) W' u v o :=
 h.agr (Agr.of_grown1 (S:=fun k=>k=b) hg rfl) (fun k hk _=>⟨by omega,fun e=>by have:=(h.lt.1 k e).1;omega,fun e=>by have:=(h.lt.2 k e).1;omega⟩) (fun k h _=>h)
theorem OInv.up (h:OInv w W b N u v o) (hM:N<=M):OInv w W b M u v o:=⟨h.off,h.lens,h.src.mono hM,h.gr,h.bb⟩
theorem Src.on (h:Src W b N) (hb:Below W.heap.size W W'):Src W' b N:=h.kept (yAU hb none) (fun k hk=>by cases hk)
theorem res2 {R base:Nat} {x y:Value} (h:OffN base (fun k=>k<base) W u v o) (hl:LensOk o) (hs:Src W b N) (hg:w.grownBy W (some b)) (hb:b<w.heap.size) (hR:R<base) (hR2:w.heap.size<=R) (hn:w.heap.size<=base) :
 OInv w ((W.setCell ⟨R,0,none⟩ x).setCell ⟨R,1,none⟩ y) b N u v o:=by
 have h1:=yAR W ⟨R,0,none⟩ x;have h2:=yAR (W.setCell ⟨R,0,none⟩ x) ⟨R,1,none⟩ y;have hr:∀ k,some R=some k->w.heap.size<=k:=fun k hk=>by have:=zD hk;omega
 exact ⟨h.res (w0:=w) hR hn,hl,(hs.kept h1 (fun k hk=>by have:=hr k hk;omega)).kept h2 (fun k hk=>by have:=hr k hk;omega),yAS (yAS hg h1 hr) h2 hr,hb⟩
end
theorem l15Draw_any {w:World} {b N:Nat} (hs:Src w b N) (hN:N<=5000) :
 Calls Tryz.prog 150 #[.pointer (some ⟨b,0,none⟩)] w fun e w'=>∃ (ao vo:Option Addr) (c n vc:Nat) (o:OffT),e=.returned (.agg #[.slice ao 6 c,.slice vo n vc])/\OInv w w' b (N+700) (.slice ao 6 c) (.slice vo n vc) o/\o.trays.length=6:=by
 have hbl:=hs.lt;go_enter Tryz.func150,Tryz.ntmps150;go_wp2_with fail;have hR0:=Box.new w [.slice none 0 0,.slice none 0 0] 35;with_reducible refine (l13Deck_any (hs.alloc _) (by omega)).mono ?_
 rintro e w1 ⟨⟨u,d,rfl,hd,h5⟩,hs1,hg1⟩;have hR1:=hR0.keptB hg1 (fun e=>by have:=zD e;omega);have hg1':=yAA (World.grownBy_alloc w _ (some b)) hg1;have hsz1:=hR1.lt;clear hs hg1 hR0;go_wp2_with fail;with_reducible refine (l15New_any (OwnCardS.rds hd) h5).mono ?_
 rintro e w2 ⟨⟨ao,c,rfl,hoff⟩,hb2⟩;obtain ⟨W,hW⟩:∃ W,W=w2.alloc (.cells #[.slice ao 6 c,.slice none 0 0] 35):=⟨_,rfl⟩;obtain ⟨R,hR⟩:∃ R,R=w.heap.size:=⟨_,rfl⟩;obtain ⟨D,hD⟩:∃ D,D=w2.heap.size:=⟨_,rfl⟩;have hDs:D<W.heap.size:=by rw [hW,hD];simp
 have hbW:Below w2.heap.size w2 W:=by rw [hW];exact (zB _ _).alloc (zA _) _
 have hDb:Box W D [.slice ao 6 c,.slice none 0 0]:=by rw [hW,hD];exact Box.new w2 [.slice ao 6 c,.slice none 0 0] _
 have hRb:Box W R [.slice none 0 0,.slice none 0 0]:=by rw [hR];exact (hR1.on hb2).on hbW
 have hsW:Src W b (N+200):=(hs1.on hb2).on hbW;have hgW:w.grownBy W (some b):=yAA hg1' (yAA (yAU hb2 _) (yAU hbW _));have hoW:OffN w1.heap.size (fun k=>k<w1.heap.size) W (.slice ao 6 c) (.slice none 0 0) ⟨[d,[],[],[],[],[]],[]⟩:=hoff.on hbW;have hDR:R<D/\w1.heap.size<=D:=by have:=hb2.size;omega
 have HW:=hid hW;have HR:=hid hR;have HD:=hid hD;have hok:=new_ok h5;have hsz1':b<w1.heap.size:=by omega
 have hRw:w.heap.size<=R:=by omega
 have hR1l:R<w1.heap.size:=by omega
 clear hs1 hg1' hd hR1 hb2 hoff hbW hW hR hD h5;go_upto_region 2 with fail;rw [<- HW.out,<- HD.out,<- HR.out];clear HW HR HD;generalize (OffT.mk [d,[],[],[],[],[]] [])=o at hoW hok |-;go_wp2_with fail;with_reducible refine (l15DrawFlow_any hsW (by omega)).mono ?_
 rintro e w3 ⟨s,xs,rfl,hF,hlx⟩;have hg3:=hF.gr;have hne:some b ≠ some D:=fun e=>by have:=zD e;omega
 have hD3:=hDb.keptB hg3 hne;have hR3:=hRb.keptB hg3 (fun e=>by have:=zD e;omega);have ho3:=hoW.keptB hg3 hsz1';have hg3':=yAA hgW hg3;obtain ⟨so,sc,hsv⟩:=hF.shape;subst hsv;have hx3:=hF.own.rds;have hs3:=hF.src;have hnil:so=none->sc=0:=Rds.nilcap hx3;obtain ⟨n,hn⟩:∃ n,n=xs.length:=⟨_,rfl⟩;rw [<- hn] at hx3 hlx |-;obtain ⟨p,hp,hpn⟩:∃ p:Nat,(p:Int)=minI 4 (n:Int)/\p<=n:=⟨(minI 4 (n:Int)).toNat,by unfold minI;split <;> omega,by unfold minI;split <;> omega⟩;have hcapn:=hx3.cap;have hrun:=l15Run_c (xs:=xs.take p) ho3.rd hD3 (Rds.takeV hx3 hpn hnil) hok.1 hok.2;have hrk:=runP_ok o (xs.take p) hok.1 hok.2;have hrt:=(yBF hrk.1).1;obtain ⟨RR,hRR⟩:∃ r,runP o (xs.take p)=r:=⟨_,rfl⟩;rw [hRR] at hrun hrk hrt;have Hrun:=hid hrun;have Hp:=hid (congrArg (Value.int IntKind.i64) hp);have Hgr:=hid hg3';have Hs3:=hid hs3;have HR3:=hid hR3;have Hrk:=hid hrk.2;have Hrt:=hid hrt;have hpc:p<=sc:=by have:=hcapn.1;omega
 have hb3:b<w3.heap.size:=by have:=hs3.lt;omega
 have hR3l:R<w3.heap.size:=hR3.lt;have hw3:w.heap.size<=w3.heap.size:=hg3'.size;clear hrun hrk hrt hRR hp hg3' hs3 hR3 hD3 ho3 hx3 hF hg3 hne hnil hn hsW hgW hDb hRb hoW hok hcapn;go_wp2_with fail;with_reducible refine (l00Min_any _ _ _).mono ?_
 rintro e w4 ⟨rfl,rfl⟩;rw [<- Hp.out];go_wp2_with fail;with_reducible refine Hrun.out.mono ?_
 intro e w4 hpost;obtain ⟨⟨a1,k1,a2,k2,rfl,hN⟩,hb4⟩:=hpost.sh;obtain ⟨m2,hm2⟩:∃ n,n=RR.1.totals.length:=⟨_,rfl⟩;rw [<- hm2,Hrt.out] at hN |-;obtain ⟨W,hW⟩:∃ W,W=w4.alloc (.cells #[.slice a1 6 k1,.slice a2 m2 k2] 35):=⟨_,rfl⟩;have hbW:Below w4.heap.size w4 W:=by rw [hW];exact (zB _ _).alloc (zA _) _
 have hD5:Box W w4.heap.size [.slice a1 6 k1,.slice a2 m2 k2]:=by rw [hW];exact Box.new w4 [.slice a1 6 k1,.slice a2 m2 k2] _
 have hR5:Box W R [.slice none 0 0,.slice none 0 0]:=(HR3.out.on hb4).on hbW;have HN5:=hid (hN.on hbW);have Hs5:=hid ((Hs3.out.on hb4).on hbW);have Hg5:=hid (yAA Hgr.out (yAA (yAU hb4 (some b)) (yAU hbW (some b))));have HW:=hid hW;have hb4s:=hb4.size;clear hpost hb4 hm2 hbW hN Hgr Hs3 HR3 hW;go_upto_region 4 with fail;rw [<- HW.out];have hne:R ≠ w4.heap.size:=by omega
 generalize w4.heap.size=D5 at hD5 hne |-;have d0:=hD5.cell 0 _ rfl;have d1:=hD5.cell 1 _ rfl;have r0:=hR5.cell 0 _ rfl;have r1:=hR5.cell 1 _ rfl;have s0:=hR5.free 0;have s1:=hR5.free 1;clear hD5 hR5 HW;go_wp2;exact bodyPost_ret (v:=.agg #[.slice a1 6 k1,.slice a2 m2 k2]) (by simp [results,Tryz.results150,go_sem,r0,r1]) rfl ⟨a1,a2,k1,m2,k2,RR.1,rfl,(res2 HN5.out Hrk.out Hs5.out Hg5.out hbl hR3l hRw hw3).up (by omega),Hrt.out⟩
section
variable {base:Nat} {X X':Nat->Prop} {w w':World} {u v v':Value} {o:OffT}
theorem OffN.takeT {ao:Option Addr} {n c k:Nat} (h:OffN base X w (.slice ao n c) v o) (hk:k<=n):OffN base X w (.slice ao k c) v ⟨o.trays.take k,o.totals⟩:=by
 obtain ⟨hs,ks,a1,a2,a3,a4,a5⟩:=h;have e:∀ q,(Value.slice ao k c).ownBlock=some q ↔ (Value.slice ao n c).ownBlock=some q:=fun q=>by cases ao <;> simp [Value.ownBlock]
 have hf:∀ q,(X q\/(Value.slice ao k c).ownBlock=some q\/v.ownBlock=some q)->q<w.heap.size->(X q\/(Value.slice ao n c).ownBlock=some q\/v.ownBlock=some q):=fun q hq _=>hq.elim .inl (fun h=>h.elim (fun h=>.inr (.inl ((e q).1 h))) (fun h=>.inr (.inr h)));refine ⟨hs.take k,ks,a1.takeV hk,a2,⟨by simp [a3.1],fun i h x e1 e2=>?_⟩,a4.step (Agr.refl (fun _=>False) w) (fun _ h=>h.elim) hf,fun q hq=>a5 q ((e q).1 hq)⟩;rw [List.getElem?_take] at e1 e2;split at e1
 . rename_i hi
   rw [if_pos hi] at e2;exact (a3.2 i h x e1 e2).weak hf
 . cases e1
theorem OffN.setG (h:OffN base X w u v o) {g n c i:Nat} (hu:u=.slice (some ⟨g,0,none⟩) n c) (hi:i<o.trays.length) {hx:SlV} {x:List (List Int)} (hfr:FrS RdD (fun k=>X k\/u.ownBlock=some k\/v.ownBlock=some k) w hx.val x) :
 (∃ y,w.cell? ⟨g,i,none⟩=some y)/\w.frozen? ⟨g,i,none⟩=false/\OffN base X (w.setCell ⟨g,i,none⟩ hx.val) u v ⟨o.trays.set i x,o.totals⟩:=by
 obtain ⟨hs,ks,a1,a2,a3,a4,a5⟩:=h;subst hu;have hn:n=hs.length:=(Own.rds a1).cap.2.1;have hil:i<n:=by rw [hn,a3.1];exact hi
 obtain ⟨e1,e2⟩:=Own.cellE (E:=eS) a1 hn (k:=i) (j:=0) hil (by decide);have hk2:hs[i]?=some (hs[i]'(by omega)):=zF (by omega);have hst:=Own.store1 (E:=eS) (by decide) a1 hn (x:=hs[i]'(by omega)) (y:=hx) (v:=hx.val) hk2 (j:=0) (by decide) rfl trivial;simp only [show eS.sz=1 from rfl,Nat.mul_one,Nat.add_zero] at hst e1 e2;have hA:Agr (fun k=>k=g) w (w.setCell ⟨g,i,none⟩ hx.val):=Agr.of_grown1 hst.2 rfl;have hg:(Value.slice (some ⟨g,0,none⟩) n c).ownBlock=some g:=rfl;have hin:∀ k,k=g->k<w.heap.size->(X k\/(Value.slice (some ⟨g,0,none⟩) n c).ownBlock=some k\/v.ownBlock=some k):=fun k hk _=>.inr (.inl (by rw [hk];rfl));have d2:=(OwnT.agr (Own.top a2) hA (fun k hk hS=>a5 g hg (by rw [<- hS];exact hk))).1;exact ⟨e1,e2,hs.set i hx,ks,hst.1,d2,(a3.step hA hin (fun k h _=>h)).set (hfr.step hA hin (fun k h _=>h)) i,a4.step hA hin (fun k h _=>h),a5⟩
theorem OffN.newL {g m:Nat} (h:OffN base X w u v o) (hg:w.grownBy w' none) (ho:Own eS 110 base w' (.slice (some ⟨g,0,none⟩) m m) (List.replicate m ⟨none,0,0⟩)) (hgw:w.heap.size<=g) (hX:∀ k,X k->k<w.heap.size) :
 OffN base X w' u (.slice (some ⟨g,0,none⟩) m m) ⟨o.trays,List.replicate m []⟩:=by
 obtain ⟨hs,ks,a1,a2,a3,a4,a5⟩:=h;have hA:Agr (fun _=>False) w w':=Agr.of_grown hg (fun k hk=>by cases hk);have hf:∀ k,(X k\/u.ownBlock=some k\/(Value.slice (some ⟨g,0,none⟩) m m).ownBlock=some k)->k<w.heap.size->(X k\/u.ownBlock=some k\/v.ownBlock=some k):=fun k hk hl=>hk.elim .inl (fun h=>h.elim (fun h=>.inr (.inl h)) (fun h=>by have:=zD (show some g=some k from h);omega));refine ⟨hs,_,(OwnT.agr (Own.top a1) hA (fun _ _ h=>h)).1,ho,a3.step hA (fun _ h=>h.elim) hf,⟨by simp,fun i h x e1 e2=>?_⟩,fun q hq hq2=>?_⟩
 . have h1:=List.eq_of_mem_replicate (zC e1)
   have h2:=List.eq_of_mem_replicate (zC e2);subst h1;subst h2;exact fun w9 _=>Rds.nil _ _ _
 . have h9:=zD (show some g=some q from hq2)
   have:=(a1.lt q hq).2;omega
end
theorem nilsS {e:TypeId} {base m cap g:Nat} {w:World} (h:w.ownsRow base e 1 (.slice (some ⟨g,0,none⟩) m cap) m (madeCells #[.slice none 0 0] m).toList):Own eS e base w (.slice (some ⟨g,0,none⟩) m cap) (List.replicate m ⟨none,0,0⟩):=by
 refine ⟨?_,fun x hx=>trivial⟩;have e1:=Elt.all_made (E:=eS) (by decide) (z:=⟨none,0,0⟩) (zv:=.slice none 0 0) rfl m;rw [show eS.sz=1 from rfl,Nat.mul_one] at e1;rw [<- e1,List.length_replicate];exact h
structure BInv (w W:World) (b N R D:Nat) (cu cv u v:Value) (o:OffT):Prop where
 off:OffN (w.heap.size+1) (fun k=>k<w.heap.size+1\/k=D) W u v o
 lens:LensOk o
 src:Src W b N
 gr:w.grownBy W (some b)
 bb:b<w.heap.size
 hR:Box W R [.slice none 0 0,.slice none 0 0]
 hD:Box W D [cu,cv]
 eR:R=w.heap.size
 bD:w.heap.size<D
 own:∀ q,u.ownBlock=some q\/v.ownBlock=some q->q ≠ D
section
variable {w W W':World} {b N M R D:Nat} {cu cv u v:Value} {o:OffT}
theorem BInv.kept (h:BInv w W b N R D cu cv u v o) (hs:Src W' b M) (hg:W.grownBy W' (some b)):BInv w W' b M R D cu cv u v o:=by
 have h1:=h.bb;have h2:=h.eR;have h3:=h.bD;exact ⟨h.off.agr (Agr.of_grown1 (S:=fun k=>k=b) hg rfl) (fun k hk _=>⟨.inl (by omega),fun e=>by have:=(h.off.lt.1 k e).1;omega,fun e=>by have:=(h.off.lt.2 k e).1;omega⟩) (fun k h _=>h),h.lens,hs,yAA h.gr hg,h.bb,
  h.hR.keptB hg (fun e=>by have:=zD e;omega),h.hD.keptB hg (fun e=>by have:=zD e;omega),h.eR,h.bD,h.own⟩
theorem BInv.up (h:BInv w W b N R D cu cv u v o) (hM:N<=M):BInv w W b M R D cu cv u v o:=⟨h.off,h.lens,h.src.mono hM,h.gr,h.bb,h.hR,h.hD,h.eR,h.bD,h.own⟩
theorem BInv.put {j:Nat} {y cu' cv':Value} (h:BInv w W b N R D cu cv u v o) (hj:j<2) (hc:[cu,cv].set j y=[cu',cv']):BInv w (W.setCell ⟨D,j,none⟩ y) b N R D cu' cv' u v o:=by
 have hA:Agr (fun k=>k=D) W (W.setCell ⟨D,j,none⟩ y):=Agr.set W _ _ rfl;have hg:=yAR W ⟨D,j,none⟩ y;have hb:=h.hD.set1 (j:=j) (by simpa using hj) y;rw [hc] at hb;have h2:=h.eR;have h3:=h.bD;have h4:=h.bb;have hr:∀ k,some D=some k->w.heap.size<=k:=fun k hk=>by have:=zD hk;omega
 exact ⟨h.off.agr hA (fun k hk _=>⟨.inr hk,fun e=>h.own k (.inl e) hk,fun e=>h.own k (.inr e) hk⟩) (fun k h _=>h),h.lens,h.src.kept hg (fun k hk=>by have:=hr k hk;omega),yAS h.gr hg hr,h.bb,h.hR.other (by show D ≠ R;omega) _,hb,h.eR,h.bD,h.own⟩
theorem BInv.setG {g n c i:Nat} {y:Value} {o':OffT} (h:BInv w W b N R D cu cv (.slice (some ⟨g,0,none⟩) n c) v o) (hof:OffN (w.heap.size+1) (fun k=>k<w.heap.size+1\/k=D) (W.setCell ⟨g,i,none⟩ y) (.slice (some ⟨g,0,none⟩) n c) v o') (hl:LensOk o'):BInv w (W.setCell ⟨g,i,none⟩ y) b N R D cu cv (.slice (some ⟨g,0,none⟩) n c) v o':=by
 have hg:=yAR W ⟨g,i,none⟩ y;have h1:=(h.off.lt.1 g rfl).1;have h2:=h.eR;have h4:=h.bb;have h5:=h.own g (.inl rfl);have hr:∀ k,some g=some k->w.heap.size<=k:=fun k hk=>by have:=zD hk;omega
 exact ⟨hof,hl,h.src.kept hg (fun k hk=>by have:=hr k hk;omega),yAS h.gr hg hr,h.bb,h.hR.other (by show g ≠ R;omega) _,h.hD.other (by show g ≠ D;exact h5) _,h.eR,h.bD,h.own⟩
theorem BInv.bent {g n c i:Nat} {ub:Value} {db:List (List Int)} (h:BInv w W b N R D cu cv (.slice (some ⟨g,0,none⟩) n c) v o) (hs:Src W' b M) (hg:W.grownBy W' (some b)) (hd:OwnCardS W.heap.size W' ub db) (hi:i<o.trays.length) :
 ∃ uo m uc,ub=.slice uo m uc/\(∃ y,W'.cell? ⟨g,i,none⟩=some y)/\W'.frozen? ⟨g,i,none⟩=false/\W'.cell? ⟨D,0,none⟩=some cu/\∃ o',BInv w (W'.setCell ⟨g,i,none⟩ (.slice uo m uc)) b M R D cu cv (.slice (some ⟨g,0,none⟩) n c) v o':=by
 have h5:=h.kept hs hg;have hfr:FrS RdD (·<W.heap.size) W' ub db:=FrD.own hd;have hlt:=h.off.lt;have h1:=h.hD.lt;have h2:=h.hR.lt;have h3:=h.eR;obtain ⟨uo,uc,hv⟩:=FrD.shape (n:=W.heap.size) hfr;subst hv;obtain ⟨hy,hf,ho⟩:=h5.off.setG rfl (i:=i) hi (hx:=⟨uo,db.length,uc⟩) (x:=db) (hfr.weak (fun k hk _=>by
  rcases hk with (hk | hk) | hk | hk
  . show k<W.heap.size
    omega
  . show k<W.heap.size
    omega
  . exact (hlt.1 k hk).2
  . exact (hlt.2 k hk).2))
 exact ⟨uo,_,uc,rfl,hy,hf,h5.hD.cell 0 _ rfl,_,h5.setG ho h5.lens⟩
theorem BInv.fin (h:BInv w W b N R D cu cv u v o) (x y:Value):OInv w ((W.setCell ⟨R,0,none⟩ x).setCell ⟨R,1,none⟩ y) b N u v o:=by
 have h2:=h.eR;exact res2 (h.off.more (X':=fun k=>k<w.heap.size+1) (fun k hk _=>.inl hk)) h.lens h.src h.gr h.bb (by omega) (by omega) (by omega)
end
theorem l02BentDeck_b {w:World} {b N:Nat} (hs:Src w b N) (hN:N<=1000) :
 Calls Tryz.prog 151 #[.pointer (some ⟨b,0,none⟩)] w fun e w'=>(∃ u d,e=.returned u/\OwnCardS w.heap.size w' u d)/\Src w' b (N+20000)/\w.grownBy w' (some b):=l02BentDeck_any hs hN
def BentPost (w:World) (b N:Nat) (e:Ending) (w':World):Prop:=∃ (ao vo:Option Addr) (n c m d:Nat) (o:OffT),e=.returned (.agg #[.slice ao n c,.slice vo m d])/\OInv w w' b N (.slice ao n c) (.slice vo m d) o
theorem l15Bent_any {w:World} {b N:Nat} (hs:Src w b N) (hN:N<=250) :
 Calls Tryz.prog 106 #[.pointer (some ⟨b,0,none⟩)] w fun e w'=>BentPost w b (N+21000) e w':=by
 have hbl:=hs.lt;go_enter Tryz.func106,Tryz.ntmps106;go_wp2_with fail;have hR0:=Box.new w [.slice none 0 0,.slice none 0 0] 35;with_reducible refine (l15Draw_any (hs.alloc _) (by omega)).mono ?_
 rintro e w1 ⟨ao,vo,c,n,vc,o,rfl,hO,ht⟩;obtain ⟨R,hR⟩:∃ R,R=w.heap.size:=⟨_,rfl⟩;obtain ⟨D,hD⟩:∃ D,D=w1.heap.size:=⟨_,rfl⟩;obtain ⟨W,hW⟩:∃ W,W=w1.alloc (.cells #[.slice ao 6 c,.slice vo n vc] 35):=⟨_,rfl⟩;have P0:BInv w W b (N+700) R D (.slice ao 6 c) (.slice vo n vc) (.slice ao 6 c) (.slice vo n vc) o:=by
  have hsz:(w.alloc (.cells #[.slice none 0 0,.slice none 0 0] 35)).heap.size=w.heap.size+1:=by simp
  have hR1:=hR0.keptB hO.gr (fun e=>by have:=zD e;omega);have ho:=hO.off;rw [hsz] at ho;have hlt:=ho.lt;have hz1:=hO.gr.size;rw [hsz] at hz1;have hbW:Below w1.heap.size w1 W:=by rw [hW];exact (zB _ _).alloc (zA _) _
  refine ⟨(ho.more (X':=fun k=>k<w.heap.size+1\/k=D) (fun k hk hl=>by omega)).on hbW,hO.lens,hO.src.on hbW,yAA (yAA (World.grownBy_alloc w _ (some b)) hO.gr) (yAU hbW (some b)),hbl,by rw [hR];exact hR1.on hbW,by rw [hW,hD];exact Box.new w1 [.slice ao 6 c,.slice vo n vc] _,hR,by omega,fun q hq=>?_⟩;have:q<w1.heap.size:=hq.elim (fun h=>(hlt.1 q h).2) (fun h=>(hlt.2 q h).2);omega
 have HW:=hid hW;have HR:=hid hR;have HD:=hid hD;have hbD:b<D:=by have:=P0.bD;omega
 have hne:R ≠ D:=by have:=P0.bD;omega
 clear hs hR0 hO hW hR hD;go_upto_region 2 with fail;rw [<- HW.out,<- HD.out,<- HR.out];clear HW HD HR;go_wp2_with fail;with_reducible refine (yAK 20 P0.src (by omega) (by omega)).mono ?_
 rintro e w2 ⟨⟨q,rfl,hq0,hq1,_⟩,hs2,hg2,-⟩;have hq2:=hq1 (by omega);have P:=P0.kept hs2 hg2;obtain ⟨g,cc,e1⟩:=P.off.addr (by omega);rw [ht] at e1;cases e1;have hgD:g ≠ D:=P.own g (.inl rfl);have hc6:6<=c:=by
  obtain ⟨hs,ks,a1,-⟩:=P.off;exact a1.rds.cap.1
 have hgR:g ≠ R:=by have:=(P.off.lt.1 g rfl).1;have:=P.eR;omega
 clear P0 hs2 hg2 hq1;by_cases q0:q=0
 . subst q0
   have d0:=P.hD.cell 0 _ rfl;have f0:=P.hD.free 0;have P1:BInv w w2 b (N+700+2) R D (.slice (some ⟨g,0,none⟩) 6 c) (.slice vo n vc) (.slice (some ⟨g,0,none⟩) 5 c) (.slice vo n vc) ⟨o.trays.take 5,o.totals⟩:=⟨P.off.takeT (by decide),P.lens,P.src,P.gr,P.bb,P.hR,P.hD,P.eR,P.bD,P.own⟩;have P9:=P1.put (j:=0) (y:=.slice (some ⟨g,0,none⟩) 5 c) (by decide) rfl;clear P P1;go_upto_region 9 with fail;clear d0 f0;generalize w2.setCell ⟨D,0,none⟩ (.slice (some ⟨g,0,none⟩) 5 c)=W9 at P9 |-;have r0:=P9.hR.cell 0 _ rfl;have r1:=P9.hR.cell 1 _ rfl;have s0:=P9.hR.free 0;have s1:=P9.hR.free 1;have d0:=P9.hD.cell 0 _ rfl;have d1:=P9.hD.cell 1 _ rfl;have HF:=hid (P9.fin (.slice (some ⟨g,0,none⟩) 5 c) (.slice vo n vc));clear P9;go_wp2;exact bodyPost_ret (v:=.agg #[.slice (some ⟨g,0,none⟩) 5 c,.slice vo n vc]) (by simp [results,Tryz.results106,go_sem,r0,r1]) rfl ⟨_,_,_,_,_,_,_,rfl,HF.out.up (by omega)⟩
 by_cases q1:q=1
 . subst q1
   go_upto_region 6 with fail;have d0:=P.hD.cell 0 _ rfl;go_region_law (first
    | (go_simp;go_at_call 67;with_reducible refine (yAK 6 P.src.drew (by omega) (by omega)).mono ?_;rintro e w4 ⟨⟨r,rfl,hr0,hr1,_⟩,hs4,hg4,-⟩;have P4:=P.kept hs4 (yAA (yAV _ _) hg4);have hr2:=hr1 (by omega);obtain ⟨rr,rfl⟩:=zG hr0;have d4:=P4.hD.cell 0 _ rfl;clear hr1 hs4 hg4)
    | (go_simp;go_at_call 151;with_reducible refine (l02BentDeck_b P4.src (by omega)).mono ?_;rintro e w5 ⟨⟨ub,db,rfl,hdb⟩,hs5,hg5⟩;obtain ⟨uo,um,uc,hv,⟨y9,c9⟩,f9,d5,o9,P5⟩:=P4.bent hs5 hg5 hdb (i:=rr) (by omega);subst hv;clear hdb hs5 hg5)
    )
   all_goals
    have P9:=P5;clear P P4 P5;go_upto_region 9 with fail;clear d0 d4 d5 c9 f9;generalize World.setCell w5 ⟨g,rr,none⟩ (.slice uo um uc)=W9 at P9 |-;have r0:=P9.hR.cell 0 _ rfl;have r1:=P9.hR.cell 1 _ rfl;have s0:=P9.hR.free 0;have s1:=P9.hR.free 1;have d0:=P9.hD.cell 0 _ rfl;have d1:=P9.hD.cell 1 _ rfl;have HF:=hid (P9.fin (.slice (some ⟨g,0,none⟩) 6 c) (.slice vo n vc));clear P9;go_wp2;exact bodyPost_ret (v:=.agg #[.slice (some ⟨g,0,none⟩) 6 c,.slice vo n vc]) (by simp [results,Tryz.results106,go_sem,r0,r1]) rfl ⟨_,_,_,_,_,_,_,rfl,HF.out.up (by omega)⟩
 by_cases q2:q=2
 . subst q2
   obtain ⟨i0,hi,hz0,hz1,hz2⟩:=info_parts Tryz.infoTl;go_wp2_with fail;with_reducible refine (yAK 2 P.src (by omega) (by omega)).mono ?_
   rintro e w3 ⟨⟨r,rfl,hr0,hr1,_⟩,hs3,hg3,-⟩;have hr2:=hr1 (by omega);have P3:=P.kept hs3 hg3;obtain ⟨rk,rfl⟩:=zG hr0;clear P hs3 hg3 hr1;go_wp2_with (first | (at_make;refine wpList_make_full _ rfl _ _ 33 rfl w3.heap.size 110 i0 (.slice none 0 0) 1 Tryz.underlying33 hi hz0 hz1 _ _ _ _ (20+rk) rfl rfl (by omega) (by omega) ?b1 ?b2 (zA _) ?_))
   case b1=>first | omega | (rw [hz2];omega)
   case b2=>unfold maxLen;omega
   intro w4 hown4 hg4;have hDl:=P3.hD.lt;have hRl:=P3.hR.lt;have heR:=P3.eR;have P4:BInv w w4 b (N+700+2+2) R D (.slice (some ⟨g,0,none⟩) 6 c) (.slice vo n vc) (.slice (some ⟨g,0,none⟩) 6 c) (.slice (some ⟨w3.heap.size,0,none⟩) (20+rk) (20+rk)) ⟨o.trays,List.replicate (20+rk) []⟩:=by
    refine ⟨P3.off.newL hg4 ((nilsS hown4).mono (by omega)) (zA _) (fun k hk=>by omega),fun l hl=>?_,P3.src.kept hg4 (fun k hk=>by cases hk),yAS P3.gr hg4 (fun k hk=>by cases hk),P3.bb,P3.hR.keptB hg4 (fun e=>by cases e),P3.hD.keptB hg4 (fun e=>by cases e),P3.eR,P3.bD,fun q hq=>?_⟩
    . rw [List.eq_of_mem_replicate hl];exact zK _
    . rcases hq with hq | hq
      . exact P3.own q (.inl hq)
      . have:=zD (show some w3.heap.size=some q from hq);omega
   clear P3 hown4 hg4;have d1:=P4.hD.cell 1 _ rfl;have f1:=P4.hD.free 1;have P9:=P4.put (j:=1) (y:=.slice (some ⟨w3.heap.size,0,none⟩) (20+rk) (20+rk)) (by decide) rfl;clear P4 hDl hRl heR;generalize w3.heap.size=H at P9 |-;go_upto_region 9 with fail;clear d1 f1;generalize w4.setCell ⟨D,1,none⟩ (.slice (some ⟨H,0,none⟩) (20+rk) (20+rk))=W9 at P9 |-;have r0:=P9.hR.cell 0 _ rfl;have r1:=P9.hR.cell 1 _ rfl;have s0:=P9.hR.free 0;have s1:=P9.hR.free 1;have d0:=P9.hD.cell 0 _ rfl;have d1:=P9.hD.cell 1 _ rfl;have HF:=hid (P9.fin (.slice (some ⟨g,0,none⟩) 6 c) (.slice (some ⟨H,0,none⟩) (20+rk) (20+rk)));clear P9;go_wp2;exact bodyPost_ret (v:=.agg #[.slice (some ⟨g,0,none⟩) 6 c,.slice (some ⟨H,0,none⟩) (20+rk) (20+rk)]) (by simp [results,Tryz.results106,go_sem,r0,r1]) rfl ⟨_,_,_,_,_,_,_,rfl,HF.out.up (by omega)⟩
 have e0:(q == 0)=false:=by simpa using q0
 have e1:(q == 1)=false:=by simpa using q1
 have e2:(q == 2)=false:=by simpa using q2
 have P9:=P;clear P;have r0:=P9.hR.cell 0 _ rfl;have r1:=P9.hR.cell 1 _ rfl;have s0:=P9.hR.free 0;have s1:=P9.hR.free 1;have d0:=P9.hD.cell 0 _ rfl;have d1:=P9.hD.cell 1 _ rfl;have HF:=hid (P9.fin (.slice (some ⟨g,0,none⟩) 6 c) (.slice vo n vc));clear P9;go_wp2;exact bodyPost_ret (v:=.agg #[.slice (some ⟨g,0,none⟩) 6 c,.slice vo n vc]) (by simp [results,Tryz.results106,go_sem,r0,r1]) rfl ⟨_,_,_,_,_,_,_,rfl,HF.out.up (by omega)⟩
section
variable {w W W':World} {b N M R D:Nat} {cu cv u v u' v':Value} {o o':OffT}
theorem BInv.store2 (h:BInv w W b N R D cu cv u v o) (hO:OInv W W' b M u' v' o'):BInv w ((W'.setCell ⟨D,0,none⟩ u').setCell ⟨D,1,none⟩ v') b M R D u' v' u' v' o':=by
 have hk:=h.kept hO.src hO.gr;have h1:=h.hD.lt;have h2:=h.hR.lt;have h3:=h.eR;have h4:=h.bD;have hlt:=hO.off.lt;have h5:BInv w W' b M R D cu cv u' v' o':=⟨(hO.off.low (by omega)).more (fun k hk _=>by show k<W.heap.size;omega),hO.lens,hk.src,hk.gr,hk.bb,hk.hR,hk.hD,hk.eR,hk.bD,fun q hq=>by
  rcases hq with e | e
  . have:=(hlt.1 q e).1;omega
  . have:=(hlt.2 q e).1;omega⟩
 exact (h5.put (j:=0) (y:=u') (by decide) rfl).put (j:=1) (y:=v') (by decide) rfl
theorem BInv.on (h:BInv w W b N R D cu cv u v o) (hb:Below W.heap.size W W'):BInv w W' b N R D cu cv u v o:=h.kept (h.src.on hb) (yAU hb _)
theorem BInv.rd (h:BInv w W b N R D cu cv u v o):RdOff W.heap.size W u v o:=h.off.rd
end
def FlowPost (w:World) (b N:Nat) (e:Ending) (w':World):Prop :=
 ∃ (ao vo so:Option Addr) (n c m d p q:Nat) (o:OffT) (xs:List StepT),e=.returned (.tuple #[.agg #[.slice ao n c,.slice vo m d],.slice so p q])/\OInv w w' b N (.slice ao n c) (.slice vo m d) o/\OwnStepS w.heap.size w' (.slice so p q) xs/\p=xs.length/\p<=21
theorem l20Flow_any {w:World} {b N:Nat} (hs:Src w b N) (hN:N<=40) :
 Calls Tryz.prog 66 #[.pointer (some ⟨b,0,none⟩)] w fun e w'=>FlowPost w b (N+23000) e w':=by
 have hbl:=hs.lt;go_enter Tryz.func66,Tryz.ntmps66;go_wp2_with fail;have hR0:=Box.new w [.slice none 0 0,.slice none 0 0] 35;with_reducible refine (l13Deck_any (hs.alloc _) (by omega)).mono ?_
 rintro e w1 ⟨⟨u,d,rfl,hd,h5⟩,hs1,hg1⟩;have hR1:=hR0.keptB hg1 (fun e=>by have:=zD e;omega);have hg1':=yAA (World.grownBy_alloc w _ (some b)) hg1;have hsz1:=hR1.lt;clear hs hg1 hR0;go_wp2_with fail;with_reducible refine (l15New_any (OwnCardS.rds hd) h5).mono ?_
 rintro e w2 ⟨⟨ao,c,rfl,hoff⟩,hb2⟩;obtain ⟨W,hW⟩:∃ W,W=w2.alloc (.cells #[.slice ao 6 c,.slice none 0 0] 35):=⟨_,rfl⟩;obtain ⟨R,hR⟩:∃ R,R=w.heap.size:=⟨_,rfl⟩;obtain ⟨D,hD⟩:∃ D,D=w2.heap.size:=⟨_,rfl⟩;have hbW:Below w2.heap.size w2 W:=by rw [hW];exact (zB _ _).alloc (zA _) _
 have hok:=new_ok h5;have P0:BInv w W b (N+200) R D (.slice ao 6 c) (.slice none 0 0) (.slice ao 6 c) (.slice none 0 0) ⟨[d,[],[],[],[],[]],[]⟩:=by
  have hz2:=hb2.size;refine ⟨((hoff.low (by omega)).more (X':=fun k=>k<w.heap.size+1\/k=D) (fun k hk hl=>by show k<w1.heap.size;omega)).on hbW,hok.2,(hs1.on hb2).on hbW,yAA hg1' (yAA (yAU hb2 _) (yAU hbW _)),hbl,by rw [hR];exact (hR1.on hb2).on hbW,by rw [hW,hD];exact Box.new w2 [.slice ao 6 c,.slice none 0 0] _,hR,by omega,fun q hq=>?_⟩;have h9:=hoff.lt;have:q<w2.heap.size:=hq.elim (fun h=>(h9.1 q h).2) (fun h=>(h9.2 q h).2);omega
 have HW:=hid hW;have HR:=hid hR;have HD:=hid hD;have hne:R ≠ D:=by have:=P0.bD;omega
 have hbD:b<D:=by have:=P0.bD;omega
 clear hs1 hg1' hd hR1 hb2 hoff hbW hW hR hD h5 hok;go_upto_region 2 with fail;rw [<- HW.out,<- HD.out,<- HR.out];clear HW HR HD;generalize (OffT.mk [d,[],[],[],[],[]] [])=o at P0;go_wp2_with fail;with_reducible refine (one_any 12 P0.src (by omega) (by omega)).mono ?_
 rintro e w3 ⟨⟨q,rfl⟩,hs3,hg3,-⟩;have P:=P0.kept hs3 hg3;clear P0 hs3 hg3;go_upto_if 12 with fail;go_cut [] (fun wx=>∃ (ao vo:Option Addr) (n c m d:Nat) (o:OffT),BInv w wx b (N+21300) R D (.slice ao n c) (.slice vo m d) (.slice ao n c) (.slice vo m d) o)
 case first =>
  cases q with
  | true =>
   go_wp2_with fail;with_reducible refine (l15Bent_any P.src (by omega)).mono ?_
   rintro e w4 ⟨ao,vo,n,c,m,d,o',rfl,hO⟩;have Q:=P.store2 hO;have k4:=P.kept hO.src hO.gr;have d0:=k4.hD.cell 0 _ rfl;have d1:=k4.hD.cell 1 _ rfl;have f0:=k4.hD.free 0;have f1:=k4.hD.free 1;have HQ:=hid Q;clear P Q k4 hO;go_wp2_with fail;go_meet;exact ⟨_,_,_,_,_,_,_,HQ.out.up (by omega)⟩
  | false =>
   go_wp2_with fail;go_meet;exact ⟨_,_,_,_,_,_,_,P.up (by omega)⟩
 case rest =>
  obtain ⟨ao,vo,n,c,m,d,o,Q⟩:=hcut;clear P;go_wp2_with fail;with_reducible refine (l15DrawFlow_any Q.src (by omega)).mono ?_
  rintro e w5 ⟨s,xs,rfl,hF,hlx⟩;have Q5:=Q.kept hF.src hF.gr;obtain ⟨so,sc,hsv⟩:=hF.shape;obtain ⟨p,hp⟩:∃ p,p=xs.length:=⟨_,rfl⟩;have ho5:OwnStepS (w.heap.size+1) w5 s xs:=hF.own.mono (by have:=Q.hR.lt;have:=Q.eR;omega);rw [<- hp] at hlx hsv;subst hsv;have Hp:=hid hp;clear Q hF hp;go_upto_region 5 with fail;go_cut [27] (fun cv wx=>∃ q:Bool,cv=.bool q/\(q=true->offB o=true)/\BInv w wx b (N+21900) R D (.slice ao n c) (.slice vo m d) (.slice ao n c) (.slice vo m d) o/\OwnStepS (w.heap.size+1) wx (.slice so p sc) xs)
  case first =>
   have hok:=l15Ok_c Q5.rd Q5.hD;obtain ⟨V,hV⟩:∃ V,V=offB o:=⟨_,rfl⟩;rw [<- hV] at hok;have HV:=hid hV;clear hV;go_wp2_with fail;with_reducible refine hok.mono ?_
   rintro e w6 ⟨rfl,hb6⟩;have Q6:=Q5.on hb6;have o6:OwnStepS (w.heap.size+1) w6 (.slice so p sc) xs:=ho5.below hb6 (zA _);clear hok hb6 Q5 ho5;cases V with
   | false =>
    go_wp2_with fail;go_meet;exact ⟨false,rfl,(fun h=>by cases h),Q6.up (by omega),o6⟩
   | true =>
    by_cases hp20:p<=20
    . have hpi:(p:Int)<=20:=by omega
      go_wp2_with fail;with_reducible refine (one_any 4 Q6.src (by omega) (by omega)).mono ?_
      rintro e w7 ⟨⟨q,rfl⟩,hs7,hg7,-⟩;have HQ:=hid (Q6.kept hs7 hg7);have HO:=hid (o6.keptS hg7 (by omega));clear Q6 o6 hs7 hg7;go_wp2_with fail;go_meet;exact ⟨!q,rfl,(fun _=>HV.out.symm),HQ.out.up (by omega),HO.out⟩
    . have hpi:¬ (p:Int)<=20:=by omega
      go_wp2_with fail;go_meet;exact ⟨false,rfl,(fun h=>by cases h),Q6.up (by omega),o6⟩
  case rest =>
   obtain ⟨q,rfl,hq,Q6,o6⟩:=hcut;clear Q5 ho5;go_upto_if 27 with fail;go_cut [5,6,7] (fun fv a9 n9 wx=>∃ (k:Nat) (ys:List StepT),fv=.slice so k sc/\k<=21/\Hid (k=ys.length)/\BInv w wx b (N+21900) R D (.slice ao n c) (.slice vo m d) (.slice ao n c) (.slice vo m d) o/\OwnStepS (w.heap.size+1) wx (.slice so k sc) ys)
   case first =>
    cases q with
    | false =>
     go_wp2_with fail;go_meet;exact ⟨p,xs,rfl,hlx,Hp,Q6,o6⟩
    | true =>
     have hof:=hq rfl;have hx6:=o6.rds;have hpsc:p<=sc:=hx6.cap.1;have hnil:so=none->sc=0:=Rds.nilcap hx6;have hrun:=l15Run_c Q6.rd Q6.hD hx6 hof Q6.lens;have hle:=runP_le o xs;obtain ⟨RR,hRR⟩:∃ r,runP o xs=r:=⟨_,rfl⟩;rw [hRR] at hrun hle;obtain ⟨k,hk⟩:∃ k,k=RR.2:=⟨_,rfl⟩;rw [<- hk] at hrun hle;rw [<- Hp.out] at hle;go_wp2_with fail;with_reducible refine hrun.mono ?_
     intro e w7 hpost;obtain ⟨⟨a1,k1,a2,k2,rfl,hN9⟩,hb7⟩:=hpost.sh;have Q7:=Q6.on hb7;have o7:OwnStepS (w.heap.size+1) w7 (.slice so p sc) xs:=o6.below hb7 (zA _);have hb8:Below w7.heap.size w7 (w7.alloc (.cells #[.slice a1 RR.1.trays.length k1,.slice a2 RR.1.totals.length k2] 35)):=(zB _ _).alloc (zA _) _;have HQ:=hid (Q7.on hb8);have HO:=hid ((o7.alloc (.cells #[.slice a1 RR.1.trays.length k1,.slice a2 RR.1.totals.length k2] 35)).takeV hle);have hkl:k=(xs.take k).length:=by rw [zI];have:=Hp.out;omega
     have Hkl:=hid hkl;have hksc:k<=sc:=by omega
     clear hpost hb7 hN9 hrun hRR hk Q6 o6 Q7 o7 hb8 hkl hx6 hof;go_wp2_with fail;go_meet;exact ⟨k,_,rfl,by omega,Hkl,HQ.out,HO.out⟩
   case rest =>
    obtain ⟨k,ys,rfl,hk21,Hk,P9,o9⟩:=hcut;clear Q6 o6 hq;have r0:=P9.hR.cell 0 _ rfl;have r1:=P9.hR.cell 1 _ rfl;have s0:=P9.hR.free 0;have s1:=P9.hR.free 1;have d0:=P9.hD.cell 0 _ rfl;have d1:=P9.hD.cell 1 _ rfl;have HF:=hid (P9.fin (.slice ao n c) (.slice vo m d));have hRq:∀ q,(Value.slice so k sc).ownBlock=some q->q ≠ R:=fun q hq=>by have:=(o9.lt q hq).1;have:=P9.eR;omega
    have HO:Hid (OwnStepS w.heap.size ((wc.setCell ⟨R,0,none⟩ (.slice ao n c)).setCell ⟨R,1,none⟩ (.slice vo m d)) (.slice so k sc) ys):=hid (((o9.kept (yAR wc ⟨R,0,none⟩ (.slice ao n c)) (.inr (fun e=>hRq R e rfl))).kept (yAR _ ⟨R,1,none⟩ (.slice vo m d)) (.inr (fun e=>hRq R e rfl))).mono (by omega));clear P9 o9 hRq;go_wp2;exact bodyPost_ret (v:=.tuple #[.agg #[.slice ao n c,.slice vo m d],.slice so k sc]) (by simp [results,Tryz.results66,go_sem,r0,r1]) rfl ⟨_,_,_,_,_,_,_,_,_,_,_,rfl,HF.out.up (by omega),HO.out,Hk.out,hk21⟩
theorem sizeSt_c {ao:Option Addr} {n cap:Nat} (w:World) (hn:n<=9223372036854775807) :
 Calls Tryz.prog 60 #[.slice ao n cap] w fun e w'=>e=.returned (.int .i64 n)/\w=w':=by
 go_enter Tryz.func60,Tryz.ntmps60;go_wp2;go_ret;exact ⟨rfl,rfl⟩
theorem belowTwo {w0 w:World} {R:Nat} (hb:Below w0.heap.size w0 w) (hR:w0.heap.size<=R) (x y:Value):Below w0.heap.size w0 ((w.setCell ⟨R,0,none⟩ x).setCell ⟨R,1,none⟩ y):=(hb.setCell hR _).setCell hR _
theorem OwnO.res {lo R n0:Nat} {w:World} {u v x y:Value} {o:OffT} (h:OwnO (fun q=>lo<=q/\q<w.heap.size) w u v o) (hR:R<lo) (hn:n0<=lo) :
 OwnO (fun q=>n0<=q/\q<((w.setCell ⟨R,0,none⟩ x).setCell ⟨R,1,none⟩ y).heap.size) ((w.setCell ⟨R,0,none⟩ x).setCell ⟨R,1,none⟩ y) u v o :=
 (OwnO.agr h (agr2 w R x y) (fun k hk he=>by have:=hk.1;omega)).sub (fun q hq=>⟨zO hn hq.1,by simpa using hq.2⟩)
theorem OwnO.emptyO {S:Nat->Prop} (w:World):OwnO S w (.slice none 0 0) (.slice none 0 0) ⟨[],[]⟩:=⟨S,fun _=>False,OwnL.nil _ _ _ _,OwnL.nil _ _ _ _,fun k h=>h,fun k h=>h.elim,fun k _ h=>h⟩
def OffPost (w0:World) (o:OffT) (C:Int) (e:Ending) (w':World):Prop :=
 (∃ u' v',e=.returned (.tuple #[.agg #[u',v'],.int .i64 C])/\OwnO (fun q=>w0.heap.size<=q/\q<w'.heap.size) w' u' v' o)/\Below w0.heap.size w0 w'
theorem OffPost.sh {w0 w':World} {o:OffT} {C:Int} {e:Ending} (h:OffPost w0 o C e w'):(∃ a1 c1 a2 c2,e=.returned (.tuple #[.agg #[.slice a1 o.trays.length c1,.slice a2 o.totals.length c2],.int .i64 C])/\OwnO (fun q=>w0.heap.size<=q/\q<w'.heap.size) w' (.slice a1 o.trays.length c1) (.slice a2 o.totals.length c2) o)/\Below w0.heap.size w0 w':=by
 obtain ⟨⟨u',v',h1,h2⟩,h3⟩:=h;obtain ⟨⟨a1,c1,e1⟩,a2,c2,e2⟩:=h2.shape;subst e1;subst e2;exact ⟨⟨a1,c1,a2,c2,h1,h2⟩,h3⟩
theorem runFlow_o {o:OffT} {xs:List StepT} {u v s:Value} {w0:World} {A B:Nat} (ho:RdOff B w0 u v o) (hx:RdStepS A w0 s xs) (hv:offB o=true) (hl:LensOk o) :
 Calls Tryz.prog 76 #[.agg #[u,v],s] w0 fun e w'=>OffPost w0 (runP o xs).1 (runP o xs).2 e w':=by
 have hle:=hx.le;obtain ⟨so,sc,rfl,hso⟩:=yBG hx.tight;obtain ⟨uo,uc,rfl⟩:=RdL.shape ho.1;obtain ⟨vo,vc,rfl⟩:=RdL.shape ho.2;obtain ⟨N1,hN1⟩:∃ n,n=o.trays.length:=⟨_,rfl⟩;obtain ⟨N2,hN2⟩:∃ n,n=o.totals.length:=⟨_,rfl⟩;rw [<- hN1,<- hN2] at ho |-;clear hN1 hN2;obtain ⟨T,hT⟩:∃ T,T=(w0.alloc (.cells #[.slice uo N1 uc,.slice vo N2 vc] 35)).alloc (.cells #[.slice none 0 0,.slice none 0 0] 35):=⟨_,rfl⟩;have z1:(w0.alloc (.cells #[.slice uo N1 uc,.slice vo N2 vc] 35)).heap.size=w0.heap.size+1:=by simp
 have hTz:T.heap.size=w0.heap.size+2:=by rw [hT];simp
 have hP:Box T w0.heap.size [.slice uo N1 uc,.slice vo N2 vc]:=by rw [hT];exact (Box.new w0 [.slice uo N1 uc,.slice vo N2 vc] _).alloc _
 have hR:Box T (w0.heap.size+1) [.slice none 0 0,.slice none 0 0]:=by
  have h:=Box.new (w0.alloc (.cells #[.slice uo N1 uc,.slice vo N2 vc] 35)) [.slice none 0 0,.slice none 0 0] 35;rw [z1,<- hT] at h;exact h
 have hbT:Below w0.heap.size w0 T:=by rw [hT];exact ((zB _ _).alloc (zA _) _).alloc (by rw [z1];omega) _
 have hoT:=RdOff.onn ho hbT;have hcp:=copy_of hv hl;have hnew:=newOffice_o hoT ⟨hcp.1,hcp.2.1,hcp.2.2,hl⟩;obtain ⟨n,hn⟩:∃ n,n=xs.length:=⟨_,rfl⟩;obtain ⟨RR,hRR⟩:∃ r,runP o xs=r:=⟨_,rfl⟩;have hRle:RR.2<=n:=by rw [<- hRR,hn];exact runP_le _ _
 have HR0:Hid (RR=((runP o (xs.drop 0)).1,(runP o (xs.drop 0)).2+0)):=hid (by rw [List.drop_zero];exact hRR.symm);have c0:=hP.cell 0 _ rfl;have c1:=hP.cell 1 _ rfl;have HT:=hid hT;have HR:=hid hR;have HbT:=hid hbT;have Hnew:=hid hnew;have Hso:=hid hso;have HTz:=hid hTz;have HV:=hid (And.intro hv hl);rw [<- hn] at hle Hso |-;rw [hRR];have Hn:=hid hn;clear ho hx hv hl hso hT hP hR hbT hoT hcp hnew hn hRR z1 hTz;go_enter Tryz.func76,Tryz.ntmps76;go_upto_region 1 with fail;rw [<- HT.out];go_wp2_with fail;with_reducible refine Hnew.out.mono ?_
 rintro e w1 ⟨⟨u1,v1,rfl,hO⟩,hb1⟩;obtain ⟨⟨a1,k1,e1⟩,a2,k2,e2⟩:=hO.shape;obtain ⟨n1,hn1⟩:∃ n,n=o.trays.length:=⟨_,rfl⟩;obtain ⟨n2,hn2⟩:∃ n,n=o.totals.length:=⟨_,rfl⟩;rw [<- hn1] at e1;rw [<- hn2] at e2;subst e1;subst e2;clear hn1 hn2;obtain ⟨P,hP⟩:∃ P,P=w1.heap.size:=⟨_,rfl⟩;obtain ⟨W,hW⟩:∃ W,W=w1.alloc (.cells #[.slice a1 n1 k1,.slice a2 n2 k2] 35):=⟨_,rfl⟩;have hbW:Below w1.heap.size w1 W:=by rw [hW];exact (zB _ _).alloc (zA _) _
 have hBW:Box W P [.slice a1 n1 k1,.slice a2 n2 k2]:=by rw [hW,hP];exact Box.new w1 [.slice a1 n1 k1,.slice a2 n2 k2] _
 have hX:OwnX T.heap.size P W (.slice a1 n1 k1) (.slice a2 n2 k2) o:=(OwnO.agr hO (Agr.on (S:=fun _=>False) hbW) (fun _ _ h=>h)).sub (fun q hq=>⟨hq.1,by have:=hq.2;omega,zM hq.2 hbW.size⟩);have hTP:T.heap.size<=P:=by rw [hP];exact hb1.size
 have hb0W:Below w0.heap.size w0 W:=HbT.out.trans ((hb1.trans (hbW.mono hb1.size)).mono HbT.out.size);have HX0:=hid hX;have HB0:=hid hBW;have HRW:=hid ((HR.out.on hb1).on hbW);have Hb0:=hid hb0W;have HW:=hid hW;have HP:=hid hP;have HTP:=hid hTP;clear hO hb1 hW hbW hBW hX hb0W hP hTP c0 c1 HR Hnew;go_upto_region 2 with fail;rw [<- HW.out,<- HP.out];go_wp2;go_loopw [15] (fun iv wr=>∃ (k:Nat) (oc:OffT) (a1 a2:Option Addr) (n1 n2 k1 k2:Nat),k<=n/\iv=.int .i64 k/\Hid (OwnX T.heap.size P wr (.slice a1 n1 k1) (.slice a2 n2 k2) oc)/\Hid (Box wr P [.slice a1 n1 k1,.slice a2 n2 k2])/\Hid (Box wr (w0.heap.size+1) [.slice none 0 0,.slice none 0 0])/\Hid (offB oc=true/\LensOk oc)/\Hid (RR=((runP oc (xs.drop k)).1,(runP oc (xs.drop k)).2+k))/\Hid (Below w0.heap.size w0 wr)) (fun i _=>n - (intOf i).toNat)
 case atStart=>exact ⟨0,o,_,_,_,_,_,_,zK _,rfl,HX0,HB0,HRW,HV,HR0,Hb0⟩
 case round =>
  obtain ⟨k,oc,a1,a2,n1,n2,k1,k2,hk,rfl,HX,HB,HRb,HVo,HRk,Hb⟩:=hrel;clear HX0 HB0 HRW HV HR0 Hb0;by_cases hkn:k<n
  . obtain ⟨sb,soff,rfl,slt,scc⟩:=Hso.out (by omega)
    obtain ⟨x,hxk,⟨e0,e1,e2,e3,e4,e5,e6,e7,e8⟩,bx⟩:=scc k hkn;have hmv:=fun (j:Nat) (y:Value) (h:w0.cell? ⟨sb,soff+k * 9+j,none⟩=some y)=>(Hb.out.cell (p:=⟨sb,soff+k * 9+j,none⟩) slt.2).trans h;have s0:wr.cell? ⟨sb,soff+k * 9,none⟩=some (.int .i64 x.kd):=hmv 0 _ e0;have s1:=hmv 1 _ e1;have s2:=hmv 2 _ e2;have s3:=hmv 3 _ e3;have s4:=hmv 4 _ e4;have s5:=hmv 5 _ e5;have s6:=hmv 6 _ e6;have s7:=hmv 7 _ e7;have s8:=hmv 8 _ e8;obtain ⟨T1,hT1⟩:∃ T1,T1=wr.alloc (.cells #[.int .i64 x.kd,.int .i64 x.ta,.int .i64 x.tb,.int .i64 x.tc,.int .i64 x.ff,.int .i64 x.ft,.int .i64 x.sf,.int .i64 x.st,.string x.tx] 75):=⟨_,rfl⟩;have hbT1:Below wr.heap.size wr T1:=by rw [hT1];exact (zB _ _).alloc (zA _) _
    have hX1:Box T1 wr.heap.size [.int .i64 x.kd,.int .i64 x.ta,.int .i64 x.tb,.int .i64 x.tc,.int .i64 x.ff,.int .i64 x.ft,.int .i64 x.sf,.int .i64 x.st,.string x.tx]:=by rw [hT1];exact Box.new wr [.int .i64 x.kd,.int .i64 x.ta,.int .i64 x.tb,.int .i64 x.tc,.int .i64 x.ff,.int .i64 x.ft,.int .i64 x.sf,.int .i64 x.st,.string x.tx] _
    have hXT:=HX.out.on hbT1;have hcp:=copy_of HVo.out.1 HVo.out.2;have hds:=doStep_o (OwnO.rds hXT) HVo.out.1 ⟨hcp.1,hcp.2.1,hcp.2.2,HVo.out.2⟩ bx;unfold vStep at hds;have Hds:=hid hds;have Hx:=hid hxk;have HT1:=hid hT1;have HbT1:=hid hbT1;have HBT1:=hid (HB.out.on hbT1);have HXT:=hid hXT;have x0:=hX1.cell 0 _ rfl;have x1:=hX1.cell 1 _ rfl;have x2:=hX1.cell 2 _ rfl;have x3:=hX1.cell 3 _ rfl;have x4:=hX1.cell 4 _ rfl;have x5:=hX1.cell 5 _ rfl;have x6:=hX1.cell 6 _ rfl;have x7:=hX1.cell 7 _ rfl;have x8:=hX1.cell 8 _ rfl;have b0:=HBT1.out.cell 0 _ rfl;have b1:=HBT1.out.cell 1 _ rfl;clear scc hxk e0 e1 e2 e3 e4 e5 e6 e7 e8 bx hmv hT1 hbT1 hX1 hXT hcp hds;go_upto_region 5 with fail;rw [<- HT1.out];clear s0 s1 s2 s3 s4 s5 s6 s7 s8;go_wp2_with fail;with_reducible refine Hds.out.mono ?_
    rintro e w3 ⟨⟨u3,v3,rfl,⟨⟨p1,q1,r1,rfl⟩,p2,q2,r2,rfl⟩,hN⟩,hb3⟩;obtain ⟨T3,hT3⟩:∃ T3,T3=w3.alloc (.cells #[.slice p1 q1 r1,.slice p2 q2 r2] 35):=⟨_,rfl⟩;have hbT3:Below w3.heap.size w3 T3:=by rw [hT3];exact (zB _ _).alloc (zA _) _
    have hX3:Box T3 w3.heap.size [.slice p1 q1 r1,.slice p2 q2 r2]:=by rw [hT3];exact Box.new w3 [.slice p1 q1 r1,.slice p2 q2 r2] _
    have hb13:Below T1.heap.size T1 T3:=hb3.trans (hbT3.mono hb3.size);have hbr3:Below wr.heap.size wr T3:=HbT1.out.trans (hb13.mono HbT1.out.size);have hms:=runP_at (o:=oc) Hx.out;have HT3:=hid hT3;have Hb3:=hid (Hb.out.trans (hbr3.mono Hb.out.size));have HB3:=hid (HBT1.out.on hb13);have HR3:=hid (HRb.out.on hbr3);have HX3:=hid (HXT.out.on hb13);have HBx3:=hid hX3;have Hms:=hid hms;have hPl:=HB.out.lt;have hz13:wr.heap.size<T1.heap.size:=by rw [HT1.out];simp
    obtain ⟨C,hC⟩:∃ C,C=stpC oc x:=⟨_,rfl⟩;rw [<- hC] at hN |-;have HC:=hid hC;have HPl:Hid (P<T1.heap.size):=hid (by omega);have Hz3:=hid hb3.size;have HbT3:=hid hbT3;have HN:=hid hN;clear hb3 hT3 hbT3 hX3 hb13 hbr3 hms x0 x1 x2 x3 x4 x5 x6 x7 x8 b0 b1 hC hN hPl hz13;go_upto_region 6 with fail;rw [<- HT3.out];by_cases hC0:C=0
    case neg =>
     have HE:Hid (RR=(oc,k)):=hid (by rw [HRk.out,Hms.out,if_neg (by rw [<- HC.out];exact hC0)];simp);have h1:(C != 0)=true:=by simpa using hC0
     have x0:=HB3.out.cell 0 _ rfl;have x1:=HB3.out.cell 1 _ rfl;have r0:=HR3.out.cell 0 _ rfl;have r1':=HR3.out.cell 1 _ rfl;have rf0:=HR3.out.free 0;have rf1:=HR3.out.free 1;have HF:=hid (HX3.out.fin (P2:=w0.heap.size+1) (x:=.slice a1 n1 k1) (y:=.slice a2 n2 k2) (by have:=HTz.out;omega) (n0:=w0.heap.size) (by have:=HTz.out;omega));have HBf:=hid (belowTwo Hb3.out (Nat.le_succ _) (.slice a1 n1 k1) (.slice a2 n2 k2));clear hC0;go_wp2;exact bodyPost_ret (v:=.tuple #[.agg #[.slice a1 n1 k1,.slice a2 n2 k2],.int .i64 k]) (by simp [results,Tryz.results76,go_sem,r0,r1']) rfl ⟨⟨_,_,by rw [HE.out],by rw [HE.out];exact HF.out⟩,HBf.out⟩
    have HN0:=hid (HN.out hC0);have HVn:=hid (show offB (stpD oc x)=true/\LensOk (stpD oc x) from ⟨stp_ok (x:=x) HVo.out.1 (by rw [<- HC.out];exact hC0),stp_lens (x:=x) HVo.out.1 HVo.out.2 (by rw [<- HC.out];exact hC0)⟩);have HRn:Hid (RR=((runP (stpD oc x) (xs.drop (k+1))).1,(runP (stpD oc x) (xs.drop (k+1))).2+(k+1))):=hid (by rw [HRk.out,Hms.out,if_pos (by rw [<- HC.out];exact hC0)];simp only [Prod.mk.injEq,true_and];omega);subst hC0;obtain ⟨W7,hW7⟩:∃ W7,W7=(T3.setCell ⟨P,0,none⟩ (.slice p1 q1 r1)).setCell ⟨P,1,none⟩ (.slice p2 q2 r2):=⟨_,rfl⟩;have hA7:Agr (fun q=>q=P) T3 W7:=by rw [hW7];exact agr2 _ _ _ _
    have hB7:Box W7 P [.slice p1 q1 r1,.slice p2 q2 r2]:=by rw [hW7];exact (HB3.out.set1 (j:=0) (by simp) _).set1 (j:=1) (by simp) _
    have hR7:=yBJ HR3.out hA7 (fun e=>by have:=HTP.out;have:=HTz.out;omega);have hX7:OwnX T.heap.size P W7 (.slice p1 q1 r1) (.slice p2 q2 r2) (stpD oc x) :=
     (OwnO.agr (OwnO.agr HN0.out (Agr.on (S:=fun _=>False) HbT3.out) (fun _ _ h=>h)) hA7 (fun q hq (he:q=P)=>by have:=hq.1;have:=HPl.out;omega)).sub (fun q hq=>⟨by have:=hq.1;have:=HPl.out;have:=HTP.out;omega,by have:=hq.1;have:=HPl.out;omega,zM hq.2 (zO HbT3.out.size hA7.size)⟩)
    have hb7:=Hb3.out.trans (hA7.below (fun q (hq:q=P)=>by have:=HTP.out;have:=HTz.out;omega) Hb3.out.size);have y0:=HBx3.out.cell 0 _ rfl;have y1:=HBx3.out.cell 1 _ rfl;have z0:=HB3.out.cell 0 _ rfl;have z1:=HB3.out.cell 1 _ rfl;have zf0:=HB3.out.free 0;have zf1:=HB3.out.free 1;have HX7:=hid hX7;have HB7:=hid hB7;have HR7:=hid hR7;have Hb7:=hid hb7;have HW7:=hid hW7;clear hX7 hB7 hR7 hb7 hW7 hA7;go_wp2;rw [<- HW7.out];go_roundw
    case rel=>exact ⟨k+1,stpD oc x,_,_,_,_,_,_,by omega,by go_num,HX7,HB7,HR7,HVn,HRn,Hb7⟩
    case measure=>simp [intOf];omega
  . obtain rfl:k=n:=by omega
    have HE:Hid (RR=(oc,k)):=hid (by rw [HRk.out,runP_end (by have:=Hn.out;omega)];simp);have x0:=HB.out.cell 0 _ rfl;have x1:=HB.out.cell 1 _ rfl;have xl:=HB.out.lt;have r0:=HRb.out.cell 0 _ rfl;have r1':=HRb.out.cell 1 _ rfl;have rl:=HRb.out.lt;have rf0:=HRb.out.free 0;have rf1:=HRb.out.free 1;go_upto_region 10 with fail;refine yBT (W:=wr) 3 (fun i=>match i with | 0=>0 | 1=>2 | 2=>2 | 3=>2 | 4=>2 | _=>2) (fun i v w=>match i with  | _=>True) (fun i x v=>match i with | 0=>v=.agg #[.slice a1 n1 k1,.slice a2 n2 k2] | 1=>v=.slice so k sc | 2=>v=.int .i64 k | 4=>v=.int .i64 k | _=>True) (fun v w=>∃ wz,Below wr.heap.size wr wz/\w=(wz.setCell ⟨w0.heap.size+1,0,none⟩ (.slice a1 n1 k1)).setCell ⟨w0.heap.size+1,1,none⟩ (.slice a2 n2 k2)) (by kernel_rfl) (by kernel_rfl) (by kernel_rfl) (by kernel_rfl) ?_ ?_ ?_ ?_
    . intro i v w w' h hb
      iterate 5 (obtain _ | i:=i;· exact h)
      exact h
    . intro i x y v hp h
      iterate 5 (obtain _ | i:=i;· exact h)
      exact h
    . intro vs hvs
      match vs,hvs with
      | [v0,v1,v2,v3,v4],_ =>
       refine ⟨?_,?_,?_,?_,?_,trivial⟩
       . refine yAN ?_ ?_ ?_;exact (by decide);kernel_rfl
         intro wx hC hd;clear hd;with_reducible refine yAH ?_ ?_
         . exact yAG rfl
         have e0:=(hC.cell (p:=⟨P,0,none⟩) xl).trans x0;have e1:=(hC.cell (p:=⟨P,1,none⟩) xl).trans x1;unfold relAt;simp only [putAll];go_simp;simp only [relUpon];first | trivial | exact ⟨zB _ _,by trivial⟩
       . refine oneStep_u ?_ ?_ ?_;exact (by decide);kernel_rfl
         intro wx hd;clear hd;with_reducible refine yAH ?_ ?_
         . exact yAG rfl
         unfold relAt;simp only [putAll];go_simp;simp only [relUpon];first | trivial | exact ⟨rfl,by first | rfl | trivial⟩
       . refine oneStep_u ?_ ?_ ?_;exact (by decide);kernel_rfl
         intro wx hd;have d1:v1=.slice so k sc:=(yAC 1 (by kernel_rfl) hd (by decide)).2;subst d1;clear hd;with_reducible refine yAH ?_ ?_
         . exact yAG rfl
         unfold relAt;simp only [putAll];go_simp;simp only [relUpon];with_reducible refine (sizeSt_c _ hle).mono ?_
         rintro e w99 ⟨rfl,rfl⟩;exact ⟨_,rfl,rfl,rfl⟩
       . refine oneStep_p ?_ ?_;kernel_rfl
         intro wx hC hd;have d0:v0=.agg #[.slice a1 n1 k1,.slice a2 n2 k2]:=(yAC 0 (by kernel_rfl) hd (by decide)).2;subst d0;clear hd;with_reducible refine yAH ?_ ?_
         . exact yAG rfl
         have e0:=(hC.cell (p:=⟨w0.heap.size+1,0,none⟩) rl).trans r0;have e1:=(hC.cell (p:=⟨w0.heap.size+1,1,none⟩) rl).trans r1';have hq:=HRb.out.on hC;have f0:=hq.free 0;have f1:=hq.free 1;unfold relAt;simp only [putAll];go_simp;simp only [relUpon];exact ⟨_,hC,rfl⟩
       . refine oneStep_u ?_ ?_ ?_;exact (by decide);kernel_rfl
         intro wx hd;have d2:v2=.int .i64 k:=(yAC 2 (by kernel_rfl) hd (by decide)).2;subst d2;clear hd;with_reducible refine yAH ?_ ?_
         . exact yAG rfl
         unfold relAt;simp only [putAll];go_simp;simp only [relUpon];first | trivial | exact ⟨rfl,by first | rfl | trivial⟩
    . intro vs wq hvs hZ hI
      match vs,hvs,hZ,hI with
      | [v0,v1,v2,v3,v4],_,hZ,hI =>
       replace hZ:∃ wz,Below wr.heap.size wr wz/\wq=(wz.setCell ⟨w0.heap.size+1,0,none⟩ (.slice a1 n1 k1)).setCell ⟨w0.heap.size+1,1,none⟩ (.slice a2 n2 k2):=hZ;have d0:v0=.agg #[.slice a1 n1 k1,.slice a2 n2 k2]:=hI 0 (by decide) (by decide);subst d0;have d1:v1=.slice so k sc:=hI 1 (by decide) (by decide);subst d1;have d2:v2=.int .i64 k:=hI 2 (by decide) (by decide);subst d2;have d4:v4=.int .i64 k:=hI 4 (by decide) (by decide);subst d4;clear hI;simp only [putAll];go_simp;obtain ⟨wz,hbz,rfl⟩:=hZ;have HF:=hid ((HX.out.on hbz).fin (P2:=w0.heap.size+1) (x:=.slice a1 n1 k1) (y:=.slice a2 n2 k2) (by have:=HTz.out;omega) (n0:=w0.heap.size) (by have:=HTz.out;omega));have HBf:=hid (belowTwo (Hb.out.trans (hbz.mono Hb.out.size)) (Nat.le_succ _) (.slice a1 n1 k1) (.slice a2 n2 k2));have Rz:=HRb.out.on hbz;have q0:=Rz.cell 0 _ rfl;have q1:=Rz.cell 1 _ rfl;clear x0 x1 xl r0 r1' rl rf0 rf1 hbz Rz;go_wp2;exact bodyPost_ret (v:=.tuple #[.agg #[.slice a1 n1 k1,.slice a2 n2 k2],.int .i64 k]) (by simp [results,Tryz.results76,go_sem,q0,q1]) rfl ⟨⟨_,_,by rw [HE.out],by rw [HE.out];exact HF.out⟩,HBf.out⟩
abbrev ShT:=Option Addr × Nat × Option Addr × Nat
theorem OffPost.r {w0 w':World} {o:OffT} {C:Int} {e:Ending} (h:OffPost w0 o C e w'):(∃ r:ShT,e=.returned (.tuple #[.agg #[.slice r.1 o.trays.length r.2.1,.slice r.2.2.1 o.totals.length r.2.2.2],.int .i64 C])/\OwnO (fun q=>w0.heap.size<=q/\q<w'.heap.size) w' (.slice r.1 o.trays.length r.2.1) (.slice r.2.2.1 o.totals.length r.2.2.2) o)/\Below w0.heap.size w0 w':=by
 obtain ⟨⟨a1,c1,a2,c2,h1,h2⟩,h3⟩:=h.sh;exact ⟨⟨(a1,c1,a2,c2),h1,h2⟩,h3⟩
theorem OwnO.keep {lo:Nat} {w w':World} {u v:Value} {o:OffT} (h:OwnO (fun q=>lo<=q/\q<w.heap.size) w u v o) (hb:Below w.heap.size w w'):OwnO (fun q=>lo<=q/\q<w'.heap.size) w' u v o :=
 (OwnO.agr h (Agr.on (S:=fun _=>False) hb) (fun _ _ h=>h)).sub (fun q hq=>⟨hq.1,zM hq.2 hb.size⟩)
theorem OwnO.low {lo lo':Nat} {w:World} {u v:Value} {o:OffT} (h:OwnO (fun q=>lo<=q/\q<w.heap.size) w u v o) (hl:lo'<=lo):OwnO (fun q=>lo'<=q/\q<w.heap.size) w u v o :=
 h.sub (fun q hq=>⟨zO hl hq.1,hq.2⟩)
noncomputable def afC (o:OffT) (xs:List StepT):Int:=if (runP o xs).2<xs.length then 6 else 0
noncomputable def afO (o:OffT) (xs:List StepT):OffT:=if (runP o xs).2<xs.length then ⟨[],[]⟩ else (runP o xs).1
theorem officeAfter_o {o:OffT} {xs:List StepT} {u v s:Value} {w0:World} {A B:Nat} (ho:RdOff B w0 u v o) (hx:RdStepS A w0 s xs) (hv:offB o=true) (hl:LensOk o) :
 Calls Tryz.prog 61 #[.agg #[u,v],s] w0 fun e w'=>OffPost w0 (afO o xs) (afC o xs) e w':=by
 have hle:=hx.le;obtain ⟨so,sc,rfl⟩:=hx.shape;obtain ⟨uo,uc,rfl⟩:=RdL.shape ho.1;obtain ⟨vo,vc,rfl⟩:=RdL.shape ho.2;obtain ⟨N1,hN1⟩:∃ n,n=o.trays.length:=⟨_,rfl⟩;obtain ⟨N2,hN2⟩:∃ n,n=o.totals.length:=⟨_,rfl⟩;rw [<- hN1,<- hN2] at ho |-;clear hN1 hN2;obtain ⟨T,hT⟩:∃ T,T=(w0.alloc (.cells #[.slice uo N1 uc,.slice vo N2 vc] 35)).alloc (.cells #[.slice none 0 0,.slice none 0 0] 35):=⟨_,rfl⟩;have z1:(w0.alloc (.cells #[.slice uo N1 uc,.slice vo N2 vc] 35)).heap.size=w0.heap.size+1:=by simp
 have hTz:T.heap.size=w0.heap.size+2:=by rw [hT];simp
 have hP:Box T w0.heap.size [.slice uo N1 uc,.slice vo N2 vc]:=by rw [hT];exact (Box.new w0 [.slice uo N1 uc,.slice vo N2 vc] _).alloc _
 have hR:Box T (w0.heap.size+1) [.slice none 0 0,.slice none 0 0]:=by
  have h:=Box.new (w0.alloc (.cells #[.slice uo N1 uc,.slice vo N2 vc] 35)) [.slice none 0 0,.slice none 0 0] 35;rw [z1,<- hT] at h;exact h
 have hbT:Below w0.heap.size w0 T:=by rw [hT];exact ((zB _ _).alloc (zA _) _).alloc (by rw [z1];omega) _
 have hoT:=RdOff.onn ho hbT;have hrun:=runFlow_o hoT (Rds.onn hx hbT) hv hl;obtain ⟨n,hn⟩:∃ n,n=xs.length:=⟨_,rfl⟩;obtain ⟨RR,hRR⟩:∃ r,runP o xs=r:=⟨_,rfl⟩;have hRle:RR.2<=n:=by rw [<- hRR,hn];exact runP_le _ _
 obtain ⟨CC,hCC⟩:∃ c,afC o xs=c:=⟨_,rfl⟩;obtain ⟨OO,hOO⟩:∃ c,afO o xs=c:=⟨_,rfl⟩;rw [hCC,hOO];unfold afC at hCC;unfold afO at hOO;rw [<- hn] at hle hrun hCC hOO |-;rw [hRR] at hrun hCC hOO;have HCC:=hid hCC;have HOO:=hid hOO;clear hCC hOO;have c0:=hP.cell 0 _ rfl;have c1:=hP.cell 1 _ rfl;have HT:=hid hT;have HR:=hid hR;have HbT:=hid hbT;have Hrun:=hid hrun;have HTz:=hid hTz;clear ho hx hv hl hT hP hR hbT hoT hrun hn hRR z1 hTz;go_enter Tryz.func61,Tryz.ntmps61;go_upto_region 1 with fail;rw [<- HT.out];go_wp2_with fail;with_reducible refine Hrun.out.mono ?_
 intro e w1 hpost;obtain ⟨⟨a1,k1,a2,k2,rfl,hO⟩,hb1⟩:=hpost.sh;obtain ⟨m1,hm1⟩:∃ n,n=RR.1.trays.length:=⟨_,rfl⟩;obtain ⟨m2,hm2⟩:∃ n,n=RR.1.totals.length:=⟨_,rfl⟩;rw [<- hm1,<- hm2] at hO |-;clear hpost hm1 hm2;obtain ⟨W,hW⟩:∃ W,W=w1.alloc (.cells #[.slice a1 m1 k1,.slice a2 m2 k2] 35):=⟨_,rfl⟩;have hbW:Below w1.heap.size w1 W:=by rw [hW];exact (zB _ _).alloc (zA _) _
 have hBW:Box W w1.heap.size [.slice a1 m1 k1,.slice a2 m2 k2]:=by rw [hW];exact Box.new w1 [.slice a1 m1 k1,.slice a2 m2 k2] _
 have HOW:Hid (OwnO (fun q=>T.heap.size<=q/\q<W.heap.size) W (.slice a1 m1 k1) (.slice a2 m2 k2) RR.1):=hid ((OwnO.agr hO (Agr.on (S:=fun _=>False) hbW) (fun _ _ h=>h)).sub (fun q hq=>⟨hq.1,zM hq.2 hbW.size⟩));have Hb0:=hid (HbT.out.trans ((hb1.trans (hbW.mono hb1.size)).mono HbT.out.size));have HRW:=hid ((HR.out.on hb1).on hbW);have x0:=hBW.cell 0 _ rfl;have x1:=hBW.cell 1 _ rfl;have r0:=HRW.out.cell 0 _ rfl;have r1:=HRW.out.cell 1 _ rfl;have rf0:=HRW.out.free 0;have rf1:=HRW.out.free 1;have HW:=hid hW;clear hO hb1 hW hbW hBW c0 c1 HR Hrun;go_upto_region 2 with fail;rw [<- HW.out];by_cases hlt:RR.2<n
 . have hlt2:(RR.2:Int)<(n:Int):=by omega
   have HBf:=hid (belowTwo Hb0.out (Nat.le_succ _) (.slice none 0 0) (.slice none 0 0));have HE:Hid (CC=6):=hid (by rw [<- HCC.out,if_pos hlt]);have HE2:Hid (OO=⟨[],[]⟩):=hid (by rw [<- HOO.out,if_pos hlt]);clear hlt;go_wp2_with (first | (go_at_call 60;with_reducible refine (sizeSt_c _ hle).mono ?_;rintro e w9 ⟨rfl,rfl⟩) | fail);exact bodyPost_ret (v:=.tuple #[.agg #[.slice none 0 0,.slice none 0 0],.int .i64 6]) (by simp [results,Tryz.results61,go_sem,r0,r1]) rfl ⟨⟨_,_,by rw [HE.out],by rw [HE2.out];exact OwnO.emptyO _⟩,HBf.out⟩
 . have hlt2:¬ (RR.2:Int)<(n:Int):=by omega
   have HF:=hid (HOW.out.res (R:=w0.heap.size+1) (x:=.slice a1 m1 k1) (y:=.slice a2 m2 k2) (by have:=HTz.out;omega) (n0:=w0.heap.size) (by have:=HTz.out;omega));have HBf:=hid (belowTwo Hb0.out (Nat.le_succ _) (.slice a1 m1 k1) (.slice a2 m2 k2));have HE:Hid (CC=0):=hid (by rw [<- HCC.out,if_neg hlt]);have HE2:Hid (OO=RR.1):=hid (by rw [<- HOO.out,if_neg hlt]);clear hlt;go_wp2_with (first | (go_at_call 60;with_reducible refine (sizeSt_c _ hle).mono ?_;rintro e w9 ⟨rfl,rfl⟩) | fail);exact bodyPost_ret (v:=.tuple #[.agg #[.slice a1 m1 k1,.slice a2 m2 k2],.int .i64 0]) (by simp [results,Tryz.results61,go_sem,r0,r1]) rfl ⟨⟨_,_,by rw [HE.out],by rw [HE2.out];exact HF.out⟩,HBf.out⟩
theorem OfficeAt_o {o:OffT} {xs:List StepT} {u v s:Value} {w0:World} {A B:Nat} {at9:Int} (ho:RdOff B w0 u v o) (hx:RdStepS A w0 s xs) (hl:LensOk o) :
 Calls Tryz.prog 21 #[.agg #[u,v],s,.int .i64 at9] w0 fun e w'=>OffPost w0 (oaO o xs at9) (oaC o xs at9) e w':=by
 have hle:=hx.le;have hxt:=hx.tight;obtain ⟨so,sc,rfl⟩:=hx.shape;obtain ⟨uo,uc,rfl⟩:=RdL.shape ho.1;obtain ⟨vo,vc,rfl⟩:=RdL.shape ho.2;obtain ⟨N1,hN1⟩:∃ n,n=o.trays.length:=⟨_,rfl⟩;obtain ⟨N2,hN2⟩:∃ n,n=o.totals.length:=⟨_,rfl⟩;rw [<- hN1,<- hN2] at ho |-;clear hN1 hN2;obtain ⟨T,hT⟩:∃ T,T=(w0.alloc (.cells #[.slice uo N1 uc,.slice vo N2 vc] 35)).alloc (.cells #[.slice none 0 0,.slice none 0 0] 35):=⟨_,rfl⟩;have z1:(w0.alloc (.cells #[.slice uo N1 uc,.slice vo N2 vc] 35)).heap.size=w0.heap.size+1:=by simp
 have hTz:T.heap.size=w0.heap.size+2:=by rw [hT];simp
 have hP:Box T w0.heap.size [.slice uo N1 uc,.slice vo N2 vc]:=by rw [hT];exact (Box.new w0 [.slice uo N1 uc,.slice vo N2 vc] _).alloc _
 have hR:Box T (w0.heap.size+1) [.slice none 0 0,.slice none 0 0]:=by
  have h:=Box.new (w0.alloc (.cells #[.slice uo N1 uc,.slice vo N2 vc] 35)) [.slice none 0 0,.slice none 0 0] 35;rw [z1,<- hT] at h;exact h
 have hbT:Below w0.heap.size w0 T:=by rw [hT];exact ((zB _ _).alloc (zA _) _).alloc (by rw [z1];omega) _
 have hoT:=RdOff.onn ho hbT;have hvo:=ValidOffice_c hoT;obtain ⟨V,hV⟩:∃ V,V=offB o:=⟨_,rfl⟩;rw [<- hV] at hvo;obtain ⟨C,hC⟩:∃ c,oaC o xs at9=c:=⟨_,rfl⟩;obtain ⟨O,hO⟩:∃ r,oaO o xs at9=r:=⟨_,rfl⟩;rw [hC,hO];unfold oaO at hO;rw [hC] at hO;unfold oaC at hC;have hcap:=hxt.cap;have hnil:so=none->sc=0:=Rds.nilcap hxt;have hxT:=Rds.onn hxt hbT;obtain ⟨n,hn⟩:∃ n,n=xs.length:=⟨_,rfl⟩;rw [<- hn] at hle hC hcap hxT hxt |-;have c0:=hP.cell 0 _ rfl;have c1:=hP.cell 1 _ rfl;have r0:=hR.cell 0 _ rfl;have r1:=hR.cell 1 _ rfl;have rf0:=hR.free 0;have rf1:=hR.free 1;have HT:=hid hT;have HR:=hid hR;have HP:=hid hP;have HbT:=hid hbT;have Hvo:=hid hvo;have HTz:=hid hTz;have HC:=hid hC;have HO:=hid hO;have HV:=hid hV;have HoT:=hid hoT;have HxT:=hid hxT;have Hl:=hid hl;have Hn:=hid hn;have Hcap:=hid hcap;have Hnil:=hid hnil;clear ho hx hxt hl hT hP hR hbT hoT hxT hvo hn z1 hTz hC hO hV hcap hnil;go_enter Tryz.func21,Tryz.ntmps21;go_upto_region 1 with fail;rw [<- HT.out];go_wp2_with fail;with_reducible refine Hvo.out.mono ?_
 rintro e w1 ⟨rfl,hb1⟩;have HR1:=hid (HR.out.on hb1);have HP1:=hid (HP.out.on hb1);have Ho1:=hid (RdOff.onn HoT.out hb1);have Hx1:=hid (Rds.onn HxT.out hb1);have Hb1:=hid (HbT.out.trans (hb1.mono HbT.out.size));have hz1:=hb1.size;clear hb1 c0 c1 r0 r1 rf0 rf1 HR HP HoT HxT;have c0:=HP1.out.cell 0 _ rfl;have c1:=HP1.out.cell 1 _ rfl;have r0:=HR1.out.cell 0 _ rfl;have r1:=HR1.out.cell 1 _ rfl;have rf0:=HR1.out.free 0;have rf1:=HR1.out.free 1;have HBn:=hid (belowTwo Hb1.out (Nat.le_succ _) (.slice none 0 0) (.slice none 0 0));cases V with
 | false =>
  have HE:Hid (C=1):=hid (by rw [<- HC.out,if_pos HV.out.symm]);have HE2:Hid (O=⟨[],[]⟩):=hid (by rw [<- HO.out,if_neg (by rw [HE.out];decide)]);go_wp2;exact bodyPost_ret (v:=.tuple #[.agg #[.slice none 0 0,.slice none 0 0],.int .i64 1]) (by simp [results,Tryz.results21,go_sem,r0,r1]) rfl ⟨⟨_,_,by rw [HE.out],by rw [HE2.out];exact OwnO.emptyO _⟩,HBn.out⟩
 | true =>
  have HC1:Hid (C=if 20<n\/¬ (0<=at9/\at9<=n) then 2 else if (runP o (xs.take at9.toNat)).2<at9.toNat then 6 else 0):=hid (by rw [<- HC.out,if_neg (by rw [<- HV.out];decide)]);by_cases hn20:20<n
  . have HE:Hid (C=2):=hid (by rw [HC1.out,if_pos (.inl hn20)])
    have HE2:Hid (O=⟨[],[]⟩):=hid (by rw [<- HO.out,if_neg (by rw [HE.out];decide)]);have i1:(20:Int)<(n:Int):=by omega
    go_wp2;exact bodyPost_ret (v:=.tuple #[.agg #[.slice none 0 0,.slice none 0 0],.int .i64 2]) (by simp [results,Tryz.results21,go_sem,r0,r1]) rfl ⟨⟨_,_,by rw [HE.out],by rw [HE2.out];exact OwnO.emptyO _⟩,HBn.out⟩
  . have i1:¬ (20:Int)<(n:Int):=by omega
    by_cases hat:0<=at9/\at9<=n
    case neg =>
     have HE:Hid (C=2):=hid (by rw [HC1.out,if_pos (.inr hat)]);have HE2:Hid (O=⟨[],[]⟩):=hid (by rw [<- HO.out,if_neg (by rw [HE.out];decide)]);have hat2:at9<0\/(n:Int)<at9:=by omega
     have Hat:=hid hat2;clear hat hat2;go_wp2_with (first | (go_at_call 60;with_reducible refine (sizeSt_c _ hle).mono ?_;rintro e w9 ⟨rfl,rfl⟩) | (go_at_call 49;with_reducible refine (inside_no _ _ _ _ Hat.out).mono ?_;rintro e w9 ⟨rfl,rfl⟩));exact bodyPost_ret (v:=.tuple #[.agg #[.slice none 0 0,.slice none 0 0],.int .i64 2]) (by simp [results,Tryz.results21,go_sem,r0,r1]) rfl ⟨⟨_,_,by rw [HE.out],by rw [HE2.out];exact OwnO.emptyO _⟩,HBn.out⟩
    obtain ⟨p,hp⟩:=zG hat.1;subst hp;have hpn:p<=n:=by have:=hat.2;omega
    have HC2:Hid (C=if (runP o (xs.take p)).2<p then 6 else 0):=hid (by rw [HC1.out,if_neg (fun h=>h.elim hn20 (fun h=>h hat))];rfl);have hpl:(xs.take p).length=p:=by rw [zI];have:=Hn.out;omega
    have HCa:Hid (afC o (xs.take p)=C):=hid (by unfold afC;rw [hpl,HC2.out]);have HOa:Hid (afO o (xs.take p)=O):=hid (by
     unfold afO;rw [hpl,<- HO.out,HC2.out];by_cases h:(runP o (xs.take p)).2<p
     . rw [if_pos h,if_pos h,if_neg (by decide)]
     . rw [if_neg h,if_neg h,if_pos rfl];rfl)
    have Hat:=hid hat;have Hpl:=hid hpl;have hpc:p<=sc:=by have:=Hcap.out;omega
    have Haft:Hid (∀ w,Below w1.heap.size w1 w->Calls Tryz.prog 61 #[.agg #[.slice uo N1 uc,.slice vo N2 vc],.slice so p sc] w fun e w'=>OffPost w O C e w'):=hid (fun w hw=>by
     have h:=officeAfter_o (xs:=xs.take p) (RdOff.onn Ho1.out hw) (Rds.takeV (Rds.onn Hx1.out hw) hpn Hnil.out) HV.out.symm Hl.out;rw [HCa.out,HOa.out] at h;exact h)
    have HRx:=HR1;have Hbx:=Hb1;have HRl:Hid (w0.heap.size+1<w1.heap.size):=hid HR1.out.lt;have rl:=HR1.out.lt;have cl:=HP1.out.lt;have ip:¬ (p:Int)<0:=by omega
    clear hat hpl;go_wp2_with (first | (go_at_call 60;with_reducible refine (sizeSt_c _ hle).mono ?_;rintro e w9 ⟨rfl,rfl⟩) | (go_at_call 49;with_reducible refine (yBC _ _ _ _ Hat.out.1 Hat.out.2).mono ?_;rintro e w9 ⟨rfl,rfl⟩) | fail);refine yBT (W:=w1) 7 (fun i=>match i with | 0=>0 | 1=>0 | 2=>0 | 3=>0 | 4=>0 | 5=>0 | 6=>2 | 7=>2 | 8=>2 | _=>2) (fun i v w=>match i with | 4=>∃ r:ShT,v=.tuple #[.agg #[.slice r.1 O.trays.length r.2.1,.slice r.2.2.1 O.totals.length r.2.2.2],.int .i64 C]/\OwnO (fun q=>w1.heap.size<=q/\q<w.heap.size) w (.slice r.1 O.trays.length r.2.1) (.slice r.2.2.1 O.totals.length r.2.2.2) O | 5=>∃ r:ShT,v=.agg #[.slice r.1 O.trays.length r.2.1,.slice r.2.2.1 O.totals.length r.2.2.2]/\OwnO (fun q=>w1.heap.size<=q/\q<w.heap.size) w (.slice r.1 O.trays.length r.2.1) (.slice r.2.2.1 O.totals.length r.2.2.2) O | _=>True) (fun i x v=>match i with | 0=>v=.agg #[.slice uo N1 uc,.slice vo N2 vc] | 1=>v=.slice so n sc | 2=>v=.int .i64 (p:Int) | 3=>v=.slice so p sc | 4=>∃ r:ShT,v=.tuple #[.agg #[.slice r.1 O.trays.length r.2.1,.slice r.2.2.1 O.totals.length r.2.2.2],.int .i64 C] | 5=>∃ r:ShT,v=.agg #[.slice r.1 O.trays.length r.2.1,.slice r.2.2.1 O.totals.length r.2.2.2] | 6=>v=.int .i64 C | 8=>v=.int .i64 C | _=>True) (fun v w=>∃ (r:ShT) (wz:World),Below w1.heap.size w1 wz/\OwnO (fun q=>w1.heap.size<=q/\q<wz.heap.size) wz (.slice r.1 O.trays.length r.2.1) (.slice r.2.2.1 O.totals.length r.2.2.2) O/\w=(wz.setCell ⟨w0.heap.size+1,0,none⟩ (.slice r.1 O.trays.length r.2.1)).setCell ⟨w0.heap.size+1,1,none⟩ (.slice r.2.2.1 O.totals.length r.2.2.2)) (by kernel_rfl) (by kernel_rfl) (by kernel_rfl) (by kernel_rfl) ?_ ?_ ?_ ?_
    . intro i v w w' h hb
      iterate 9 (obtain _ | i:=i;· first | exact h | (obtain ⟨r,h1,h2⟩:=h;exact ⟨r,h1,OwnO.keep h2 hb⟩))
      exact h
    . intro i x y v hp h
      iterate 9 (obtain _ | i:=i;· exact h)
      exact h
    . intro vs hvs
      match vs,hvs with
      | [v0,v1,v2,v3,v4,v5,v6,v7,v8],_ =>
       refine ⟨?_,?_,?_,?_,?_,?_,?_,?_,?_,trivial⟩
       . refine yAN ?_ ?_ ?_;exact (by decide);kernel_rfl
         intro wr hC hd;clear hd;with_reducible refine yAH ?_ ?_
         . exact yAG rfl
         have e0:=(hC.cell (p:=⟨w0.heap.size,0,none⟩) cl).trans c0;have e1:=(hC.cell (p:=⟨w0.heap.size,1,none⟩) cl).trans c1;unfold relAt;simp only [putAll];go_simp;simp only [relUpon];first | trivial | exact ⟨zB _ _,by trivial⟩
       . refine yAN ?_ ?_ ?_;exact (by decide);kernel_rfl
         intro wr hC hd;clear hd;with_reducible refine yAH ?_ ?_
         . exact yAG rfl
         unfold relAt;simp only [putAll];go_simp;simp only [relUpon];first | trivial | exact ⟨zB _ _,by trivial⟩
       . refine yAN ?_ ?_ ?_;exact (by decide);kernel_rfl
         intro wr hC hd;clear hd;with_reducible refine yAH ?_ ?_
         . exact yAG rfl
         unfold relAt;simp only [putAll];go_simp;simp only [relUpon];first | trivial | exact ⟨zB _ _,by trivial⟩
       . refine yAN ?_ ?_ ?_;exact (by decide);kernel_rfl
         intro wr hC hd;have d1:v1=.slice so n sc:=(yAC 1 (by kernel_rfl) hd (by decide)).2;subst d1;have d2:v2=.int .i64 (p:Int):=(yAC 2 (by kernel_rfl) hd (by decide)).2;subst d2;clear hd;with_reducible refine yAH ?_ ?_
         . exact yAG rfl
         unfold relAt;simp only [putAll];go_simp;simp only [relUpon];first | trivial | exact ⟨zB _ _,by trivial⟩
       . refine yAN ?_ ?_ ?_;exact (by decide);kernel_rfl
         intro wr hC hd;have d0:v0=.agg #[.slice uo N1 uc,.slice vo N2 vc]:=(yAC 0 (by kernel_rfl) hd (by decide)).2;subst d0;have d3:v3=.slice so p sc:=(yAC 3 (by kernel_rfl) hd (by decide)).2;subst d3;clear hd;with_reducible refine yAH ?_ ?_
         . exact yAG rfl
         have hcal:=Haft.out wr hC;unfold relAt;simp only [putAll];go_simp;simp only [relUpon];with_reducible refine hcal.mono ?_
         intro e w99 hp;obtain ⟨⟨r,rfl,hO⟩,hb⟩:=hp.r;exact ⟨_,rfl,hb,⟨r.1,r.2.1,r.2.2.1,r.2.2.2,rfl,OwnO.low hO hC.size⟩,r.1,r.2.1,r.2.2.1,r.2.2.2,rfl⟩
       . refine yAN ?_ ?_ ?_;exact (by decide);kernel_rfl
         intro wr hC hd;have d4:∃ r:ShT,v4=.tuple #[.agg #[.slice r.1 O.trays.length r.2.1,.slice r.2.2.1 O.totals.length r.2.2.2],.int .i64 C]:=(yAC 4 (by kernel_rfl) hd (by decide)).2;have i4:∃ r:ShT,v4=.tuple #[.agg #[.slice r.1 O.trays.length r.2.1,.slice r.2.2.1 O.totals.length r.2.2.2],.int .i64 C]/\OwnO (fun q=>w1.heap.size<=q/\q<wr.heap.size) wr (.slice r.1 O.trays.length r.2.1) (.slice r.2.2.1 O.totals.length r.2.2.2) O:=(yAC 4 (by kernel_rfl) hd (by decide)).1 rfl rfl;clear hd;with_reducible refine yAH ?_ ?_
         . exact yAG rfl
         have h8:=i4.choose_spec.1;have h9:=i4.choose_spec.2;generalize i4.choose=r at h8 h9;clear d4 i4;subst h8;unfold relAt;simp only [putAll];go_simp;simp only [relUpon];exact ⟨zB _ _,⟨r.1,r.2.1,r.2.2.1,r.2.2.2,rfl,h9⟩,r.1,r.2.1,r.2.2.1,r.2.2.2,rfl⟩
       . refine oneStep_u ?_ ?_ ?_;exact (by decide);kernel_rfl
         intro wr hd;have d4:∃ r:ShT,v4=.tuple #[.agg #[.slice r.1 O.trays.length r.2.1,.slice r.2.2.1 O.totals.length r.2.2.2],.int .i64 C]:=(yAC 4 (by kernel_rfl) hd (by decide)).2;clear hd;with_reducible refine yAH ?_ ?_
         . exact yAG rfl
         have h8:=d4.choose_spec;generalize d4.choose=r at h8;clear d4;subst h8;unfold relAt;simp only [putAll];go_simp;simp only [relUpon];first | trivial | exact ⟨rfl,by first | rfl | trivial⟩
       . refine oneStep_p ?_ ?_;kernel_rfl
         intro wr hC hd;have d5:∃ r:ShT,v5=.agg #[.slice r.1 O.trays.length r.2.1,.slice r.2.2.1 O.totals.length r.2.2.2]:=(yAC 5 (by kernel_rfl) hd (by decide)).2;have i5:∃ r:ShT,v5=.agg #[.slice r.1 O.trays.length r.2.1,.slice r.2.2.1 O.totals.length r.2.2.2]/\OwnO (fun q=>w1.heap.size<=q/\q<wr.heap.size) wr (.slice r.1 O.trays.length r.2.1) (.slice r.2.2.1 O.totals.length r.2.2.2) O:=(yAC 5 (by kernel_rfl) hd (by decide)).1 rfl rfl;clear hd;with_reducible refine yAH ?_ ?_
         . exact yAG rfl
         have h8:=i5.choose_spec.1;have h9:=i5.choose_spec.2;generalize i5.choose=r at h8 h9;clear d5 i5;subst h8;have e0:=(hC.cell (p:=⟨w0.heap.size+1,0,none⟩) rl).trans r0;have e1:=(hC.cell (p:=⟨w0.heap.size+1,1,none⟩) rl).trans r1;have hq:=HRx.out.on hC;have f0:=hq.free 0;have f1:=hq.free 1;unfold relAt;simp only [putAll];go_simp;simp only [relUpon];first | exact ⟨r,_,hC,h9,rfl⟩ | exact ⟨r.1,r.2.1,r.2.2.1,r.2.2.2,_,hC,h9,rfl⟩
       . refine oneStep_u ?_ ?_ ?_;exact (by decide);kernel_rfl
         intro wr hd;have d6:v6=.int .i64 C:=(yAC 6 (by kernel_rfl) hd (by decide)).2;subst d6;clear hd;with_reducible refine yAH ?_ ?_
         . exact yAG rfl
         unfold relAt;simp only [putAll];go_simp;simp only [relUpon];first | trivial | exact ⟨rfl,by first | rfl | trivial⟩
    . intro vs wq hvs hZ hI
      match vs,hvs,hZ,hI with
      | [v0,v1,v2,v3,v4,v5,v6,v7,v8],_,hZ,hI =>
       replace hZ:∃ (r:ShT) (wz:World),Below w1.heap.size w1 wz/\OwnO (fun q=>w1.heap.size<=q/\q<wz.heap.size) wz (.slice r.1 O.trays.length r.2.1) (.slice r.2.2.1 O.totals.length r.2.2.2) O/\wq=(wz.setCell ⟨w0.heap.size+1,0,none⟩ (.slice r.1 O.trays.length r.2.1)).setCell ⟨w0.heap.size+1,1,none⟩ (.slice r.2.2.1 O.totals.length r.2.2.2):=hZ;have d0:v0=.agg #[.slice uo N1 uc,.slice vo N2 vc]:=hI 0 (by decide) (by decide);subst d0;have d1:v1=.slice so n sc:=hI 1 (by decide) (by decide);subst d1;have d2:v2=.int .i64 (p:Int):=hI 2 (by decide) (by decide);subst d2;have d3:v3=.slice so p sc:=hI 3 (by decide) (by decide);subst d3;have d4:∃ r:ShT,v4=.tuple #[.agg #[.slice r.1 O.trays.length r.2.1,.slice r.2.2.1 O.totals.length r.2.2.2],.int .i64 C]:=hI 4 (by decide) (by decide);have d5:∃ r:ShT,v5=.agg #[.slice r.1 O.trays.length r.2.1,.slice r.2.2.1 O.totals.length r.2.2.2]:=hI 5 (by decide) (by decide);have d6:v6=.int .i64 C:=hI 6 (by decide) (by decide);subst d6;have d8:v8=.int .i64 C:=hI 8 (by decide) (by decide);subst d8;clear hI;simp only [putAll];go_simp;obtain ⟨r,wz,hbz,hOz,rfl⟩:=hZ;have HF:=hid (hOz.res (R:=w0.heap.size+1) (x:=.slice r.1 O.trays.length r.2.1) (y:=.slice r.2.2.1 O.totals.length r.2.2.2) (by have:=HRl.out;omega) (n0:=w0.heap.size) (by have:=HRl.out;omega));have HBf:=hid (belowTwo (Hbx.out.trans (hbz.mono Hbx.out.size)) (Nat.le_succ _) (.slice r.1 O.trays.length r.2.1) (.slice r.2.2.1 O.totals.length r.2.2.2));have Rz:=HRx.out.on hbz;have q0:=Rz.cell 0 _ rfl;have q1:=Rz.cell 1 _ rfl;clear hbz hOz Rz c0 c1 r0 r1 rf0 rf1 rl cl;go_wp2;exact bodyPost_ret (v:=.tuple #[.agg #[.slice r.1 O.trays.length r.2.1,.slice r.2.2.1 O.totals.length r.2.2.2],.int .i64 C]) (by simp [results,Tryz.results21,go_sem,q0,q1]) rfl ⟨⟨_,_,rfl,HF.out⟩,HBf.out⟩
def RunPost (w0:World) (o:OffT) (k:Int) (e:Ending) (w':World):Prop :=
 (∃ a n c b m d,e=.returned (.tuple #[.agg #[.slice a n c,.slice b m d],.int .i64 k,.int .i64 0])/\RdOff w'.heap.size w' (.slice a n c) (.slice b m d) o)/\Below w0.heap.size w0 w'
theorem RunFlow_o {o:OffT} {xs:List StepT} {u v s:Value} {w0:World} {A B:Nat} (ho:RdOff B w0 u v o) (hx:RdStepS A w0 s xs) (hv:offB o=true) (hl:LensOk o) (hn20:xs.length<=20) :
 Calls Tryz.prog 34 #[.agg #[u,v],s] w0 fun e w'=>RunPost w0 (runP o xs).1 (runP o xs).2 e w':=by
 have hle:=hx.le;have hxt:=hx.tight;obtain ⟨so,sc,rfl⟩:=hx.shape;obtain ⟨uo,uc,rfl⟩:=RdL.shape ho.1;obtain ⟨vo,vc,rfl⟩:=RdL.shape ho.2;obtain ⟨N1,hN1⟩:∃ n,n=o.trays.length:=⟨_,rfl⟩;obtain ⟨N2,hN2⟩:∃ n,n=o.totals.length:=⟨_,rfl⟩;rw [<- hN1,<- hN2] at ho |-;clear hN1 hN2;obtain ⟨T,hT⟩:∃ T,T=(w0.alloc (.cells #[.slice uo N1 uc,.slice vo N2 vc] 35)).alloc (.cells #[.slice none 0 0,.slice none 0 0] 35):=⟨_,rfl⟩;have z1:(w0.alloc (.cells #[.slice uo N1 uc,.slice vo N2 vc] 35)).heap.size=w0.heap.size+1:=by simp
 have hP:Box T w0.heap.size [.slice uo N1 uc,.slice vo N2 vc]:=by rw [hT];exact (Box.new w0 [.slice uo N1 uc,.slice vo N2 vc] _).alloc _
 have hR:Box T (w0.heap.size+1) [.slice none 0 0,.slice none 0 0]:=by
  have h:=Box.new (w0.alloc (.cells #[.slice uo N1 uc,.slice vo N2 vc] 35)) [.slice none 0 0,.slice none 0 0] 35;rw [z1,<- hT] at h;exact h
 have hbT:Below w0.heap.size w0 T:=by rw [hT];exact ((zB _ _).alloc (zA _) _).alloc (by rw [z1];omega) _
 have hoT:=RdOff.onn ho hbT;have hvo:=ValidOffice_c hoT;rw [hv] at hvo;have hxT:=Rds.onn hxt hbT;obtain ⟨n,hn⟩:∃ n,n=xs.length:=⟨_,rfl⟩;rw [<- hn] at hle hxT hxt hn20 |-;obtain ⟨RR,hRR⟩:∃ r,runP o xs=r:=⟨_,rfl⟩;rw [hRR];have HRR:=hid hRR;clear hRR;obtain ⟨X,hX⟩:∃ X,X=w0.heap.size:=⟨_,rfl⟩;rw [<- hX] at hP hR;have c0:=hP.cell 0 _ rfl;have c1:=hP.cell 1 _ rfl;have HT:=hid hT;have HX:=hid hX;have HR:=hid hR;have HP:=hid hP;have HbT:=hid hbT;have Hvo:=hid hvo;have HoT:=hid hoT;have HxT:=hid hxT;have Hl:=hid hl;have Hv:=hid hv;clear ho hx hxt hl hT hP hR hbT hoT hxT hvo hn z1 hX hv;go_enter Tryz.func34,Tryz.ntmps34;go_upto_region 1 with fail;rw [<- HT.out,<- HX.out];go_wp2_with fail;with_reducible refine Hvo.out.mono ?_
 rintro e w1 ⟨rfl,hb1⟩;have HR1:=hid (HR.out.on hb1);have HP1:=hid (HP.out.on hb1);have Ho1:=hid (RdOff.onn HoT.out hb1);have Hx1:=hid (Rds.onn HxT.out hb1);have Hb1:=hid (HbT.out.trans (hb1.mono HbT.out.size));clear hb1 c0 c1 HR HP HoT HxT HbT;have c0:=HP1.out.cell 0 _ rfl;have c1:=HP1.out.cell 1 _ rfl;have i1:¬ (20:Int)<(n:Int):=by omega
 have hrun:=runFlow_o Ho1.out Hx1.out Hv.out Hl.out;rw [HRR.out] at hrun;have Hrun:=hid hrun;clear hrun;go_wp2_with fail;with_reducible refine Hrun.out.mono ?_
 intro e w2 hpost;obtain ⟨⟨a1,k1,a2,k2,rfl,hN⟩,hb2⟩:=hpost.sh;obtain ⟨m1,hm1⟩:∃ n,n=RR.1.trays.length:=⟨_,rfl⟩;obtain ⟨m2,hm2⟩:∃ n,n=RR.1.totals.length:=⟨_,rfl⟩;rw [<- hm1,<- hm2] at hN |-;have hR2:=HR1.out.on hb2;have hb02:=Hb1.out.trans (hb2.mono Hb1.out.size);have hX1:X+1<w1.heap.size:=HR1.out.lt;obtain ⟨W,hW⟩:∃ W,W=w2.alloc (.cells #[.slice a1 m1 k1,.slice a2 m2 k2] 35):=⟨_,rfl⟩;have hbW:Below w2.heap.size w2 W:=by rw [hW];exact (zB _ _).alloc (zA _) _
 have hD:Box W w2.heap.size [.slice a1 m1 k1,.slice a2 m2 k2]:=by rw [hW];exact Box.new w2 [.slice a1 m1 k1,.slice a2 m2 k2] _
 have hRW:=hR2.on hbW;have hne:X+1 ≠ w2.heap.size:=by have:=hb2.size;omega
 have hNW:OwnO (fun q=>w1.heap.size<=q/\q<W.heap.size) W (.slice a1 m1 k1) (.slice a2 m2 k2) RR.1:=OwnO.keep hN hbW;have hbf:=hb02.trans (hbW.mono hb02.size);have HW:=hid hW;clear hpost hm1 hm2 hN hb2 hR2 hb02 c0 c1 hbW hW;go_upto_region 6 with fail;rw [<- HW.out];generalize w2.heap.size=D at hD hne |-;have d0:=hD.cell 0 _ rfl;have d1:=hD.cell 1 _ rfl;have r0:=hRW.cell 0 _ rfl;have r1:=hRW.cell 1 _ rfl;have s0:=hRW.free 0;have s1:=hRW.free 1;have HF:Hid (RdOff ((W.setCell ⟨X+1,0,none⟩ (.slice a1 m1 k1)).setCell ⟨X+1,1,none⟩ (.slice a2 m2 k2)).heap.size ((W.setCell ⟨X+1,0,none⟩ (.slice a1 m1 k1)).setCell ⟨X+1,1,none⟩ (.slice a2 m2 k2)) (.slice a1 m1 k1) (.slice a2 m2 k2) RR.1):=hid (OwnO.rds (hNW.agr (agr2 W (X+1) (.slice a1 m1 k1) (.slice a2 m2 k2)) (fun k hk (he:k=X+1)=>by have:=hk.1;omega)));have HB:Hid (Below w0.heap.size w0 ((W.setCell ⟨X+1,0,none⟩ (.slice a1 m1 k1)).setCell ⟨X+1,1,none⟩ (.slice a2 m2 k2))):=hid (belowTwo hbf (by rw [HX.out];exact Nat.le_succ _) _ _);clear hD hRW HW hNW hbf hX1;go_wp2;exact bodyPost_ret (v:=.tuple #[.agg #[.slice a1 m1 k1,.slice a2 m2 k2],.int .i64 (RR.2:Int),.int .i64 0]) (by simp [results,Tryz.results34,go_sem,r0,r1]) rfl ⟨⟨_,_,_,_,_,_,rfl,HF.out⟩,HB.out⟩
end Go.Proofs.YthdaghfhlfjclaaGreat
