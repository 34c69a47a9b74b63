/- Lemmas on the way to the law that RestartAt returns what the reference's returns. No condition. -/
import Derived.Test.YthdaghfhlfjclaaGreatMO31
import Derived.Test.YthdaghfhlfjclaaGreatMO32
import Derived.Test.YthdaghfhlfjclaaGreatMO28
import Derived.Test.YthdaghfhlfjclaaGreatMO29
import Derived.Test.YthdaghfhlfjclaaGreatMO22
import Derived.Test.YthdaghfhlfjclaaGreatMO5
import Derived.Test.YthdaghfhlfjclaaGreatMO17
import Derived.Test.YthdaghfhlfjclaaGreatMO3
namespace Go.Proofs.YthdaghfhlfjclaaGreat
set_option linter.unusedSimpArgs false
open Lib (hid)
open Go.ChangeShapes Go.WideShapes Go.ChangeAt Go.RowKit Go.Sort
set_option linter.unusedVariables false
set_option maxRecDepth 100000
structure OutS (base:Nat) (Y:Nat→Prop) (P:Nat) (w:World) (u v:Value) (o:OffT):Prop where
 off:OffN base (fun k=>k=P∨k<base∨Y k) w u v o
 box:Box w P [u,v]
 ne:∀ q,(u.ownBlock=some q∨v.ownBlock=some q)→q ≠ P∧¬ Y q
 pb:base≤P∧¬ Y P
 hb:base≤w.heap.size
 hY:∀ k,Y k→k<w.heap.size
section
variable {base P:Nat} {Y Y':Nat→Prop} {w w1 w':World} {u v v':Value} {o:OffT}
theorem OutS.hX (h:OutS base Y P w u v o):∀ k,(k=P∨k<base∨Y k)→k<w.heap.size:=fun k hk=>by
 rcases hk with e | e | e
 · rw [e];exact h.box.lt
 · exact Nat.lt_of_lt_of_le e h.hb
 · exact h.hY k e
theorem OutS.on (h:OutS base Y P w u v o) (hb:Below w.heap.size w w'):OutS base Y P w' u v o :=
 ⟨h.off.on hb,h.box.on hb,h.ne,h.pb,Nat.le_trans h.hb hb.size,fun k hk=>Nat.lt_of_lt_of_le (h.hY k hk) hb.size⟩
def DoFr (P:Nat) (u v:Value) (w w':World):Prop:=Agr (fun k=>k=P∨u.ownBlock=some k∨v.ownBlock=some k) w w'
theorem OutS.setT (h:OutS base Y P w u v o) {g n c i:Nat} (hu:u=.slice (some ⟨g,0,none⟩) n c) (hi:i<o.trays.length) {hx:SlV} {x:List (List Int)} (hb:Below w.heap.size w w1) (hfr:FrS RdD (fun k=>k<w.heap.size) w1 hx.val x) :
 (∃ y,w1.cell? ⟨g,i,none⟩=some y)∧w1.frozen? ⟨g,i,none⟩=false∧OutS base Y P (w1.setCell ⟨g,i,none⟩ hx.val) u v ⟨o.trays.set i x,o.totals⟩∧DoFr P u v w (w1.setCell ⟨g,i,none⟩ hx.val):=by
 obtain ⟨e1,e2,e3⟩:=h.off.setT h.hX hu hi hb hfr;have hg:u.ownBlock=some g:=by rw [hu];rfl
 have hgP:=(h.ne g (.inl hg)).1;have hA:Agr (fun k=>k=P∨u.ownBlock=some k∨v.ownBlock=some k) w1 (w1.setCell ⟨g,i,none⟩ hx.val):=Agr.set w1 _ _ (.inr (.inl hg));refine ⟨e1,e2,⟨e3,(h.box.on hb).other hgP _,h.ne,h.pb,?_,fun k hk=>?_⟩,(Agr.on hb).trans hA (fun k hk _=>hk)⟩
 · have:=hb.size;have:=h.hb;simp;omega
 · have:=hb.size;have:=h.hY k hk;simp;omega
theorem OutS.appL (h:OutS base Y P w u v o):∃ ks,Own eS 110 base w v ks∧ks.length=o.totals.length ∧
 ∀ (w1:World) (hx:SlV) (x:List TotalT),Below w.heap.size w w1→FrS RdTz (fun k=>k<w.heap.size) w1 hx.val x→∀ w' v',Own eS 110 base w' v' (ks++[hx])→Grew w1 w' v v' →
  Box w' P [u,v]∧OutS base Y P (w'.setCell ⟨P,1,none⟩ v') u v' ⟨o.trays,o.totals++[x]⟩∧DoFr P u v w (w'.setCell ⟨P,1,none⟩ v'):=by
 obtain ⟨ks,a1,a2,a3⟩:=h.off.appL h.hX;refine ⟨ks,a1,a2,fun w1 hx x hb hfr w' v' ho hg=>?_⟩
 have b3:=a3 w1 hx x hb hfr w' v' ho hg;have hA:Agr (fun k=>v.ownBlock=some k) w1 w':=Agr.of_grown hg.1 (fun k hk _=>hk);have hvP:v.ownBlock ≠ some P:=fun e=>(h.ne P (.inr e)).1 rfl;have hbx:=boxAgr (h.box.on hb) hA hvP;have hne':∀ q,(u.ownBlock=some q∨v'.ownBlock=some q)→q ≠ P∧¬ Y q:=fun q hq=>by
  rcases hq with e | e
  · exact h.ne q (.inl e)
  · rcases hg.2 with e2 | ⟨k,e2,e3⟩
    · exact h.ne q (.inr (by rw [← e2];exact e))
    · rw [e2] at e;cases e
      have h1:=hb.size;exact ⟨fun e=>by have:=h.box.lt;omega,fun e=>by have:=h.hY q e;omega⟩
 have hA2:Agr (fun k=>k=P) w' (w'.setCell ⟨P,1,none⟩ v'):=Agr.set w' _ _ rfl;have hsz:(w'.setCell ⟨P,1,none⟩ v').heap.size=w'.heap.size:=by simp
 have hsl:w.heap.size≤w'.heap.size:=Nat.le_trans hb.size hA.size;refine ⟨hbx,⟨b3.agr hA2 (fun k hk _=>⟨.inl hk,fun e=>(hne' k (.inl e)).1 hk,fun e=>(hne' k (.inr e)).1 hk⟩) (fun k h _=>h),hbx.set1 (j:=1) (by simp) v',hne',h.pb,by rw [hsz];exact Nat.le_trans h.hb hsl,fun k hk=>by rw [hsz];exact Nat.lt_of_lt_of_le (h.hY k hk) hsl⟩,?_⟩
 exact ((Agr.on hb).trans (S:=fun k=>k=P∨u.ownBlock=some k∨v.ownBlock=some k) hA (fun k hk _=>.inr (.inr hk))).trans hA2 (fun k hk _=>.inl hk)
theorem DoFr.below (h:DoFr P u v w w') (hs:OutS base Y P w u v o):Below base w w' :=
 Agr.below h (fun k hk=>by
  rcases hk with e | e | e
  · rw [e];exact hs.pb.1
  · exact (hs.off.lt.1 k e).1
  · exact (hs.off.lt.2 k e).1) hs.hb
theorem DoFr.drew1 (h:DoFr P u v w w'):DoFr P u v w w'.drew:=⟨h.os,h.tape,h.output,h.size,h.block⟩
theorem DoFr.of_below (h:Below w.heap.size w w'):DoFr P u v w w':=Agr.on h
end
theorem stpC_valid {o:OffT} {x:StepT} (h:stB x (colO o.trays)=true):stpC o x=if x.kd=7 then (if o.totals.length=20 then 5 else totC (trD o x.ta) x.ff x.ft x.sf x.st) else dkC o x:=by
 unfold stpC;rw [if_neg (by rw [h];decide)]
def DoPost (base:Nat) (Y:Nat→Prop) (P:Nat) (u v:Value) (o:OffT) (x:StepT) (w:World) (e:Ending) (w':World):Prop :=
 ∃ R,e=.returned (.int .i64 R)∧(R=0 ↔ stpC o x=0)∧DoFr P u v w w'∧(R=0→∃ u' v',OutS base Y P w' u' v' (stpD o x))∧(R ≠ 0→OutS base Y P w' u v o)
set_option maxHeartbeats 4000000 in
theorem l15Do_c {o:OffT} {x:StepT} {u v:Value} {w0:World} {base P X off:Nat} {Y:Nat→Prop} (hO:OutS base Y P w0 u v o) (hS:StAt w0 X off x) (hX:X<base) (hv:offB o=true) (hx:stB x (colO o.trays)=true) :
 Calls Tryz.prog 44 #[.pointer (some ⟨P,0,none⟩),.pointer (some ⟨X,off,none⟩)] w0 fun e w'=>DoPost base Y P u v o x w0 e w':=by
 obtain ⟨i0,hi,hz0,hz1,hz2⟩:=info_parts Tryz.infoTl;have hst:StOk x (colO o.trays):=of_decide_eq_true hx;have hvp:=offB_parts hv;have hcb:=colO_bd (fun d hd=>(hvp.2.2 d hd).1);have hC:=stpC_valid hx;have HC:=hid hC;have hO2:=hO;obtain ⟨⟨uo,uc,hu⟩,⟨vo,vc,hv2⟩⟩:=hO.off.shape;obtain ⟨g1,uc1,hug⟩:=hO.off.addr (by rw [hvp.1];omega);rw [hvp.1] at hug;clear hu;subst hug;subst hv2;have x0:=hS.c0;have p0:=hO.box.cell 0 _ rfl;have p1:=hO.box.cell 1 _ rfl;have HO:=hid hO;have HS:=hid hS;have Hst:=hid hst;have Hvp:=hid hvp;have Hcb:=hid hcb;obtain ⟨m,hm⟩:∃ m,m=o.totals.length:=⟨_,rfl⟩;rw [← hm] at p1 HO ⊢;have Hm:=hid hm;have hm20:m≤20:=by rw [hm];exact hvp.2.1
 by_cases h7:x.kd=7
 · have HC7:Hid (stpC o x=if m=20 then 5 else totC (trD o x.ta) x.ff x.ft x.sf x.st):=hid (by rw [hC,if_pos h7,hm])
   have HD7:Hid (stpD o x=⟨o.trays,o.totals++[totD (trD o x.ta) x.ff x.ft x.sf x.st]⟩):=hid (by unfold stpD;rw [if_pos h7]);have H7:=hid h7;rw [h7] at x0;clear hO hS hst hvp hcb hC hO2 hm h7;by_cases hf:m=20
   · have HE:Hid (stpC o x=5):=hid (by rw [HC7.out,if_pos hf])
     subst hf;have i1:(20:Int)≤((20:Nat):Int):=by omega
     go_enter Tryz.func44,Tryz.ntmps44
     go_wp2
     go_ret
     exact ⟨5,rfl,⟨fun h=>absurd h (by decide),fun h=>by rw [HE.out] at h;exact absurd h (by decide)⟩,DoFr.of_below (Below.refl _ _),fun h=>absurd h (by decide),fun _=>HO.out⟩
   · have i1:¬ (20:Int)≤(m:Int):=by omega
     obtain ⟨p,hp⟩:=Int.eq_ofNat_of_zero_le Hst.out.ta.1;have hp6:p<6:=by have:=Hst.out.ta.2;omega
     have hft:=fieldP_tray (o:=o) Hvp.out.2.2 Hvp.out.1 Hst.out.ta Hcb.out.2 Hst.out.ff;have hfs:=fieldP_tray (o:=o) (f:=x.sf) (t:=x.st) Hvp.out.2.2 Hvp.out.1 Hst.out.ta Hcb.out.2 (Hst.out.sum H7.out).1;have ta:=trD_at Hvp.out.1 Hst.out.ta;obtain ⟨a,ha⟩:∃ a,a=trD o x.ta:=⟨_,rfl⟩;rw [← ha] at hft hfs ta;rw [hp,Int.toNat_natCast] at ta;obtain ⟨C,hC⟩:∃ C,C=totC a x.ff x.ft x.sf x.st:=⟨_,rfl⟩;obtain ⟨L,hL⟩:∃ L,L=totD a x.ff x.ft x.sf x.st:=⟨_,rfl⟩;have HSC:Hid (stpC o x=C):=hid (by rw [HC7.out,if_neg hf,← ha];exact hC.symm);have HSD:Hid (stpD o x=⟨o.trays,o.totals++[L]⟩):=hid (by rw [HD7.out,← ha,← hL]);obtain ⟨uo',uc',hs,hop⟩:=RdL.open rowK_D HO.out.off.rd.1;rw [Hvp.out.1] at hs;injection hs with e1 e2 e3;subst e1;subst e3;clear e2;obtain ⟨tb0,off0,hgb,hlt,hc⟩:=hop (by rw [Hvp.out.1];omega);have hg1:g1=tb0∧0=off0:=by injection hgb with hgb;injection hgb with a1 a2;exact ⟨a1,a2⟩
     obtain ⟨rfl,rfl⟩:=hg1;obtain ⟨a',ao,ac,ha',hac,har⟩:=hc p (by rw [Hvp.out.1];omega);rw [ta] at ha';obtain rfl:=Option.some.inj ha';have hto:=fun (w:World) (hw:Below w0.heap.size w0 w)=>l15Sums_c (w0:=w) (f:=x.ff) (t:=x.ft) (sf:=x.sf) (st:=x.st) (RdInt64SS.onn har hw) hft.1 hft.2 hfs.2 (Hst.out.sum H7.out).2;obtain ⟨n1,hn1⟩:∃ n,n=a.length:=⟨_,rfl⟩;rw [← hn1] at hac hto;have Hcon:Hid (∀ w,Below w0.heap.size w0 w→Calls Tryz.prog 84 #[.slice ao n1 ac,.agg #[.int .i64 x.ff,.int .i64 x.ft],.agg #[.int .i64 x.sf,.int .i64 x.st]] w fun e w'=>(∃ r,e=.returned (.tuple #[r,.int .i64 C])∧(C=0→FrS RdTz (fun k=>k<w0.heap.size) w' r L))∧Below w.heap.size w w'):=hid (fun w hw=>(hto w hw).mono (fun e w' h=>⟨by
      obtain ⟨r,h1,h2⟩:=h.1;rw [← hC] at h1 h2;rw [← hL] at h2;exact ⟨r,h1,fun h0=>(h2 h0).weak (fun k hk _=>by have h9:k<w0.heap.size:=hk;have:=hw.size;show k<w.heap.size;omega)⟩,h.2⟩))
     have x1:=HS.out.c1;rw [hp] at x1;have x4:=HS.out.c4;have x5:=HS.out.c5;have x6:=HS.out.c6;have x7:=HS.out.c7;have xl:=HS.out.lt;have pl:=HO.out.box.lt;have t0:=hac;rw [Nat.zero_add] at t0;have tl:=hlt.2;obtain ⟨f,hf9⟩:∃ f,f=x.ff:=⟨_,rfl⟩;obtain ⟨t,ht9⟩:∃ t,t=x.ft:=⟨_,rfl⟩;obtain ⟨sf,hsf9⟩:∃ f,f=x.sf:=⟨_,rfl⟩;obtain ⟨st,hst9⟩:∃ t,t=x.st:=⟨_,rfl⟩;rw [← hf9,← ht9,← hsf9,← hst9] at Hcon;rw [← hf9] at x4;rw [← ht9] at x5;rw [← hsf9] at x6;rw [← hst9] at x7;have i2:(p:Int)<6:=by omega
     clear hft hfs ta ha hC hL hop hc ha' hac har hto hn1 hlt hp hgb hf9 ht9 hsf9 hst9 hf;go_enter Tryz.func44,Tryz.ntmps44
     go_upto_region 4 with fail
     refine wp_region_below (fun i v w=>match i with | 0=>v=.pointer (some ⟨P,0,none⟩) | 1=>v=.pointer (some ⟨P,0,none⟩) | 2=>v=.pointer (some ⟨P,0,none⟩) | 3=>v=.slice (some ⟨g1,0,none⟩) 6 uc1 | 4=>v=.pointer (some ⟨X,off,none⟩) | 5=>v=.pointer (some ⟨X,off,none⟩) | 6=>v=.pointer (some ⟨X,off+1,none⟩) | 7=>v=.int .i64 (p:Int) | 8=>v=.pointer (some ⟨g1,p,none⟩) | 9=>v=.slice ao n1 ac | 10=>v=.pointer (some ⟨X,off,none⟩) | 11=>v=.pointer (some ⟨X,off,none⟩) | 12=>v=.pointer (some ⟨X,off+4,none⟩) | 13=>v=.agg #[.int .i64 f,.int .i64 t] | 14=>v=.pointer (some ⟨X,off,none⟩) | 15=>v=.pointer (some ⟨X,off,none⟩) | 16=>v=.pointer (some ⟨X,off+6,none⟩) | 17=>v=.agg #[.int .i64 sf,.int .i64 st] | 18=>∃ r,v=.tuple #[r,.int .i64 C]∧(C=0→FrS RdTz (fun k=>k<w0.heap.size) w r L) | 19=>∃ r,v=.tuple #[r,.int .i64 C]∧(C=0→FrS RdTz (fun k=>k<w0.heap.size) w r L) | 20=>C=0→FrS RdTz (fun k=>k<w0.heap.size) w v L | 21=>v=.int .i64 C | 22=>C=0→FrS RdTz (fun k=>k<w0.heap.size) w v L | 23=>v=.int .i64 C | _=>True) (by kernel_rfl) (by kernel_rfl) (by kernel_rfl) ?_ ?_ ?_
     · intro i v w w' h hb
       match i,h with
       | 0,h=>exact h
       | 1,h=>exact h
       | 2,h=>exact h
       | 3,h=>exact h
       | 4,h=>exact h
       | 5,h=>exact h
       | 6,h=>exact h
       | 7,h=>exact h
       | 8,h=>exact h
       | 9,h=>exact h
       | 10,h=>exact h
       | 11,h=>exact h
       | 12,h=>exact h
       | 13,h=>exact h
       | 14,h=>exact h
       | 15,h=>exact h
       | 16,h=>exact h
       | 17,h=>exact h
       | 18,h=>obtain ⟨r,h1,h2⟩:=h;exact ⟨r,h1,fun h0=>FrS.on (h2 h0) hb⟩
       | 19,h=>obtain ⟨r,h1,h2⟩:=h;exact ⟨r,h1,fun h0=>FrS.on (h2 h0) hb⟩
       | 20,h=>exact fun h0=>FrS.on (h h0) hb
       | 21,h=>exact h
       | 22,h=>exact fun h0=>FrS.on (h h0) hb
       | 23,h=>exact h
       | (_+24),h=>exact h
     · intro vs hvs
       match vs,hvs with
       | [v0,v1,v2,v3,v4,v5,v6,v7,v8,v9,v10,v11,v12,v13,v14,v15,v16,v17,v18,v19,v20,v21,v22,v23],_ =>
        refine ⟨?_,?_,?_,?_,?_,?_,?_,?_,?_,?_,?_,?_,?_,?_,?_,?_,?_,?_,?_,?_,?_,?_,?_,?_,trivial⟩
        · intro wr hC hd
          clear hd;unfold relAt;simp only [putAll]
          go_simp
          simp only [relUpon]
          exact ⟨Below.refl _ _,by first | rfl | trivial⟩
        · intro wr hC hd
          have d0:v0=.pointer (some ⟨P,0,none⟩):=by first | exact hd.1 rfl | exact hd.2.1 rfl | exact hd.2.2.1 rfl | exact hd.2.2.2.1 rfl | exact hd.2.2.2.2.1 rfl | exact hd.2.2.2.2.2.1 rfl | exact hd.2.2.2.2.2.2.1 rfl | exact hd.2.2.2.2.2.2.2.1 rfl | exact hd.2.2.2.2.2.2.2.2.1 rfl | exact hd.2.2.2.2.2.2.2.2.2.1 rfl
          subst d0;clear hd;unfold relAt;simp only [putAll]
          go_simp
          simp only [relUpon]
          exact ⟨Below.refl _ _,by first | rfl | trivial⟩
        · intro wr hC hd
          have d1:v1=.pointer (some ⟨P,0,none⟩):=by first | exact hd.1 rfl | exact hd.2.1 rfl | exact hd.2.2.1 rfl | exact hd.2.2.2.1 rfl | exact hd.2.2.2.2.1 rfl | exact hd.2.2.2.2.2.1 rfl | exact hd.2.2.2.2.2.2.1 rfl | exact hd.2.2.2.2.2.2.2.1 rfl | exact hd.2.2.2.2.2.2.2.2.1 rfl | exact hd.2.2.2.2.2.2.2.2.2.1 rfl
          subst d1;clear hd;unfold relAt;simp only [putAll]
          go_simp
          simp only [relUpon]
          exact ⟨Below.refl _ _,by first | rfl | trivial⟩
        · intro wr hC hd
          have d2:v2=.pointer (some ⟨P,0,none⟩):=by first | exact hd.1 rfl | exact hd.2.1 rfl | exact hd.2.2.1 rfl | exact hd.2.2.2.1 rfl | exact hd.2.2.2.2.1 rfl | exact hd.2.2.2.2.2.1 rfl | exact hd.2.2.2.2.2.2.1 rfl | exact hd.2.2.2.2.2.2.2.1 rfl | exact hd.2.2.2.2.2.2.2.2.1 rfl | exact hd.2.2.2.2.2.2.2.2.2.1 rfl
          subst d2;clear hd;have e:=(hC.cell (p:=⟨P,0,none⟩) pl).trans p0;unfold relAt;simp only [putAll]
          go_simp
          simp only [relUpon]
          exact ⟨Below.refl _ _,by first | rfl | trivial⟩
        · intro wr hC hd
          clear hd;unfold relAt;simp only [putAll]
          go_simp
          simp only [relUpon]
          exact ⟨Below.refl _ _,by first | rfl | trivial⟩
        · intro wr hC hd
          have d4:v4=.pointer (some ⟨X,off,none⟩):=by first | exact hd.1 rfl | exact hd.2.1 rfl | exact hd.2.2.1 rfl | exact hd.2.2.2.1 rfl | exact hd.2.2.2.2.1 rfl | exact hd.2.2.2.2.2.1 rfl | exact hd.2.2.2.2.2.2.1 rfl | exact hd.2.2.2.2.2.2.2.1 rfl | exact hd.2.2.2.2.2.2.2.2.1 rfl | exact hd.2.2.2.2.2.2.2.2.2.1 rfl
          subst d4;clear hd;unfold relAt;simp only [putAll]
          go_simp
          simp only [relUpon]
          exact ⟨Below.refl _ _,by first | rfl | trivial⟩
        · intro wr hC hd
          have d5:v5=.pointer (some ⟨X,off,none⟩):=by first | exact hd.1 rfl | exact hd.2.1 rfl | exact hd.2.2.1 rfl | exact hd.2.2.2.1 rfl | exact hd.2.2.2.2.1 rfl | exact hd.2.2.2.2.2.1 rfl | exact hd.2.2.2.2.2.2.1 rfl | exact hd.2.2.2.2.2.2.2.1 rfl | exact hd.2.2.2.2.2.2.2.2.1 rfl | exact hd.2.2.2.2.2.2.2.2.2.1 rfl
          subst d5;clear hd;unfold relAt;simp only [putAll]
          go_simp
          simp only [relUpon]
          exact ⟨Below.refl _ _,by first | rfl | trivial⟩
        · intro wr hC hd
          have d6:v6=.pointer (some ⟨X,off+1,none⟩):=by first | exact hd.1 rfl | exact hd.2.1 rfl | exact hd.2.2.1 rfl | exact hd.2.2.2.1 rfl | exact hd.2.2.2.2.1 rfl | exact hd.2.2.2.2.2.1 rfl | exact hd.2.2.2.2.2.2.1 rfl | exact hd.2.2.2.2.2.2.2.1 rfl | exact hd.2.2.2.2.2.2.2.2.1 rfl | exact hd.2.2.2.2.2.2.2.2.2.1 rfl
          subst d6;clear hd;have e:=(hC.cell (p:=⟨X,off+1,none⟩) xl).trans x1;unfold relAt;simp only [putAll]
          go_simp
          simp only [relUpon]
          exact ⟨Below.refl _ _,by first | rfl | trivial⟩
        · intro wr hC hd
          have d3:v3=.slice (some ⟨g1,0,none⟩) 6 uc1:=by first | exact hd.1 rfl | exact hd.2.1 rfl | exact hd.2.2.1 rfl | exact hd.2.2.2.1 rfl | exact hd.2.2.2.2.1 rfl | exact hd.2.2.2.2.2.1 rfl | exact hd.2.2.2.2.2.2.1 rfl | exact hd.2.2.2.2.2.2.2.1 rfl | exact hd.2.2.2.2.2.2.2.2.1 rfl | exact hd.2.2.2.2.2.2.2.2.2.1 rfl
          subst d3;have d7:v7=.int .i64 (p:Int):=by first | exact hd.1 rfl | exact hd.2.1 rfl | exact hd.2.2.1 rfl | exact hd.2.2.2.1 rfl | exact hd.2.2.2.2.1 rfl | exact hd.2.2.2.2.2.1 rfl | exact hd.2.2.2.2.2.2.1 rfl | exact hd.2.2.2.2.2.2.2.1 rfl | exact hd.2.2.2.2.2.2.2.2.1 rfl | exact hd.2.2.2.2.2.2.2.2.2.1 rfl
          subst d7;clear hd;unfold relAt;simp only [putAll]
          go_simp
          simp only [relUpon]
          exact ⟨Below.refl _ _,by first | rfl | trivial⟩
        · intro wr hC hd
          have d8:v8=.pointer (some ⟨g1,p,none⟩):=by first | exact hd.1 rfl | exact hd.2.1 rfl | exact hd.2.2.1 rfl | exact hd.2.2.2.1 rfl | exact hd.2.2.2.2.1 rfl | exact hd.2.2.2.2.2.1 rfl | exact hd.2.2.2.2.2.2.1 rfl | exact hd.2.2.2.2.2.2.2.1 rfl | exact hd.2.2.2.2.2.2.2.2.1 rfl | exact hd.2.2.2.2.2.2.2.2.2.1 rfl
          subst d8;clear hd;have e:=(hC.cell (p:=⟨g1,p,none⟩) tl).trans t0;unfold relAt;simp only [putAll]
          go_simp
          simp only [relUpon]
          exact ⟨Below.refl _ _,by first | rfl | trivial⟩
        · intro wr hC hd
          clear hd;unfold relAt;simp only [putAll]
          go_simp
          simp only [relUpon]
          exact ⟨Below.refl _ _,by first | rfl | trivial⟩
        · intro wr hC hd
          have d10:v10=.pointer (some ⟨X,off,none⟩):=by first | exact hd.1 rfl | exact hd.2.1 rfl | exact hd.2.2.1 rfl | exact hd.2.2.2.1 rfl | exact hd.2.2.2.2.1 rfl | exact hd.2.2.2.2.2.1 rfl | exact hd.2.2.2.2.2.2.1 rfl | exact hd.2.2.2.2.2.2.2.1 rfl | exact hd.2.2.2.2.2.2.2.2.1 rfl | exact hd.2.2.2.2.2.2.2.2.2.1 rfl
          subst d10;clear hd;unfold relAt;simp only [putAll]
          go_simp
          simp only [relUpon]
          exact ⟨Below.refl _ _,by first | rfl | trivial⟩
        · intro wr hC hd
          have d11:v11=.pointer (some ⟨X,off,none⟩):=by first | exact hd.1 rfl | exact hd.2.1 rfl | exact hd.2.2.1 rfl | exact hd.2.2.2.1 rfl | exact hd.2.2.2.2.1 rfl | exact hd.2.2.2.2.2.1 rfl | exact hd.2.2.2.2.2.2.1 rfl | exact hd.2.2.2.2.2.2.2.1 rfl | exact hd.2.2.2.2.2.2.2.2.1 rfl | exact hd.2.2.2.2.2.2.2.2.2.1 rfl
          subst d11;clear hd;unfold relAt;simp only [putAll]
          go_simp
          simp only [relUpon]
          exact ⟨Below.refl _ _,by first | rfl | trivial⟩
        · intro wr hC hd
          have d12:v12=.pointer (some ⟨X,off+4,none⟩):=by first | exact hd.1 rfl | exact hd.2.1 rfl | exact hd.2.2.1 rfl | exact hd.2.2.2.1 rfl | exact hd.2.2.2.2.1 rfl | exact hd.2.2.2.2.2.1 rfl | exact hd.2.2.2.2.2.2.1 rfl | exact hd.2.2.2.2.2.2.2.1 rfl | exact hd.2.2.2.2.2.2.2.2.1 rfl | exact hd.2.2.2.2.2.2.2.2.2.1 rfl
          subst d12;clear hd;have e1:=(hC.cell (p:=⟨X,off+4,none⟩) xl).trans x4;have e2:=(hC.cell (p:=⟨X,off+5,none⟩) xl).trans x5;unfold relAt;simp only [putAll]
          go_simp
          simp only [relUpon]
          exact ⟨Below.refl _ _,by first | rfl | trivial⟩
        · intro wr hC hd
          clear hd;unfold relAt;simp only [putAll]
          go_simp
          simp only [relUpon]
          exact ⟨Below.refl _ _,by first | rfl | trivial⟩
        · intro wr hC hd
          have d14:v14=.pointer (some ⟨X,off,none⟩):=by first | exact hd.1 rfl | exact hd.2.1 rfl | exact hd.2.2.1 rfl | exact hd.2.2.2.1 rfl | exact hd.2.2.2.2.1 rfl | exact hd.2.2.2.2.2.1 rfl | exact hd.2.2.2.2.2.2.1 rfl | exact hd.2.2.2.2.2.2.2.1 rfl | exact hd.2.2.2.2.2.2.2.2.1 rfl | exact hd.2.2.2.2.2.2.2.2.2.1 rfl
          subst d14;clear hd;unfold relAt;simp only [putAll]
          go_simp
          simp only [relUpon]
          exact ⟨Below.refl _ _,by first | rfl | trivial⟩
        · intro wr hC hd
          have d15:v15=.pointer (some ⟨X,off,none⟩):=by first | exact hd.1 rfl | exact hd.2.1 rfl | exact hd.2.2.1 rfl | exact hd.2.2.2.1 rfl | exact hd.2.2.2.2.1 rfl | exact hd.2.2.2.2.2.1 rfl | exact hd.2.2.2.2.2.2.1 rfl | exact hd.2.2.2.2.2.2.2.1 rfl | exact hd.2.2.2.2.2.2.2.2.1 rfl | exact hd.2.2.2.2.2.2.2.2.2.1 rfl
          subst d15;clear hd;unfold relAt;simp only [putAll]
          go_simp
          simp only [relUpon]
          exact ⟨Below.refl _ _,by first | rfl | trivial⟩
        · intro wr hC hd
          have d16:v16=.pointer (some ⟨X,off+6,none⟩):=by first | exact hd.1 rfl | exact hd.2.1 rfl | exact hd.2.2.1 rfl | exact hd.2.2.2.1 rfl | exact hd.2.2.2.2.1 rfl | exact hd.2.2.2.2.2.1 rfl | exact hd.2.2.2.2.2.2.1 rfl | exact hd.2.2.2.2.2.2.2.1 rfl | exact hd.2.2.2.2.2.2.2.2.1 rfl | exact hd.2.2.2.2.2.2.2.2.2.1 rfl
          subst d16;clear hd;have e1:=(hC.cell (p:=⟨X,off+6,none⟩) xl).trans x6;have e2:=(hC.cell (p:=⟨X,off+7,none⟩) xl).trans x7;unfold relAt;simp only [putAll]
          go_simp
          simp only [relUpon]
          exact ⟨Below.refl _ _,by first | rfl | trivial⟩
        · intro wr hC hd
          have d9:v9=.slice ao n1 ac:=by first | exact hd.1 rfl | exact hd.2.1 rfl | exact hd.2.2.1 rfl | exact hd.2.2.2.1 rfl | exact hd.2.2.2.2.1 rfl | exact hd.2.2.2.2.2.1 rfl | exact hd.2.2.2.2.2.2.1 rfl | exact hd.2.2.2.2.2.2.2.1 rfl | exact hd.2.2.2.2.2.2.2.2.1 rfl | exact hd.2.2.2.2.2.2.2.2.2.1 rfl
          subst d9;have d13:v13=.agg #[.int .i64 f,.int .i64 t]:=by first | exact hd.1 rfl | exact hd.2.1 rfl | exact hd.2.2.1 rfl | exact hd.2.2.2.1 rfl | exact hd.2.2.2.2.1 rfl | exact hd.2.2.2.2.2.1 rfl | exact hd.2.2.2.2.2.2.1 rfl | exact hd.2.2.2.2.2.2.2.1 rfl | exact hd.2.2.2.2.2.2.2.2.1 rfl | exact hd.2.2.2.2.2.2.2.2.2.1 rfl
          subst d13;have d17:v17=.agg #[.int .i64 sf,.int .i64 st]:=by first | exact hd.1 rfl | exact hd.2.1 rfl | exact hd.2.2.1 rfl | exact hd.2.2.2.1 rfl | exact hd.2.2.2.2.1 rfl | exact hd.2.2.2.2.2.1 rfl | exact hd.2.2.2.2.2.2.1 rfl | exact hd.2.2.2.2.2.2.2.1 rfl | exact hd.2.2.2.2.2.2.2.2.1 rfl | exact hd.2.2.2.2.2.2.2.2.2.1 rfl
          subst d17;clear hd;have h9:=Hcon.out _ hC;clear hC;unfold relAt;simp only [putAll]
          go_simp
          simp only [relUpon]
          with_reducible refine h9.mono ?_
          rintro e w99 ⟨⟨r9,rfl,h2⟩,hb9⟩
          exact ⟨_,rfl,hb9,r9,rfl,h2⟩
        · intro wr hC hd
          have d18:∃ r,v18=.tuple #[r,.int .i64 C]∧(C=0→FrS RdTz (fun k=>k<w0.heap.size) wr r L):=by first | exact hd.1 rfl | exact hd.2.1 rfl | exact hd.2.2.1 rfl | exact hd.2.2.2.1 rfl | exact hd.2.2.2.2.1 rfl | exact hd.2.2.2.2.2.1 rfl | exact hd.2.2.2.2.2.2.1 rfl | exact hd.2.2.2.2.2.2.2.1 rfl | exact hd.2.2.2.2.2.2.2.2.1 rfl | exact hd.2.2.2.2.2.2.2.2.2.1 rfl
          clear hd;have h8:=d18.choose_spec.1;have h9:=d18.choose_spec.2;generalize d18.choose=r9 at h8 h9;clear d18;subst h8;unfold relAt;simp only [putAll]
          go_simp
          simp only [relUpon]
          exact ⟨Below.refl _ _,r9,rfl,h9⟩
        · intro wr hC hd
          have d19:∃ r,v19=.tuple #[r,.int .i64 C]∧(C=0→FrS RdTz (fun k=>k<w0.heap.size) wr r L):=by first | exact hd.1 rfl | exact hd.2.1 rfl | exact hd.2.2.1 rfl | exact hd.2.2.2.1 rfl | exact hd.2.2.2.2.1 rfl | exact hd.2.2.2.2.2.1 rfl | exact hd.2.2.2.2.2.2.1 rfl | exact hd.2.2.2.2.2.2.2.1 rfl | exact hd.2.2.2.2.2.2.2.2.1 rfl | exact hd.2.2.2.2.2.2.2.2.2.1 rfl
          clear hd;have h8:=d19.choose_spec.1;have h9:=d19.choose_spec.2;generalize d19.choose=r9 at h8 h9;clear d19;subst h8;unfold relAt;simp only [putAll]
          go_simp
          simp only [relUpon]
          exact ⟨Below.refl _ _,h9⟩
        · intro wr hC hd
          have d19:∃ r,v19=.tuple #[r,.int .i64 C]∧(C=0→FrS RdTz (fun k=>k<w0.heap.size) wr r L):=by first | exact hd.1 rfl | exact hd.2.1 rfl | exact hd.2.2.1 rfl | exact hd.2.2.2.1 rfl | exact hd.2.2.2.2.1 rfl | exact hd.2.2.2.2.2.1 rfl | exact hd.2.2.2.2.2.2.1 rfl | exact hd.2.2.2.2.2.2.2.1 rfl | exact hd.2.2.2.2.2.2.2.2.1 rfl | exact hd.2.2.2.2.2.2.2.2.2.1 rfl
          clear hd;have h8:=d19.choose_spec.1;have h9:=d19.choose_spec.2;generalize d19.choose=r9 at h8 h9;clear d19;subst h8;unfold relAt;simp only [putAll]
          go_simp
          simp only [relUpon]
          exact ⟨Below.refl _ _,by first | rfl | trivial⟩
        · intro wr hC hd
          have d20:C=0→FrS RdTz (fun k=>k<w0.heap.size) wr v20 L:=by first | exact hd.1 rfl | exact hd.2.1 rfl | exact hd.2.2.1 rfl | exact hd.2.2.2.1 rfl | exact hd.2.2.2.2.1 rfl | exact hd.2.2.2.2.2.1 rfl | exact hd.2.2.2.2.2.2.1 rfl | exact hd.2.2.2.2.2.2.2.1 rfl | exact hd.2.2.2.2.2.2.2.2.1 rfl | exact hd.2.2.2.2.2.2.2.2.2.1 rfl
          clear hd;unfold relAt;simp only [putAll]
          go_simp
          simp only [relUpon]
          exact ⟨Below.refl _ _,d20⟩
        · intro wr hC hd
          have d21:v21=.int .i64 C:=by first | exact hd.1 rfl | exact hd.2.1 rfl | exact hd.2.2.1 rfl | exact hd.2.2.2.1 rfl | exact hd.2.2.2.2.1 rfl | exact hd.2.2.2.2.2.1 rfl | exact hd.2.2.2.2.2.2.1 rfl | exact hd.2.2.2.2.2.2.2.1 rfl | exact hd.2.2.2.2.2.2.2.2.1 rfl | exact hd.2.2.2.2.2.2.2.2.2.1 rfl
          subst d21;clear hd;unfold relAt;simp only [putAll]
          go_simp
          simp only [relUpon]
          exact ⟨Below.refl _ _,by first | rfl | trivial⟩
     · intro vs wq hvs hC hI
       match vs,hvs,hI with
       | [v0,v1,v2,v3,v4,v5,v6,v7,v8,v9,v10,v11,v12,v13,v14,v15,v16,v17,v18,v19,v20,v21,v22,v23],_,hI =>
        have d0:v0=.pointer (some ⟨P,0,none⟩):=hI 0 (by decide);subst d0;have d1:v1=.pointer (some ⟨P,0,none⟩):=hI 1 (by decide);subst d1;have d2:v2=.pointer (some ⟨P,0,none⟩):=hI 2 (by decide);subst d2;have d3:v3=.slice (some ⟨g1,0,none⟩) 6 uc1:=hI 3 (by decide);subst d3;have d4:v4=.pointer (some ⟨X,off,none⟩):=hI 4 (by decide);subst d4;have d5:v5=.pointer (some ⟨X,off,none⟩):=hI 5 (by decide);subst d5;have d6:v6=.pointer (some ⟨X,off+1,none⟩):=hI 6 (by decide);subst d6;have d7:v7=.int .i64 (p:Int):=hI 7 (by decide);subst d7;have d8:v8=.pointer (some ⟨g1,p,none⟩):=hI 8 (by decide);subst d8;have d9:v9=.slice ao n1 ac:=hI 9 (by decide);subst d9;have d10:v10=.pointer (some ⟨X,off,none⟩):=hI 10 (by decide);subst d10;have d11:v11=.pointer (some ⟨X,off,none⟩):=hI 11 (by decide);subst d11;have d12:v12=.pointer (some ⟨X,off+4,none⟩):=hI 12 (by decide);subst d12;have d13:v13=.agg #[.int .i64 f,.int .i64 t]:=hI 13 (by decide);subst d13;have d14:v14=.pointer (some ⟨X,off,none⟩):=hI 14 (by decide);subst d14;have d15:v15=.pointer (some ⟨X,off,none⟩):=hI 15 (by decide);subst d15;have d16:v16=.pointer (some ⟨X,off+6,none⟩):=hI 16 (by decide);subst d16;have d17:v17=.agg #[.int .i64 sf,.int .i64 st]:=hI 17 (by decide);subst d17;have d18:∃ r,v18=.tuple #[r,.int .i64 C]∧(C=0→FrS RdTz (fun k=>k<w0.heap.size) wq r L):=hI 18 (by decide);have d19:∃ r,v19=.tuple #[r,.int .i64 C]∧(C=0→FrS RdTz (fun k=>k<w0.heap.size) wq r L):=hI 19 (by decide);have d20:C=0→FrS RdTz (fun k=>k<w0.heap.size) wq v20 L:=hI 20 (by decide);have d21:v21=.int .i64 C:=hI 21 (by decide);subst d21;have d22:C=0→FrS RdTz (fun k=>k<w0.heap.size) wq v22 L:=hI 22 (by decide);have d23:v23=.int .i64 C:=hI 23 (by decide);subst d23;clear hI;simp only [putAll]
        go_simp
        obtain ⟨r18,rfl,-⟩:=d18;obtain ⟨r19,rfl,-⟩:=d19;have HC9:=hid hC;clear hC x1 x4 x5 x6 x7 t0 p0 d20;by_cases h0:C=0
        · have hF:=d22 h0
          obtain ⟨la,lc,hvl⟩:=Rds.shape (E:=eTotal) (show Rds eTotal wq.heap.size wq v22 L from hF.now);obtain ⟨ks,hO,hkl,hfin⟩:=HO.out.appL;subst hvl;subst h0;obtain ⟨ll,hll⟩:∃ ll,ll=L.length:=⟨_,rfl⟩;rw [← hll] at hF ⊢;have hbq:=HO.out.box.on HC9.out;have y1:=hbq.cell 1 _ rfl;have HOw:=hid (hO.below HC9.out (Nat.le_refl _));have Hfin:=hid hfin;have Hkl:Hid (ks.length=m):=hid (by rw [hkl,← Hm.out]);have HF:=hid hF;have hsz:base≤wq.heap.size:=Nat.le_trans HO.out.hb HC9.out.size;clear hF d22 hO hkl hfin hbq hll x0 p1;go_wp2_with (first | (at_builtin;refine wpList_appS (E:=eS) rfl _ _ 33 rfl Tryz.underlying33 hi hz0 hz1 hz2 rfl (by decide) rfl rfl (HOw.out.alloc _) (rds_one (E:=eS) (x:=⟨la,ll,lc⟩) trivial rfl) ?b1 ?b2 ?b3 ?_))
          case b1=>rw [Hkl.out];unfold maxLen;simp;omega
          case b2=>rw [Hkl.out];first | (simp;omega) | omega
          case b3=>first | omega | (simp;omega)
          intro v8 w8 hO8 hg8;have hg8':=hg8.alloc;obtain ⟨ao8,c8,hv8⟩:=hO8.shape;rw [List.length_append,Hkl.out] at hv8;have hv9:v8=.slice ao8 (m+1) c8:=hv8;subst hv9;have hfin8:=Hfin.out wq ⟨la,ll,lc⟩ L HC9.out HF.out w8 _ hO8 hg8';have Hfin8:=hid hfin8.2;have y1:=hfin8.1.cell 1 _ rfl;have y2:=hfin8.1.free 1;have y3:=hfin8.1.lt;clear hO8 hg8 hg8' hv8 hfin8;go_wp2
          go_ret
          refine ⟨0,rfl,⟨fun _=>HSC.out,fun _=>rfl⟩,Hfin8.out.2,fun _=>⟨_,_,by rw [HSD.out];exact Hfin8.out.1⟩,fun h=>absurd rfl h⟩
        · have H0:=hid h0
          have hC1:(C == 0)=false:=beq_eq_false_iff_ne.2 h0;clear h0 d22 x0 p1;go_wp2
          go_ret
          exact ⟨C,rfl,by rw [HSC.out],DoFr.of_below HC9.out,fun h=>absurd h H0.out,fun _=>HO.out.on HC9.out⟩
 · have HCd:Hid (stpC o x=dkC o x):=hid (by rw [hC,if_neg h7])
   have HDd:Hid (stpD o x=⟨o.trays.set x.tc.toNat (dkD o x),o.totals⟩):=hid (by unfold stpD;rw [if_neg h7]);have hmk:=l15Make_c hO.off.rd hO.box hS hvp.1 hst.ta hst.tb ⟨hst.kd.1,by have:=hst.kd.2;omega⟩ ⟨hst.ff.1,hst.ff.2.1,by have:=hst.ff.2.2;omega⟩ hst.tx;have hr0:=dkR_zero (o:=o) hst.tx;obtain ⟨R,hR⟩:∃ R,R=dkR o x:=⟨_,rfl⟩;rw [← hR] at hmk hr0;have Hmk:=hid hmk;have Hr0:=hid hr0;have h7b:(x.kd == 7)=false:=by simpa using h7
   obtain ⟨q,hq⟩:=Int.eq_ofNat_of_zero_le hst.tc.1;have hq6:q<6:=by have:=hst.tc.2;omega
   have Hq:=hid hq;have i1:(q:Int)<6:=by omega
   clear hO hS hst hvp hcb hC hO2 hm h7 hmk hr0 hR hq;go_enter Tryz.func44,Tryz.ntmps44
   go_wp2_with fail
   with_reducible refine Hmk.out.mono ?_
   rintro e w7 ⟨⟨r,rfl,hr⟩,hb7⟩
   have Hb7:=hid hb7;by_cases h0:R=0
   · obtain ⟨dd,rfl,hF⟩:=hr h0
     obtain ⟨da,dc,rfl⟩:=hF.shape;obtain ⟨dl,hdl⟩:∃ dl,dl=(dkD o x).length:=⟨_,rfl⟩;rw [← hdl] at hF ⊢;obtain ⟨⟨y,e1⟩,e2,hN8,hfr⟩:=HO.out.setT rfl (i:=q) (by rw [Hvp.out.1];exact hq6) (hx:=⟨da,dl,dc⟩) (x:=dkD o x) hb7 hF;have t3:=(HS.out.on hb7).c3;rw [Hq.out] at t3;have b0:=(HO.out.box.on hb7).cell 0 _ rfl;have hOS:OutS base Y P (w7.setCell ⟨g1,q,none⟩ (.slice da dl dc)) (.slice (some ⟨g1,0,none⟩) 6 uc1) (.slice vo m vc) (stpD o x):=by
      rw [HDd.out,Hq.out,Int.toNat_natCast];exact hN8
     have HOS:=hid hOS;have Hfr:=hid hfr;subst h0;clear hr hF hN8 hfr hOS x0 p0 p1 hb7 hdl;go_upto_region 10 with fail
     go_still_tail 9,(by kernel_rfl)
     go_wp2
     go_ret
     exact ⟨0,rfl,⟨fun _=>by rw [HCd.out];first | exact Hr0.out.2 rfl | exact Hr0.out.2 trivial,fun _=>rfl⟩,Hfr.out.drew1,fun _=>⟨_,_,HOS.out.on ((Below.refl _ _).drew1)⟩,fun h=>absurd rfl h⟩
   · have H0:=hid h0
     have hC1:(R == 0)=false:=beq_eq_false_iff_ne.2 h0;clear h0 hr x0 p0 p1 hb7;go_wp2
     go_ret
     exact ⟨R,rfl,by rw [HCd.out];exact Hr0.out.symm,DoFr.of_below Hb7.out,fun h=>absurd h H0.out,fun _=>HO.out.on Hb7.out⟩
theorem deck_of {d d':List (List Int)} (h:∀ c∈d',c∈d) (hl:d'.length≤40) (hd:deckB d=true):deckB d'=true∧(d'=[]∨(d ≠ []∧colsD d'=colsD d)):=by
 have hp:=(deckB_parts hd).2;cases d' with
 | nil=>exact ⟨rfl,.inl rfl⟩
 | cons c r =>
  have h1:=hp c (h c (List.mem_cons_self ..));refine ⟨?_,.inr ⟨fun e=>?_,?_⟩⟩
  · unfold deckB
    rw [Bool.and_eq_true,decide_eq_true_eq,List.all_eq_true];refine ⟨fun y hy=>?_,hl⟩
    have h2:=hp y (h y hy);unfold okAt;rw [Bool.and_eq_true,decide_eq_true_eq];exact ⟨h2.1,by show y.length=c.length;rw [h2.2,h1.2]⟩
  · have:=h c (List.mem_cons_self ..)
    rw [e] at this;cases this
  · have h0:d ≠ []:=fun e=>by have:=h c (List.mem_cons_self ..);rw [e] at this;cases this
    unfold colsD;rw [if_neg (by simp),if_neg h0];show ((c.length:Nat):Int)=_
    rw [h1.2]
theorem ordD_rng (d:List (List Int)) (f t:Int):(∀ z∈ordD d f t,∃ k:Nat,k<d.length∧z=(k:Int))∧(ordD d f t).length≤d.length:=by
 unfold ordD;split
 · rename_i h
   have h1:=h.choose_spec.1;refine ⟨fun z hz=>rangeN_rng d.length z (h1.mem_iff.1 hz),?_⟩
   rw [h1.length_eq,rangeN_len];exact Nat.le_refl _
 · exact ⟨fun z hz=>absurd hz (by simp),Nat.zero_le _⟩
theorem pickD_mem {d:List (List Int)} {Z:List Int} (h:∀ z∈Z,∃ k:Nat,k<d.length∧z=(k:Int)):∀ c∈pickD d Z,c∈d:=by
 intro c hc;unfold pickD at hc;obtain ⟨z,hz,rfl⟩:=List.mem_map.1 hc;obtain ⟨k,hk,rfl⟩:=h z hz;rw [Int.toNat_natCast,List.getD_eq_getElem?_getD,List.getElem?_eq_getElem hk];exact List.getElem_mem hk
theorem pickD_len (d:List (List Int)) (Z:List Int):(pickD d Z).length=Z.length:=by unfold pickD;simp
theorem firD_mem {d:List (List Int)} {f t:Int}:(∀ c∈firD d f t,c∈d)∧(firD d f t).length≤d.length:=by
 unfold firD;refine ⟨pickD_mem (fun z hz=>?_),by rw [pickD_len];exact selI_len _ _⟩
 obtain ⟨k,h1,h2,-⟩:=selI_rng _ _ z hz;exact ⟨k,h1,h2⟩
theorem colO_of {C:Int}:∀ {ts:List (List (List Int))},(∀ d∈ts,d=[]∨colsD d=C)→(∀ d∈ts,d=[])∨colO ts=C
 | [],_=>.inl (fun d hd=>by cases hd)
 | [] :: ts,h=>by
  rcases colO_of (fun d hd=>h d (List.mem_cons_of_mem _ hd)) with e | e
  · exact .inl (fun d hd=>by rcases List.mem_cons.1 hd with rfl | hd;exact rfl;exact e d hd)
  · exact .inr e
 | (c :: r) :: ts,h=>by
  rcases h (c :: r) (List.mem_cons_self ..) with e | e
  · cases e
  · exact .inr (by rw [← e];rfl)
theorem offB_mk {o:OffT} {C:Int} (h6:o.trays.length=6) (h20:o.totals.length≤20) (h:∀ d∈o.trays,deckB d=true∧(d=[]∨colsD d=C)):offB o=true:=by
 unfold offB;rw [decide_eq_true h6,decide_eq_true h20,Bool.true_and,Bool.true_and,List.all_eq_true];intro d hd;have h1:=h d hd;rw [Bool.and_eq_true];refine ⟨h1.1,?_⟩
 rw [Bool.or_eq_true,decide_eq_true_iff,decide_eq_true_iff];rcases colO_of (fun d hd=>(h d hd).2) with e | e
 · exact .inl (e d hd)
 · rcases h1.2 with e2 | e2
   · exact .inl e2
   · exact .inr (by rw [e2,e])
theorem merge_ok {a b:List (List Int)} {f t:Int} (h:merC a b f t=0):TwoOk a b f t∧a.length+b.length≤40∧(a ≠ []→b ≠ []→colsD a=colsD b):=by
 unfold merC at h;by_cases h1:twoC a b f t ≠ 0
 · rw [if_pos h1] at h;exact absurd h h1
 · rw [if_neg h1] at h
   by_cases h2:(0<a.length∧0<b.length)∧colsD a ≠ colsD b
   · rw [if_pos h2] at h;cases h
   · rw [if_neg h2] at h
     by_cases h3:¬ (ascB a f t=true∧ascB b f t=true)
     · rw [if_pos h3] at h;cases h
     · rw [if_neg h3] at h
       by_cases h4:40<a.length+b.length
       · rw [if_pos h4] at h;cases h
       · refine ⟨twoC_zero (by simpa using h1),by omega,fun ha hb=>Classical.byContradiction fun hc=>h2 ⟨⟨List.length_pos_iff.2 ha,List.length_pos_iff.2 hb⟩,hc⟩⟩
theorem deck_app {a b:List (List Int)} (ha:deckB a=true) (hb:deckB b=true) (hl:a.length+b.length≤40) (hc:a ≠ []→b ≠ []→colsD a=colsD b):deckB (a++b)=true∧(a++b=[]∨(a ≠ []∧colsD (a++b)=colsD a)∨(b ≠ []∧colsD (a++b)=colsD b)):=by
 cases a with
 | nil =>
  refine ⟨hb,?_⟩
  by_cases h0:b=[]
  · exact .inl (by rw [h0];rfl)
  · exact .inr (.inr ⟨h0,rfl⟩)
 | cons c r =>
  refine ⟨?_,.inr (.inl ⟨by simp,rfl⟩)⟩
  unfold deckB;rw [Bool.and_eq_true,decide_eq_true_eq,List.all_eq_true];refine ⟨fun y hy=>?_,by rw [List.length_append];exact hl⟩
  unfold okAt;rw [Bool.and_eq_true,decide_eq_true_eq];show cardB y=true∧y.length=c.length
  rcases List.mem_append.1 hy with h | h
  · exact (deckB_parts ha).2 y h
  · have h1:=(deckB_parts hb).2 y h
    have h0:b ≠ []:=fun e=>by rw [e] at h;cases h
    have h2:=hc (by simp) h0;unfold colsD at h2;rw [if_neg (by simp),if_neg h0] at h2;exact ⟨h1.1,by rw [h1.2];show _=c.length;have h3:((c.length:Nat):Int)=(b.headD []).length:=h2;omega⟩
theorem dk_ok {o:OffT} {x:StepT} {C:Int} (h6:o.trays.length=6) (h:∀ d∈o.trays,deckB d=true∧(d=[]∨colsD d=C)) (hA:trayP x.ta) (hB:trayP x.tb) (hc:dkC o x=0):deckB (dkD o x)=true∧(dkD o x=[]∨colsD (dkD o x)=C):=by
 have ha:=h _ (List.mem_of_getElem? (trD_at h6 hA));have hb:=h _ (List.mem_of_getElem? (trD_at h6 hB));have hal:=(deckB_parts ha.1).1;have sub:∀ d',(∀ c∈d',c∈trD o x.ta)→d'.length≤(trD o x.ta).length→deckB d'=true∧(d'=[]∨colsD d'=C):=by
  intro d' h1 h2;have h3:=deck_of h1 (by omega) ha.1;refine ⟨h3.1,?_⟩
  rcases h3.2 with e | ⟨e1,e2⟩
  · exact .inl e
  · rcases ha.2 with e3 | e3
    · exact absurd e3 e1
    · exact .inr (by rw [e2,e3])
 unfold dkC at hc;unfold dkD;by_cases k1:x.kd=1
 · rw [if_pos k1]
   exact sub _ (pickD_mem (ordD_rng _ _ _).1) (by rw [pickD_len];exact (ordD_rng _ _ _).2)
 · rw [if_neg k1] at hc ⊢
   by_cases k2:x.kd=2
   · rw [if_pos k2] at hc ⊢
     obtain ⟨m1,m2,m3⟩:=merge_ok hc;have h3:=deck_app ha.1 hb.1 m2 m3;have h4:=deck_of (d':=pickD (trD o x.ta++trD o x.tb) (ordD (trD o x.ta++trD o x.tb) x.ff x.ft)) (pickD_mem (ordD_rng _ _ _).1) (by rw [pickD_len];have:=(ordD_rng (trD o x.ta++trD o x.tb) x.ff x.ft).2;rw [List.length_append] at this;omega) h3.1;refine ⟨h4.1,?_⟩
     rcases h4.2 with e | ⟨e1,e2⟩
     · exact .inl e
     · rcases h3.2 with e3 | ⟨e3,e4⟩ | ⟨e3,e4⟩
       · exact absurd e3 e1
       · rcases ha.2 with e5 | e5
         · exact absurd e5 e3
         · exact .inr (by rw [e2,e4,e5])
       · rcases hb.2 with e5 | e5
         · exact absurd e5 e3
         · exact .inr (by rw [e2,e4,e5])
   · rw [if_neg k2] at hc ⊢
     by_cases k5:x.kd=5
     · rw [if_pos k5]
       exact sub _ (fun c hc=>(List.mem_filter.1 hc).1) (List.length_filter_le _ _)
     · rw [if_neg k5] at hc ⊢
       by_cases k6:x.kd=6
       · rw [if_pos k6]
         exact sub _ firD_mem.1 firD_mem.2
       · rw [if_neg k6] at hc ⊢
         by_cases k3:x.kd=3
         · rw [if_pos k3]
           exact sub _ (fun c hc=>(List.mem_filter.1 hc).1) (List.length_filter_le _ _)
         · rw [if_neg k3]
           exact sub _ (fun c hc=>(List.mem_filter.1 hc).1) (List.length_filter_le _ _)
theorem stp_st {o:OffT} {x:StepT} (hc:stpC o x=0):StOk x (colO o.trays):=by
 unfold stpC at hc;cases hs:stB x (colO o.trays) with
 | false=>rw [if_pos hs] at hc;cases hc
 | true=>exact of_decide_eq_true hs
theorem stp_ok {o:OffT} {x:StepT} (hv:offB o=true) (hc:stpC o x=0):offB (stpD o x)=true:=by
 have hp:=offB_parts hv;have hs:=stp_st hc;unfold stpC at hc;rw [if_neg (by rw [show stB x (colO o.trays)=true from decide_eq_true hs];decide)] at hc;unfold stpD;by_cases h7:x.kd=7
 · rw [if_pos h7] at hc ⊢
   by_cases h20:o.totals.length=20
   · rw [if_pos h20] at hc;cases hc
   · exact offB_mk (C:=colO o.trays) hp.1 (by show (o.totals++[_]).length≤20;rw [List.length_append];simp;omega) hp.2.2
 · rw [if_neg h7] at hc ⊢
   have hd:=dk_ok hp.1 hp.2.2 hs.ta hs.tb hc;refine offB_mk (C:=colO o.trays) (by show (o.trays.set _ _).length=6;rw [List.length_set];exact hp.1) hp.2.1 (fun d hdm=>?_)
   rcases List.mem_or_eq_of_mem_set hdm with h | h
   · exact hp.2.2 d h
   · rw [h];exact hd
def LensOk (o:OffT):Prop:=∀ l∈o.totals,l.length≤2097152
theorem stp_lens {o:OffT} {x:StepT} (hv:offB o=true) (hl:LensOk o) (hc:stpC o x=0):LensOk (stpD o x):=by
 have hp:=offB_parts hv;have hs:=stp_st hc;unfold stpD;by_cases h7:x.kd=7
 · rw [if_pos h7]
   intro l hm;rcases List.mem_append.1 hm with h | h
   · exact hl l h
   · have e:l=totD (trD o x.ta) x.ff x.ft x.sf x.st:=by simpa using h
     have h1:=selI_len (grpP (trD o x.ta) x.ff x.ft) (trD o x.ta).length;have h2:=(deckB_parts (hp.2.2 _ (List.mem_of_getElem? (trD_at hp.1 hs.ta))).1).1;rw [e,totD_len];omega
 · rw [if_neg h7];exact hl
theorem copy_of {o:OffT} (hv:offB o=true) (hl:LensOk o):o.trays.length≤1000∧(∀ d∈o.trays,RowsOk d)∧o.totals.length≤1000:=by
 have hp:=offB_parts hv;exact ⟨by rw [hp.1];omega,fun d hd=>rows_ok (hp.2.2 d hd).1,by omega⟩
section
variable {base P:Nat} {Y Y' S:Nat→Prop} {w w':World} {u v:Value} {o:OffT}
theorem OutS.first {t:TypeId} (h:OffN base (fun k=>k<base) w u v o) (hb:base≤w.heap.size):OutS base (fun _=>False) w.heap.size (w.alloc (.cells #[u,v] t)) u v o:=by
 have hB:=Box.new w [u,v] t;have hl:=h.lt;have hb1:Below w.heap.size w (w.alloc (.cells #[u,v] t)):=(Below.refl _ _).alloc (Nat.le_refl _) _;refine ⟨h.agr (S':=fun _=>False) (Agr.on hb1) (fun k hk _=>hk.elim) (fun k hk hlt=>?_),hB,fun q hq=>⟨?_,fun e=>e⟩,⟨hb,fun e=>e⟩,Nat.le_trans hb hb1.size,fun k hk=>hk.elim⟩
 · rcases hk with e | e | e
   · omega
   · exact e
   · exact e.elim
 · rcases hq with e | e
   · have:=(hl.1 q e).2;omega
   · have:=(hl.2 q e).2;omega
end
noncomputable def runP:OffT→List StepT→OffT × Nat
 | o,[]=>(o,0)
 | o,x :: xs=>if stpC o x=0 then ((runP (stpD o x) xs).1,(runP (stpD o x) xs).2+1) else (o,0)
theorem runP_le:∀ (o:OffT) (xs:List StepT),(runP o xs).2≤xs.length
 | o,[]=>Nat.le_refl _
 | o,x :: xs=>by
  unfold runP;split
  · have:=runP_le (stpD o x) xs
    simp only [List.length_cons];omega
  · exact Nat.zero_le _
theorem runP_ok:∀ (o:OffT) (xs:List StepT),offB o=true→LensOk o→offB (runP o xs).1=true∧LensOk (runP o xs).1
 | o,[],hv,hl=>⟨hv,hl⟩
 | o,x :: xs,hv,hl=>by
  unfold runP;split
  · rename_i h
    exact runP_ok (stpD o x) xs (stp_ok hv h) (stp_lens hv hl h)
  · exact ⟨hv,hl⟩
theorem runP_cons (o:OffT) (x:StepT) (xs:List StepT):runP o (x :: xs)=if stpC o x=0 then ((runP (stpD o x) xs).1,(runP (stpD o x) xs).2+1) else (o,0):=rfl
theorem runP_app:∀ (o:OffT) (xs ys:List StepT),runP o (xs++ys)=if (runP o xs).2<xs.length then runP o xs else ((runP (runP o xs).1 ys).1,(runP (runP o xs).1 ys).2+xs.length)
 | o,[],ys=>by simp [runP]
 | o,x :: xs,ys=>by
  have ih:=runP_app (stpD o x) xs ys;rw [List.cons_append,runP_cons o x (xs++ys),runP_cons o x xs];by_cases h:stpC o x=0
  · rw [if_pos h,if_pos h]
    simp only [List.length_cons]
    by_cases h2:(runP (stpD o x) xs).2<xs.length
    · rw [if_pos h2] at ih
      rw [if_pos (by omega),ih]
    · rw [if_neg h2] at ih
      rw [if_neg (by omega),ih];congr 1
  · rw [if_neg h,if_neg h,if_pos (by simp)]
theorem runP_at {o:OffT} {xs:List StepT} {k:Nat} {x:StepT} (h:xs[k]?=some x):runP o (xs.drop k)=if stpC o x=0 then ((runP (stpD o x) (xs.drop (k+1))).1,(runP (stpD o x) (xs.drop (k+1))).2+1) else (o,0):=by
 obtain ⟨h1,e⟩:=List.getElem?_eq_some_iff.1 h;rw [List.drop_eq_getElem_cons h1,e];rfl
theorem runP_end {o:OffT} {xs:List StepT} {k:Nat} (h:xs.length≤k):runP o (xs.drop k)=(o,0):=by rw [List.drop_eq_nil_of_le h];rfl
noncomputable def oaC (o:OffT) (xs:List StepT) (n:Int):Int:=if offB o=false then 1 else if 20<xs.length∨¬ (0≤n∧n≤xs.length) then 2 else if (runP o (xs.take n.toNat)).2<n.toNat then 6 else 0
noncomputable def oaO (o:OffT) (xs:List StepT) (n:Int):OffT:=if oaC o xs n=0 then (runP o (xs.take n.toNat)).1 else ⟨[],[]⟩
noncomputable def raC (o:OffT) (xs ys:List StepT):Int:=if offB o=false then 1 else if 20<xs.length+ys.length then 2 else if (runP o (xs++ys)).2<xs.length+ys.length then 6 else 0
noncomputable def raO (o:OffT) (xs ys:List StepT):OffT:=if raC o xs ys=0 then (runP o (xs++ys)).1 else ⟨[],[]⟩
theorem OffN.nil (base:Nat) (X:Nat→Prop) (w:World):OffN base X w (.slice none 0 0) (.slice none 0 0) ⟨[],[]⟩:=⟨[],[],Own.nil _ _ _ _,Own.nil _ _ _ _,RwsG.nil _ _ _,RwsG.nil _ _ _,fun q hq=>by cases hq⟩
def RefPost (w0:World) (o:OffT) (C:Int) (e:Ending) (w':World):Prop :=
 (∃ u' v',e=.returned (.tuple #[.agg #[u',v'],.int .i64 C])∧OffN w0.heap.size (fun k=>k<w0.heap.size) w' u' v' o)∧Below w0.heap.size w0 w'
theorem RefPost.sh {w0 w':World} {o:OffT} {C:Int} {e:Ending} (h:RefPost w0 o C e w'):(∃ a1 c1 a2 c2,e=.returned (.tuple #[.agg #[.slice a1 o.trays.length c1,.slice a2 o.totals.length c2],.int .i64 C])∧OffN w0.heap.size (fun k=>k<w0.heap.size) w' (.slice a1 o.trays.length c1) (.slice a2 o.totals.length c2) o)∧Below w0.heap.size w0 w':=by
 obtain ⟨⟨u',v',h1,h2⟩,h3⟩:=h;obtain ⟨⟨a1,c1,e1⟩,a2,c2,e2⟩:=h2.shape;subst e1;subst e2;exact ⟨⟨a1,c1,a2,c2,h1,h2⟩,h3⟩
theorem belowTwoR {w0 w:World} {R:Nat} (hb:Below w0.heap.size w0 w) (hR:w0.heap.size≤R) (x y:Value):Below w0.heap.size w0 ((w.setCell ⟨R,0,none⟩ x).setCell ⟨R,1,none⟩ y):=(hb.setCell hR _).setCell hR _
theorem OffN.res {base R:Nat} {w0 w:World} {u v x y:Value} {o:OffT} (h:OffN base (fun k=>k<base) w u v o) (hR:R<base) (hn:w0.heap.size≤base):OffN w0.heap.size (fun k=>k<w0.heap.size) ((w.setCell ⟨R,0,none⟩ x).setCell ⟨R,1,none⟩ y) u v o:=by
 have hl:=h.lt;exact (h.low hn).agr (agr2 w R x y) (fun k (hk:k=R) _=>⟨by omega,fun e=>by have:=(hl.1 k e).1;omega,fun e=>by have:=(hl.2 k e).1;omega⟩) (fun k hk _=>by have h9:k<w0.heap.size:=hk;show k<base;omega)
theorem OutS.plain {base P:Nat} {Y:Nat→Prop} {w:World} {u v:Value} {o:OffT} (h:OutS base Y P w u v o):OffN base (fun k=>k<base) w u v o:=h.off.more (fun k hk _=>.inr (.inl hk))
set_option maxHeartbeats 2000000 in
theorem l15Run_c {o:OffT} {xs:List StepT} {u v s:Value} {w0:World} {A B P0:Nat} (ho:RdOff B w0 u v o) (hP0:Box w0 P0 [u,v]) (hx:RdStepS A w0 s xs) (hv:offB o=true) (hl:LensOk o) :
 Calls Tryz.prog 59 #[.pointer (some ⟨P0,0,none⟩),s] w0 fun e w'=>RefPost w0 (runP o xs).1 (runP o xs).2 e w':=by
 have hle:=hx.le;obtain ⟨so,sc,rfl,hso⟩:=eStep_open hx.tight;obtain ⟨T,hT⟩:∃ T,T=w0.alloc (.cells #[.slice none 0 0,.slice none 0 0] 35):=⟨_,rfl⟩;have hbT:Below w0.heap.size w0 T:=by rw [hT];exact (Below.refl _ _).alloc (Nat.le_refl _) _
 have hTz:T.heap.size=w0.heap.size+1:=by rw [hT];simp
 have hRT:Box T w0.heap.size [.slice none 0 0,.slice none 0 0]:=by rw [hT];exact Box.new w0 [.slice none 0 0,.slice none 0 0] _
 have hcp0:=copy_of hv hl;have How:=hid (l15Own_c (RdOff.onn ho hbT) (hP0.on hbT) ⟨hcp0.1,hcp0.2.1,hcp0.2.2,hl⟩);obtain ⟨n,hn⟩:∃ n,n=xs.length:=⟨_,rfl⟩;obtain ⟨RR,hRR⟩:∃ r,runP o xs=r:=⟨_,rfl⟩;have HR0:Hid (RR=((runP o (xs.drop 0)).1,(runP o (xs.drop 0)).2+0)):=hid (by rw [List.drop_zero];exact hRR.symm);have HT:=hid hT;have HbT:=hid hbT;have HRT:=hid hRT;have Hso:=hid hso;have HTz:=hid hTz;have HV:=hid (And.intro hv hl);rw [← hn] at hle Hso ⊢;rw [hRR];have Hn:=hid hn;clear ho hx hv hl hso hT hbT hRT hcp0 hn hRR hTz hP0;go_enter Tryz.func59,Tryz.ntmps59
 go_upto_region 1 with fail
 rw [← HT.out];go_wp2_with fail
 with_reducible refine How.out.mono ?_
 rintro e w3 ⟨⟨u1,v1,rfl,⟨ua,uac,rfl⟩,⟨va,vac,rfl⟩,hN⟩,hb3⟩
 obtain ⟨P,hP⟩:∃ P,P=w3.heap.size:=⟨_,rfl⟩;obtain ⟨W,hW⟩:∃ W,W=w3.alloc (.cells #[.slice ua o.trays.length uac,.slice va o.totals.length vac] 35):=⟨_,rfl⟩;have hb32:Below w3.heap.size w3 W:=by rw [hW];exact (Below.refl _ _).alloc (Nat.le_refl _) _
 have hS1:OutS T.heap.size (fun _=>False) P W (.slice ua o.trays.length uac) (.slice va o.totals.length vac) o:=by
  have h:=OutS.first (t:=35) hN hb3.size
  rw [← hW,← hP] at h;exact h
 have hbW:=HbT.out.trans ((hb3.trans (hb32.mono hb3.size)).mono HbT.out.size);have HS0:=hid hS1;have HbW:=hid hbW;have HRW:=hid ((HRT.out.on hb3).on hb32);have HW:=hid hW;have HP:=hid hP;clear hb3 hN hb32 hS1 hbW hW hP How HRT;go_upto_region 2 with fail
 rw [← HW.out,← HP.out];go_wp2
 go_loopw [7] (fun iv wr=>∃ (k:Nat) (oc:OffT) (u v:Value),k≤n∧iv=.int .i64 k∧Hid (OutS T.heap.size (fun _=>False) P wr u v oc)∧Hid (Box wr w0.heap.size [.slice none 0 0,.slice none 0 0])∧Hid (offB oc=true∧LensOk oc)∧Hid (RR=((runP oc (xs.drop k)).1,(runP oc (xs.drop k)).2+k))∧Hid (Below w0.heap.size w0 wr)) (fun i _=>n - (intOf i).toNat)
 case atStart=>exact ⟨0,o,_,_,Nat.zero_le _,rfl,HS0,HRW,HV,HR0,HbW⟩
 case round =>
  obtain ⟨k,oc,u,v,hk,rfl,HS,HRb,HVo,HRk,Hb⟩:=hrel;clear HS0 HRW HV HR0 HbW;obtain ⟨⟨ua,uc,rfl⟩,va,vc,rfl⟩:=HS.out.off.shape;obtain ⟨N1,hN1⟩:∃ m,m=oc.trays.length:=⟨_,rfl⟩;obtain ⟨N2,hN2⟩:∃ m,m=oc.totals.length:=⟨_,rfl⟩;rw [← hN1,← hN2] at HS;clear hN1 hN2;by_cases hkn:k<n
  · obtain ⟨sb,soff,rfl,slt,scc⟩:=Hso.out (by omega)
    obtain ⟨x,hxk,⟨e0,e1,e2,e3,e4,e5,e6,e7,e8⟩,bx⟩:=scc k hkn;have hst0:StAt w0 sb (soff+k * 9) x:=⟨slt.2,e0,e1,e2,e3,e4,e5,e6,e7,e8⟩;have HSt:=hid (hst0.on Hb.out);have Hsb:=hid (show sb<T.heap.size by rw [HTz.out];have:=slt.2;omega);have hvp:=offB_parts HVo.out.1;have hcb:=colO_bd (fun d hd=>(hvp.2.2 d hd).1);have Hwd:Hid (∀ w,Below wr.heap.size wr w→Calls Tryz.prog 42 #[.pointer (some ⟨P,0,none⟩)] w fun e w'=>e=.returned (.int .i64 (colO oc.trays))∧w=w'):=hid (fun w hw=>l15Width_c (HS.out.on hw).off.rd (HS.out.on hw).box);have Hms:=hid (runP_at (o:=oc) hxk);obtain ⟨V2,hV2⟩:∃ V2,V2=stB x (colO oc.trays):=⟨_,rfl⟩;obtain ⟨CO,hCO⟩:∃ c,c=colO oc.trays:=⟨_,rfl⟩;have Hsp:Hid (∀ w,Below wr.heap.size wr w→Calls Tryz.prog 41 #[.pointer (some ⟨sb,soff+k * 9,none⟩),.int .i64 CO] w fun e w'=>e=.returned (.bool V2)∧Below w.heap.size w w'):=hid (fun w hw=>by rw [hV2,hCO];exact l15Step_c x (colO oc.trays) sb (soff+k * 9) w bx hcb (HSt.out.on hw));rw [← hCO] at Hwd;have HV2:=hid hV2;have ik:(k:Int)<(n:Int):=by omega
    clear scc hxk e0 e1 e2 e3 e4 e5 e6 e7 e8 bx hst0 hvp hcb hV2 hCO slt;go_upto_region 5 with fail
    cases V2 with
    | false =>
     have HE:Hid (RR=(oc,k)):=hid (by rw [HRk.out,Hms.out,if_neg (by unfold stpC;rw [if_pos HV2.out.symm];decide)];simp);refine wp_region_one (W:=wr) 12 (fun i=>match i with | 0=>0 | 1=>0 | 2=>0 | 3=>0 | 4=>0 | 5=>0 | 6=>0 | 7=>0 | 8=>0 | 9=>0 | 10=>0 | 11=>0 | 12=>2 | _=>2) (fun i v w=>match i with  | _=>True) (fun i x v=>match i with | 0=>v=.slice (some ⟨sb,soff,none⟩) n sc | 1=>v=.int .i64 k | 2=>v=.pointer (some ⟨sb,soff+k * 9,none⟩) | 3=>v=.int .i64 CO | 4=>v=.bool false | 5=>v=.bool true | 6=>v=.bool true | 7=>v=undef | 8=>v=undef | 9=>v=undef | 10=>v=undef | 11=>v=undef | _=>True) (fun v w=>Below wr.heap.size wr w∧v=.bool true) (by kernel_rfl) (by kernel_rfl) (by kernel_rfl) (by kernel_rfl) ?_ ?_ ?_ ?_
     · intro i v w w' h hb
       match i,h with
       | 0,h=>exact h
       | 1,h=>exact h
       | 2,h=>exact h
       | 3,h=>exact h
       | 4,h=>exact h
       | 5,h=>exact h
       | 6,h=>exact h
       | 7,h=>exact h
       | 8,h=>exact h
       | 9,h=>exact h
       | 10,h=>exact h
       | 11,h=>exact h
       | 12,h=>exact h
       | (_+13),h=>exact h
     · intro i x y v hp h
       match i,hp,h with
       | 0,hp,h=>exact h
       | 1,hp,h=>exact h
       | 2,hp,h=>exact h
       | 3,hp,h=>exact h
       | 4,hp,h=>exact h
       | 5,hp,h=>exact h
       | 6,hp,h=>exact h
       | 7,hp,h=>exact h
       | 8,hp,h=>exact h
       | 9,hp,h=>exact h
       | 10,hp,h=>exact h
       | 11,hp,h=>exact h
       | 12,hp,h=>exact h
       | (_+13),hp,h=>exact h
     · intro vs hvs
       match vs,hvs with
       | [v0,v1,v2,v3,v4,v5,v6,v7,v8,v9,v10,v11,v12],_ =>
        refine ⟨?_,?_,?_,?_,?_,?_,?_,?_,?_,?_,?_,?_,?_,trivial⟩
        · refine oneStep_b ?_ ?_ ?_
          · exact (by decide)
          · kernel_rfl
          intro wy hC hd;clear hd;refine relAtG_yes ?_ ?_
          · exact wanted_none rfl
          unfold relAt;simp only [putAll]
          go_simp
          simp only [relUpon]
          first | trivial | exact ⟨Below.refl _ _,trivial⟩ | exact ⟨Below.refl _ _,trivial,by first | rfl | trivial⟩ | exact ⟨Below.refl _ _,by first | rfl | trivial⟩
        · refine oneStep_b ?_ ?_ ?_
          · exact (by decide)
          · kernel_rfl
          intro wy hC hd;clear hd;refine relAtG_yes ?_ ?_
          · exact wanted_none rfl
          unfold relAt;simp only [putAll]
          go_simp
          simp only [relUpon]
          first | trivial | exact ⟨Below.refl _ _,trivial⟩ | exact ⟨Below.refl _ _,trivial,by first | rfl | trivial⟩ | exact ⟨Below.refl _ _,by first | rfl | trivial⟩
        · refine oneStep_b ?_ ?_ ?_
          · exact (by decide)
          · kernel_rfl
          intro wy hC hd;have d0:v0=.slice (some ⟨sb,soff,none⟩) n sc:=(dep_at 0 (by kernel_rfl) hd (by decide)).2;subst d0;have d1:v1=.int .i64 k:=(dep_at 1 (by kernel_rfl) hd (by decide)).2;subst d1;clear hd;refine relAtG_yes ?_ ?_
          · exact wanted_none rfl
          unfold relAt;simp only [putAll]
          go_simp
          simp only [relUpon]
          first | trivial | exact ⟨Below.refl _ _,trivial⟩ | exact ⟨Below.refl _ _,trivial,by first | rfl | trivial⟩ | exact ⟨Below.refl _ _,by first | rfl | trivial⟩
        · refine oneStep_b ?_ ?_ ?_
          · exact (by decide)
          · kernel_rfl
          intro wy hC hd;clear hd;refine relAtG_yes ?_ ?_
          · exact wanted_none rfl
          unfold relAt;simp only [putAll]
          go_simp
          simp only [relUpon]
          with_reducible refine (Hwd.out wy hC).mono ?_
          rintro e w99 ⟨rfl,rfl⟩
          first | exact ⟨_,rfl,Below.refl _ _,rfl⟩ | exact ⟨_,rfl,Below.refl _ _,trivial,rfl⟩
        · refine oneStep_b ?_ ?_ ?_
          · exact (by decide)
          · kernel_rfl
          intro wy hC hd;have d2:v2=.pointer (some ⟨sb,soff+k * 9,none⟩):=(dep_at 2 (by kernel_rfl) hd (by decide)).2;subst d2;have d3:v3=.int .i64 CO:=(dep_at 3 (by kernel_rfl) hd (by decide)).2;subst d3;clear hd;refine relAtG_yes ?_ ?_
          · exact wanted_none rfl
          unfold relAt;simp only [putAll]
          go_simp
          simp only [relUpon]
          with_reducible refine (Hsp.out wy hC).mono ?_
          rintro e w99 ⟨rfl,hb9⟩
          first | exact ⟨_,rfl,hb9,rfl⟩ | exact ⟨_,rfl,hb9,trivial,rfl⟩
        · refine oneStep_b ?_ ?_ ?_
          · exact (by decide)
          · kernel_rfl
          intro wy hC hd;have d4:v4=.bool false:=(dep_at 4 (by kernel_rfl) hd (by decide)).2;subst d4;clear hd;refine relAtG_yes ?_ ?_
          · exact wanted_none rfl
          unfold relAt;simp only [putAll]
          go_simp
          simp only [relUpon]
          first | trivial | exact ⟨Below.refl _ _,trivial⟩ | exact ⟨Below.refl _ _,trivial,by first | rfl | trivial⟩ | exact ⟨Below.refl _ _,by first | rfl | trivial⟩
        · refine oneStep_b ?_ ?_ ?_
          · exact (by decide)
          · kernel_rfl
          intro wy hC hd;have d5:v5=.bool true:=(dep_at 5 (by kernel_rfl) hd (by decide)).2;subst d5;clear hd;refine relAtG_yes ?_ ?_
          · exact wanted_none rfl
          unfold relAt;simp only [putAll]
          go_simp
          simp only [relUpon]
          first | trivial | exact ⟨Below.refl _ _,trivial⟩ | exact ⟨Below.refl _ _,trivial,by first | rfl | trivial⟩ | exact ⟨Below.refl _ _,by first | rfl | trivial⟩
        · refine oneStep_b ?_ ?_ ?_
          · exact (by decide)
          · kernel_rfl
          intro wy hC hd;have d6:v6=.bool true:=(dep_at 6 (by kernel_rfl) hd (by decide)).2;subst d6;clear hd;refine relAtG_no ?_ ?_
          · exact wanted_no (by kernel_rfl) rfl rfl rfl rfl (by simp)
          exact ⟨Below.refl _ _,trivial,rfl⟩
        · refine oneStep_b ?_ ?_ ?_
          · exact (by decide)
          · kernel_rfl
          intro wy hC hd;have d6:v6=.bool true:=(dep_at 6 (by kernel_rfl) hd (by decide)).2;subst d6;clear hd;refine relAtG_no ?_ ?_
          · exact wanted_no (by kernel_rfl) rfl rfl rfl rfl (by simp)
          exact ⟨Below.refl _ _,trivial,rfl⟩
        · refine oneStep_b ?_ ?_ ?_
          · exact (by decide)
          · kernel_rfl
          intro wy hC hd;have d6:v6=.bool true:=(dep_at 6 (by kernel_rfl) hd (by decide)).2;subst d6;clear hd;refine relAtG_no ?_ ?_
          · exact wanted_no (by kernel_rfl) rfl rfl rfl rfl (by simp)
          exact ⟨Below.refl _ _,trivial,rfl⟩
        · refine oneStep_b ?_ ?_ ?_
          · exact (by decide)
          · kernel_rfl
          intro wy hC hd;have d6:v6=.bool true:=(dep_at 6 (by kernel_rfl) hd (by decide)).2;subst d6;clear hd;refine relAtG_no ?_ ?_
          · exact wanted_no (by kernel_rfl) rfl rfl rfl rfl (by simp)
          exact ⟨Below.refl _ _,trivial,rfl⟩
        · refine oneStep_b ?_ ?_ ?_
          · exact (by decide)
          · kernel_rfl
          intro wy hC hd;have d6:v6=.bool true:=(dep_at 6 (by kernel_rfl) hd (by decide)).2;subst d6;clear hd;refine relAtG_no ?_ ?_
          · exact wanted_no (by kernel_rfl) rfl rfl rfl rfl (by simp)
          exact ⟨Below.refl _ _,trivial,rfl⟩
        · refine oneStep_p ?_ ?_
          · kernel_rfl
          intro wy hC hd;have d6:v6=.bool true:=(dep_at 6 (by kernel_rfl) hd (by decide)).2;subst d6;clear hd;refine relAtG_yes ?_ ?_
          · exact wanted_none rfl
          unfold relAt;simp only [putAll]
          go_simp
          simp only [relUpon]
          exact ⟨hC,by first | rfl | trivial⟩
     · intro vs wq hvs hZ hI
       match vs,hvs,hZ,hI with
       | [v0,v1,v2,v3,v4,v5,v6,v7,v8,v9,v10,v11,v12],_,hZ,hI =>
        replace hZ:Below wr.heap.size wr wq∧v12=.bool true:=hZ;have d0:v0=.slice (some ⟨sb,soff,none⟩) n sc:=hI 0 (by decide) (by decide);subst d0;have d1:v1=.int .i64 k:=hI 1 (by decide) (by decide);subst d1;have d2:v2=.pointer (some ⟨sb,soff+k * 9,none⟩):=hI 2 (by decide) (by decide);subst d2;have d3:v3=.int .i64 CO:=hI 3 (by decide) (by decide);subst d3;have d4:v4=.bool false:=hI 4 (by decide) (by decide);subst d4;have d5:v5=.bool true:=hI 5 (by decide) (by decide);subst d5;have d6:v6=.bool true:=hI 6 (by decide) (by decide);subst d6;have d7:v7=undef:=hI 7 (by decide) (by decide);subst d7;have d8:v8=undef:=hI 8 (by decide) (by decide);subst d8;have d9:v9=undef:=hI 9 (by decide) (by decide);subst d9;have d10:v10=undef:=hI 10 (by decide) (by decide);subst d10;have d11:v11=undef:=hI 11 (by decide) (by decide);subst d11;clear hI;simp only [putAll]
        go_simp
        obtain ⟨hC,rfl⟩:=hZ;have HSq:=HS.out.on hC;have x0:=HSq.box.cell 0 _ rfl;have x1:=HSq.box.cell 1 _ rfl;have hRq:=HRb.out.on hC;have r0:=hRq.cell 0 _ rfl;have r1:=hRq.cell 1 _ rfl;have rf0:=hRq.free 0;have rf1:=hRq.free 1;have HF:=hid (HSq.plain.res (w0:=w0) (R:=w0.heap.size) (x:=.slice ua N1 uc) (y:=.slice va N2 vc) (by have:=HTz.out;omega) (by have:=HTz.out;omega));have HBf:=hid (belowTwoR (Hb.out.trans (hC.mono Hb.out.size)) (Nat.le_refl _) (.slice ua N1 uc) (.slice va N2 vc));clear hC HSq hRq;go_wp2
        exact bodyPost_ret (v:=.tuple #[.agg #[.slice ua N1 uc,.slice va N2 vc],.int .i64 k]) (by simp [results,Tryz.results59,go_sem,r0,r1]) rfl ⟨⟨_,_,by rw [HE.out],by rw [HE.out];exact HF.out⟩,HBf.out⟩
    | true =>
     refine wp_region_one (W:=wr) 10 (fun i=>match i with | 0=>0 | 1=>0 | 2=>0 | 3=>0 | 4=>0 | 5=>0 | 6=>0 | 7=>0 | 8=>0 | 9=>0 | 10=>2 | 11=>1 | 12=>1 | _=>2) (fun i v w=>match i with  | _=>True) (fun i x v=>match i with | 0=>v=.slice (some ⟨sb,soff,none⟩) n sc | 1=>v=.int .i64 k | 2=>v=.pointer (some ⟨sb,soff+k * 9,none⟩) | 3=>v=.int .i64 CO | 4=>v=.bool true | 5=>v=.bool false | 6=>v=.bool false | 7=>v=.slice (some ⟨sb,soff,none⟩) n sc | 8=>v=.int .i64 k | 9=>v=.pointer (some ⟨sb,soff+k * 9,none⟩) | 11=>∀ R:Int,x=.int .i64 R→v=.bool (R != 0) | 12=>∀ R:Int,x=.int .i64 R→v=.bool (R != 0) | _=>True) (fun v w=>∃ R:Int,v=.int .i64 R∧∃ wx:World,Below wr.heap.size wr wx∧DoPost T.heap.size (fun _=>False) P (.slice ua N1 uc) (.slice va N2 vc) oc x wx (.returned v) w) (by kernel_rfl) (by kernel_rfl) (by kernel_rfl) (by kernel_rfl) ?_ ?_ ?_ ?_
     · intro i v w w' h hb
       match i,h with
       | 0,h=>exact h
       | 1,h=>exact h
       | 2,h=>exact h
       | 3,h=>exact h
       | 4,h=>exact h
       | 5,h=>exact h
       | 6,h=>exact h
       | 7,h=>exact h
       | 8,h=>exact h
       | 9,h=>exact h
       | 10,h=>exact h
       | 11,h=>exact h
       | 12,h=>exact h
       | (_+13),h=>exact h
     · intro i x y v hp h
       match i,hp,h with
       | 0,hp,h=>exact h
       | 1,hp,h=>exact h
       | 2,hp,h=>exact h
       | 3,hp,h=>exact h
       | 4,hp,h=>exact h
       | 5,hp,h=>exact h
       | 6,hp,h=>exact h
       | 7,hp,h=>exact h
       | 8,hp,h=>exact h
       | 9,hp,h=>exact h
       | 10,hp,h=>exact h
       | 11,hp,h=>exact absurd rfl hp
       | 12,hp,h=>exact absurd rfl hp
       | (_+13),hp,h=>exact h
     · intro vs hvs
       match vs,hvs with
       | [v0,v1,v2,v3,v4,v5,v6,v7,v8,v9,v10,v11,v12],_ =>
        refine ⟨?_,?_,?_,?_,?_,?_,?_,?_,?_,?_,?_,?_,?_,trivial⟩
        · refine oneStep_b ?_ ?_ ?_
          · exact (by decide)
          · kernel_rfl
          intro wy hC hd;clear hd;refine relAtG_yes ?_ ?_
          · exact wanted_none rfl
          unfold relAt;simp only [putAll]
          go_simp
          simp only [relUpon]
          first | trivial | exact ⟨Below.refl _ _,trivial⟩ | exact ⟨Below.refl _ _,trivial,by first | rfl | trivial⟩ | exact ⟨Below.refl _ _,by first | rfl | trivial⟩
        · refine oneStep_b ?_ ?_ ?_
          · exact (by decide)
          · kernel_rfl
          intro wy hC hd;clear hd;refine relAtG_yes ?_ ?_
          · exact wanted_none rfl
          unfold relAt;simp only [putAll]
          go_simp
          simp only [relUpon]
          first | trivial | exact ⟨Below.refl _ _,trivial⟩ | exact ⟨Below.refl _ _,trivial,by first | rfl | trivial⟩ | exact ⟨Below.refl _ _,by first | rfl | trivial⟩
        · refine oneStep_b ?_ ?_ ?_
          · exact (by decide)
          · kernel_rfl
          intro wy hC hd;have d0:v0=.slice (some ⟨sb,soff,none⟩) n sc:=(dep_at 0 (by kernel_rfl) hd (by decide)).2;subst d0;have d1:v1=.int .i64 k:=(dep_at 1 (by kernel_rfl) hd (by decide)).2;subst d1;clear hd;refine relAtG_yes ?_ ?_
          · exact wanted_none rfl
          unfold relAt;simp only [putAll]
          go_simp
          simp only [relUpon]
          first | trivial | exact ⟨Below.refl _ _,trivial⟩ | exact ⟨Below.refl _ _,trivial,by first | rfl | trivial⟩ | exact ⟨Below.refl _ _,by first | rfl | trivial⟩
        · refine oneStep_b ?_ ?_ ?_
          · exact (by decide)
          · kernel_rfl
          intro wy hC hd;clear hd;refine relAtG_yes ?_ ?_
          · exact wanted_none rfl
          unfold relAt;simp only [putAll]
          go_simp
          simp only [relUpon]
          with_reducible refine (Hwd.out wy hC).mono ?_
          rintro e w99 ⟨rfl,rfl⟩
          first | exact ⟨_,rfl,Below.refl _ _,rfl⟩ | exact ⟨_,rfl,Below.refl _ _,trivial,rfl⟩
        · refine oneStep_b ?_ ?_ ?_
          · exact (by decide)
          · kernel_rfl
          intro wy hC hd;have d2:v2=.pointer (some ⟨sb,soff+k * 9,none⟩):=(dep_at 2 (by kernel_rfl) hd (by decide)).2;subst d2;have d3:v3=.int .i64 CO:=(dep_at 3 (by kernel_rfl) hd (by decide)).2;subst d3;clear hd;refine relAtG_yes ?_ ?_
          · exact wanted_none rfl
          unfold relAt;simp only [putAll]
          go_simp
          simp only [relUpon]
          with_reducible refine (Hsp.out wy hC).mono ?_
          rintro e w99 ⟨rfl,hb9⟩
          first | exact ⟨_,rfl,hb9,rfl⟩ | exact ⟨_,rfl,hb9,trivial,rfl⟩
        · refine oneStep_b ?_ ?_ ?_
          · exact (by decide)
          · kernel_rfl
          intro wy hC hd;have d4:v4=.bool true:=(dep_at 4 (by kernel_rfl) hd (by decide)).2;subst d4;clear hd;refine relAtG_yes ?_ ?_
          · exact wanted_none rfl
          unfold relAt;simp only [putAll]
          go_simp
          simp only [relUpon]
          first | trivial | exact ⟨Below.refl _ _,trivial⟩ | exact ⟨Below.refl _ _,trivial,by first | rfl | trivial⟩ | exact ⟨Below.refl _ _,by first | rfl | trivial⟩
        · refine oneStep_b ?_ ?_ ?_
          · exact (by decide)
          · kernel_rfl
          intro wy hC hd;have d5:v5=.bool false:=(dep_at 5 (by kernel_rfl) hd (by decide)).2;subst d5;clear hd;refine relAtG_yes ?_ ?_
          · exact wanted_none rfl
          unfold relAt;simp only [putAll]
          go_simp
          simp only [relUpon]
          first | trivial | exact ⟨Below.refl _ _,trivial⟩ | exact ⟨Below.refl _ _,trivial,by first | rfl | trivial⟩ | exact ⟨Below.refl _ _,by first | rfl | trivial⟩
        · refine oneStep_b ?_ ?_ ?_
          · exact (by decide)
          · kernel_rfl
          intro wy hC hd;have d6:v6=.bool false:=(dep_at 6 (by kernel_rfl) hd (by decide)).2;subst d6;clear hd;refine relAtG_yes ?_ ?_
          · exact wanted_yes (by kernel_rfl) rfl rfl rfl rfl (by simp)
          unfold relAt;simp only [putAll]
          go_simp
          simp only [relUpon]
          first | trivial | exact ⟨Below.refl _ _,trivial⟩ | exact ⟨Below.refl _ _,trivial,by first | rfl | trivial⟩ | exact ⟨Below.refl _ _,by first | rfl | trivial⟩
        · refine oneStep_b ?_ ?_ ?_
          · exact (by decide)
          · kernel_rfl
          intro wy hC hd;have d6:v6=.bool false:=(dep_at 6 (by kernel_rfl) hd (by decide)).2;subst d6;clear hd;refine relAtG_yes ?_ ?_
          · exact wanted_yes (by kernel_rfl) rfl rfl rfl rfl (by simp)
          unfold relAt;simp only [putAll]
          go_simp
          simp only [relUpon]
          first | trivial | exact ⟨Below.refl _ _,trivial⟩ | exact ⟨Below.refl _ _,trivial,by first | rfl | trivial⟩ | exact ⟨Below.refl _ _,by first | rfl | trivial⟩
        · refine oneStep_b ?_ ?_ ?_
          · exact (by decide)
          · kernel_rfl
          intro wy hC hd;have d6:v6=.bool false:=(dep_at 6 (by kernel_rfl) hd (by decide)).2;subst d6;have d7:v7=.slice (some ⟨sb,soff,none⟩) n sc:=(dep_at 7 (by kernel_rfl) hd (by decide)).2;subst d7;have d8:v8=.int .i64 k:=(dep_at 8 (by kernel_rfl) hd (by decide)).2;subst d8;clear hd;refine relAtG_yes ?_ ?_
          · exact wanted_yes (by kernel_rfl) rfl rfl rfl rfl (by simp)
          unfold relAt;simp only [putAll]
          go_simp
          simp only [relUpon]
          first | trivial | exact ⟨Below.refl _ _,trivial⟩ | exact ⟨Below.refl _ _,trivial,by first | rfl | trivial⟩ | exact ⟨Below.refl _ _,by first | rfl | trivial⟩
        · refine oneStep_p ?_ ?_
          · kernel_rfl
          intro wy hC hd;have d6:v6=.bool false:=(dep_at 6 (by kernel_rfl) hd (by decide)).2;subst d6;have d9:v9=.pointer (some ⟨sb,soff+k * 9,none⟩):=(dep_at 9 (by kernel_rfl) hd (by decide)).2;subst d9;clear hd;refine relAtG_yes ?_ ?_
          · exact wanted_yes (by kernel_rfl) rfl rfl rfl rfl (by simp)
          have hdo:=l15Do_c (HS.out.on hC) (HSt.out.on hC) Hsb.out HVo.out.1 HV2.out.symm;unfold relAt;simp only [putAll]
          go_simp
          simp only [relUpon]
          with_reducible refine hdo.mono ?_
          intro e w99 h;obtain ⟨R,rfl,h2⟩:=h;first | exact ⟨_,rfl,R,rfl,wy,hC,R,rfl,h2⟩ | exact ⟨_,rfl,⟨R,rfl⟩,wy,hC,R,rfl,h2⟩
        · refine oneStep_s ?_ ?_ ?_
          · exact (by decide)
          · kernel_rfl
          intro wy hA hd;replace hA:∃ R:Int,v10=.int .i64 R∧∃ wx:World,Below wr.heap.size wr wx∧DoPost T.heap.size (fun _=>False) P (.slice ua N1 uc) (.slice va N2 vc) oc x wx (.returned v10) wy:=hA;have d6:v6=.bool false:=(dep_at 6 (by kernel_rfl) hd (by decide)).2;subst d6;clear hd;refine relAtG_yes ?_ ?_
          · exact wanted_yes (by kernel_rfl) rfl rfl rfl rfl (by simp)
          have h8:=hA.choose_spec.1;generalize hA.choose=R at h8;clear hA;subst h8;unfold relAt;simp only [putAll]
          go_simp
          simp only [relUpon]
          first | trivial | exact ⟨rfl,trivial⟩ | exact ⟨rfl,fun R2 h2=>by injection h2 with _ h2;subst h2;rfl⟩
        · refine oneStep_s ?_ ?_ ?_
          · exact (by decide)
          · kernel_rfl
          intro wy hA hd;replace hA:∃ R:Int,v10=.int .i64 R∧∃ wx:World,Below wr.heap.size wr wx∧DoPost T.heap.size (fun _=>False) P (.slice ua N1 uc) (.slice va N2 vc) oc x wx (.returned v10) wy:=hA;have d6:v6=.bool false:=(dep_at 6 (by kernel_rfl) hd (by decide)).2;subst d6;have d11:∀ R:Int,v10=.int .i64 R→v11=.bool (R != 0):=(dep_at 11 (by kernel_rfl) hd (by decide)).2;clear hd;refine relAtG_yes ?_ ?_
          · exact wanted_none rfl
          have h8:=hA.choose_spec.1;generalize hA.choose=R at h8;clear hA;subst h8;have h11:=d11 R rfl;subst h11;unfold relAt;simp only [putAll]
          go_simp
          simp only [relUpon]
          first | trivial | exact ⟨rfl,trivial⟩ | exact ⟨rfl,fun R2 h2=>by injection h2 with _ h2;subst h2;rfl⟩
     · intro vs wq hvs hZ hI
       match vs,hvs,hZ,hI with
       | [v0,v1,v2,v3,v4,v5,v6,v7,v8,v9,v10,v11,v12],_,hZ,hI =>
        replace hZ:∃ R:Int,v10=.int .i64 R∧∃ wx:World,Below wr.heap.size wr wx∧DoPost T.heap.size (fun _=>False) P (.slice ua N1 uc) (.slice va N2 vc) oc x wx (.returned v10) wq:=hZ;have d0:v0=.slice (some ⟨sb,soff,none⟩) n sc:=hI 0 (by decide) (by decide);subst d0;have d1:v1=.int .i64 k:=hI 1 (by decide) (by decide);subst d1;have d2:v2=.pointer (some ⟨sb,soff+k * 9,none⟩):=hI 2 (by decide) (by decide);subst d2;have d3:v3=.int .i64 CO:=hI 3 (by decide) (by decide);subst d3;have d4:v4=.bool true:=hI 4 (by decide) (by decide);subst d4;have d5:v5=.bool false:=hI 5 (by decide) (by decide);subst d5;have d6:v6=.bool false:=hI 6 (by decide) (by decide);subst d6;have d7:v7=.slice (some ⟨sb,soff,none⟩) n sc:=hI 7 (by decide) (by decide);subst d7;have d8:v8=.int .i64 k:=hI 8 (by decide) (by decide);subst d8;have d9:v9=.pointer (some ⟨sb,soff+k * 9,none⟩):=hI 9 (by decide) (by decide);subst d9;have d11:∀ R:Int,v10=.int .i64 R→v11=.bool (R != 0):=hI 11 (by decide) (by decide);have d12:∀ R:Int,v10=.int .i64 R→v12=.bool (R != 0):=hI 12 (by decide) (by decide);clear hI;simp only [putAll]
        go_simp
        obtain ⟨R9,rfl,w5,hb5,R9',hR9',hiff,hdf,hok,hno⟩:=hZ;obtain rfl:R9=R9':=by injection hR9' with h;injection h
        have h12:=d12 R9 rfl;subst h12;have HSw:=HS.out.on hb5;have hT5:T.heap.size≤w5.heap.size:=HSw.hb;have hAq:Agr (fun q=>q=P∨(Value.slice ua N1 uc).ownBlock=some q∨(Value.slice va N2 vc).ownBlock=some q) w5 wq:=hdf;have hbq:Below T.heap.size w5 wq:=hdf.below HSw;have hRq:=boxAgr (HRb.out.on hb5) hAq (fun h=>by
         have hl9:=HSw.off.lt;rcases h with e | e | e
         · have:=HSw.pb.1;have:=HTz.out;omega
         · have:=(hl9.1 _ e).1;have:=HTz.out;omega
         · have:=(hl9.2 _ e).1;have:=HTz.out;omega)
        have HRq:=hid hRq;have Hbq:=hid ((Hb.out.trans (hb5.mono Hb.out.size)).trans (hbq.mono (by have:=HTz.out;omega)));by_cases hR9:R9=0
        case neg =>
         have HE:Hid (RR=(oc,k)):=hid (by rw [HRk.out,Hms.out,if_neg (fun h=>hR9 (hiff.2 h))];simp);have HSq:=hno hR9;have h1:(R9 != 0)=true:=by simpa using hR9
         have x0:=HSq.box.cell 0 _ rfl;have x1:=HSq.box.cell 1 _ rfl;have r0:=HRq.out.cell 0 _ rfl;have r1:=HRq.out.cell 1 _ rfl;have rf0:=HRq.out.free 0;have rf1:=HRq.out.free 1;have HF:=hid (HSq.plain.res (w0:=w0) (R:=w0.heap.size) (x:=.slice ua N1 uc) (y:=.slice va N2 vc) (by have:=HTz.out;omega) (by have:=HTz.out;omega));have HBf:=hid (belowTwoR Hbq.out (Nat.le_refl _) (.slice ua N1 uc) (.slice va N2 vc));rw [h1];clear hiff hdf hok hno hR9 HSw hAq hbq hRq HSq hT5 hb5 hR9' h1 d11 d12;go_wp2
         exact bodyPost_ret (v:=.tuple #[.agg #[.slice ua N1 uc,.slice va N2 vc],.int .i64 k]) (by simp [results,Tryz.results59,go_sem,r0,r1]) rfl ⟨⟨_,_,by rw [HE.out],by rw [HE.out];exact HF.out⟩,HBf.out⟩
        have hC0:=hiff.1 hR9;obtain ⟨u6,v6,hS6⟩:=hok hR9;have HVn:=hid (show offB (stpD oc x)=true∧LensOk (stpD oc x) from ⟨stp_ok (x:=x) HVo.out.1 hC0,stp_lens (x:=x) HVo.out.1 HVo.out.2 hC0⟩);have HRn:Hid (RR=((runP (stpD oc x) (xs.drop (k+1))).1,(runP (stpD oc x) (xs.drop (k+1))).2+(k+1))):=hid (by rw [HRk.out,Hms.out,if_pos hC0];simp only [Prod.mk.injEq,true_and];omega);have HS6:=hid hS6;subst hR9;clear hiff hdf hok hno hC0 HSw hAq hbq hRq hT5 hb5 hS6 hR9' d11 d12;go_wp2
        go_roundw
        case rel=>exact ⟨k+1,stpD oc x,_,_,by omega,by go_num,HS6,HRq,HVn,HRn,Hbq⟩
        case measure=>simp [intOf];omega
  · obtain rfl:k=n:=by omega
    have HE:Hid (RR=(oc,k)):=hid (by rw [HRk.out,runP_end (by have:=Hn.out;omega)];simp);have ik:¬ (k:Int)<(k:Int):=by omega
    have x0:=HS.out.box.cell 0 _ rfl;have x1:=HS.out.box.cell 1 _ rfl;have r0:=HRb.out.cell 0 _ rfl;have r1:=HRb.out.cell 1 _ rfl;have rf0:=HRb.out.free 0;have rf1:=HRb.out.free 1;have HF:=hid (HS.out.plain.res (w0:=w0) (R:=w0.heap.size) (x:=.slice ua N1 uc) (y:=.slice va N2 vc) (by have:=HTz.out;omega) (by have:=HTz.out;omega));have HBf:=hid (belowTwoR Hb.out (Nat.le_refl _) (.slice ua N1 uc) (.slice va N2 vc));go_wp2
    exact bodyPost_ret (v:=.tuple #[.agg #[.slice ua N1 uc,.slice va N2 vc],.int .i64 k]) (by simp [results,Tryz.results59,go_sem,r0,r1]) rfl ⟨⟨_,_,by rw [HE.out],by rw [HE.out];exact HF.out⟩,HBf.out⟩
set_option maxHeartbeats 4000000 in
theorem sRestartAt_c {o:OffT} {xs ys:List StepT} {u v s t:Value} {w0:World} {A A2 B:Nat} (ho:RdOff B w0 u v o) (hx:RdStepS A w0 s xs) (hy:RdStepS A2 w0 t ys) (hl:LensOk o) (hsum:xs.length+ys.length≤9223372036854775807) :
 Calls Tryz.prog 23 #[.agg #[u,v],s,t] w0 fun e w'=>RefPost w0 (raO o xs ys) (raC o xs ys) e w':=by
 have hle:=hx.le;have hle2:=hy.le;have hxt:=hx.tight;have hyt:=hy.tight;obtain ⟨so,sc,rfl⟩:=hx.shape;obtain ⟨yo,yc,rfl⟩:=hy.shape;obtain ⟨uo,uc,rfl⟩:=RdL.shape ho.1;obtain ⟨vo,vc,rfl⟩:=RdL.shape ho.2;obtain ⟨N1,hN1⟩:∃ n,n=o.trays.length:=⟨_,rfl⟩;obtain ⟨N2,hN2⟩:∃ n,n=o.totals.length:=⟨_,rfl⟩;rw [← hN1,← hN2] at ho ⊢;clear hN1 hN2;obtain ⟨T,hT⟩:∃ T,T=(w0.alloc (.cells #[.slice uo N1 uc,.slice vo N2 vc] 35)).alloc (.cells #[.slice none 0 0,.slice none 0 0] 35):=⟨_,rfl⟩;have z1:(w0.alloc (.cells #[.slice uo N1 uc,.slice vo N2 vc] 35)).heap.size=w0.heap.size+1:=by simp
 have hTz:T.heap.size=w0.heap.size+2:=by rw [hT];simp
 have hP:Box T w0.heap.size [.slice uo N1 uc,.slice vo N2 vc]:=by rw [hT];exact (Box.new w0 [.slice uo N1 uc,.slice vo N2 vc] _).alloc _
 have hR:Box T (w0.heap.size+1) [.slice none 0 0,.slice none 0 0]:=by
  have h:=Box.new (w0.alloc (.cells #[.slice uo N1 uc,.slice vo N2 vc] 35)) [.slice none 0 0,.slice none 0 0] 35;rw [z1,← hT] at h;exact h
 have hbT:Below w0.heap.size w0 T:=by rw [hT];exact ((Below.refl _ _).alloc (Nat.le_refl _) _).alloc (by rw [z1];omega) _
 have hoT:=RdOff.onn ho hbT;have hvo:=l15Ok_c hoT hP;obtain ⟨V,hV⟩:∃ V,V=offB o:=⟨_,rfl⟩;rw [← hV] at hvo;obtain ⟨C,hC⟩:∃ c,raC o xs ys=c:=⟨_,rfl⟩;obtain ⟨O,hO⟩:∃ r,raO o xs ys=r:=⟨_,rfl⟩;rw [hC,hO];unfold raO at hO;rw [hC] at hO;unfold raC at hC;rw [runP_app] at hC hO;have hxT:=Rds.onn hxt hbT;have hyT:=Rds.onn hyt hbT;obtain ⟨n,hn⟩:∃ n,n=xs.length:=⟨_,rfl⟩;obtain ⟨m,hm⟩:∃ n,n=ys.length:=⟨_,rfl⟩;rw [← hn] at hle hC hO hxT hxt hsum ⊢;rw [← hm] at hle2 hC hyT hyt hsum ⊢;obtain ⟨RR,hRR⟩:∃ r,runP o xs=r:=⟨_,rfl⟩;rw [hRR] at hC hO;have hRle:RR.2≤n:=by rw [← hRR];have:=runP_le o xs;omega
 have HT:=hid hT;have HR:=hid hR;have HP:=hid hP;have HbT:=hid hbT;have Hvo:=hid hvo;have HTz:=hid hTz;have HC:=hid hC;have HO:=hid hO;have HV:=hid hV;have HoT:=hid hoT;have Hl:=hid hl;have HxT:=hid hxT;have HyT:=hid hyT;have Hn:=hid hn;have Hm:=hid hm;have HRR:=hid hRR;clear ho hx hxt hy hyt hl hT hP hR hbT hoT hxT hyT hvo hn hm z1 hTz hC hO hV hRR;have w2:IntKind.i64.wrap ((n:Int)+(m:Int))=(n:Int)+(m:Int):=IntWalk.i64_in _ (by omega);go_enter Tryz.func23,Tryz.ntmps23
 go_upto_region 1 with fail
 rw [← HT.out];go_wp2_with fail
 with_reducible refine Hvo.out.mono ?_
 rintro e w1 ⟨rfl,hb1⟩
 have HR1:=hid (HR.out.on hb1);have HP1:=hid (HP.out.on hb1);have Ho1:=hid (RdOff.onn HoT.out hb1);have Hb1:=hid (HbT.out.trans (hb1.mono HbT.out.size));have Hz1:=hid hb1.size;have Hx1:=hid (Rds.onn HxT.out hb1);have Hy1:=hid (Rds.onn HyT.out hb1);clear hb1 HR HP HoT HxT HyT;have r0:=HR1.out.cell 0 _ rfl;have r1:=HR1.out.cell 1 _ rfl;have rf0:=HR1.out.free 0;have rf1:=HR1.out.free 1;have HBn:=hid (belowTwoR Hb1.out (Nat.le_succ _) (.slice none 0 0) (.slice none 0 0));cases V with
 | false =>
  have HE:Hid (C=1):=hid (by rw [← HC.out,if_pos HV.out.symm]);have HE2:Hid (O=⟨[],[]⟩):=hid (by rw [← HO.out,if_neg (by rw [HE.out];decide)]);go_wp2
  exact bodyPost_ret (v:=.tuple #[.agg #[.slice none 0 0,.slice none 0 0],.int .i64 1]) (by simp [results,Tryz.results23,go_sem,r0,r1]) rfl ⟨⟨_,_,by rw [HE.out],by rw [HE2.out];exact OffN.nil _ _ _⟩,HBn.out⟩
 | true =>
  have HC1:=hid (show C=_ from HC.out.symm.trans (if_neg (by rw [← HV.out];decide)));by_cases hn20:20<n+m
  · have HE:Hid (C=2):=hid (by rw [HC1.out,if_pos hn20])
    have HE2:Hid (O=⟨[],[]⟩):=hid (by rw [← HO.out,if_neg (by rw [HE.out];decide)]);have i1:(20:Int)<(n:Int)+(m:Int):=by omega
    go_wp2
    exact bodyPost_ret (v:=.tuple #[.agg #[.slice none 0 0,.slice none 0 0],.int .i64 2]) (by simp [results,Tryz.results23,go_sem,r0,r1]) rfl ⟨⟨_,_,by rw [HE.out],by rw [HE2.out];exact OffN.nil _ _ _⟩,HBn.out⟩
  · have i1:¬ (20:Int)<(n:Int)+(m:Int):=by omega
    have HC2:=hid (show C=_ from HC1.out.trans (if_neg hn20));have hrun:=l15Run_c (xs:=xs) Ho1.out HP1.out Hx1.out HV.out.symm Hl.out;rw [HRR.out] at hrun;have hok:=runP_ok o xs HV.out.symm Hl.out;rw [HRR.out] at hok;have Hok:=hid hok;have Hrun:=hid hrun;clear hrun hok;go_wp2_with fail
    with_reducible refine Hrun.out.mono ?_
    intro e w3 hpost;obtain ⟨⟨a1,k1,a2,k2,rfl,hN⟩,hb3⟩:=hpost.sh;obtain ⟨m1,hm1⟩:∃ n,n=RR.1.trays.length:=⟨_,rfl⟩;obtain ⟨m2,hm2⟩:∃ n,n=RR.1.totals.length:=⟨_,rfl⟩;rw [← hm1,← hm2] at hN ⊢;clear hpost hm1 hm2;obtain ⟨W,hW⟩:∃ W,W=w3.alloc (.cells #[.slice a1 m1 k1,.slice a2 m2 k2] 35):=⟨_,rfl⟩;have hbW:Below w3.heap.size w3 W:=by rw [hW];exact (Below.refl _ _).alloc (Nat.le_refl _) _
    have hBW:Box W w3.heap.size [.slice a1 m1 k1,.slice a2 m2 k2]:=by rw [hW];exact Box.new w3 [.slice a1 m1 k1,.slice a2 m2 k2] _
    have HNW:=hid (hN.on hbW);have Hb0:=hid (Hb1.out.trans ((hb3.trans (hbW.mono hb3.size)).mono Hb1.out.size));have HRW:=hid ((HR1.out.on hb3).on hbW);have HyW:=hid (Rds.onn (Rds.onn Hy1.out hb3) hbW);have HBW:=hid hBW;have HW:=hid hW;have Hz3:Hid (w0.heap.size+1<W.heap.size):=hid (by have:=HR1.out.lt;have:=hb3.size;have:=hbW.size;omega);clear hN hb3 hW hbW hBW Hrun r0 r1 rf0 rf1;have r0:=HRW.out.cell 0 _ rfl;have r1:=HRW.out.cell 1 _ rfl;have rf0:=HRW.out.free 0;have rf1:=HRW.out.free 1;go_upto_region 6 with fail
    rw [← HW.out];by_cases hlt:RR.2<n
    · have hlt2:(RR.2:Int)<(n:Int):=by omega
      have HE:Hid (C=6):=hid (by rw [HC2.out,if_pos hlt,if_pos (by omega)]);have HE2:Hid (O=⟨[],[]⟩):=hid (by rw [← HO.out,if_neg (by rw [HE.out];decide)]);have HBf:=hid (belowTwoR Hb0.out (Nat.le_succ _) (.slice none 0 0) (.slice none 0 0));clear hlt;go_wp2
      exact bodyPost_ret (v:=.tuple #[.agg #[.slice none 0 0,.slice none 0 0],.int .i64 6]) (by simp [results,Tryz.results23,go_sem,r0,r1]) rfl ⟨⟨_,_,by rw [HE.out],by rw [HE2.out];exact OffN.nil _ _ _⟩,HBf.out⟩
    · have hlt2:¬ (RR.2:Int)<(n:Int):=by omega
      have hrun:=l15Run_c (xs:=ys) HNW.out.rd HBW.out HyW.out Hok.out.1 Hok.out.2;obtain ⟨R2,hR2⟩:∃ r,runP RR.1 ys=r:=⟨_,rfl⟩;rw [hR2] at hrun;have hRle2:R2.2≤m:=by rw [← hR2];have:=runP_le RR.1 ys;have:=Hm.out;omega
      have HC3:Hid (C=if R2.2+n<n+m then 6 else 0):=hid (by rw [HC2.out,if_neg hlt,hR2]);have HO3:Hid ((if C=0 then R2.1 else ⟨[],[]⟩)=O):=hid (by rw [← HO.out,if_neg hlt,hR2]);have Hrun:=hid hrun;clear hrun hR2 hlt;go_wp2_with fail
      with_reducible refine Hrun.out.mono ?_
      intro e w5 hpost;obtain ⟨⟨b1,j1,b2,j2,rfl,hN⟩,hb5⟩:=hpost.sh;obtain ⟨m3,hm3⟩:∃ n,n=R2.1.trays.length:=⟨_,rfl⟩;obtain ⟨m4,hm4⟩:∃ n,n=R2.1.totals.length:=⟨_,rfl⟩;rw [← hm3,← hm4] at hN ⊢;clear hpost hm3 hm4;obtain ⟨W2,hW2⟩:∃ W2,W2=w5.alloc (.cells #[.slice b1 m3 j1,.slice b2 m4 j2] 35):=⟨_,rfl⟩;have hbW2:Below w5.heap.size w5 W2:=by rw [hW2];exact (Below.refl _ _).alloc (Nat.le_refl _) _
      have hBW2:Box W2 w5.heap.size [.slice b1 m3 j1,.slice b2 m4 j2]:=by rw [hW2];exact Box.new w5 [.slice b1 m3 j1,.slice b2 m4 j2] _
      have HNW2:=hid (hN.on hbW2);have Hb02:=hid (Hb0.out.trans ((hb5.trans (hbW2.mono hb5.size)).mono Hb0.out.size));have HRW2:=hid ((HRW.out.on hb5).on hbW2);have x0:=hBW2.cell 0 _ rfl;have x1:=hBW2.cell 1 _ rfl;have HW2:=hid hW2;clear hN hb5 hW2 hbW2 hBW2 Hrun r0 r1 rf0 rf1 hlt2;have r0:=HRW2.out.cell 0 _ rfl;have r1:=HRW2.out.cell 1 _ rfl;have rf0:=HRW2.out.free 0;have rf1:=HRW2.out.free 1;go_upto_region 9 with fail
      rw [← HW2.out];by_cases hlt:R2.2<m
      · have hlt2:(R2.2:Int)<(m:Int):=by omega
        have HE:Hid (C=6):=hid (by rw [HC3.out,if_pos (by omega)]);have HE2:Hid (O=⟨[],[]⟩):=hid (by rw [← HO3.out,if_neg (by rw [HE.out];decide)]);have HBf:=hid (belowTwoR Hb02.out (Nat.le_succ _) (.slice none 0 0) (.slice none 0 0));clear hlt;go_wp2
        exact bodyPost_ret (v:=.tuple #[.agg #[.slice none 0 0,.slice none 0 0],.int .i64 6]) (by simp [results,Tryz.results23,go_sem,r0,r1]) rfl ⟨⟨_,_,by rw [HE.out],by rw [HE2.out];exact OffN.nil _ _ _⟩,HBf.out⟩
      · have hlt2:¬ (R2.2:Int)<(m:Int):=by omega
        have HE:Hid (C=0):=hid (by rw [HC3.out,if_neg (by omega)]);have HE2:Hid (O=R2.1):=hid (by rw [← HO3.out,if_pos HE.out]);have HF:=hid (HNW2.out.res (w0:=w0) (R:=w0.heap.size+1) (x:=.slice b1 m3 j1) (y:=.slice b2 m4 j2) Hz3.out (by have:=Hz3.out;omega));have HBf:=hid (belowTwoR Hb02.out (Nat.le_succ _) (.slice b1 m3 j1) (.slice b2 m4 j2));clear hlt;go_wp2
        exact bodyPost_ret (v:=.tuple #[.agg #[.slice b1 m3 j1,.slice b2 m4 j2],.int .i64 0]) (by simp [results,Tryz.results23,go_sem,r0,r1]) rfl ⟨⟨_,_,by rw [HE.out],by rw [HE2.out];exact HF.out⟩,HBf.out⟩
theorem sizeSt_c {ao:Option Addr} {n cap:Nat} (w:World) (hn:n≤9223372036854775807) :
 Calls Tryz.prog 60 #[.slice ao n cap] w fun e w'=>e=.returned (.int .i64 n)∧w=w':=by
 go_enter Tryz.func60,Tryz.ntmps60
 go_wp2
 go_ret
 exact ⟨rfl,rfl⟩
theorem belowTwo {w0 w:World} {R:Nat} (hb:Below w0.heap.size w0 w) (hR:w0.heap.size≤R) (x y:Value):Below w0.heap.size w0 ((w.setCell ⟨R,0,none⟩ x).setCell ⟨R,1,none⟩ y):=(hb.setCell hR _).setCell hR _
theorem OwnO.res {lo R n0:Nat} {w:World} {u v x y:Value} {o:OffT} (h:OwnO (fun q=>lo≤q∧q<w.heap.size) w u v o) (hR:R<lo) (hn:n0≤lo) :
 OwnO (fun q=>n0≤q∧q<((w.setCell ⟨R,0,none⟩ x).setCell ⟨R,1,none⟩ y).heap.size) ((w.setCell ⟨R,0,none⟩ x).setCell ⟨R,1,none⟩ y) u v o :=
 (OwnO.agr h (agr2 w R x y) (fun k hk he=>by have:=hk.1;omega)).sub (fun q hq=>⟨Nat.le_trans hn hq.1,by simpa using hq.2⟩)
theorem OwnO.emptyO {S:Nat→Prop} (w:World):OwnO S w (.slice none 0 0) (.slice none 0 0) ⟨[],[]⟩:=⟨S,fun _=>False,OwnL.nil _ _ _ _,OwnL.nil _ _ _ _,fun k h=>h,fun k h=>h.elim,fun k _ h=>h⟩
def OffPost (w0:World) (o:OffT) (C:Int) (e:Ending) (w':World):Prop :=
 (∃ u' v',e=.returned (.tuple #[.agg #[u',v'],.int .i64 C])∧OwnO (fun q=>w0.heap.size≤q∧q<w'.heap.size) w' u' v' o)∧Below w0.heap.size w0 w'
theorem OffPost.sh {w0 w':World} {o:OffT} {C:Int} {e:Ending} (h:OffPost w0 o C e w'):(∃ a1 c1 a2 c2,e=.returned (.tuple #[.agg #[.slice a1 o.trays.length c1,.slice a2 o.totals.length c2],.int .i64 C])∧OwnO (fun q=>w0.heap.size≤q∧q<w'.heap.size) w' (.slice a1 o.trays.length c1) (.slice a2 o.totals.length c2) o)∧Below w0.heap.size w0 w':=by
 obtain ⟨⟨u',v',h1,h2⟩,h3⟩:=h;obtain ⟨⟨a1,c1,e1⟩,a2,c2,e2⟩:=h2.shape;subst e1;subst e2;exact ⟨⟨a1,c1,a2,c2,h1,h2⟩,h3⟩
set_option maxHeartbeats 8000000 in
theorem runFlow_o {o:OffT} {xs:List StepT} {u v s:Value} {w0:World} {A B:Nat} (ho:RdOff B w0 u v o) (hx:RdStepS A w0 s xs) (hv:offB o=true) (hl:LensOk o) :
 Calls Tryz.prog 76 #[.agg #[u,v],s] w0 fun e w'=>OffPost w0 (runP o xs).1 (runP o xs).2 e w':=by
 have hle:=hx.le;obtain ⟨so,sc,rfl,hso⟩:=eStep_open hx.tight;obtain ⟨uo,uc,rfl⟩:=RdL.shape ho.1;obtain ⟨vo,vc,rfl⟩:=RdL.shape ho.2;obtain ⟨N1,hN1⟩:∃ n,n=o.trays.length:=⟨_,rfl⟩;obtain ⟨N2,hN2⟩:∃ n,n=o.totals.length:=⟨_,rfl⟩;rw [← hN1,← hN2] at ho ⊢;clear hN1 hN2;obtain ⟨T,hT⟩:∃ T,T=(w0.alloc (.cells #[.slice uo N1 uc,.slice vo N2 vc] 35)).alloc (.cells #[.slice none 0 0,.slice none 0 0] 35):=⟨_,rfl⟩;have z1:(w0.alloc (.cells #[.slice uo N1 uc,.slice vo N2 vc] 35)).heap.size=w0.heap.size+1:=by simp
 have hTz:T.heap.size=w0.heap.size+2:=by rw [hT];simp
 have hP:Box T w0.heap.size [.slice uo N1 uc,.slice vo N2 vc]:=by rw [hT];exact (Box.new w0 [.slice uo N1 uc,.slice vo N2 vc] _).alloc _
 have hR:Box T (w0.heap.size+1) [.slice none 0 0,.slice none 0 0]:=by
  have h:=Box.new (w0.alloc (.cells #[.slice uo N1 uc,.slice vo N2 vc] 35)) [.slice none 0 0,.slice none 0 0] 35;rw [z1,← hT] at h;exact h
 have hbT:Below w0.heap.size w0 T:=by rw [hT];exact ((Below.refl _ _).alloc (Nat.le_refl _) _).alloc (by rw [z1];omega) _
 have hoT:=RdOff.onn ho hbT;have hcp:=copy_of hv hl;have hnew:=newOffice_o hoT ⟨hcp.1,hcp.2.1,hcp.2.2,hl⟩;obtain ⟨n,hn⟩:∃ n,n=xs.length:=⟨_,rfl⟩;obtain ⟨RR,hRR⟩:∃ r,runP o xs=r:=⟨_,rfl⟩;have hRle:RR.2≤n:=by rw [← hRR,hn];exact runP_le _ _
 have HR0:Hid (RR=((runP o (xs.drop 0)).1,(runP o (xs.drop 0)).2+0)):=hid (by rw [List.drop_zero];exact hRR.symm);have c0:=hP.cell 0 _ rfl;have c1:=hP.cell 1 _ rfl;have HT:=hid hT;have HR:=hid hR;have HbT:=hid hbT;have Hnew:=hid hnew;have Hso:=hid hso;have HTz:=hid hTz;have HV:=hid (And.intro hv hl);rw [← hn] at hle Hso ⊢;rw [hRR];have Hn:=hid hn;clear ho hx hv hl hso hT hP hR hbT hoT hcp hnew hn hRR z1 hTz;go_enter Tryz.func76,Tryz.ntmps76
 go_upto_region 1 with fail
 rw [← HT.out];go_wp2_with fail
 with_reducible refine Hnew.out.mono ?_
 rintro e w1 ⟨⟨u1,v1,rfl,hO⟩,hb1⟩
 obtain ⟨⟨a1,k1,e1⟩,a2,k2,e2⟩:=hO.shape;obtain ⟨n1,hn1⟩:∃ n,n=o.trays.length:=⟨_,rfl⟩;obtain ⟨n2,hn2⟩:∃ n,n=o.totals.length:=⟨_,rfl⟩;rw [← hn1] at e1;rw [← hn2] at e2;subst e1;subst e2;clear hn1 hn2;obtain ⟨P,hP⟩:∃ P,P=w1.heap.size:=⟨_,rfl⟩;obtain ⟨W,hW⟩:∃ W,W=w1.alloc (.cells #[.slice a1 n1 k1,.slice a2 n2 k2] 35):=⟨_,rfl⟩;have hbW:Below w1.heap.size w1 W:=by rw [hW];exact (Below.refl _ _).alloc (Nat.le_refl _) _
 have hBW:Box W P [.slice a1 n1 k1,.slice a2 n2 k2]:=by rw [hW,hP];exact Box.new w1 [.slice a1 n1 k1,.slice a2 n2 k2] _
 have hX:OwnX T.heap.size P W (.slice a1 n1 k1) (.slice a2 n2 k2) o:=(OwnO.agr hO (Agr.on (S:=fun _=>False) hbW) (fun _ _ h=>h)).sub (fun q hq=>⟨hq.1,by have:=hq.2;omega,Nat.lt_of_lt_of_le hq.2 hbW.size⟩);have hTP:T.heap.size≤P:=by rw [hP];exact hb1.size
 have hb0W:Below w0.heap.size w0 W:=HbT.out.trans ((hb1.trans (hbW.mono hb1.size)).mono HbT.out.size);have HX0:=hid hX;have HB0:=hid hBW;have HRW:=hid ((HR.out.on hb1).on hbW);have Hb0:=hid hb0W;have HW:=hid hW;have HP:=hid hP;have HTP:=hid hTP;clear hO hb1 hW hbW hBW hX hb0W hP hTP c0 c1 HR Hnew;go_upto_region 2 with fail
 rw [← HW.out,← HP.out];go_wp2
 go_loopw [15] (fun iv wr=>∃ (k:Nat) (oc:OffT) (a1 a2:Option Addr) (n1 n2 k1 k2:Nat),k≤n∧iv=.int .i64 k∧Hid (OwnX T.heap.size P wr (.slice a1 n1 k1) (.slice a2 n2 k2) oc)∧Hid (Box wr P [.slice a1 n1 k1,.slice a2 n2 k2])∧Hid (Box wr (w0.heap.size+1) [.slice none 0 0,.slice none 0 0])∧Hid (offB oc=true∧LensOk oc)∧Hid (RR=((runP oc (xs.drop k)).1,(runP oc (xs.drop k)).2+k))∧Hid (Below w0.heap.size w0 wr)) (fun i _=>n - (intOf i).toNat)
 case atStart=>exact ⟨0,o,_,_,_,_,_,_,Nat.zero_le _,rfl,HX0,HB0,HRW,HV,HR0,Hb0⟩
 case round =>
  obtain ⟨k,oc,a1,a2,n1,n2,k1,k2,hk,rfl,HX,HB,HRb,HVo,HRk,Hb⟩:=hrel;clear HX0 HB0 HRW HV HR0 Hb0;by_cases hkn:k<n
  · obtain ⟨sb,soff,rfl,slt,scc⟩:=Hso.out (by omega)
    obtain ⟨x,hxk,⟨e0,e1,e2,e3,e4,e5,e6,e7,e8⟩,bx⟩:=scc k hkn;have hmv:=fun (j:Nat) (y:Value) (h:w0.cell? ⟨sb,soff+k * 9+j,none⟩=some y)=>(Hb.out.cell (p:=⟨sb,soff+k * 9+j,none⟩) slt.2).trans h;have s0:wr.cell? ⟨sb,soff+k * 9,none⟩=some (.int .i64 x.kd):=hmv 0 _ e0;have s1:=hmv 1 _ e1;have s2:=hmv 2 _ e2;have s3:=hmv 3 _ e3;have s4:=hmv 4 _ e4;have s5:=hmv 5 _ e5;have s6:=hmv 6 _ e6;have s7:=hmv 7 _ e7;have s8:=hmv 8 _ e8;obtain ⟨T1,hT1⟩:∃ T1,T1=wr.alloc (.cells #[.int .i64 x.kd,.int .i64 x.ta,.int .i64 x.tb,.int .i64 x.tc,.int .i64 x.ff,.int .i64 x.ft,.int .i64 x.sf,.int .i64 x.st,.string x.tx] 75):=⟨_,rfl⟩;have hbT1:Below wr.heap.size wr T1:=by rw [hT1];exact (Below.refl _ _).alloc (Nat.le_refl _) _
    have hX1:Box T1 wr.heap.size [.int .i64 x.kd,.int .i64 x.ta,.int .i64 x.tb,.int .i64 x.tc,.int .i64 x.ff,.int .i64 x.ft,.int .i64 x.sf,.int .i64 x.st,.string x.tx]:=by rw [hT1];exact Box.new wr [.int .i64 x.kd,.int .i64 x.ta,.int .i64 x.tb,.int .i64 x.tc,.int .i64 x.ff,.int .i64 x.ft,.int .i64 x.sf,.int .i64 x.st,.string x.tx] _
    have hXT:=HX.out.on hbT1;have hcp:=copy_of HVo.out.1 HVo.out.2;have hds:=doStep_o (OwnO.rds hXT) HVo.out.1 ⟨hcp.1,hcp.2.1,hcp.2.2,HVo.out.2⟩ bx;unfold vStep at hds;have Hds:=hid hds;have Hx:=hid hxk;have HT1:=hid hT1;have HbT1:=hid hbT1;have HBT1:=hid (HB.out.on hbT1);have HXT:=hid hXT;have x0:=hX1.cell 0 _ rfl;have x1:=hX1.cell 1 _ rfl;have x2:=hX1.cell 2 _ rfl;have x3:=hX1.cell 3 _ rfl;have x4:=hX1.cell 4 _ rfl;have x5:=hX1.cell 5 _ rfl;have x6:=hX1.cell 6 _ rfl;have x7:=hX1.cell 7 _ rfl;have x8:=hX1.cell 8 _ rfl;have b0:=HBT1.out.cell 0 _ rfl;have b1:=HBT1.out.cell 1 _ rfl;clear scc hxk e0 e1 e2 e3 e4 e5 e6 e7 e8 bx hmv hT1 hbT1 hX1 hXT hcp hds;go_upto_region 5 with fail
    rw [← HT1.out];clear s0 s1 s2 s3 s4 s5 s6 s7 s8;go_wp2_with fail
    with_reducible refine Hds.out.mono ?_
    rintro e w3 ⟨⟨u3,v3,rfl,⟨⟨p1,q1,r1,rfl⟩,p2,q2,r2,rfl⟩,hN⟩,hb3⟩
    obtain ⟨T3,hT3⟩:∃ T3,T3=w3.alloc (.cells #[.slice p1 q1 r1,.slice p2 q2 r2] 35):=⟨_,rfl⟩;have hbT3:Below w3.heap.size w3 T3:=by rw [hT3];exact (Below.refl _ _).alloc (Nat.le_refl _) _
    have hX3:Box T3 w3.heap.size [.slice p1 q1 r1,.slice p2 q2 r2]:=by rw [hT3];exact Box.new w3 [.slice p1 q1 r1,.slice p2 q2 r2] _
    have hb13:Below T1.heap.size T1 T3:=hb3.trans (hbT3.mono hb3.size);have hbr3:Below wr.heap.size wr T3:=HbT1.out.trans (hb13.mono HbT1.out.size);have hms:=runP_at (o:=oc) Hx.out;have HT3:=hid hT3;have Hb3:=hid (Hb.out.trans (hbr3.mono Hb.out.size));have HB3:=hid (HBT1.out.on hb13);have HR3:=hid (HRb.out.on hbr3);have HX3:=hid (HXT.out.on hb13);have HBx3:=hid hX3;have Hms:=hid hms;have hPl:=HB.out.lt;have hz13:wr.heap.size<T1.heap.size:=by rw [HT1.out];simp
    obtain ⟨C,hC⟩:∃ C,C=stpC oc x:=⟨_,rfl⟩;rw [← hC] at hN ⊢;have HC:=hid hC;have HPl:Hid (P<T1.heap.size):=hid (by omega);have Hz3:=hid hb3.size;have HbT3:=hid hbT3;have HN:=hid hN;clear hb3 hT3 hbT3 hX3 hb13 hbr3 hms x0 x1 x2 x3 x4 x5 x6 x7 x8 b0 b1 hC hN hPl hz13;go_upto_region 6 with fail
    rw [← HT3.out];by_cases hC0:C=0
    case neg =>
     have HE:Hid (RR=(oc,k)):=hid (by rw [HRk.out,Hms.out,if_neg (by rw [← HC.out];exact hC0)];simp);have h1:(C != 0)=true:=by simpa using hC0
     have x0:=HB3.out.cell 0 _ rfl;have x1:=HB3.out.cell 1 _ rfl;have r0:=HR3.out.cell 0 _ rfl;have r1':=HR3.out.cell 1 _ rfl;have rf0:=HR3.out.free 0;have rf1:=HR3.out.free 1;have HF:=hid (HX3.out.fin (P2:=w0.heap.size+1) (x:=.slice a1 n1 k1) (y:=.slice a2 n2 k2) (by have:=HTz.out;omega) (n0:=w0.heap.size) (by have:=HTz.out;omega));have HBf:=hid (belowTwo Hb3.out (Nat.le_succ _) (.slice a1 n1 k1) (.slice a2 n2 k2));clear hC0;go_wp2
     exact bodyPost_ret (v:=.tuple #[.agg #[.slice a1 n1 k1,.slice a2 n2 k2],.int .i64 k]) (by simp [results,Tryz.results76,go_sem,r0,r1']) rfl ⟨⟨_,_,by rw [HE.out],by rw [HE.out];exact HF.out⟩,HBf.out⟩
    have HN0:=hid (HN.out hC0);have HVn:=hid (show offB (stpD oc x)=true∧LensOk (stpD oc x) from ⟨stp_ok (x:=x) HVo.out.1 (by rw [← HC.out];exact hC0),stp_lens (x:=x) HVo.out.1 HVo.out.2 (by rw [← HC.out];exact hC0)⟩);have HRn:Hid (RR=((runP (stpD oc x) (xs.drop (k+1))).1,(runP (stpD oc x) (xs.drop (k+1))).2+(k+1))):=hid (by rw [HRk.out,Hms.out,if_pos (by rw [← HC.out];exact hC0)];simp only [Prod.mk.injEq,true_and];omega);subst hC0;obtain ⟨W7,hW7⟩:∃ W7,W7=(T3.setCell ⟨P,0,none⟩ (.slice p1 q1 r1)).setCell ⟨P,1,none⟩ (.slice p2 q2 r2):=⟨_,rfl⟩;have hA7:Agr (fun q=>q=P) T3 W7:=by rw [hW7];exact agr2 _ _ _ _
    have hB7:Box W7 P [.slice p1 q1 r1,.slice p2 q2 r2]:=by rw [hW7];exact (HB3.out.set1 (j:=0) (by simp) _).set1 (j:=1) (by simp) _
    have hR7:=boxAgr HR3.out hA7 (fun e=>by have:=HTP.out;have:=HTz.out;omega);have hX7:OwnX T.heap.size P W7 (.slice p1 q1 r1) (.slice p2 q2 r2) (stpD oc x) :=
     (OwnO.agr (OwnO.agr HN0.out (Agr.on (S:=fun _=>False) HbT3.out) (fun _ _ h=>h)) hA7 (fun q hq (he:q=P)=>by have:=hq.1;have:=HPl.out;omega)).sub (fun q hq=>⟨by have:=hq.1;have:=HPl.out;have:=HTP.out;omega,by have:=hq.1;have:=HPl.out;omega,Nat.lt_of_lt_of_le hq.2 (Nat.le_trans HbT3.out.size hA7.size)⟩)
    have hb7:=Hb3.out.trans (hA7.below (fun q (hq:q=P)=>by have:=HTP.out;have:=HTz.out;omega) Hb3.out.size);have y0:=HBx3.out.cell 0 _ rfl;have y1:=HBx3.out.cell 1 _ rfl;have z0:=HB3.out.cell 0 _ rfl;have z1:=HB3.out.cell 1 _ rfl;have zf0:=HB3.out.free 0;have zf1:=HB3.out.free 1;have HX7:=hid hX7;have HB7:=hid hB7;have HR7:=hid hR7;have Hb7:=hid hb7;have HW7:=hid hW7;clear hX7 hB7 hR7 hb7 hW7 hA7;go_wp2
    rw [← HW7.out];go_roundw
    case rel=>exact ⟨k+1,stpD oc x,_,_,_,_,_,_,by omega,by go_num,HX7,HB7,HR7,HVn,HRn,Hb7⟩
    case measure=>simp [intOf];omega
  · obtain rfl:k=n:=by omega
    have HE:Hid (RR=(oc,k)):=hid (by rw [HRk.out,runP_end (by have:=Hn.out;omega)];simp);have x0:=HB.out.cell 0 _ rfl;have x1:=HB.out.cell 1 _ rfl;have xl:=HB.out.lt;have r0:=HRb.out.cell 0 _ rfl;have r1':=HRb.out.cell 1 _ rfl;have rl:=HRb.out.lt;have rf0:=HRb.out.free 0;have rf1:=HRb.out.free 1;go_upto_region 10 with fail
    refine wp_region_one (W:=wr) 3 (fun i=>match i with | 0=>0 | 1=>2 | 2=>2 | 3=>2 | 4=>2 | _=>2) (fun i v w=>match i with  | _=>True) (fun i x v=>match i with | 0=>v=.agg #[.slice a1 n1 k1,.slice a2 n2 k2] | 1=>v=.slice so k sc | 2=>v=.int .i64 k | 4=>v=.int .i64 k | _=>True) (fun v w=>∃ wz,Below wr.heap.size wr wz∧w=(wz.setCell ⟨w0.heap.size+1,0,none⟩ (.slice a1 n1 k1)).setCell ⟨w0.heap.size+1,1,none⟩ (.slice a2 n2 k2)) (by kernel_rfl) (by kernel_rfl) (by kernel_rfl) (by kernel_rfl) ?_ ?_ ?_ ?_
    · intro i v w w' h hb
      match i,h with
      | 0,h=>exact h
      | 1,h=>exact h
      | 2,h=>exact h
      | 3,h=>exact h
      | 4,h=>exact h
      | (_+5),h=>exact h
    · intro i x y v hp h
      match i,hp,h with
      | 0,hp,h=>exact h
      | 1,hp,h=>exact h
      | 2,hp,h=>exact h
      | 3,hp,h=>exact h
      | 4,hp,h=>exact h
      | (_+5),hp,h=>exact h
    · intro vs hvs
      match vs,hvs with
      | [v0,v1,v2,v3,v4],_ =>
       refine ⟨?_,?_,?_,?_,?_,trivial⟩
       · refine oneStep_b ?_ ?_ ?_
         · exact (by decide)
         · kernel_rfl
         intro wx hC hd;clear hd;with_reducible refine relAtG_yes ?_ ?_
         · exact wanted_none rfl
         have e0:=(hC.cell (p:=⟨P,0,none⟩) xl).trans x0;have e1:=(hC.cell (p:=⟨P,1,none⟩) xl).trans x1;unfold relAt;simp only [putAll]
         go_simp
         simp only [relUpon]
         first | trivial | exact ⟨Below.refl _ _,trivial⟩ | exact ⟨Below.refl _ _,trivial,by first | rfl | trivial⟩ | exact ⟨Below.refl _ _,by first | rfl | trivial⟩
       · refine oneStep_u ?_ ?_ ?_
         · exact (by decide)
         · kernel_rfl
         intro wx hd;clear hd;with_reducible refine relAtG_yes ?_ ?_
         · exact wanted_none rfl
         unfold relAt;simp only [putAll]
         go_simp
         simp only [relUpon]
         first | trivial | exact ⟨rfl,by first | rfl | trivial⟩
       · refine oneStep_u ?_ ?_ ?_
         · exact (by decide)
         · kernel_rfl
         intro wx hd;have d1:v1=.slice so k sc:=(dep_at 1 (by kernel_rfl) hd (by decide)).2;subst d1;clear hd;with_reducible refine relAtG_yes ?_ ?_
         · exact wanted_none rfl
         unfold relAt;simp only [putAll]
         go_simp
         simp only [relUpon]
         with_reducible refine (sizeSt_c _ hle).mono ?_
         rintro e w99 ⟨rfl,rfl⟩
         exact ⟨_,rfl,rfl,rfl⟩
       · refine oneStep_p ?_ ?_
         · kernel_rfl
         intro wx hC hd;have d0:v0=.agg #[.slice a1 n1 k1,.slice a2 n2 k2]:=(dep_at 0 (by kernel_rfl) hd (by decide)).2;subst d0;clear hd;with_reducible refine relAtG_yes ?_ ?_
         · exact wanted_none rfl
         have e0:=(hC.cell (p:=⟨w0.heap.size+1,0,none⟩) rl).trans r0;have e1:=(hC.cell (p:=⟨w0.heap.size+1,1,none⟩) rl).trans r1';have hq:=HRb.out.on hC;have f0:=hq.free 0;have f1:=hq.free 1;unfold relAt;simp only [putAll]
         go_simp
         simp only [relUpon]
         exact ⟨_,hC,rfl⟩
       · refine oneStep_u ?_ ?_ ?_
         · exact (by decide)
         · kernel_rfl
         intro wx hd;have d2:v2=.int .i64 k:=(dep_at 2 (by kernel_rfl) hd (by decide)).2;subst d2;clear hd;with_reducible refine relAtG_yes ?_ ?_
         · exact wanted_none rfl
         unfold relAt;simp only [putAll]
         go_simp
         simp only [relUpon]
         first | trivial | exact ⟨rfl,by first | rfl | trivial⟩
    · intro vs wq hvs hZ hI
      match vs,hvs,hZ,hI with
      | [v0,v1,v2,v3,v4],_,hZ,hI =>
       replace hZ:∃ wz,Below wr.heap.size wr wz∧wq=(wz.setCell ⟨w0.heap.size+1,0,none⟩ (.slice a1 n1 k1)).setCell ⟨w0.heap.size+1,1,none⟩ (.slice a2 n2 k2):=hZ;have d0:v0=.agg #[.slice a1 n1 k1,.slice a2 n2 k2]:=hI 0 (by decide) (by decide);subst d0;have d1:v1=.slice so k sc:=hI 1 (by decide) (by decide);subst d1;have d2:v2=.int .i64 k:=hI 2 (by decide) (by decide);subst d2;have d4:v4=.int .i64 k:=hI 4 (by decide) (by decide);subst d4;clear hI;simp only [putAll]
       go_simp
       obtain ⟨wz,hbz,rfl⟩:=hZ;have HF:=hid ((HX.out.on hbz).fin (P2:=w0.heap.size+1) (x:=.slice a1 n1 k1) (y:=.slice a2 n2 k2) (by have:=HTz.out;omega) (n0:=w0.heap.size) (by have:=HTz.out;omega));have HBf:=hid (belowTwo (Hb.out.trans (hbz.mono Hb.out.size)) (Nat.le_succ _) (.slice a1 n1 k1) (.slice a2 n2 k2));have Rz:=HRb.out.on hbz;have q0:=Rz.cell 0 _ rfl;have q1:=Rz.cell 1 _ rfl;clear x0 x1 xl r0 r1' rl rf0 rf1 hbz Rz;go_wp2
       exact bodyPost_ret (v:=.tuple #[.agg #[.slice a1 n1 k1,.slice a2 n2 k2],.int .i64 k]) (by simp [results,Tryz.results76,go_sem,q0,q1]) rfl ⟨⟨_,_,by rw [HE.out],by rw [HE.out];exact HF.out⟩,HBf.out⟩
abbrev ShT:=Option Addr × Nat × Option Addr × Nat
theorem OffPost.r {w0 w':World} {o:OffT} {C:Int} {e:Ending} (h:OffPost w0 o C e w'):(∃ r:ShT,e=.returned (.tuple #[.agg #[.slice r.1 o.trays.length r.2.1,.slice r.2.2.1 o.totals.length r.2.2.2],.int .i64 C])∧OwnO (fun q=>w0.heap.size≤q∧q<w'.heap.size) w' (.slice r.1 o.trays.length r.2.1) (.slice r.2.2.1 o.totals.length r.2.2.2) o)∧Below w0.heap.size w0 w':=by
 obtain ⟨⟨a1,c1,a2,c2,h1,h2⟩,h3⟩:=h.sh;exact ⟨⟨(a1,c1,a2,c2),h1,h2⟩,h3⟩
theorem OwnO.keep {lo:Nat} {w w':World} {u v:Value} {o:OffT} (h:OwnO (fun q=>lo≤q∧q<w.heap.size) w u v o) (hb:Below w.heap.size w w'):OwnO (fun q=>lo≤q∧q<w'.heap.size) w' u v o :=
 (OwnO.agr h (Agr.on (S:=fun _=>False) hb) (fun _ _ h=>h)).sub (fun q hq=>⟨hq.1,Nat.lt_of_lt_of_le hq.2 hb.size⟩)
theorem OwnO.low {lo lo':Nat} {w:World} {u v:Value} {o:OffT} (h:OwnO (fun q=>lo≤q∧q<w.heap.size) w u v o) (hl:lo'≤lo):OwnO (fun q=>lo'≤q∧q<w.heap.size) w u v o :=
 h.sub (fun q hq=>⟨Nat.le_trans hl hq.1,hq.2⟩)
noncomputable def afC (o:OffT) (xs:List StepT):Int:=if (runP o xs).2<xs.length then 6 else 0
noncomputable def afO (o:OffT) (xs:List StepT):OffT:=if (runP o xs).2<xs.length then ⟨[],[]⟩ else (runP o xs).1
set_option maxHeartbeats 4000000 in
theorem officeAfter_o {o:OffT} {xs:List StepT} {u v s:Value} {w0:World} {A B:Nat} (ho:RdOff B w0 u v o) (hx:RdStepS A w0 s xs) (hv:offB o=true) (hl:LensOk o) :
 Calls Tryz.prog 61 #[.agg #[u,v],s] w0 fun e w'=>OffPost w0 (afO o xs) (afC o xs) e w':=by
 have hle:=hx.le;obtain ⟨so,sc,rfl⟩:=hx.shape;obtain ⟨uo,uc,rfl⟩:=RdL.shape ho.1;obtain ⟨vo,vc,rfl⟩:=RdL.shape ho.2;obtain ⟨N1,hN1⟩:∃ n,n=o.trays.length:=⟨_,rfl⟩;obtain ⟨N2,hN2⟩:∃ n,n=o.totals.length:=⟨_,rfl⟩;rw [← hN1,← hN2] at ho ⊢;clear hN1 hN2;obtain ⟨T,hT⟩:∃ T,T=(w0.alloc (.cells #[.slice uo N1 uc,.slice vo N2 vc] 35)).alloc (.cells #[.slice none 0 0,.slice none 0 0] 35):=⟨_,rfl⟩;have z1:(w0.alloc (.cells #[.slice uo N1 uc,.slice vo N2 vc] 35)).heap.size=w0.heap.size+1:=by simp
 have hTz:T.heap.size=w0.heap.size+2:=by rw [hT];simp
 have hP:Box T w0.heap.size [.slice uo N1 uc,.slice vo N2 vc]:=by rw [hT];exact (Box.new w0 [.slice uo N1 uc,.slice vo N2 vc] _).alloc _
 have hR:Box T (w0.heap.size+1) [.slice none 0 0,.slice none 0 0]:=by
  have h:=Box.new (w0.alloc (.cells #[.slice uo N1 uc,.slice vo N2 vc] 35)) [.slice none 0 0,.slice none 0 0] 35;rw [z1,← hT] at h;exact h
 have hbT:Below w0.heap.size w0 T:=by rw [hT];exact ((Below.refl _ _).alloc (Nat.le_refl _) _).alloc (by rw [z1];omega) _
 have hoT:=RdOff.onn ho hbT;have hrun:=runFlow_o hoT (Rds.onn hx hbT) hv hl;obtain ⟨n,hn⟩:∃ n,n=xs.length:=⟨_,rfl⟩;obtain ⟨RR,hRR⟩:∃ r,runP o xs=r:=⟨_,rfl⟩;have hRle:RR.2≤n:=by rw [← hRR,hn];exact runP_le _ _
 obtain ⟨CC,hCC⟩:∃ c,afC o xs=c:=⟨_,rfl⟩;obtain ⟨OO,hOO⟩:∃ c,afO o xs=c:=⟨_,rfl⟩;rw [hCC,hOO];unfold afC at hCC;unfold afO at hOO;rw [← hn] at hle hrun hCC hOO ⊢;rw [hRR] at hrun hCC hOO;have HCC:=hid hCC;have HOO:=hid hOO;clear hCC hOO;have c0:=hP.cell 0 _ rfl;have c1:=hP.cell 1 _ rfl;have HT:=hid hT;have HR:=hid hR;have HbT:=hid hbT;have Hrun:=hid hrun;have HTz:=hid hTz;clear ho hx hv hl hT hP hR hbT hoT hrun hn hRR z1 hTz;go_enter Tryz.func61,Tryz.ntmps61
 go_upto_region 1 with fail
 rw [← HT.out];go_wp2_with fail
 with_reducible refine Hrun.out.mono ?_
 intro e w1 hpost;obtain ⟨⟨a1,k1,a2,k2,rfl,hO⟩,hb1⟩:=hpost.sh;obtain ⟨m1,hm1⟩:∃ n,n=RR.1.trays.length:=⟨_,rfl⟩;obtain ⟨m2,hm2⟩:∃ n,n=RR.1.totals.length:=⟨_,rfl⟩;rw [← hm1,← hm2] at hO ⊢;clear hpost hm1 hm2;obtain ⟨W,hW⟩:∃ W,W=w1.alloc (.cells #[.slice a1 m1 k1,.slice a2 m2 k2] 35):=⟨_,rfl⟩;have hbW:Below w1.heap.size w1 W:=by rw [hW];exact (Below.refl _ _).alloc (Nat.le_refl _) _
 have hBW:Box W w1.heap.size [.slice a1 m1 k1,.slice a2 m2 k2]:=by rw [hW];exact Box.new w1 [.slice a1 m1 k1,.slice a2 m2 k2] _
 have HOW:Hid (OwnO (fun q=>T.heap.size≤q∧q<W.heap.size) W (.slice a1 m1 k1) (.slice a2 m2 k2) RR.1):=hid ((OwnO.agr hO (Agr.on (S:=fun _=>False) hbW) (fun _ _ h=>h)).sub (fun q hq=>⟨hq.1,Nat.lt_of_lt_of_le hq.2 hbW.size⟩));have Hb0:=hid (HbT.out.trans ((hb1.trans (hbW.mono hb1.size)).mono HbT.out.size));have HRW:=hid ((HR.out.on hb1).on hbW);have x0:=hBW.cell 0 _ rfl;have x1:=hBW.cell 1 _ rfl;have r0:=HRW.out.cell 0 _ rfl;have r1:=HRW.out.cell 1 _ rfl;have rf0:=HRW.out.free 0;have rf1:=HRW.out.free 1;have HW:=hid hW;clear hO hb1 hW hbW hBW c0 c1 HR Hrun;go_upto_region 2 with fail
 rw [← HW.out];by_cases hlt:RR.2<n
 · have hlt2:(RR.2:Int)<(n:Int):=by omega
   have HBf:=hid (belowTwo Hb0.out (Nat.le_succ _) (.slice none 0 0) (.slice none 0 0));have HE:Hid (CC=6):=hid (by rw [← HCC.out,if_pos hlt]);have HE2:Hid (OO=⟨[],[]⟩):=hid (by rw [← HOO.out,if_pos hlt]);clear hlt;go_wp2_with (first | (go_at_call 60;with_reducible refine (sizeSt_c _ hle).mono ?_;rintro e w9 ⟨rfl,rfl⟩) | fail)
   exact bodyPost_ret (v:=.tuple #[.agg #[.slice none 0 0,.slice none 0 0],.int .i64 6]) (by simp [results,Tryz.results61,go_sem,r0,r1]) rfl ⟨⟨_,_,by rw [HE.out],by rw [HE2.out];exact OwnO.emptyO _⟩,HBf.out⟩
 · have hlt2:¬ (RR.2:Int)<(n:Int):=by omega
   have HF:=hid (HOW.out.res (R:=w0.heap.size+1) (x:=.slice a1 m1 k1) (y:=.slice a2 m2 k2) (by have:=HTz.out;omega) (n0:=w0.heap.size) (by have:=HTz.out;omega));have HBf:=hid (belowTwo Hb0.out (Nat.le_succ _) (.slice a1 m1 k1) (.slice a2 m2 k2));have HE:Hid (CC=0):=hid (by rw [← HCC.out,if_neg hlt]);have HE2:Hid (OO=RR.1):=hid (by rw [← HOO.out,if_neg hlt]);clear hlt;go_wp2_with (first | (go_at_call 60;with_reducible refine (sizeSt_c _ hle).mono ?_;rintro e w9 ⟨rfl,rfl⟩) | fail)
   exact bodyPost_ret (v:=.tuple #[.agg #[.slice a1 m1 k1,.slice a2 m2 k2],.int .i64 0]) (by simp [results,Tryz.results61,go_sem,r0,r1]) rfl ⟨⟨_,_,by rw [HE.out],by rw [HE2.out];exact HF.out⟩,HBf.out⟩
end Go.Proofs.YthdaghfhlfjclaaGreat
