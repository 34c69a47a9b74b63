/- Lemmas on the way to the law that StepMinutes returns what the reference's returns. No condition. -/
import Derived.Test.YthdaghfhlfjclaaGreatMA31
import Derived.Test.YthdaghfhlfjclaaGreatMA32
import Derived.Test.YthdaghfhlfjclaaGreatMA28
import Derived.Test.YthdaghfhlfjclaaGreatMA29
import Derived.Test.YthdaghfhlfjclaaGreatMA22
import Derived.Test.YthdaghfhlfjclaaGreatMA5
namespace Go.Proofs.YthdaghfhlfjclaaGreat
set_option linter.unusedSimpArgs false
open Lib (hid)
open Go.ChangeShapes Go.WideShapes Go.ChangeAt Go.RowKit Go.Sort
set_option linter.unusedVariables false
set_option maxRecDepth 100000
structure OutS (base:Nat) (Y:Nat → Prop) (P:Nat) (w:World) (u v:Value) (o:OffT):Prop where
 off:OffN base (fun k=>k = P ∨ k < base ∨ Y k) w u v o
 box:Box w P [u,v]
 ne:∀ q,(u.ownBlock = some q ∨ v.ownBlock = some q) → q ≠ P ∧ ¬ Y q
 pb:base ≤ P ∧ ¬ Y P
 hb:base ≤ w.heap.size
 hY:∀ k,Y k → k < w.heap.size
section
variable {base P:Nat} {Y Y':Nat → Prop} {w w1 w':World} {u v v':Value} {o:OffT}
theorem OutS.hX (h:OutS base Y P w u v o):∀ k,(k = P ∨ k < base ∨ Y k) → k < w.heap.size:=fun k hk=>by
 rcases hk with e | e | e
 · rw [e];exact h.box.lt
 · exact Nat.lt_of_lt_of_le e h.hb
 · exact h.hY k e
theorem OutS.on (h:OutS base Y P w u v o) (hb:Below w.heap.size w w'):OutS base Y P w' u v o :=
 ⟨h.off.on hb,h.box.on hb,h.ne,h.pb,Nat.le_trans h.hb hb.size,fun k hk=>Nat.lt_of_lt_of_le (h.hY k hk) hb.size⟩
def DoFr (P:Nat) (u v:Value) (w w':World):Prop:=Agr (fun k=>k = P ∨ u.ownBlock = some k ∨ v.ownBlock = some k) w w'
theorem OutS.setT (h:OutS base Y P w u v o) {g n c i:Nat} (hu:u = .slice (some ⟨g,0,none⟩) n c) (hi:i < o.trays.length) {hx:SlV} {x:List (List Int)} (hb:Below w.heap.size w w1) (hfr:FrS RdD (fun k=>k < w.heap.size) w1 hx.val x) :
 (∃ y,w1.cell? ⟨g,i,none⟩ = some y) ∧ w1.frozen? ⟨g,i,none⟩ = false ∧ OutS base Y P (w1.setCell ⟨g,i,none⟩ hx.val) u v ⟨o.trays.set i x,o.totals⟩ ∧ DoFr P u v w (w1.setCell ⟨g,i,none⟩ hx.val):=by
 obtain ⟨e1,e2,e3⟩:=h.off.setT h.hX hu hi hb hfr
 have hg:u.ownBlock = some g:=by rw [hu];rfl
 have hgP:=(h.ne g (.inl hg)).1
 have hA:Agr (fun k=>k = P ∨ u.ownBlock = some k ∨ v.ownBlock = some k) w1 (w1.setCell ⟨g,i,none⟩ hx.val):=Agr.set w1 _ _ (.inr (.inl hg))
 refine ⟨e1,e2,⟨e3,(h.box.on hb).other hgP _,h.ne,h.pb,?_,fun k hk=>?_⟩,(Agr.on hb).trans hA (fun k hk _=>hk)⟩
 · have:=hb.size;have:=h.hb;simp;omega
 · have:=hb.size;have:=h.hY k hk;simp;omega
theorem OutS.appL (h:OutS base Y P w u v o):∃ ks,Own eS 110 base w v ks ∧ ks.length = o.totals.length ∧
 ∀ (w1:World) (hx:SlV) (x:List TotalT),Below w.heap.size w w1 → FrS RdTz (fun k=>k < w.heap.size) w1 hx.val x → ∀ w' v',Own eS 110 base w' v' (ks ++ [hx]) → Grew w1 w' v v' →
  Box w' P [u,v] ∧ OutS base Y P (w'.setCell ⟨P,1,none⟩ v') u v' ⟨o.trays,o.totals ++ [x]⟩ ∧ DoFr P u v w (w'.setCell ⟨P,1,none⟩ v'):=by
 obtain ⟨ks,a1,a2,a3⟩:=h.off.appL h.hX
 refine ⟨ks,a1,a2,fun w1 hx x hb hfr w' v' ho hg=>?_⟩
 have b3:=a3 w1 hx x hb hfr w' v' ho hg
 have hA:Agr (fun k=>v.ownBlock = some k) w1 w':=Agr.of_grown hg.1 (fun k hk _=>hk)
 have hvP:v.ownBlock ≠ some P:=fun e=>(h.ne P (.inr e)).1 rfl
 have hbx:=boxAgr (h.box.on hb) hA hvP
 have hne':∀ q,(u.ownBlock = some q ∨ v'.ownBlock = some q) → q ≠ P ∧ ¬ Y q:=fun q hq=>by
  rcases hq with e | e
  · exact h.ne q (.inl e)
  · rcases hg.2 with e2 | ⟨k,e2,e3⟩
    · exact h.ne q (.inr (by rw [← e2];exact e))
    · rw [e2] at e;cases e
      have h1:=hb.size
      exact ⟨fun e=>by have:=h.box.lt;omega,fun e=>by have:=h.hY q e;omega⟩
 have hA2:Agr (fun k=>k = P) w' (w'.setCell ⟨P,1,none⟩ v'):=Agr.set w' _ _ rfl
 have hsz:(w'.setCell ⟨P,1,none⟩ v').heap.size = w'.heap.size:=by simp
 have hsl:w.heap.size ≤ w'.heap.size:=Nat.le_trans hb.size hA.size
 refine ⟨hbx,⟨b3.agr hA2 (fun k hk _=>⟨.inl hk,fun e=>(hne' k (.inl e)).1 hk,fun e=>(hne' k (.inr e)).1 hk⟩) (fun k h _=>h),hbx.set1 (j:=1) (by simp) v',hne',h.pb,by rw [hsz];exact Nat.le_trans h.hb hsl,fun k hk=>by rw [hsz];exact Nat.lt_of_lt_of_le (h.hY k hk) hsl⟩,?_⟩
 exact ((Agr.on hb).trans (S:=fun k=>k = P ∨ u.ownBlock = some k ∨ v.ownBlock = some k) hA (fun k hk _=>.inr (.inr hk))).trans hA2 (fun k hk _=>.inl hk)
theorem DoFr.below (h:DoFr P u v w w') (hs:OutS base Y P w u v o):Below base w w' :=
 Agr.below h (fun k hk=>by
  rcases hk with e | e | e
  · rw [e];exact hs.pb.1
  · exact (hs.off.lt.1 k e).1
  · exact (hs.off.lt.2 k e).1) hs.hb
theorem DoFr.drew1 (h:DoFr P u v w w'):DoFr P u v w w'.drew:=⟨h.os,h.tape,h.output,h.size,h.block⟩
theorem DoFr.of_below (h:Below w.heap.size w w'):DoFr P u v w w':=Agr.on h
end
theorem stpC_valid {o:OffT} {x:StepT} (h:stB x (colO o.trays) = true):stpC o x = if x.kd = 7 then (if o.totals.length = 20 then 5 else totC (trD o x.ta) x.ff x.ft x.sf x.st) else dkC o x:=by
 unfold stpC
 rw [if_neg (by rw [h];decide)]
def DoPost (base:Nat) (Y:Nat → Prop) (P:Nat) (u v:Value) (o:OffT) (x:StepT) (w:World) (e:Ending) (w':World):Prop :=
 ∃ R,e = .returned (.int .i64 R) ∧ (R = 0 ↔ stpC o x = 0) ∧ DoFr P u v w w' ∧ (R = 0 → ∃ u' v',OutS base Y P w' u' v' (stpD o x)) ∧ (R ≠ 0 → OutS base Y P w' u v o)
set_option maxHeartbeats 4000000 in
theorem l15Do_c {o:OffT} {x:StepT} {u v:Value} {w0:World} {base P X off:Nat} {Y:Nat → Prop} (hO:OutS base Y P w0 u v o) (hS:StAt w0 X off x) (hX:X < base) (hv:offB o = true) (hx:stB x (colO o.trays) = true) :
 Calls Tryz.prog 44 #[.pointer (some ⟨P,0,none⟩),.pointer (some ⟨X,off,none⟩)] w0 fun e w'=>DoPost base Y P u v o x w0 e w':=by
 obtain ⟨i0,hi,hz0,hz1,hz2⟩:=info_parts Tryz.infoTl
 have hst:StOk x (colO o.trays):=of_decide_eq_true hx
 have hvp:=offB_parts hv
 have hcb:=colO_bd (fun d hd=>(hvp.2.2 d hd).1)
 have hC:=stpC_valid hx
 have HC:=hid hC
 have hO2:=hO
 obtain ⟨⟨uo,uc,hu⟩,⟨vo,vc,hv2⟩⟩:=hO.off.shape
 obtain ⟨g1,uc1,hug⟩:=hO.off.addr (by rw [hvp.1];omega)
 rw [hvp.1] at hug
 clear hu
 subst hug
 subst hv2
 have x0:=hS.c0
 have p0:=hO.box.cell 0 _ rfl
 have p1:=hO.box.cell 1 _ rfl
 have HO:=hid hO
 have HS:=hid hS
 have Hst:=hid hst
 have Hvp:=hid hvp
 have Hcb:=hid hcb
 obtain ⟨m,hm⟩:∃ m,m = o.totals.length:=⟨_,rfl⟩
 rw [← hm] at p1 HO ⊢
 have Hm:=hid hm
 have hm20:m ≤ 20:=by rw [hm];exact hvp.2.1
 by_cases h7:x.kd = 7
 · have HC7:Hid (stpC o x = if m = 20 then 5 else totC (trD o x.ta) x.ff x.ft x.sf x.st):=hid (by rw [hC,if_pos h7,hm])
   have HD7:Hid (stpD o x = ⟨o.trays,o.totals ++ [totD (trD o x.ta) x.ff x.ft x.sf x.st]⟩):=hid (by unfold stpD;rw [if_pos h7])
   have H7:=hid h7
   rw [h7] at x0
   clear hO hS hst hvp hcb hC hO2 hm h7
   by_cases hf:m = 20
   · have HE:Hid (stpC o x = 5):=hid (by rw [HC7.out,if_pos hf])
     subst hf
     have i1:(20:Int) ≤ ((20:Nat):Int):=by omega
     go_enter Tryz.func44,Tryz.ntmps44
     go_wp2
     go_ret
     exact ⟨5,rfl,⟨fun h=>absurd h (by decide),fun h=>by rw [HE.out] at h;exact absurd h (by decide)⟩,DoFr.of_below (Below.refl _ _),fun h=>absurd h (by decide),fun _=>HO.out⟩
   · have i1:¬ (20:Int) ≤ (m:Int):=by omega
     obtain ⟨p,hp⟩:=Int.eq_ofNat_of_zero_le Hst.out.ta.1
     have hp6:p < 6:=by have:=Hst.out.ta.2;omega
     have hft:=fieldP_tray (o:=o) Hvp.out.2.2 Hvp.out.1 Hst.out.ta Hcb.out.2 Hst.out.ff
     have hfs:=fieldP_tray (o:=o) (f:=x.sf) (t:=x.st) Hvp.out.2.2 Hvp.out.1 Hst.out.ta Hcb.out.2 (Hst.out.sum H7.out).1
     have ta:=trD_at Hvp.out.1 Hst.out.ta
     obtain ⟨a,ha⟩:∃ a,a = trD o x.ta:=⟨_,rfl⟩
     rw [← ha] at hft hfs ta
     rw [hp,Int.toNat_natCast] at ta
     obtain ⟨C,hC⟩:∃ C,C = totC a x.ff x.ft x.sf x.st:=⟨_,rfl⟩
     obtain ⟨L,hL⟩:∃ L,L = totD a x.ff x.ft x.sf x.st:=⟨_,rfl⟩
     have HSC:Hid (stpC o x = C):=hid (by rw [HC7.out,if_neg hf,← ha];exact hC.symm)
     have HSD:Hid (stpD o x = ⟨o.trays,o.totals ++ [L]⟩):=hid (by rw [HD7.out,← ha,← hL])
     obtain ⟨uo',uc',hs,hop⟩:=RdL.open rowK_D HO.out.off.rd.1
     rw [Hvp.out.1] at hs
     injection hs with e1 e2 e3
     subst e1;subst e3
     clear e2
     obtain ⟨tb0,off0,hgb,hlt,hc⟩:=hop (by rw [Hvp.out.1];omega)
     have hg1:g1 = tb0 ∧ 0 = off0:=by injection hgb with hgb;injection hgb with a1 a2;exact ⟨a1,a2⟩
     obtain ⟨rfl,rfl⟩:=hg1
     obtain ⟨a',ao,ac,ha',hac,har⟩:=hc p (by rw [Hvp.out.1];omega)
     rw [ta] at ha'
     obtain rfl:=Option.some.inj ha'
     have hto:=fun (w:World) (hw:Below w0.heap.size w0 w)=>l15Sums_c (w0:=w) (f:=x.ff) (t:=x.ft) (sf:=x.sf) (st:=x.st) (RdInt64SS.onn har hw) hft.1 hft.2 hfs.2 (Hst.out.sum H7.out).2
     obtain ⟨n1,hn1⟩:∃ n,n = a.length:=⟨_,rfl⟩
     rw [← hn1] at hac hto
     have Hcon:Hid (∀ w,Below w0.heap.size w0 w → Calls Tryz.prog 84 #[.slice ao n1 ac,.agg #[.int .i64 x.ff,.int .i64 x.ft],.agg #[.int .i64 x.sf,.int .i64 x.st]] w fun e w'=>(∃ r,e = .returned (.tuple #[r,.int .i64 C]) ∧ (C = 0 → FrS RdTz (fun k=>k < w0.heap.size) w' r L)) ∧ Below w.heap.size w w'):=hid (fun w hw=>(hto w hw).mono (fun e w' h=>⟨by
      obtain ⟨r,h1,h2⟩:=h.1
      rw [← hC] at h1 h2
      rw [← hL] at h2
      exact ⟨r,h1,fun h0=>(h2 h0).weak (fun k hk _=>by have h9:k < w0.heap.size:=hk;have:=hw.size;show k < w.heap.size;omega)⟩,h.2⟩))
     have x1:=HS.out.c1
     rw [hp] at x1
     have x4:=HS.out.c4
     have x5:=HS.out.c5
     have x6:=HS.out.c6
     have x7:=HS.out.c7
     have xl:=HS.out.lt
     have pl:=HO.out.box.lt
     have t0:=hac
     rw [Nat.zero_add] at t0
     have tl:=hlt.2
     obtain ⟨f,hf9⟩:∃ f,f = x.ff:=⟨_,rfl⟩
     obtain ⟨t,ht9⟩:∃ t,t = x.ft:=⟨_,rfl⟩
     obtain ⟨sf,hsf9⟩:∃ f,f = x.sf:=⟨_,rfl⟩
     obtain ⟨st,hst9⟩:∃ t,t = x.st:=⟨_,rfl⟩
     rw [← hf9,← ht9,← hsf9,← hst9] at Hcon
     rw [← hf9] at x4
     rw [← ht9] at x5
     rw [← hsf9] at x6
     rw [← hst9] at x7
     have i2:(p:Int) < 6:=by omega
     clear hft hfs ta ha hC hL hop hc ha' hac har hto hn1 hlt hp hgb hf9 ht9 hsf9 hst9 hf
     go_enter Tryz.func44,Tryz.ntmps44
     go_upto_region 4 with fail
     refine wp_region_below (fun i v w=>match i with | 0=>v = .pointer (some ⟨P,0,none⟩) | 1=>v = .pointer (some ⟨P,0,none⟩) | 2=>v = .pointer (some ⟨P,0,none⟩) | 3=>v = .slice (some ⟨g1,0,none⟩) 6 uc1 | 4=>v = .pointer (some ⟨X,off,none⟩) | 5=>v = .pointer (some ⟨X,off,none⟩) | 6=>v = .pointer (some ⟨X,off + 1,none⟩) | 7=>v = .int .i64 (p:Int) | 8=>v = .pointer (some ⟨g1,p,none⟩) | 9=>v = .slice ao n1 ac | 10=>v = .pointer (some ⟨X,off,none⟩) | 11=>v = .pointer (some ⟨X,off,none⟩) | 12=>v = .pointer (some ⟨X,off + 4,none⟩) | 13=>v = .agg #[.int .i64 f,.int .i64 t] | 14=>v = .pointer (some ⟨X,off,none⟩) | 15=>v = .pointer (some ⟨X,off,none⟩) | 16=>v = .pointer (some ⟨X,off + 6,none⟩) | 17=>v = .agg #[.int .i64 sf,.int .i64 st] | 18=>∃ r,v = .tuple #[r,.int .i64 C] ∧ (C = 0 → FrS RdTz (fun k=>k < w0.heap.size) w r L) | 19=>∃ r,v = .tuple #[r,.int .i64 C] ∧ (C = 0 → FrS RdTz (fun k=>k < w0.heap.size) w r L) | 20=>C = 0 → FrS RdTz (fun k=>k < w0.heap.size) w v L | 21=>v = .int .i64 C | 22=>C = 0 → FrS RdTz (fun k=>k < w0.heap.size) w v L | 23=>v = .int .i64 C | _=>True) (by kernel_rfl) (by kernel_rfl) (by kernel_rfl) ?_ ?_ ?_
     · intro i v w w' h hb
       match i,h with
       | 0,h=>exact h
       | 1,h=>exact h
       | 2,h=>exact h
       | 3,h=>exact h
       | 4,h=>exact h
       | 5,h=>exact h
       | 6,h=>exact h
       | 7,h=>exact h
       | 8,h=>exact h
       | 9,h=>exact h
       | 10,h=>exact h
       | 11,h=>exact h
       | 12,h=>exact h
       | 13,h=>exact h
       | 14,h=>exact h
       | 15,h=>exact h
       | 16,h=>exact h
       | 17,h=>exact h
       | 18,h=>obtain ⟨r,h1,h2⟩:=h;exact ⟨r,h1,fun h0=>FrS.on (h2 h0) hb⟩
       | 19,h=>obtain ⟨r,h1,h2⟩:=h;exact ⟨r,h1,fun h0=>FrS.on (h2 h0) hb⟩
       | 20,h=>exact fun h0=>FrS.on (h h0) hb
       | 21,h=>exact h
       | 22,h=>exact fun h0=>FrS.on (h h0) hb
       | 23,h=>exact h
       | (_ + 24),h=>exact h
     · intro vs hvs
       match vs,hvs with
       | [v0,v1,v2,v3,v4,v5,v6,v7,v8,v9,v10,v11,v12,v13,v14,v15,v16,v17,v18,v19,v20,v21,v22,v23],_ =>
        refine ⟨?_,?_,?_,?_,?_,?_,?_,?_,?_,?_,?_,?_,?_,?_,?_,?_,?_,?_,?_,?_,?_,?_,?_,?_,trivial⟩
        · intro wr hC hd
          clear hd
          unfold relAt
          simp only [putAll]
          go_simp
          simp only [relUpon]
          exact ⟨Below.refl _ _,by first | rfl | trivial⟩
        · intro wr hC hd
          have d0:v0 = .pointer (some ⟨P,0,none⟩):=by first | exact hd.1 rfl | exact hd.2.1 rfl | exact hd.2.2.1 rfl | exact hd.2.2.2.1 rfl | exact hd.2.2.2.2.1 rfl | exact hd.2.2.2.2.2.1 rfl | exact hd.2.2.2.2.2.2.1 rfl | exact hd.2.2.2.2.2.2.2.1 rfl | exact hd.2.2.2.2.2.2.2.2.1 rfl | exact hd.2.2.2.2.2.2.2.2.2.1 rfl
          subst d0
          clear hd
          unfold relAt
          simp only [putAll]
          go_simp
          simp only [relUpon]
          exact ⟨Below.refl _ _,by first | rfl | trivial⟩
        · intro wr hC hd
          have d1:v1 = .pointer (some ⟨P,0,none⟩):=by first | exact hd.1 rfl | exact hd.2.1 rfl | exact hd.2.2.1 rfl | exact hd.2.2.2.1 rfl | exact hd.2.2.2.2.1 rfl | exact hd.2.2.2.2.2.1 rfl | exact hd.2.2.2.2.2.2.1 rfl | exact hd.2.2.2.2.2.2.2.1 rfl | exact hd.2.2.2.2.2.2.2.2.1 rfl | exact hd.2.2.2.2.2.2.2.2.2.1 rfl
          subst d1
          clear hd
          unfold relAt
          simp only [putAll]
          go_simp
          simp only [relUpon]
          exact ⟨Below.refl _ _,by first | rfl | trivial⟩
        · intro wr hC hd
          have d2:v2 = .pointer (some ⟨P,0,none⟩):=by first | exact hd.1 rfl | exact hd.2.1 rfl | exact hd.2.2.1 rfl | exact hd.2.2.2.1 rfl | exact hd.2.2.2.2.1 rfl | exact hd.2.2.2.2.2.1 rfl | exact hd.2.2.2.2.2.2.1 rfl | exact hd.2.2.2.2.2.2.2.1 rfl | exact hd.2.2.2.2.2.2.2.2.1 rfl | exact hd.2.2.2.2.2.2.2.2.2.1 rfl
          subst d2
          clear hd
          have e:=(hC.cell (p:=⟨P,0,none⟩) pl).trans p0
          unfold relAt
          simp only [putAll]
          go_simp
          simp only [relUpon]
          exact ⟨Below.refl _ _,by first | rfl | trivial⟩
        · intro wr hC hd
          clear hd
          unfold relAt
          simp only [putAll]
          go_simp
          simp only [relUpon]
          exact ⟨Below.refl _ _,by first | rfl | trivial⟩
        · intro wr hC hd
          have d4:v4 = .pointer (some ⟨X,off,none⟩):=by first | exact hd.1 rfl | exact hd.2.1 rfl | exact hd.2.2.1 rfl | exact hd.2.2.2.1 rfl | exact hd.2.2.2.2.1 rfl | exact hd.2.2.2.2.2.1 rfl | exact hd.2.2.2.2.2.2.1 rfl | exact hd.2.2.2.2.2.2.2.1 rfl | exact hd.2.2.2.2.2.2.2.2.1 rfl | exact hd.2.2.2.2.2.2.2.2.2.1 rfl
          subst d4
          clear hd
          unfold relAt
          simp only [putAll]
          go_simp
          simp only [relUpon]
          exact ⟨Below.refl _ _,by first | rfl | trivial⟩
        · intro wr hC hd
          have d5:v5 = .pointer (some ⟨X,off,none⟩):=by first | exact hd.1 rfl | exact hd.2.1 rfl | exact hd.2.2.1 rfl | exact hd.2.2.2.1 rfl | exact hd.2.2.2.2.1 rfl | exact hd.2.2.2.2.2.1 rfl | exact hd.2.2.2.2.2.2.1 rfl | exact hd.2.2.2.2.2.2.2.1 rfl | exact hd.2.2.2.2.2.2.2.2.1 rfl | exact hd.2.2.2.2.2.2.2.2.2.1 rfl
          subst d5
          clear hd
          unfold relAt
          simp only [putAll]
          go_simp
          simp only [relUpon]
          exact ⟨Below.refl _ _,by first | rfl | trivial⟩
        · intro wr hC hd
          have d6:v6 = .pointer (some ⟨X,off + 1,none⟩):=by first | exact hd.1 rfl | exact hd.2.1 rfl | exact hd.2.2.1 rfl | exact hd.2.2.2.1 rfl | exact hd.2.2.2.2.1 rfl | exact hd.2.2.2.2.2.1 rfl | exact hd.2.2.2.2.2.2.1 rfl | exact hd.2.2.2.2.2.2.2.1 rfl | exact hd.2.2.2.2.2.2.2.2.1 rfl | exact hd.2.2.2.2.2.2.2.2.2.1 rfl
          subst d6
          clear hd
          have e:=(hC.cell (p:=⟨X,off + 1,none⟩) xl).trans x1
          unfold relAt
          simp only [putAll]
          go_simp
          simp only [relUpon]
          exact ⟨Below.refl _ _,by first | rfl | trivial⟩
        · intro wr hC hd
          have d3:v3 = .slice (some ⟨g1,0,none⟩) 6 uc1:=by first | exact hd.1 rfl | exact hd.2.1 rfl | exact hd.2.2.1 rfl | exact hd.2.2.2.1 rfl | exact hd.2.2.2.2.1 rfl | exact hd.2.2.2.2.2.1 rfl | exact hd.2.2.2.2.2.2.1 rfl | exact hd.2.2.2.2.2.2.2.1 rfl | exact hd.2.2.2.2.2.2.2.2.1 rfl | exact hd.2.2.2.2.2.2.2.2.2.1 rfl
          subst d3
          have d7:v7 = .int .i64 (p:Int):=by first | exact hd.1 rfl | exact hd.2.1 rfl | exact hd.2.2.1 rfl | exact hd.2.2.2.1 rfl | exact hd.2.2.2.2.1 rfl | exact hd.2.2.2.2.2.1 rfl | exact hd.2.2.2.2.2.2.1 rfl | exact hd.2.2.2.2.2.2.2.1 rfl | exact hd.2.2.2.2.2.2.2.2.1 rfl | exact hd.2.2.2.2.2.2.2.2.2.1 rfl
          subst d7
          clear hd
          unfold relAt
          simp only [putAll]
          go_simp
          simp only [relUpon]
          exact ⟨Below.refl _ _,by first | rfl | trivial⟩
        · intro wr hC hd
          have d8:v8 = .pointer (some ⟨g1,p,none⟩):=by first | exact hd.1 rfl | exact hd.2.1 rfl | exact hd.2.2.1 rfl | exact hd.2.2.2.1 rfl | exact hd.2.2.2.2.1 rfl | exact hd.2.2.2.2.2.1 rfl | exact hd.2.2.2.2.2.2.1 rfl | exact hd.2.2.2.2.2.2.2.1 rfl | exact hd.2.2.2.2.2.2.2.2.1 rfl | exact hd.2.2.2.2.2.2.2.2.2.1 rfl
          subst d8
          clear hd
          have e:=(hC.cell (p:=⟨g1,p,none⟩) tl).trans t0
          unfold relAt
          simp only [putAll]
          go_simp
          simp only [relUpon]
          exact ⟨Below.refl _ _,by first | rfl | trivial⟩
        · intro wr hC hd
          clear hd
          unfold relAt
          simp only [putAll]
          go_simp
          simp only [relUpon]
          exact ⟨Below.refl _ _,by first | rfl | trivial⟩
        · intro wr hC hd
          have d10:v10 = .pointer (some ⟨X,off,none⟩):=by first | exact hd.1 rfl | exact hd.2.1 rfl | exact hd.2.2.1 rfl | exact hd.2.2.2.1 rfl | exact hd.2.2.2.2.1 rfl | exact hd.2.2.2.2.2.1 rfl | exact hd.2.2.2.2.2.2.1 rfl | exact hd.2.2.2.2.2.2.2.1 rfl | exact hd.2.2.2.2.2.2.2.2.1 rfl | exact hd.2.2.2.2.2.2.2.2.2.1 rfl
          subst d10
          clear hd
          unfold relAt
          simp only [putAll]
          go_simp
          simp only [relUpon]
          exact ⟨Below.refl _ _,by first | rfl | trivial⟩
        · intro wr hC hd
          have d11:v11 = .pointer (some ⟨X,off,none⟩):=by first | exact hd.1 rfl | exact hd.2.1 rfl | exact hd.2.2.1 rfl | exact hd.2.2.2.1 rfl | exact hd.2.2.2.2.1 rfl | exact hd.2.2.2.2.2.1 rfl | exact hd.2.2.2.2.2.2.1 rfl | exact hd.2.2.2.2.2.2.2.1 rfl | exact hd.2.2.2.2.2.2.2.2.1 rfl | exact hd.2.2.2.2.2.2.2.2.2.1 rfl
          subst d11
          clear hd
          unfold relAt
          simp only [putAll]
          go_simp
          simp only [relUpon]
          exact ⟨Below.refl _ _,by first | rfl | trivial⟩
        · intro wr hC hd
          have d12:v12 = .pointer (some ⟨X,off + 4,none⟩):=by first | exact hd.1 rfl | exact hd.2.1 rfl | exact hd.2.2.1 rfl | exact hd.2.2.2.1 rfl | exact hd.2.2.2.2.1 rfl | exact hd.2.2.2.2.2.1 rfl | exact hd.2.2.2.2.2.2.1 rfl | exact hd.2.2.2.2.2.2.2.1 rfl | exact hd.2.2.2.2.2.2.2.2.1 rfl | exact hd.2.2.2.2.2.2.2.2.2.1 rfl
          subst d12
          clear hd
          have e1:=(hC.cell (p:=⟨X,off + 4,none⟩) xl).trans x4
          have e2:=(hC.cell (p:=⟨X,off + 5,none⟩) xl).trans x5
          unfold relAt
          simp only [putAll]
          go_simp
          simp only [relUpon]
          exact ⟨Below.refl _ _,by first | rfl | trivial⟩
        · intro wr hC hd
          clear hd
          unfold relAt
          simp only [putAll]
          go_simp
          simp only [relUpon]
          exact ⟨Below.refl _ _,by first | rfl | trivial⟩
        · intro wr hC hd
          have d14:v14 = .pointer (some ⟨X,off,none⟩):=by first | exact hd.1 rfl | exact hd.2.1 rfl | exact hd.2.2.1 rfl | exact hd.2.2.2.1 rfl | exact hd.2.2.2.2.1 rfl | exact hd.2.2.2.2.2.1 rfl | exact hd.2.2.2.2.2.2.1 rfl | exact hd.2.2.2.2.2.2.2.1 rfl | exact hd.2.2.2.2.2.2.2.2.1 rfl | exact hd.2.2.2.2.2.2.2.2.2.1 rfl
          subst d14
          clear hd
          unfold relAt
          simp only [putAll]
          go_simp
          simp only [relUpon]
          exact ⟨Below.refl _ _,by first | rfl | trivial⟩
        · intro wr hC hd
          have d15:v15 = .pointer (some ⟨X,off,none⟩):=by first | exact hd.1 rfl | exact hd.2.1 rfl | exact hd.2.2.1 rfl | exact hd.2.2.2.1 rfl | exact hd.2.2.2.2.1 rfl | exact hd.2.2.2.2.2.1 rfl | exact hd.2.2.2.2.2.2.1 rfl | exact hd.2.2.2.2.2.2.2.1 rfl | exact hd.2.2.2.2.2.2.2.2.1 rfl | exact hd.2.2.2.2.2.2.2.2.2.1 rfl
          subst d15
          clear hd
          unfold relAt
          simp only [putAll]
          go_simp
          simp only [relUpon]
          exact ⟨Below.refl _ _,by first | rfl | trivial⟩
        · intro wr hC hd
          have d16:v16 = .pointer (some ⟨X,off + 6,none⟩):=by first | exact hd.1 rfl | exact hd.2.1 rfl | exact hd.2.2.1 rfl | exact hd.2.2.2.1 rfl | exact hd.2.2.2.2.1 rfl | exact hd.2.2.2.2.2.1 rfl | exact hd.2.2.2.2.2.2.1 rfl | exact hd.2.2.2.2.2.2.2.1 rfl | exact hd.2.2.2.2.2.2.2.2.1 rfl | exact hd.2.2.2.2.2.2.2.2.2.1 rfl
          subst d16
          clear hd
          have e1:=(hC.cell (p:=⟨X,off + 6,none⟩) xl).trans x6
          have e2:=(hC.cell (p:=⟨X,off + 7,none⟩) xl).trans x7
          unfold relAt
          simp only [putAll]
          go_simp
          simp only [relUpon]
          exact ⟨Below.refl _ _,by first | rfl | trivial⟩
        · intro wr hC hd
          have d9:v9 = .slice ao n1 ac:=by first | exact hd.1 rfl | exact hd.2.1 rfl | exact hd.2.2.1 rfl | exact hd.2.2.2.1 rfl | exact hd.2.2.2.2.1 rfl | exact hd.2.2.2.2.2.1 rfl | exact hd.2.2.2.2.2.2.1 rfl | exact hd.2.2.2.2.2.2.2.1 rfl | exact hd.2.2.2.2.2.2.2.2.1 rfl | exact hd.2.2.2.2.2.2.2.2.2.1 rfl
          subst d9
          have d13:v13 = .agg #[.int .i64 f,.int .i64 t]:=by first | exact hd.1 rfl | exact hd.2.1 rfl | exact hd.2.2.1 rfl | exact hd.2.2.2.1 rfl | exact hd.2.2.2.2.1 rfl | exact hd.2.2.2.2.2.1 rfl | exact hd.2.2.2.2.2.2.1 rfl | exact hd.2.2.2.2.2.2.2.1 rfl | exact hd.2.2.2.2.2.2.2.2.1 rfl | exact hd.2.2.2.2.2.2.2.2.2.1 rfl
          subst d13
          have d17:v17 = .agg #[.int .i64 sf,.int .i64 st]:=by first | exact hd.1 rfl | exact hd.2.1 rfl | exact hd.2.2.1 rfl | exact hd.2.2.2.1 rfl | exact hd.2.2.2.2.1 rfl | exact hd.2.2.2.2.2.1 rfl | exact hd.2.2.2.2.2.2.1 rfl | exact hd.2.2.2.2.2.2.2.1 rfl | exact hd.2.2.2.2.2.2.2.2.1 rfl | exact hd.2.2.2.2.2.2.2.2.2.1 rfl
          subst d17
          clear hd
          have h9:=Hcon.out _ hC
          clear hC
          unfold relAt
          simp only [putAll]
          go_simp
          simp only [relUpon]
          with_reducible refine h9.mono ?_
          rintro e w99 ⟨⟨r9,rfl,h2⟩,hb9⟩
          exact ⟨_,rfl,hb9,r9,rfl,h2⟩
        · intro wr hC hd
          have d18:∃ r,v18 = .tuple #[r,.int .i64 C] ∧ (C = 0 → FrS RdTz (fun k=>k < w0.heap.size) wr r L):=by first | exact hd.1 rfl | exact hd.2.1 rfl | exact hd.2.2.1 rfl | exact hd.2.2.2.1 rfl | exact hd.2.2.2.2.1 rfl | exact hd.2.2.2.2.2.1 rfl | exact hd.2.2.2.2.2.2.1 rfl | exact hd.2.2.2.2.2.2.2.1 rfl | exact hd.2.2.2.2.2.2.2.2.1 rfl | exact hd.2.2.2.2.2.2.2.2.2.1 rfl
          clear hd
          have h8:=d18.choose_spec.1
          have h9:=d18.choose_spec.2
          generalize d18.choose = r9 at h8 h9
          clear d18
          subst h8
          unfold relAt
          simp only [putAll]
          go_simp
          simp only [relUpon]
          exact ⟨Below.refl _ _,r9,rfl,h9⟩
        · intro wr hC hd
          have d19:∃ r,v19 = .tuple #[r,.int .i64 C] ∧ (C = 0 → FrS RdTz (fun k=>k < w0.heap.size) wr r L):=by first | exact hd.1 rfl | exact hd.2.1 rfl | exact hd.2.2.1 rfl | exact hd.2.2.2.1 rfl | exact hd.2.2.2.2.1 rfl | exact hd.2.2.2.2.2.1 rfl | exact hd.2.2.2.2.2.2.1 rfl | exact hd.2.2.2.2.2.2.2.1 rfl | exact hd.2.2.2.2.2.2.2.2.1 rfl | exact hd.2.2.2.2.2.2.2.2.2.1 rfl
          clear hd
          have h8:=d19.choose_spec.1
          have h9:=d19.choose_spec.2
          generalize d19.choose = r9 at h8 h9
          clear d19
          subst h8
          unfold relAt
          simp only [putAll]
          go_simp
          simp only [relUpon]
          exact ⟨Below.refl _ _,h9⟩
        · intro wr hC hd
          have d19:∃ r,v19 = .tuple #[r,.int .i64 C] ∧ (C = 0 → FrS RdTz (fun k=>k < w0.heap.size) wr r L):=by first | exact hd.1 rfl | exact hd.2.1 rfl | exact hd.2.2.1 rfl | exact hd.2.2.2.1 rfl | exact hd.2.2.2.2.1 rfl | exact hd.2.2.2.2.2.1 rfl | exact hd.2.2.2.2.2.2.1 rfl | exact hd.2.2.2.2.2.2.2.1 rfl | exact hd.2.2.2.2.2.2.2.2.1 rfl | exact hd.2.2.2.2.2.2.2.2.2.1 rfl
          clear hd
          have h8:=d19.choose_spec.1
          have h9:=d19.choose_spec.2
          generalize d19.choose = r9 at h8 h9
          clear d19
          subst h8
          unfold relAt
          simp only [putAll]
          go_simp
          simp only [relUpon]
          exact ⟨Below.refl _ _,by first | rfl | trivial⟩
        · intro wr hC hd
          have d20:C = 0 → FrS RdTz (fun k=>k < w0.heap.size) wr v20 L:=by first | exact hd.1 rfl | exact hd.2.1 rfl | exact hd.2.2.1 rfl | exact hd.2.2.2.1 rfl | exact hd.2.2.2.2.1 rfl | exact hd.2.2.2.2.2.1 rfl | exact hd.2.2.2.2.2.2.1 rfl | exact hd.2.2.2.2.2.2.2.1 rfl | exact hd.2.2.2.2.2.2.2.2.1 rfl | exact hd.2.2.2.2.2.2.2.2.2.1 rfl
          clear hd
          unfold relAt
          simp only [putAll]
          go_simp
          simp only [relUpon]
          exact ⟨Below.refl _ _,d20⟩
        · intro wr hC hd
          have d21:v21 = .int .i64 C:=by first | exact hd.1 rfl | exact hd.2.1 rfl | exact hd.2.2.1 rfl | exact hd.2.2.2.1 rfl | exact hd.2.2.2.2.1 rfl | exact hd.2.2.2.2.2.1 rfl | exact hd.2.2.2.2.2.2.1 rfl | exact hd.2.2.2.2.2.2.2.1 rfl | exact hd.2.2.2.2.2.2.2.2.1 rfl | exact hd.2.2.2.2.2.2.2.2.2.1 rfl
          subst d21
          clear hd
          unfold relAt
          simp only [putAll]
          go_simp
          simp only [relUpon]
          exact ⟨Below.refl _ _,by first | rfl | trivial⟩
     · intro vs wq hvs hC hI
       match vs,hvs,hI with
       | [v0,v1,v2,v3,v4,v5,v6,v7,v8,v9,v10,v11,v12,v13,v14,v15,v16,v17,v18,v19,v20,v21,v22,v23],_,hI =>
        have d0:v0 = .pointer (some ⟨P,0,none⟩):=hI 0 (by decide)
        subst d0
        have d1:v1 = .pointer (some ⟨P,0,none⟩):=hI 1 (by decide)
        subst d1
        have d2:v2 = .pointer (some ⟨P,0,none⟩):=hI 2 (by decide)
        subst d2
        have d3:v3 = .slice (some ⟨g1,0,none⟩) 6 uc1:=hI 3 (by decide)
        subst d3
        have d4:v4 = .pointer (some ⟨X,off,none⟩):=hI 4 (by decide)
        subst d4
        have d5:v5 = .pointer (some ⟨X,off,none⟩):=hI 5 (by decide)
        subst d5
        have d6:v6 = .pointer (some ⟨X,off + 1,none⟩):=hI 6 (by decide)
        subst d6
        have d7:v7 = .int .i64 (p:Int):=hI 7 (by decide)
        subst d7
        have d8:v8 = .pointer (some ⟨g1,p,none⟩):=hI 8 (by decide)
        subst d8
        have d9:v9 = .slice ao n1 ac:=hI 9 (by decide)
        subst d9
        have d10:v10 = .pointer (some ⟨X,off,none⟩):=hI 10 (by decide)
        subst d10
        have d11:v11 = .pointer (some ⟨X,off,none⟩):=hI 11 (by decide)
        subst d11
        have d12:v12 = .pointer (some ⟨X,off + 4,none⟩):=hI 12 (by decide)
        subst d12
        have d13:v13 = .agg #[.int .i64 f,.int .i64 t]:=hI 13 (by decide)
        subst d13
        have d14:v14 = .pointer (some ⟨X,off,none⟩):=hI 14 (by decide)
        subst d14
        have d15:v15 = .pointer (some ⟨X,off,none⟩):=hI 15 (by decide)
        subst d15
        have d16:v16 = .pointer (some ⟨X,off + 6,none⟩):=hI 16 (by decide)
        subst d16
        have d17:v17 = .agg #[.int .i64 sf,.int .i64 st]:=hI 17 (by decide)
        subst d17
        have d18:∃ r,v18 = .tuple #[r,.int .i64 C] ∧ (C = 0 → FrS RdTz (fun k=>k < w0.heap.size) wq r L):=hI 18 (by decide)
        have d19:∃ r,v19 = .tuple #[r,.int .i64 C] ∧ (C = 0 → FrS RdTz (fun k=>k < w0.heap.size) wq r L):=hI 19 (by decide)
        have d20:C = 0 → FrS RdTz (fun k=>k < w0.heap.size) wq v20 L:=hI 20 (by decide)
        have d21:v21 = .int .i64 C:=hI 21 (by decide)
        subst d21
        have d22:C = 0 → FrS RdTz (fun k=>k < w0.heap.size) wq v22 L:=hI 22 (by decide)
        have d23:v23 = .int .i64 C:=hI 23 (by decide)
        subst d23
        clear hI
        simp only [putAll]
        go_simp
        obtain ⟨r18,rfl,-⟩:=d18
        obtain ⟨r19,rfl,-⟩:=d19
        have HC9:=hid hC
        clear hC x1 x4 x5 x6 x7 t0 p0 d20
        by_cases h0:C = 0
        · have hF:=d22 h0
          obtain ⟨la,lc,hvl⟩:=Rds.shape (E:=eTotal) (show Rds eTotal wq.heap.size wq v22 L from hF.now)
          obtain ⟨ks,hO,hkl,hfin⟩:=HO.out.appL
          subst hvl
          subst h0
          obtain ⟨ll,hll⟩:∃ ll,ll = L.length:=⟨_,rfl⟩
          rw [← hll] at hF ⊢
          have hbq:=HO.out.box.on HC9.out
          have y1:=hbq.cell 1 _ rfl
          have HOw:=hid (hO.below HC9.out (Nat.le_refl _))
          have Hfin:=hid hfin
          have Hkl:Hid (ks.length = m):=hid (by rw [hkl,← Hm.out])
          have HF:=hid hF
          have hsz:base ≤ wq.heap.size:=Nat.le_trans HO.out.hb HC9.out.size
          clear hF d22 hO hkl hfin hbq hll x0 p1
          go_wp2_with (first | (at_builtin;refine wpList_appS (E:=eS) rfl _ _ 33 rfl Tryz.underlying33 hi hz0 hz1 hz2 rfl (by decide) rfl rfl (HOw.out.alloc _) (rds_one (E:=eS) (x:=⟨la,ll,lc⟩) trivial rfl) ?b1 ?b2 ?b3 ?_))
          case b1=>rw [Hkl.out];unfold maxLen;simp;omega
          case b2=>rw [Hkl.out];first | (simp;omega) | omega
          case b3=>first | omega | (simp;omega)
          intro v8 w8 hO8 hg8
          have hg8':=hg8.alloc
          obtain ⟨ao8,c8,hv8⟩:=hO8.shape
          rw [List.length_append,Hkl.out] at hv8
          have hv9:v8 = .slice ao8 (m + 1) c8:=hv8
          subst hv9
          have hfin8:=Hfin.out wq ⟨la,ll,lc⟩ L HC9.out HF.out w8 _ hO8 hg8'
          have Hfin8:=hid hfin8.2
          have y1:=hfin8.1.cell 1 _ rfl
          have y2:=hfin8.1.free 1
          have y3:=hfin8.1.lt
          clear hO8 hg8 hg8' hv8 hfin8
          go_wp2
          go_ret
          refine ⟨0,rfl,⟨fun _=>HSC.out,fun _=>rfl⟩,Hfin8.out.2,fun _=>⟨_,_,by rw [HSD.out];exact Hfin8.out.1⟩,fun h=>absurd rfl h⟩
        · have H0:=hid h0
          have hC1:(C == 0) = false:=beq_eq_false_iff_ne.2 h0
          clear h0 d22 x0 p1
          go_wp2
          go_ret
          exact ⟨C,rfl,by rw [HSC.out],DoFr.of_below HC9.out,fun h=>absurd h H0.out,fun _=>HO.out.on HC9.out⟩
 · have HCd:Hid (stpC o x = dkC o x):=hid (by rw [hC,if_neg h7])
   have HDd:Hid (stpD o x = ⟨o.trays.set x.tc.toNat (dkD o x),o.totals⟩):=hid (by unfold stpD;rw [if_neg h7])
   have hmk:=l15Make_c hO.off.rd hO.box hS hvp.1 hst.ta hst.tb ⟨hst.kd.1,by have:=hst.kd.2;omega⟩ ⟨hst.ff.1,hst.ff.2.1,by have:=hst.ff.2.2;omega⟩ hst.tx
   have hr0:=dkR_zero (o:=o) hst.tx
   obtain ⟨R,hR⟩:∃ R,R = dkR o x:=⟨_,rfl⟩
   rw [← hR] at hmk hr0
   have Hmk:=hid hmk
   have Hr0:=hid hr0
   have h7b:(x.kd == 7) = false:=by simpa using h7
   obtain ⟨q,hq⟩:=Int.eq_ofNat_of_zero_le hst.tc.1
   have hq6:q < 6:=by have:=hst.tc.2;omega
   have Hq:=hid hq
   have i1:(q:Int) < 6:=by omega
   clear hO hS hst hvp hcb hC hO2 hm h7 hmk hr0 hR hq
   go_enter Tryz.func44,Tryz.ntmps44
   go_wp2_with fail
   with_reducible refine Hmk.out.mono ?_
   rintro e w7 ⟨⟨r,rfl,hr⟩,hb7⟩
   have Hb7:=hid hb7
   by_cases h0:R = 0
   · obtain ⟨dd,rfl,hF⟩:=hr h0
     obtain ⟨da,dc,rfl⟩:=hF.shape
     obtain ⟨dl,hdl⟩:∃ dl,dl = (dkD o x).length:=⟨_,rfl⟩
     rw [← hdl] at hF ⊢
     obtain ⟨⟨y,e1⟩,e2,hN8,hfr⟩:=HO.out.setT rfl (i:=q) (by rw [Hvp.out.1];exact hq6) (hx:=⟨da,dl,dc⟩) (x:=dkD o x) hb7 hF
     have t3:=(HS.out.on hb7).c3
     rw [Hq.out] at t3
     have b0:=(HO.out.box.on hb7).cell 0 _ rfl
     have hOS:OutS base Y P (w7.setCell ⟨g1,q,none⟩ (.slice da dl dc)) (.slice (some ⟨g1,0,none⟩) 6 uc1) (.slice vo m vc) (stpD o x):=by
      rw [HDd.out,Hq.out,Int.toNat_natCast]
      exact hN8
     have HOS:=hid hOS
     have Hfr:=hid hfr
     subst h0
     clear hr hF hN8 hfr hOS x0 p0 p1 hb7 hdl
     go_upto_region 10 with fail
     go_still_tail 9,(by kernel_rfl)
     go_wp2
     go_ret
     exact ⟨0,rfl,⟨fun _=>by rw [HCd.out];first | exact Hr0.out.2 rfl | exact Hr0.out.2 trivial,fun _=>rfl⟩,Hfr.out.drew1,fun _=>⟨_,_,HOS.out.on ((Below.refl _ _).drew1)⟩,fun h=>absurd rfl h⟩
   · have H0:=hid h0
     have hC1:(R == 0) = false:=beq_eq_false_iff_ne.2 h0
     clear h0 hr x0 p0 p1 hb7
     go_wp2
     go_ret
     exact ⟨R,rfl,by rw [HCd.out];exact Hr0.out.symm,DoFr.of_below Hb7.out,fun h=>absurd h H0.out,fun _=>HO.out.on Hb7.out⟩
theorem deck_of {d d':List (List Int)} (h:∀ c ∈ d',c ∈ d) (hl:d'.length ≤ 40) (hd:deckB d = true):deckB d' = true ∧ (d' = [] ∨ (d ≠ [] ∧ colsD d' = colsD d)):=by
 have hp:=(deckB_parts hd).2
 cases d' with
 | nil=>exact ⟨rfl,.inl rfl⟩
 | cons c r =>
  have h1:=hp c (h c (List.mem_cons_self ..))
  refine ⟨?_,.inr ⟨fun e=>?_,?_⟩⟩
  · unfold deckB
    rw [Bool.and_eq_true,decide_eq_true_eq,List.all_eq_true]
    refine ⟨fun y hy=>?_,hl⟩
    have h2:=hp y (h y hy)
    unfold okAt
    rw [Bool.and_eq_true,decide_eq_true_eq]
    exact ⟨h2.1,by show y.length = c.length;rw [h2.2,h1.2]⟩
  · have:=h c (List.mem_cons_self ..)
    rw [e] at this;cases this
  · have h0:d ≠ []:=fun e=>by have:=h c (List.mem_cons_self ..);rw [e] at this;cases this
    unfold colsD
    rw [if_neg (by simp),if_neg h0]
    show ((c.length:Nat):Int) = _
    rw [h1.2]
theorem ordD_rng (d:List (List Int)) (f t:Int):(∀ z ∈ ordD d f t,∃ k:Nat,k < d.length ∧ z = (k:Int)) ∧ (ordD d f t).length ≤ d.length:=by
 unfold ordD
 split
 · rename_i h
   have h1:=h.choose_spec.1
   refine ⟨fun z hz=>rangeN_rng d.length z (h1.mem_iff.1 hz),?_⟩
   rw [h1.length_eq,rangeN_len]
   exact Nat.le_refl _
 · exact ⟨fun z hz=>absurd hz (by simp),Nat.zero_le _⟩
theorem pickD_mem {d:List (List Int)} {Z:List Int} (h:∀ z ∈ Z,∃ k:Nat,k < d.length ∧ z = (k:Int)):∀ c ∈ pickD d Z,c ∈ d:=by
 intro c hc
 unfold pickD at hc
 obtain ⟨z,hz,rfl⟩:=List.mem_map.1 hc
 obtain ⟨k,hk,rfl⟩:=h z hz
 rw [Int.toNat_natCast,List.getD_eq_getElem?_getD,List.getElem?_eq_getElem hk]
 exact List.getElem_mem hk
theorem pickD_len (d:List (List Int)) (Z:List Int):(pickD d Z).length = Z.length:=by unfold pickD;simp
theorem firD_mem {d:List (List Int)} {f t:Int}:(∀ c ∈ firD d f t,c ∈ d) ∧ (firD d f t).length ≤ d.length:=by
 unfold firD
 refine ⟨pickD_mem (fun z hz=>?_),by rw [pickD_len];exact selI_len _ _⟩
 obtain ⟨k,h1,h2,-⟩:=selI_rng _ _ z hz
 exact ⟨k,h1,h2⟩
theorem colO_of {C:Int}:∀ {ts:List (List (List Int))},(∀ d ∈ ts,d = [] ∨ colsD d = C) → (∀ d ∈ ts,d = []) ∨ colO ts = C
 | [],_=>.inl (fun d hd=>by cases hd)
 | [] :: ts,h=>by
  rcases colO_of (fun d hd=>h d (List.mem_cons_of_mem _ hd)) with e | e
  · exact .inl (fun d hd=>by rcases List.mem_cons.1 hd with rfl | hd;exact rfl;exact e d hd)
  · exact .inr e
 | (c :: r) :: ts,h=>by
  rcases h (c :: r) (List.mem_cons_self ..) with e | e
  · cases e
  · exact .inr (by rw [← e];rfl)
theorem offB_mk {o:OffT} {C:Int} (h6:o.trays.length = 6) (h20:o.totals.length ≤ 20) (h:∀ d ∈ o.trays,deckB d = true ∧ (d = [] ∨ colsD d = C)):offB o = true:=by
 unfold offB
 rw [decide_eq_true h6,decide_eq_true h20,Bool.true_and,Bool.true_and,List.all_eq_true]
 intro d hd
 have h1:=h d hd
 rw [Bool.and_eq_true]
 refine ⟨h1.1,?_⟩
 rw [Bool.or_eq_true,decide_eq_true_iff,decide_eq_true_iff]
 rcases colO_of (fun d hd=>(h d hd).2) with e | e
 · exact .inl (e d hd)
 · rcases h1.2 with e2 | e2
   · exact .inl e2
   · exact .inr (by rw [e2,e])
theorem merge_ok {a b:List (List Int)} {f t:Int} (h:merC a b f t = 0):TwoOk a b f t ∧ a.length + b.length ≤ 40 ∧ (a ≠ [] → b ≠ [] → colsD a = colsD b):=by
 unfold merC at h
 by_cases h1:twoC a b f t ≠ 0
 · rw [if_pos h1] at h;exact absurd h h1
 · rw [if_neg h1] at h
   by_cases h2:(0 < a.length ∧ 0 < b.length) ∧ colsD a ≠ colsD b
   · rw [if_pos h2] at h;cases h
   · rw [if_neg h2] at h
     by_cases h3:¬ (ascB a f t = true ∧ ascB b f t = true)
     · rw [if_pos h3] at h;cases h
     · rw [if_neg h3] at h
       by_cases h4:40 < a.length + b.length
       · rw [if_pos h4] at h;cases h
       · refine ⟨twoC_zero (by simpa using h1),by omega,fun ha hb=>Classical.byContradiction fun hc=>h2 ⟨⟨List.length_pos_iff.2 ha,List.length_pos_iff.2 hb⟩,hc⟩⟩
theorem deck_app {a b:List (List Int)} (ha:deckB a = true) (hb:deckB b = true) (hl:a.length + b.length ≤ 40) (hc:a ≠ [] → b ≠ [] → colsD a = colsD b):deckB (a ++ b) = true ∧ (a ++ b = [] ∨ (a ≠ [] ∧ colsD (a ++ b) = colsD a) ∨ (b ≠ [] ∧ colsD (a ++ b) = colsD b)):=by
 cases a with
 | nil =>
  refine ⟨hb,?_⟩
  by_cases h0:b = []
  · exact .inl (by rw [h0];rfl)
  · exact .inr (.inr ⟨h0,rfl⟩)
 | cons c r =>
  refine ⟨?_,.inr (.inl ⟨by simp,rfl⟩)⟩
  unfold deckB
  rw [Bool.and_eq_true,decide_eq_true_eq,List.all_eq_true]
  refine ⟨fun y hy=>?_,by rw [List.length_append];exact hl⟩
  unfold okAt
  rw [Bool.and_eq_true,decide_eq_true_eq]
  show cardB y = true ∧ y.length = c.length
  rcases List.mem_append.1 hy with h | h
  · exact (deckB_parts ha).2 y h
  · have h1:=(deckB_parts hb).2 y h
    have h0:b ≠ []:=fun e=>by rw [e] at h;cases h
    have h2:=hc (by simp) h0
    unfold colsD at h2
    rw [if_neg (by simp),if_neg h0] at h2
    exact ⟨h1.1,by rw [h1.2];show _ = c.length;have h3:((c.length:Nat):Int) = (b.headD []).length:=h2;omega⟩
theorem dk_ok {o:OffT} {x:StepT} {C:Int} (h6:o.trays.length = 6) (h:∀ d ∈ o.trays,deckB d = true ∧ (d = [] ∨ colsD d = C)) (hA:trayP x.ta) (hB:trayP x.tb) (hc:dkC o x = 0):deckB (dkD o x) = true ∧ (dkD o x = [] ∨ colsD (dkD o x) = C):=by
 have ha:=h _ (List.mem_of_getElem? (trD_at h6 hA))
 have hb:=h _ (List.mem_of_getElem? (trD_at h6 hB))
 have hal:=(deckB_parts ha.1).1
 have sub:∀ d',(∀ c ∈ d',c ∈ trD o x.ta) → d'.length ≤ (trD o x.ta).length → deckB d' = true ∧ (d' = [] ∨ colsD d' = C):=by
  intro d' h1 h2
  have h3:=deck_of h1 (by omega) ha.1
  refine ⟨h3.1,?_⟩
  rcases h3.2 with e | ⟨e1,e2⟩
  · exact .inl e
  · rcases ha.2 with e3 | e3
    · exact absurd e3 e1
    · exact .inr (by rw [e2,e3])
 unfold dkC at hc
 unfold dkD
 by_cases k1:x.kd = 1
 · rw [if_pos k1]
   exact sub _ (pickD_mem (ordD_rng _ _ _).1) (by rw [pickD_len];exact (ordD_rng _ _ _).2)
 · rw [if_neg k1] at hc ⊢
   by_cases k2:x.kd = 2
   · rw [if_pos k2] at hc ⊢
     obtain ⟨m1,m2,m3⟩:=merge_ok hc
     have h3:=deck_app ha.1 hb.1 m2 m3
     have h4:=deck_of (d':=pickD (trD o x.ta ++ trD o x.tb) (ordD (trD o x.ta ++ trD o x.tb) x.ff x.ft)) (pickD_mem (ordD_rng _ _ _).1) (by rw [pickD_len];have:=(ordD_rng (trD o x.ta ++ trD o x.tb) x.ff x.ft).2;rw [List.length_append] at this;omega) h3.1
     refine ⟨h4.1,?_⟩
     rcases h4.2 with e | ⟨e1,e2⟩
     · exact .inl e
     · rcases h3.2 with e3 | ⟨e3,e4⟩ | ⟨e3,e4⟩
       · exact absurd e3 e1
       · rcases ha.2 with e5 | e5
         · exact absurd e5 e3
         · exact .inr (by rw [e2,e4,e5])
       · rcases hb.2 with e5 | e5
         · exact absurd e5 e3
         · exact .inr (by rw [e2,e4,e5])
   · rw [if_neg k2] at hc ⊢
     by_cases k5:x.kd = 5
     · rw [if_pos k5]
       exact sub _ (fun c hc=>(List.mem_filter.1 hc).1) (List.length_filter_le _ _)
     · rw [if_neg k5] at hc ⊢
       by_cases k6:x.kd = 6
       · rw [if_pos k6]
         exact sub _ firD_mem.1 firD_mem.2
       · rw [if_neg k6] at hc ⊢
         by_cases k3:x.kd = 3
         · rw [if_pos k3]
           exact sub _ (fun c hc=>(List.mem_filter.1 hc).1) (List.length_filter_le _ _)
         · rw [if_neg k3]
           exact sub _ (fun c hc=>(List.mem_filter.1 hc).1) (List.length_filter_le _ _)
theorem stp_st {o:OffT} {x:StepT} (hc:stpC o x = 0):StOk x (colO o.trays):=by
 unfold stpC at hc
 cases hs:stB x (colO o.trays) with
 | false=>rw [if_pos hs] at hc;cases hc
 | true=>exact of_decide_eq_true hs
theorem stp_ok {o:OffT} {x:StepT} (hv:offB o = true) (hc:stpC o x = 0):offB (stpD o x) = true:=by
 have hp:=offB_parts hv
 have hs:=stp_st hc
 unfold stpC at hc
 rw [if_neg (by rw [show stB x (colO o.trays) = true from decide_eq_true hs];decide)] at hc
 unfold stpD
 by_cases h7:x.kd = 7
 · rw [if_pos h7] at hc ⊢
   by_cases h20:o.totals.length = 20
   · rw [if_pos h20] at hc;cases hc
   · exact offB_mk (C:=colO o.trays) hp.1 (by show (o.totals ++ [_]).length ≤ 20;rw [List.length_append];simp;omega) hp.2.2
 · rw [if_neg h7] at hc ⊢
   have hd:=dk_ok hp.1 hp.2.2 hs.ta hs.tb hc
   refine offB_mk (C:=colO o.trays) (by show (o.trays.set _ _).length = 6;rw [List.length_set];exact hp.1) hp.2.1 (fun d hdm=>?_)
   rcases List.mem_or_eq_of_mem_set hdm with h | h
   · exact hp.2.2 d h
   · rw [h];exact hd
def LensOk (o:OffT):Prop:=∀ l ∈ o.totals,l.length ≤ 2097152
theorem stp_lens {o:OffT} {x:StepT} (hv:offB o = true) (hl:LensOk o) (hc:stpC o x = 0):LensOk (stpD o x):=by
 have hp:=offB_parts hv
 have hs:=stp_st hc
 unfold stpD
 by_cases h7:x.kd = 7
 · rw [if_pos h7]
   intro l hm
   rcases List.mem_append.1 hm with h | h
   · exact hl l h
   · have e:l = totD (trD o x.ta) x.ff x.ft x.sf x.st:=by simpa using h
     have h1:=selI_len (grpP (trD o x.ta) x.ff x.ft) (trD o x.ta).length
     have h2:=(deckB_parts (hp.2.2 _ (List.mem_of_getElem? (trD_at hp.1 hs.ta))).1).1
     rw [e,totD_len]
     omega
 · rw [if_neg h7];exact hl
theorem copy_of {o:OffT} (hv:offB o = true) (hl:LensOk o):o.trays.length ≤ 1000 ∧ (∀ d ∈ o.trays,RowsOk d) ∧ o.totals.length ≤ 1000:=by
 have hp:=offB_parts hv
 exact ⟨by rw [hp.1];omega,fun d hd=>rows_ok (hp.2.2 d hd).1,by omega⟩
def RdO (w:World) (p:Value) (o:OffT):Prop:=∃ u v,p = .agg #[u,v] ∧ RdOff w.heap.size w u v o
theorem RdO.first {w:World} {B:Nat} {u v:Value} {o:OffT} (h:RdOff B w u v o):FrS RdO (fun k=>w.heap.size ≤ k) w (.agg #[u,v]) o:=fun w' hA =>
 ⟨u,v,rfl,(RdOff.below h.tight (hA.below (fun k h=>h) (Nat.le_refl _)) (Nat.le_refl _)).mono hA.size⟩
theorem RdO.off {S:Nat → Prop} {w:World} {u v:Value} {o:OffT} (h:FrS RdO S w (.agg #[u,v]) o):RdOff w.heap.size w u v o:=by
 obtain ⟨u',v',he,h1⟩:=h.now
 injection he with he
 injection he with he
 injection he with e1 he
 injection he with e2 he
 subst e1;subst e2
 exact h1
theorem RdO.own {base n:Nat} {w:World} {u v:Value} {o:OffT} (h:OffN base (fun k=>k < base) w u v o) (hn:n ≤ base):FrS RdO (fun k=>k < n) w (.agg #[u,v]) o:=fun w' hA =>
 ⟨u,v,rfl,(h.fr hn (fun k hk=>by show k < base;omega) hA)⟩
noncomputable def smC (o:OffT) (xs:List StepT) (m:Int):Int:=if offB o = false then 1 else if 20 < xs.length ∨ ¬ (1 ≤ m ∧ m ≤ 100) then 2 else if minL o m xs = none then 6 else 0
noncomputable def smL (o:OffT) (xs:List StepT) (m:Int):List Int:=if offB o = false then [] else if 20 < xs.length ∨ ¬ (1 ≤ m ∧ m ≤ 100) then [] else (minL o m xs).getD []
theorem minL_step {o:OffT} {m:Int} {xs:List StepT} {k:Nat} {x:StepT} (h:xs[k]? = some x):minL o m (xs.drop k) = if stpC o x = 0 then (minL (stpD o x) m (xs.drop (k + 1))).map (fun l=>minO o x m :: l) else none:=by
 obtain ⟨h1,e⟩:=List.getElem?_eq_some_iff.1 h
 rw [List.drop_eq_getElem_cons h1,e]
 rfl
theorem minO_bd {o:OffT} {x:StepT} {m:Int} (hv:offB o = true) (hs:StOk x (colO o.trays)) (hm:1 ≤ m ∧ m ≤ 100):0 ≤ minO o x m ∧ minO o x m ≤ 1000000:=by
 have hp:=offB_parts hv
 have ha:=(deckB_parts (hp.2.2 _ (List.mem_of_getElem? (trD_at hp.1 hs.ta))).1).1
 have hb:=(deckB_parts (hp.2.2 _ (List.mem_of_getElem? (trD_at hp.1 hs.tb))).1).1
 have hc:=colO_bd (ts:=o.trays) (fun d hd=>(hp.2.2 d hd).1)
 have hf:=hs.ff
 obtain ⟨p,hpm⟩:=Int.eq_ofNat_of_zero_le (show 0 ≤ m by omega)
 obtain ⟨q,hq⟩:=Int.eq_ofNat_of_zero_le (show 0 ≤ x.ft - x.ff by have:=hf.2.1;omega)
 have hp100:p ≤ 100:=by omega
 have hq20:q ≤ 20:=by have:=hf.1;have:=hf.2.2;omega
 unfold minO
 generalize (trD o x.ta).length = n1 at *
 generalize (trD o x.tb).length = n2 at *
 rw [hpm,hq]
 have h1:n1 * p ≤ 4000:=Nat.le_trans (Nat.mul_le_mul ha hp100) (by decide)
 have h2:(n1 + n2) * p ≤ 8000:=Nat.le_trans (Nat.mul_le_mul (show n1 + n2 ≤ 80 by omega) hp100) (by decide)
 have h3:n1 * p * (2 * q) ≤ 160000:=Nat.le_trans (Nat.mul_le_mul h1 (show 2 * q ≤ 40 by omega)) (by decide)
 split
 · have e:((n1 + n2:Nat):Int) * (p:Int) = (((n1 + n2) * p:Nat):Int):=by push_cast;rfl
   rw [e];omega
 · split
   · have e:(n1:Int) * (p:Int) * (2 * (q:Int)) = ((n1 * p * (2 * q):Nat):Int):=by push_cast;rfl
     rw [e];omega
   · have e:(n1:Int) * (p:Int) = ((n1 * p:Nat):Int):=by push_cast;rfl
     rw [e];omega
section
variable {base P:Nat} {Y Y' S:Nat → Prop} {w w':World} {u v:Value} {o:OffT}
theorem OutS.turn (h:OutS base Y P w u v o) (hA:Agr S w w') (hS:∀ k,S k → k < w.heap.size → Y k) (hY:∀ k,Y' k → (Y k ∨ w.heap.size ≤ k) ∧ k < w'.heap.size):OutS base Y' P w' u v o:=by
 have hl:=h.off.lt
 refine ⟨h.off.agr hA (fun k hk hlt=>⟨.inr (.inr (hS k hk hlt)),fun e=>(h.ne k (.inl e)).2 (hS k hk hlt),fun e=>(h.ne k (.inr e)).2 (hS k hk hlt)⟩) (fun k hk hlt=>?_),boxAgr h.box hA (fun e=>h.pb.2 (hS P e h.box.lt)),fun q hq=>⟨(h.ne q hq).1,fun hy=>?_⟩,⟨h.pb.1,fun hy=>?_⟩,Nat.le_trans h.hb hA.size,fun k hk=>(hY k hk).2⟩
 · rcases hk with e | e | e
   · exact .inl e
   · exact .inr (.inl e)
   · rcases (hY k e).1 with h1 | h1
     · exact .inr (.inr h1)
     · omega
 · have hlt:q < w.heap.size:=by rcases hq with e | e;exact (hl.1 q e).2;exact (hl.2 q e).2
   rcases (hY q hy).1 with h1 | h1
   · exact (h.ne q hq).2 h1
   · omega
 · have:=h.box.lt
   rcases (hY P hy).1 with h1 | h1
   · exact h.pb.2 h1
   · omega
theorem OutS.first {t:TypeId} (h:OffN base (fun k=>k < base) w u v o) (hb:base ≤ w.heap.size):OutS base (fun _=>False) w.heap.size (w.alloc (.cells #[u,v] t)) u v o:=by
 have hB:=Box.new w [u,v] t
 have hl:=h.lt
 have hb1:Below w.heap.size w (w.alloc (.cells #[u,v] t)):=(Below.refl _ _).alloc (Nat.le_refl _) _
 refine ⟨h.agr (S':=fun _=>False) (Agr.on hb1) (fun k hk _=>hk.elim) (fun k hk hlt=>?_),hB,fun q hq=>⟨?_,fun e=>e⟩,⟨hb,fun e=>e⟩,Nat.le_trans hb hb1.size,fun k hk=>hk.elim⟩
 · rcases hk with e | e | e
   · omega
   · exact e
   · exact e.elim
 · rcases hq with e | e
   · have:=(hl.1 q e).2;omega
   · have:=(hl.2 q e).2;omega
end
set_option maxHeartbeats 8000000 in
theorem sStepMinutes_c {o:OffT} {xs:List StepT} {u v s:Value} {w0:World} {A B:Nat} {pc:Int} (ho:RdOff B w0 u v o) (hx:RdStepS A w0 s xs) (hl:LensOk o) :
 Calls Tryz.prog 9 #[.agg #[u,v],s,.int .i64 pc] w0 fun e w'=>(∃ r,e = .returned (.tuple #[r,.int .i64 (smC o xs pc)]) ∧ OwnInt64S w0.heap.size w' r (smL o xs pc)) ∧ Below w0.heap.size w0 w':=by
 obtain ⟨i0,hi,hz0,hz1,hz2⟩:=info_parts Tryz.infoInt64
 obtain ⟨uo,uc,rfl⟩:=RdL.shape ho.1
 obtain ⟨vo,vc,rfl⟩:=RdL.shape ho.2
 have hle:=hx.le
 obtain ⟨so,sc,rfl,hso⟩:=eStep_open hx.tight
 obtain ⟨T,hT⟩:∃ T,T = w0.alloc (.cells #[.slice uo o.trays.length uc,.slice vo o.totals.length vc] 35):=⟨_,rfl⟩
 have hbT:Below w0.heap.size w0 T:=by rw [hT];exact (Below.refl _ _).alloc (Nat.le_refl _) _
 have hBT:Box T w0.heap.size [.slice uo o.trays.length uc,.slice vo o.totals.length vc]:=by rw [hT];exact Box.new w0 [.slice uo o.trays.length uc,.slice vo o.totals.length vc] _
 have hoT:=RdOff.onn ho hbT
 have hvo:=l15Ok_c hoT hBT
 obtain ⟨V,hV⟩:∃ V,V = offB o:=⟨_,rfl⟩
 rw [← hV] at hvo
 obtain ⟨R,hR⟩:∃ R,smC o xs pc = R:=⟨_,rfl⟩
 rw [hR]
 obtain ⟨LR,hLR⟩:∃ LR,smL o xs pc = LR:=⟨_,rfl⟩
 rw [hLR]
 obtain ⟨n,hn⟩:∃ n,n = xs.length:=⟨_,rfl⟩
 have HV:=hid hV
 have HR:=hid hR
 have HLR:=hid hLR
 have HT:=hid hT
 have HbT:=hid hbT
 have HBT:=hid hBT
 have HoT:=hid hoT
 have Hvo:=hid hvo
 have Hso:=hid hso
 have Hl:=hid hl
 rw [← hn] at hle Hso ⊢
 have Hn:=hid hn
 clear ho hx hl hso hT hbT hBT hoT hvo hV hR hLR hn
 go_enter Tryz.func9,Tryz.ntmps9
 go_wp2_with fail
 rw [← HT.out]
 with_reducible refine Hvo.out.mono ?_
 rintro e w1 ⟨rfl,hb1⟩
 have HB1:=hid (HBT.out.on hb1)
 have Ho1:=hid (RdOff.onn HoT.out hb1)
 have Hb1:=hid (HbT.out.trans (hb1.mono HbT.out.size))
 clear hb1
 cases V with
 | false =>
  have HE:Hid (R = 1):=hid (by rw [← HR.out];unfold smC;rw [if_pos HV.out.symm])
  have HE2:Hid (LR = []):=hid (by rw [← HLR.out];unfold smL;rw [if_pos HV.out.symm])
  go_wp2
  go_ret2
  exact ⟨⟨.slice none 0 0,by rw [HE.out];rfl,by rw [HE2.out];exact Own.nil _ _ _ _⟩,Hb1.out⟩
 | true =>
  have HR1:Hid (R = if 20 < n ∨ ¬ (1 ≤ pc ∧ pc ≤ 100) then 2 else if minL o pc xs = none then 6 else 0):=hid (by rw [← HR.out];unfold smC;rw [if_neg (by rw [← HV.out];decide),Hn.out])
  have HL1:Hid (LR = if 20 < n ∨ ¬ (1 ≤ pc ∧ pc ≤ 100) then [] else (minL o pc xs).getD []):=hid (by rw [← HLR.out];unfold smL;rw [if_neg (by rw [← HV.out];decide),Hn.out])
  by_cases hn20:20 < n
  · have HE:Hid (R = 2):=hid (by rw [HR1.out,if_pos (.inl hn20)])
    have HE2:Hid (LR = []):=hid (by rw [HL1.out,if_pos (.inl hn20)])
    have i1:(20:Int) < (n:Int):=by omega
    go_wp2
    go_ret2
    exact ⟨⟨.slice none 0 0,by rw [HE.out];rfl,by rw [HE2.out];exact Own.nil _ _ _ _⟩,Hb1.out⟩
  · have i1:¬ (20:Int) < (n:Int):=by omega
    by_cases hpc:1 ≤ pc ∧ pc ≤ 100
    case neg =>
     have HE:Hid (R = 2):=hid (by rw [HR1.out,if_pos (.inr hpc)])
     have HE2:Hid (LR = []):=hid (by rw [HL1.out,if_pos (.inr hpc)])
     have hpc2:pc < 1 ∨ 100 < pc:=by omega
     have Hpc:=hid hpc2
     clear hpc hpc2
     go_wp2_with fail
     with_reducible refine (l00In_no _ _ _ _ Hpc.out).mono ?_
     rintro e w2 ⟨rfl,rfl⟩
     go_wp2
     go_ret2
     exact ⟨⟨.slice none 0 0,by rw [HE.out];rfl,by rw [HE2.out];exact Own.nil _ _ _ _⟩,Hb1.out⟩
    have HR2:Hid (R = if minL o pc xs = none then 6 else 0):=hid (by rw [HR1.out,if_neg (fun h=>h.elim hn20 (fun h=>h hpc))])
    have HL2:Hid (LR = (minL o pc xs).getD []):=hid (by rw [HL1.out,if_neg (fun h=>h.elim hn20 (fun h=>h hpc))])
    have Hpc:=hid hpc
    clear hpc
    go_wp2_with fail
    with_reducible refine (l00In_yes _ _ _ _ Hpc.out.1 Hpc.out.2).mono ?_
    rintro e w2 ⟨rfl,rfl⟩
    have hcp0:=copy_of HV.out.symm Hl.out
    have How:=hid (l15Own_c Ho1.out HB1.out ⟨hcp0.1,hcp0.2.1,hcp0.2.2,Hl.out⟩)
    clear hcp0
    go_wp2_with fail
    with_reducible refine How.out.mono ?_
    rintro e w3 ⟨⟨u1,v1,rfl,⟨ua,uac,rfl⟩,⟨va,vac,rfl⟩,hN⟩,hb3⟩
    obtain ⟨bs,hbs⟩:∃ bs,bs = w1.heap.size:=⟨_,rfl⟩
    obtain ⟨P,hP⟩:∃ P,P = w3.heap.size:=⟨_,rfl⟩
    obtain ⟨W2,hW2⟩:∃ W2,W2 = w3.alloc (.cells #[.slice ua o.trays.length uac,.slice va o.totals.length vac] 35):=⟨_,rfl⟩
    obtain ⟨W,hW⟩:∃ W,W = W2.alloc (.cells #[] 2):=⟨_,rfl⟩
    have hbs0:w0.heap.size < bs:=by rw [hbs];exact HB1.out.lt
    have hbsP:bs ≤ P:=by rw [hbs,hP];exact hb3.size
    have hb32:Below w3.heap.size w3 W2:=by rw [hW2];exact (Below.refl _ _).alloc (Nat.le_refl _) _
    have hPW2:W2.heap.size = P + 1:=by rw [hW2,hP];simp
    have hbW:Below W2.heap.size W2 W:=by rw [hW];exact (Below.refl _ _).alloc (Nat.le_refl _) _
    have hWz:W.heap.size = P + 2:=by rw [hW];simp [hPW2]
    rw [← hbs] at hN
    have hS1:OutS bs (fun _=>False) P W2 (.slice ua o.trays.length uac) (.slice va o.totals.length vac) o:=by
     have h:=OutS.first (t:=35) hN (by rw [← hP];exact hbsP)
     rw [← hW2,← hP] at h
     exact h
    have hS2:OutS bs (fun q=>(Value.slice (some ⟨P + 1,0,none⟩) 0 0).ownBlock = some q) P W (.slice ua o.trays.length uac) (.slice va o.totals.length vac) o :=
     hS1.turn (S:=fun _=>False) (Agr.on hbW) (fun k hk _=>hk.elim) (fun k hk=>by have h9:P + 1 = k:=Option.some.inj hk;exact ⟨.inr (by omega),by omega⟩)
    have hO0:OwnInt64S bs W (.slice (some ⟨P + 1,0,none⟩) 0 0) []:=by
     have h:=Own.lit (E:=eI) (e:=2) (base:=bs) (w:=W2) (xs:=[]) (cs:=#[]) (n:=0) (by omega) rfl rfl (by decide) (fun x hx=>by cases hx)
     rw [hPW2,← hW] at h
     exact h
    have hb0W:Below w0.heap.size w0 W:=Hb1.out.trans (((hb3.mono (by rw [← hbs];omega)).trans (hb32.mono (by rw [← hP];omega))).trans (hbW.mono (by omega)))
    have HO0:=hid hO0
    have HS0:=hid hS2
    have HbW:=hid hb0W
    have HVO:Hid (offB o = true ∧ LensOk o):=hid ⟨HV.out.symm,Hl.out⟩
    obtain ⟨M,hM⟩:∃ M,M = minL o pc xs:=⟨_,rfl⟩
    have HM:=hid hM
    rw [← hM] at HR2 HL2
    have HM0:Hid (M = (minL o pc (xs.drop 0)).map (fun l=>[] ++ l)):=hid (by rw [List.drop_zero,hM];cases minL o pc xs <;> rfl)
    have HW2:=hid hW2
    have HW:=hid hW
    have HP:=hid hP
    have HPW2:=hid hPW2
    have Hbs0:=hid hbs0
    clear hbs hb3 hN hbs0 hbsP hb32 hPW2 hbW hWz hS1 hS2 hO0 hb0W hM hW2 hW hP How
    go_wp2
    rw [← HW2.out,← HW.out,← HP.out]
    go_loopw [9,10] (fun ov iv wr=>∃ (k:Nat) (oc:OffT) (u v:Value) (oo:Option Addr) (occ:Nat) (L:List Int),k ≤ n ∧ iv = .int .i64 k ∧ ov = .slice oo k occ ∧ Hid (OwnInt64S bs wr (.slice oo k occ) L) ∧ Hid (L.length = k) ∧ Hid (OutS bs (fun q=>(Value.slice oo k occ).ownBlock = some q) P wr u v oc) ∧ Hid (offB oc = true ∧ LensOk oc) ∧ Hid (M = (minL oc pc (xs.drop k)).map (fun l=>L ++ l)) ∧ Hid (Below w0.heap.size w0 wr)) (fun _ i _=>n - (intOf i).toNat)
    case atStart=>exact ⟨0,o,_,_,_,_,[],Nat.zero_le _,rfl,rfl,HO0,hid rfl,HS0,HVO,HM0,HbW⟩
    case round =>
     obtain ⟨k,oc,u,v,oo,occ,L,hk,rfl,rfl,HO,HLl,HS,HVo,HMk,Hb⟩:=hrel
     clear HO0 HS0 HVO HM0 HbW
     by_cases hkn:k < n
     · obtain ⟨sb,soff,rfl,slt,scc⟩:=Hso.out (by omega)
       obtain ⟨x,hxk,⟨e0,e1,e2,e3,e4,e5,e6,e7,e8⟩,bx⟩:=scc k hkn
       have hst0:StAt w0 sb (soff + k * 9) x:=⟨slt.2,e0,e1,e2,e3,e4,e5,e6,e7,e8⟩
       have HSt:=hid (hst0.on Hb.out)
       have Hsb:=hid slt.2
       have Hx:=hid hxk
       have hvp:=offB_parts HVo.out.1
       have hcb:=colO_bd (fun d hd=>(hvp.2.2 d hd).1)
       have Hwd:=hid (l15Width_c HS.out.off.rd HS.out.box)
       have Hsp:=hid (l15Step_c x (colO oc.trays) sb (soff + k * 9) wr bx hcb HSt.out)
       have Hms:=hid (minL_step (o:=oc) (m:=pc) hxk)
       obtain ⟨V2,hV2⟩:∃ V2,V2 = stB x (colO oc.trays):=⟨_,rfl⟩
       rw [← hV2] at Hsp
       have HV2:=hid hV2
       have Hvp:=hid hvp
       have hLk:Hid (L.length ≤ 1000):=hid (by rw [HLl.out];omega)
       clear scc hxk e0 e1 e2 e3 e4 e5 e6 e7 e8 bx hst0 hvp hcb hV2 slt
       go_wp2_with (first | (go_at_call 42;with_reducible refine Hwd.out.mono ?_;rintro e w9 ⟨rfl,rfl⟩) | fail)
       with_reducible refine Hsp.out.mono ?_
       rintro e w4 ⟨rfl,hb4⟩
       have HS4:=hid (HS.out.on hb4)
       have HSt4:=hid (HSt.out.on hb4)
       have HO4:=hid (Own.below HO.out hb4 (Nat.le_refl _))
       have Hb4:=hid (Hb.out.trans (hb4.mono Hb.out.size))
       clear hb4 HS HSt HO Hwd Hsp
       cases V2 with
       | false =>
        have HE:Hid (M = none):=hid (by rw [HMk.out,Hms.out,if_neg (by unfold stpC;rw [if_pos HV2.out.symm];decide)];rfl)
        have HE1:Hid (R = 6):=hid (by rw [HR2.out,if_pos HE.out])
        have HE2:Hid (LR = []):=hid (by rw [HL2.out,HE.out];rfl)
        go_wp2
        go_ret2
        exact ⟨⟨.slice none 0 0,by rw [HE1.out];rfl,by rw [HE2.out];exact Own.nil _ _ _ _⟩,Hb4.out⟩
       | true =>
        have hst:StOk x (colO oc.trays):=of_decide_eq_true HV2.out.symm
        obtain ⟨p,hp⟩:=Int.eq_ofNat_of_zero_le hst.ta.1
        obtain ⟨q,hq⟩:=Int.eq_ofNat_of_zero_le hst.tb.1
        have hp6:p < 6:=by have:=hst.ta.2;omega
        have hq6:q < 6:=by have:=hst.tb.2;omega
        have ta:=trD_at Hvp.out.1 hst.ta
        have tb:=trD_at Hvp.out.1 hst.tb
        have ha40:=(deckB_parts (Hvp.out.2.2 _ (List.mem_of_getElem? ta)).1).1
        have hb40:=(deckB_parts (Hvp.out.2.2 _ (List.mem_of_getElem? tb)).1).1
        obtain ⟨g1,uc1,hug⟩:=HS4.out.off.addr (by rw [Hvp.out.1];omega)
        rw [Hvp.out.1] at hug
        subst hug
        have hmn:=minO_bd (x:=x) HVo.out.1 hst Hpc.out
        obtain ⟨mn,hmn0⟩:∃ mn,mn = minO oc x pc:=⟨_,rfl⟩
        rw [← hmn0] at hmn
        have Hmn0:=hid hmn0
        have hFf:=hst.ff
        have hcb:=colO_bd (ts:=oc.trays) (fun d hd=>(Hvp.out.2.2 d hd).1)
        unfold minO at hmn0
        obtain ⟨a,ha⟩:∃ a,a = trD oc x.ta:=⟨_,rfl⟩
        obtain ⟨b,hb⟩:∃ b,b = trD oc x.tb:=⟨_,rfl⟩
        rw [← ha] at ta ha40
        rw [← hb] at tb hb40
        rw [← ha,← hb] at hmn0
        rw [hp,Int.toNat_natCast] at ta
        rw [hq,Int.toNat_natCast] at tb
        obtain ⟨uo',uc',hs,hop⟩:=RdL.open rowK_D HS4.out.off.rd.1
        rw [Hvp.out.1] at hs
        injection hs with e1 e2 e3
        subst e1;subst e3
        clear e2
        obtain ⟨tb0,off0,hgb,hlt,hc⟩:=hop (by rw [Hvp.out.1];omega)
        have hg1:g1 = tb0 ∧ 0 = off0:=by injection hgb with hgb;injection hgb with a1 a2;exact ⟨a1,a2⟩
        obtain ⟨rfl,rfl⟩:=hg1
        obtain ⟨a',ao,ac,ha',hac,har⟩:=hc p (by rw [Hvp.out.1];omega)
        obtain ⟨b',bo,bc,hb',hbc,hbr⟩:=hc q (by rw [Hvp.out.1];omega)
        rw [ta] at ha'
        rw [tb] at hb'
        obtain rfl:=Option.some.inj ha'
        obtain rfl:=Option.some.inj hb'
        obtain ⟨n1,hn1⟩:∃ n,n = a.length:=⟨_,rfl⟩
        obtain ⟨n2,hn2⟩:∃ n,n = b.length:=⟨_,rfl⟩
        rw [← hn1] at hac ha40
        rw [← hn2] at hbc hb40
        rw [← hn1,← hn2] at hmn0
        rw [Nat.zero_add] at hac hbc
        have hbox:=HS4.out.box
        have p0:=cell_regrown (hbox.cell 0 _ rfl)
        have x1:=HSt4.out.c1
        rw [hp] at x1
        have x1r:=cell_regrown x1
        have t0:=cell_regrown hac
        have ip:(p:Int) < 6:=by omega
        have iq:(q:Int) < 6:=by omega
        have Hbc:=hid hbc
        have Hst:=hid hst
        have Hhlt:=hid hlt.2
        have Hq:=hid hq
        obtain ⟨pn,hpn⟩:=Int.eq_ofNat_of_zero_le (show 0 ≤ pc by have:=Hpc.out.1;omega)
        have hpn100:pn ≤ 100:=by have:=Hpc.out.2;omega
        have hm1:n1 * pn ≤ 4000:=Nat.le_trans (Nat.mul_le_mul ha40 hpn100) (by decide)
        have hm2:(n1 + n2) * pn ≤ 8000:=Nat.le_trans (Nat.mul_le_mul (show n1 + n2 ≤ 80 by omega) hpn100) (by decide)
        obtain ⟨fw,hfw⟩:=Int.eq_ofNat_of_zero_le (show 0 ≤ x.ft - x.ff by have:=hFf.2.1;omega)
        have hfw20:fw ≤ 20:=by have:=hFf.1;have:=hFf.2.2;omega
        have hm3:n1 * (2 * fw) ≤ 1600:=Nat.le_trans (Nat.mul_le_mul ha40 (show 2 * fw ≤ 40 by omega)) (by decide)
        have hm4:n1 * (2 * fw) * pn ≤ 160000:=Nat.le_trans (Nat.mul_le_mul hm3 hpn100) (by decide)
        have HFf:Hid (-1000 ≤ x.ff ∧ x.ff ≤ 1000 ∧ -1000 ≤ x.ft ∧ x.ft ≤ 1000):=hid (by have:=hFf.1;have:=hFf.2.1;have:=hFf.2.2;omega)
        have Hfw:=hid hfw
        have Hmn:=hid hmn0
        have Hbd:=hid hmn
        have Hpn:=hid hpn
        have Hm:=hid (show n1 * pn ≤ 4000 ∧ (n1 + n2) * pn ≤ 8000 ∧ n1 * (2 * fw) ≤ 1600 ∧ n1 * (2 * fw) * pn ≤ 160000 from ⟨hm1,hm2,hm3,hm4⟩)
        have Hn12:=hid (show n1 ≤ 40 ∧ n2 ≤ 40 from ⟨ha40,hb40⟩)
        clear hst ta tb hmn hFf hcb ha hb hp hq hmn0 hop hc ha' hb' hac hbc har hbr hn1 hn2 hgb hlt x1 hfw hpn hpn100 hm1 hm2 hm3 hm4 hfw20 ha40 hb40
        go_wp2
        refine wp_region_quiet_below (by kernel_rfl) (by kernel_rfl) ?_
        repeat ((with_reducible refine wpQuiet_step (fun K hK=>?_));go_simp;first | ((with_reducible refine hK _ ?_);clear hK K) | (apply Exists.intro;refine ⟨fun _=>?_,hK _ ?_⟩;((fail));clear hK K))
        refine wpQuiet_nil ?_
        intro _ hw'
        obtain ⟨⟨dq,osq⟩,hw''⟩:=hw'
        subst hw''
        have hbq:=below_regrown w4 dq osq
        generalize grow (redrawn w4 dq) osq = wq at hbq ⊢
        have HS5:=hid (HS4.out.on hbq)
        have HSt5:=hid (HSt4.out.on hbq)
        have HO5:=hid (Own.below HO4.out hbq (Nat.le_refl _))
        have Hb5:=hid (Hb4.out.trans (hbq.mono Hb4.out.size))
        have hbc5:=(hbq.cell (p:=⟨g1,q,none⟩) Hhlt.out).trans Hbc.out
        have Hbc5:=hid hbc5
        clear hbq HS4 HSt4 HO4 Hb4 p0 x1r t0 hbox hbc5
        have x0:=HSt5.out.c0
        by_cases htw:twoP x.kd
        · have Htw:=hid htw
          have hk1:(x.kd == 1) = false:=by unfold twoP at htw;rw [beq_eq_false_iff_ne];omega
          have Hex:Hid (mn = ((n1:Int) + n2) * pc):=hid (by rw [Hmn.out,if_pos htw];push_cast;rfl)
          have Hok:Hid (eI.ok (((n1:Int) + n2) * pc)):=hid (by rw [← Hex.out];show _ ∧ _;have:=Hbd.out;omega)
          have hw1:IntKind.i64.wrap ((n1:Int) + n2) = (n1:Int) + n2:=IntWalk.i64_in _ (by have:=Hn12.out;omega)
          have hw2:IntKind.i64.wrap (((n1:Int) + n2) * pc) = ((n1:Int) + n2) * pc:=IntWalk.i64_in _ (by have:=Hok.out;exact this)
          have p0:=cell_regrown (HS5.out.box.cell 0 _ rfl)
          have x2:=HSt5.out.c2
          rw [Hq.out] at x2
          have x2r:=cell_regrown x2
          have t0:=cell_regrown Hbc5.out
          clear htw x2
          go_wp2_with (go_at_call 43;with_reducible refine (l15Both_yes _ _ Htw.out).mono ?_;rintro e w9 ⟨rfl,rfl⟩)
          refine wp_region_quiet_below (by kernel_rfl) (by kernel_rfl) ?_
          repeat ((with_reducible refine wpQuiet_step (fun K hK=>?_));go_simp;first | ((with_reducible refine hK _ ?_);clear hK K) | (apply Exists.intro;refine ⟨fun _=>?_,hK _ ?_⟩;((fail));clear hK K))
          refine wpQuiet_nil ?_
          intro _ hw'
          obtain ⟨⟨dq,osq⟩,hw''⟩:=hw'
          subst hw''
          have hbq:=below_regrown wq dq osq
          generalize grow (redrawn wq dq) osq = wq2 at hbq ⊢
          have HS6:=hid (HS5.out.on hbq)
          have HSt6:=hid (HSt5.out.on hbq)
          have HO6:=hid (Own.below HO5.out hbq (Nat.le_refl _))
          have Hb6:=hid (Hb5.out.trans (hbq.mono Hb5.out.size))
          clear hbq HS5 HSt5 HO5 Hb5 p0 x2r t0 x0
          have x0:=HSt6.out.c0
          have hdo:=l15Do_c HS6.out HSt6.out (Nat.lt_trans Hsb.out Hbs0.out) HVo.out.1 HV2.out.symm
          have Hdo:=hid hdo
          clear hdo
          go_wp2_with fail
          with_reducible refine Hdo.out.mono ?_
          rintro e w8 ⟨R9,rfl,hiff,hdf,hok,hno⟩
          have Hb8:=hid (Hb6.out.trans ((hdf.below HS6.out).mono (Nat.le_of_lt Hbs0.out)))
          by_cases hR9:R9 = 0
          case neg =>
           have HE:Hid (M = none):=hid (by rw [HMk.out,Hms.out,if_neg (fun h=>hR9 (hiff.2 h))];rfl)
           have HE1:Hid (R = 6):=hid (by rw [HR2.out,if_pos HE.out])
           have HE2:Hid (LR = []):=hid (by rw [HL2.out,HE.out];rfl)
           have h1:(R9 != 0) = true:=by simpa using hR9
           clear hR9 hiff hdf hok hno
           go_wp2
           go_ret2
           exact ⟨⟨.slice none 0 0,by rw [HE1.out];rfl,by rw [HE2.out];exact Own.nil _ _ _ _⟩,Hb8.out⟩
          have hC0:=hiff.1 hR9
          obtain ⟨u8,v8',hS8⟩:=hok hR9
          have hYn:∀ q2,(Value.slice oo k occ).ownBlock = some q2 → ¬ (q2 = P ∨ (Value.slice (some ⟨g1,0,none⟩) 6 uc1).ownBlock = some q2 ∨ v.ownBlock = some q2):=fun q2 hq2 h=>by
           rcases h with e | e | e
           · exact HS6.out.pb.2 (by rw [← e];exact hq2)
           · exact (HS6.out.ne q2 (.inl e)).2 hq2
           · exact (HS6.out.ne q2 (.inr e)).2 hq2
          have HO8:=hid ((OwnT.agr (Own.top HO6.out) hdf hYn).1)
          have HS8:=hid hS8
          have HM2:Hid (M = (minL (stpD oc x) pc (xs.drop (k + 1))).map (fun l=>(L ++ [mn]) ++ l)):=hid (by
           rw [HMk.out,Hms.out,if_pos hC0,← Hmn0.out]
           cases minL (stpD oc x) pc (xs.drop (k + 1)) <;> simp)
          have HVn:=hid (show offB (stpD oc x) = true ∧ LensOk (stpD oc x) from ⟨stp_ok (x:=x) HVo.out.1 hC0,stp_lens (x:=x) HVo.out.1 HVo.out.2 hC0⟩)
          subst hR9
          clear hiff hdf hok hno hC0 hYn hS8 Hdo HS6 HSt6 HO6
          go_wp2_with (at_builtin;refine wpList_appS (E:=eI) rfl _ _ 29 rfl Tryz.underlying29 hi hz0 hz1 hz2 rfl (by decide) rfl rfl (HO8.out.alloc _) (rds_one (E:=eI) (x:=((n1:Int) + n2) * pc) Hok.out rfl) ?b1 ?b2 ?b3 ?_)
          case b1=>have:=hLk.out;unfold maxLen;simp;omega
          case b2=>have:=hLk.out;simp;omega
          case b3=>have:=HS8.out.hb;first | (simp;omega) | omega
          intro v7 w7 hO7 hg7
          obtain ⟨oo7,oc7,hv7⟩:=hO7.shape
          rw [show (L ++ [((n1:Int) + n2) * pc]).length = k + 1 by rw [List.length_append,HLl.out];rfl] at hv7
          subst hv7
          rw [← Hex.out] at hO7
          have hg8:=hg7.alloc
          have hA7:Agr (fun q=>(Value.slice oo k occ).ownBlock = some q) w8 w7:=Agr.of_grown hg8.1 (fun q hq _=>hq)
          have hS7:OutS bs (fun q=>(Value.slice oo7 (k + 1) oc7).ownBlock = some q) P w7 u8 v8' (stpD oc x):=HS8.out.turn hA7 (fun q hq _=>hq) (fun q hq=>⟨by
           rcases hg8.2 with e | ⟨z,e,hz⟩
           · exact .inl (by rw [← e];exact hq)
           · rw [e] at hq;cases hq;exact .inr hz,(hO7.lt q hq).2⟩)
          have hb7:Below w0.heap.size w0 w7:=Hb8.out.trans (hA7.below (fun q hq=>by have:=(HO8.out.lt q hq).1;have:=Hbs0.out;omega) Hb8.out.size)
          have HO7:=hid hO7
          have HS7:=hid hS7
          have Hb7:=hid hb7
          clear hO7 hg7 hg8 hA7 hS7 hb7
          go_wp2
          go_roundw
          case rel=>exact ⟨k + 1,stpD oc x,_,_,_,_,L ++ [mn],by omega,by go_num,rfl,HO7,hid (by rw [List.length_append,HLl.out];rfl),HS7,HVn,HM2,Hb7⟩
          case measure=>simp [intOf];omega
        · have Htw:=hid htw
          by_cases hk1:x.kd = 1
          · have Hex:Hid (mn = (n1:Int) * (2 * (x.ft - x.ff)) * pc):=hid (by rw [Hmn.out,if_neg htw,if_pos hk1,Int.mul_assoc,Int.mul_comm pc,← Int.mul_assoc])
            have Hok:Hid (eI.ok ((n1:Int) * (2 * (x.ft - x.ff)) * pc)):=hid (by rw [← Hex.out];show _ ∧ _;have:=Hbd.out;omega)
            have hw1:IntKind.i64.wrap (x.ft - x.ff) = x.ft - x.ff:=IntWalk.i64_in _ (by have:=HFf.out;omega)
            have hw2:IntKind.i64.wrap (2 * (x.ft - x.ff)) = 2 * (x.ft - x.ff):=IntWalk.i64_in _ (by have:=HFf.out;omega)
            have h16:(n1:Int) * (2 * (x.ft - x.ff)) = ((n1 * (2 * fw):Nat):Int):=by rw [Hfw.out];push_cast;rfl
            have h17:0 ≤ (n1:Int) * (2 * (x.ft - x.ff)) ∧ (n1:Int) * (2 * (x.ft - x.ff)) ≤ 1600:=by rw [h16];have:=Hm.out.2.2.1;omega
            have hw3:IntKind.i64.wrap ((n1:Int) * (2 * (x.ft - x.ff))) = (n1:Int) * (2 * (x.ft - x.ff)):=IntWalk.i64_in _ (by omega)
            clear h16 h17
            have hw4:IntKind.i64.wrap ((n1:Int) * (2 * (x.ft - x.ff)) * pc) = (n1:Int) * (2 * (x.ft - x.ff)) * pc:=IntWalk.i64_in _ (by have:=Hok.out;exact this)
            have x4:=cell_regrown HSt5.out.c4
            have x5:=cell_regrown HSt5.out.c5
            have Hk1:=hid hk1
            rw [hk1] at x0
            clear htw hk1
            go_wp2_with (go_at_call 43;with_reducible refine (l15Both_no 1 _ (by rw [← Hk1.out];exact Htw.out)).mono ?_;rintro e w9 ⟨rfl,rfl⟩)
            refine wp_region_quiet_below (by kernel_rfl) (by kernel_rfl) ?_
            repeat ((with_reducible refine wpQuiet_step (fun K hK=>?_));go_simp;first | ((with_reducible refine hK _ ?_);clear hK K) | (apply Exists.intro;refine ⟨fun _=>?_,hK _ ?_⟩;((fail));clear hK K))
            refine wpQuiet_nil ?_
            intro _ hw'
            obtain ⟨⟨dq,osq⟩,hw''⟩:=hw'
            subst hw''
            have hbq:=below_regrown wq dq osq
            generalize grow (redrawn wq dq) osq = wq2 at hbq ⊢
            have HS6:=hid (HS5.out.on hbq)
            have HSt6:=hid (HSt5.out.on hbq)
            have HO6:=hid (Own.below HO5.out hbq (Nat.le_refl _))
            have Hb6:=hid (Hb5.out.trans (hbq.mono Hb5.out.size))
            clear hbq HS5 HSt5 HO5 Hb5 x4 x5 x0
            have hdo:=l15Do_c HS6.out HSt6.out (Nat.lt_trans Hsb.out Hbs0.out) HVo.out.1 HV2.out.symm
            have Hdo:=hid hdo
            clear hdo
            go_wp2_with fail
            with_reducible refine Hdo.out.mono ?_
            rintro e w8 ⟨R9,rfl,hiff,hdf,hok,hno⟩
            have Hb8:=hid (Hb6.out.trans ((hdf.below HS6.out).mono (Nat.le_of_lt Hbs0.out)))
            by_cases hR9:R9 = 0
            case neg =>
             have HE:Hid (M = none):=hid (by rw [HMk.out,Hms.out,if_neg (fun h=>hR9 (hiff.2 h))];rfl)
             have HE1:Hid (R = 6):=hid (by rw [HR2.out,if_pos HE.out])
             have HE2:Hid (LR = []):=hid (by rw [HL2.out,HE.out];rfl)
             have h1:(R9 != 0) = true:=by simpa using hR9
             clear hR9 hiff hdf hok hno
             go_wp2
             go_ret2
             exact ⟨⟨.slice none 0 0,by rw [HE1.out];rfl,by rw [HE2.out];exact Own.nil _ _ _ _⟩,Hb8.out⟩
            have hC0:=hiff.1 hR9
            obtain ⟨u8,v8',hS8⟩:=hok hR9
            have hYn:∀ q2,(Value.slice oo k occ).ownBlock = some q2 → ¬ (q2 = P ∨ (Value.slice (some ⟨g1,0,none⟩) 6 uc1).ownBlock = some q2 ∨ v.ownBlock = some q2):=fun q2 hq2 h=>by
             rcases h with e | e | e
             · exact HS6.out.pb.2 (by rw [← e];exact hq2)
             · exact (HS6.out.ne q2 (.inl e)).2 hq2
             · exact (HS6.out.ne q2 (.inr e)).2 hq2
            have HO8:=hid ((OwnT.agr (Own.top HO6.out) hdf hYn).1)
            have HS8:=hid hS8
            have HM2:Hid (M = (minL (stpD oc x) pc (xs.drop (k + 1))).map (fun l=>(L ++ [mn]) ++ l)):=hid (by
             rw [HMk.out,Hms.out,if_pos hC0,← Hmn0.out]
             cases minL (stpD oc x) pc (xs.drop (k + 1)) <;> simp)
            have HVn:=hid (show offB (stpD oc x) = true ∧ LensOk (stpD oc x) from ⟨stp_ok (x:=x) HVo.out.1 hC0,stp_lens (x:=x) HVo.out.1 HVo.out.2 hC0⟩)
            subst hR9
            clear hiff hdf hok hno hC0 hYn hS8 Hdo HS6 HSt6 HO6
            go_wp2_with (at_builtin;refine wpList_appS (E:=eI) rfl _ _ 29 rfl Tryz.underlying29 hi hz0 hz1 hz2 rfl (by decide) rfl rfl (HO8.out.alloc _) (rds_one (E:=eI) (x:=(n1:Int) * (2 * (x.ft - x.ff)) * pc) Hok.out rfl) ?b1 ?b2 ?b3 ?_)
            case b1=>have:=hLk.out;unfold maxLen;simp;omega
            case b2=>have:=hLk.out;simp;omega
            case b3=>have:=HS8.out.hb;first | (simp;omega) | omega
            intro v7 w7 hO7 hg7
            obtain ⟨oo7,oc7,hv7⟩:=hO7.shape
            rw [show (L ++ [(n1:Int) * (2 * (x.ft - x.ff)) * pc]).length = k + 1 by rw [List.length_append,HLl.out];rfl] at hv7
            subst hv7
            rw [← Hex.out] at hO7
            have hg8:=hg7.alloc
            have hA7:Agr (fun q=>(Value.slice oo k occ).ownBlock = some q) w8 w7:=Agr.of_grown hg8.1 (fun q hq _=>hq)
            have hS7:OutS bs (fun q=>(Value.slice oo7 (k + 1) oc7).ownBlock = some q) P w7 u8 v8' (stpD oc x):=HS8.out.turn hA7 (fun q hq _=>hq) (fun q hq=>⟨by
             rcases hg8.2 with e | ⟨z,e,hz⟩
             · exact .inl (by rw [← e];exact hq)
             · rw [e] at hq;cases hq;exact .inr hz,(hO7.lt q hq).2⟩)
            have hb7:Below w0.heap.size w0 w7:=Hb8.out.trans (hA7.below (fun q hq=>by have:=(HO8.out.lt q hq).1;have:=Hbs0.out;omega) Hb8.out.size)
            have HO7:=hid hO7
            have HS7:=hid hS7
            have Hb7:=hid hb7
            clear hO7 hg7 hg8 hA7 hS7 hb7
            go_wp2
            go_roundw
            case rel=>exact ⟨k + 1,stpD oc x,_,_,_,_,L ++ [mn],by omega,by go_num,rfl,HO7,hid (by rw [List.length_append,HLl.out];rfl),HS7,HVn,HM2,Hb7⟩
            case measure=>simp [intOf];omega
          · have Hex:Hid (mn = (n1:Int) * pc):=hid (by rw [Hmn.out,if_neg htw,if_neg hk1])
            have Hok:Hid (eI.ok ((n1:Int) * pc)):=hid (by rw [← Hex.out];show _ ∧ _;have:=Hbd.out;omega)
            have hw1:IntKind.i64.wrap (n1:Int) = (n1:Int):=IntWalk.i64_in _ (by have:=Hn12.out;omega)
            have hw2:IntKind.i64.wrap ((n1:Int) * pc) = (n1:Int) * pc:=IntWalk.i64_in _ (by have:=Hok.out;exact this)
            have hk2:(x.kd == 1) = false:=beq_eq_false_iff_ne.2 hk1
            clear htw hk1
            have hdo:=l15Do_c HS5.out HSt5.out (Nat.lt_trans Hsb.out Hbs0.out) HVo.out.1 HV2.out.symm
            have Hdo:=hid hdo
            clear hdo
            go_wp2_with (first | (go_at_call 43;with_reducible refine (l15Both_no _ _ Htw.out).mono ?_;rintro e w9 ⟨rfl,rfl⟩) | fail)
            with_reducible refine Hdo.out.mono ?_
            rintro e w6 ⟨R9,rfl,hiff,hdf,hok,hno⟩
            have Hb6:=hid (Hb5.out.trans ((hdf.below HS5.out).mono (Nat.le_of_lt Hbs0.out)))
            by_cases hR9:R9 = 0
            case neg =>
             have HE:Hid (M = none):=hid (by rw [HMk.out,Hms.out,if_neg (fun h=>hR9 (hiff.2 h))];rfl)
             have HE1:Hid (R = 6):=hid (by rw [HR2.out,if_pos HE.out])
             have HE2:Hid (LR = []):=hid (by rw [HL2.out,HE.out];rfl)
             have h1:(R9 != 0) = true:=by simpa using hR9
             clear hR9 hiff hdf hok hno
             go_wp2
             go_ret2
             exact ⟨⟨.slice none 0 0,by rw [HE1.out];rfl,by rw [HE2.out];exact Own.nil _ _ _ _⟩,Hb6.out⟩
            have hC0:=hiff.1 hR9
            obtain ⟨u6,v6',hS6⟩:=hok hR9
            have hYn:∀ q2,(Value.slice oo k occ).ownBlock = some q2 → ¬ (q2 = P ∨ (Value.slice (some ⟨g1,0,none⟩) 6 uc1).ownBlock = some q2 ∨ v.ownBlock = some q2):=fun q2 hq2 h=>by
             rcases h with e | e | e
             · exact HS5.out.pb.2 (by rw [← e];exact hq2)
             · exact (HS5.out.ne q2 (.inl e)).2 hq2
             · exact (HS5.out.ne q2 (.inr e)).2 hq2
            have HO6:=hid ((OwnT.agr (Own.top HO5.out) hdf hYn).1)
            have HS6:=hid hS6
            have HM2:Hid (M = (minL (stpD oc x) pc (xs.drop (k + 1))).map (fun l=>(L ++ [mn]) ++ l)):=hid (by
             rw [HMk.out,Hms.out,if_pos hC0,← Hmn0.out]
             cases minL (stpD oc x) pc (xs.drop (k + 1)) <;> simp)
            have HVn:=hid (show offB (stpD oc x) = true ∧ LensOk (stpD oc x) from ⟨stp_ok (x:=x) HVo.out.1 hC0,stp_lens (x:=x) HVo.out.1 HVo.out.2 hC0⟩)
            subst hR9
            clear hiff hdf hok hno hC0 hYn hS6 Hdo HS5 HSt5 HO5
            go_wp2_with (at_builtin;refine wpList_appS (E:=eI) rfl _ _ 29 rfl Tryz.underlying29 hi hz0 hz1 hz2 rfl (by decide) rfl rfl (HO6.out.alloc _) (rds_one (E:=eI) (x:=(n1:Int) * pc) Hok.out rfl) ?b1 ?b2 ?b3 ?_)
            case b1=>have:=hLk.out;unfold maxLen;simp;omega
            case b2=>have:=hLk.out;simp;omega
            case b3=>have:=HS6.out.hb;first | (simp;omega) | omega
            intro v7 w7 hO7 hg7
            obtain ⟨oo7,oc7,hv7⟩:=hO7.shape
            rw [show (L ++ [(n1:Int) * pc]).length = k + 1 by rw [List.length_append,HLl.out];rfl] at hv7
            subst hv7
            rw [← Hex.out] at hO7
            have hg8:=hg7.alloc
            have hA7:Agr (fun q=>(Value.slice oo k occ).ownBlock = some q) w6 w7:=Agr.of_grown hg8.1 (fun q hq _=>hq)
            have hS7:OutS bs (fun q=>(Value.slice oo7 (k + 1) oc7).ownBlock = some q) P w7 u6 v6' (stpD oc x):=HS6.out.turn hA7 (fun q hq _=>hq) (fun q hq=>⟨by
             rcases hg8.2 with e | ⟨z,e,hz⟩
             · exact .inl (by rw [← e];exact hq)
             · rw [e] at hq;cases hq;exact .inr hz,(hO7.lt q hq).2⟩)
            have hb7:Below w0.heap.size w0 w7:=Hb6.out.trans (hA7.below (fun q hq=>by have:=(HO6.out.lt q hq).1;have:=Hbs0.out;omega) Hb6.out.size)
            have HO7:=hid hO7
            have HS7:=hid hS7
            have Hb7:=hid hb7
            clear hO7 hg7 hg8 hA7 hS7 hb7
            go_wp2
            go_roundw
            case rel=>exact ⟨k + 1,stpD oc x,_,_,_,_,L ++ [mn],by omega,by go_num,rfl,HO7,hid (by rw [List.length_append,HLl.out];rfl),HS7,HVn,HM2,Hb7⟩
            case measure=>simp [intOf];omega
     · obtain rfl:k = n:=by omega
       have hME:M = some L:=by
        rw [HMk.out,List.drop_of_length_le (by have:=Hn.out;omega)]
        simp [minL]
       have HE1:Hid (R = 0):=hid (by rw [HR2.out,hME,if_neg (by simp)])
       have HE2:Hid (LR = L):=hid (by rw [HL2.out,hME];rfl)
       have HOf:=hid (HO.out.mono (Nat.le_of_lt Hbs0.out))
       clear hME
       go_wp2
       go_ret2
       exact ⟨⟨_,by rw [HE1.out];rfl,by rw [HE2.out];exact HOf.out⟩,Hb.out⟩
set_option maxHeartbeats 8000000 in
theorem StepMinutes_c {o:OffT} {xs:List StepT} {u v s:Value} {w0:World} {A B:Nat} {pc:Int} (ho:RdOff B w0 u v o) (hx:RdStepS A w0 s xs) (hl:LensOk o) :
 Calls Tryz.prog 12 #[.agg #[u,v],s,.int .i64 pc] w0 fun e w'=>(∃ r,e = .returned (.tuple #[r,.int .i64 (smC o xs pc)]) ∧ OwnInt64S w0.heap.size w' r (smL o xs pc)) ∧ Below w0.heap.size w0 w':=by
 obtain ⟨i0,hi,hz0,hz1,hz2⟩:=info_parts Tryz.infoInt64
 obtain ⟨uo,uc,rfl⟩:=RdL.shape ho.1
 obtain ⟨vo,vc,rfl⟩:=RdL.shape ho.2
 have hle:=hx.le
 obtain ⟨so,sc,rfl,hso⟩:=eStep_open hx.tight
 obtain ⟨T,hT⟩:∃ T,T = w0.alloc (.cells #[.slice uo o.trays.length uc,.slice vo o.totals.length vc] 35):=⟨_,rfl⟩
 have hbT:Below w0.heap.size w0 T:=by rw [hT];exact (Below.refl _ _).alloc (Nat.le_refl _) _
 have hBT:Box T w0.heap.size [.slice uo o.trays.length uc,.slice vo o.totals.length vc]:=by rw [hT];exact Box.new w0 [.slice uo o.trays.length uc,.slice vo o.totals.length vc] _
 have hfr:=(RdO.first ho).on hbT
 have hvo:=ValidOffice_c (RdOff.onn ho hbT)
 have c0:=hBT.cell 0 _ rfl
 have c1:=hBT.cell 1 _ rfl
 obtain ⟨V,hV⟩:∃ V,V = offB o:=⟨_,rfl⟩
 rw [← hV] at hvo
 obtain ⟨R,hR⟩:∃ R,smC o xs pc = R:=⟨_,rfl⟩
 rw [hR]
 obtain ⟨LR,hLR⟩:∃ LR,smL o xs pc = LR:=⟨_,rfl⟩
 rw [hLR]
 obtain ⟨n,hn⟩:∃ n,n = xs.length:=⟨_,rfl⟩
 have HV:=hid hV
 have HR:=hid hR
 have HLR:=hid hLR
 have HT:=hid hT
 have HbT:=hid hbT
 have HBT:=hid hBT
 have Hfr:=hid hfr
 have Hvo:=hid hvo
 have Hso:=hid hso
 have Hl:=hid hl
 rw [← hn] at hle Hso ⊢
 have Hn:=hid hn
 clear ho hx hl hso hT hbT hBT hfr hvo hV hR hLR hn
 go_enter Tryz.func12,Tryz.ntmps12
 go_upto_region 1 with fail
 rw [← HT.out]
 go_wp2_with fail
 with_reducible refine Hvo.out.mono ?_
 rintro e w1 ⟨rfl,hb1⟩
 have HB1:=hid (HBT.out.on hb1)
 have Hf1:=hid (Hfr.out.on hb1)
 have Hb1:=hid (HbT.out.trans (hb1.mono HbT.out.size))
 clear hb1 c0 c1
 cases V with
 | false =>
  have HE:Hid (R = 1):=hid (by rw [← HR.out];unfold smC;rw [if_pos HV.out.symm])
  have HE2:Hid (LR = []):=hid (by rw [← HLR.out];unfold smL;rw [if_pos HV.out.symm])
  go_wp2
  go_ret2
  exact ⟨⟨.slice none 0 0,by rw [HE.out];rfl,by rw [HE2.out];exact Own.nil _ _ _ _⟩,Hb1.out⟩
 | true =>
  have HR1:Hid (R = if 20 < n ∨ ¬ (1 ≤ pc ∧ pc ≤ 100) then 2 else if minL o pc xs = none then 6 else 0):=hid (by rw [← HR.out];unfold smC;rw [if_neg (by rw [← HV.out];decide),Hn.out])
  have HL1:Hid (LR = if 20 < n ∨ ¬ (1 ≤ pc ∧ pc ≤ 100) then [] else (minL o pc xs).getD []):=hid (by rw [← HLR.out];unfold smL;rw [if_neg (by rw [← HV.out];decide),Hn.out])
  by_cases hn20:20 < n
  · have HE:Hid (R = 2):=hid (by rw [HR1.out,if_pos (.inl hn20)])
    have HE2:Hid (LR = []):=hid (by rw [HL1.out,if_pos (.inl hn20)])
    have i1:(20:Int) < (n:Int):=by omega
    go_wp2
    go_ret2
    exact ⟨⟨.slice none 0 0,by rw [HE.out];rfl,by rw [HE2.out];exact Own.nil _ _ _ _⟩,Hb1.out⟩
  · have i1:¬ (20:Int) < (n:Int):=by omega
    by_cases hpc:1 ≤ pc ∧ pc ≤ 100
    case neg =>
     have HE:Hid (R = 2):=hid (by rw [HR1.out,if_pos (.inr hpc)])
     have HE2:Hid (LR = []):=hid (by rw [HL1.out,if_pos (.inr hpc)])
     have hpc2:pc < 1 ∨ 100 < pc:=by omega
     have Hpc:=hid hpc2
     clear hpc hpc2
     go_wp2_with fail
     with_reducible refine (inside_no _ _ _ _ Hpc.out).mono ?_
     rintro e w2 ⟨rfl,rfl⟩
     go_wp2
     go_ret2
     exact ⟨⟨.slice none 0 0,by rw [HE.out];rfl,by rw [HE2.out];exact Own.nil _ _ _ _⟩,Hb1.out⟩
    have HR2:Hid (R = if minL o pc xs = none then 6 else 0):=hid (by rw [HR1.out,if_neg (fun h=>h.elim hn20 (fun h=>h hpc))])
    have HL2:Hid (LR = (minL o pc xs).getD []):=hid (by rw [HL1.out,if_neg (fun h=>h.elim hn20 (fun h=>h hpc))])
    have Hpc:=hid hpc
    clear hpc
    go_wp2_with fail
    with_reducible refine (inside_yes _ _ _ _ Hpc.out.1 Hpc.out.2).mono ?_
    rintro e w2 ⟨rfl,rfl⟩
    obtain ⟨W,hW⟩:∃ W,W = w1.alloc (.cells #[] 2):=⟨_,rfl⟩
    have hbW:Below w1.heap.size w1 W:=by rw [hW];exact (Below.refl _ _).alloc (Nat.le_refl _) _
    have hz1':w0.heap.size + 1 ≤ w1.heap.size:=by have:=HB1.out.lt;omega
    have hO0:OwnInt64S (w0.heap.size + 1) W (.slice (some ⟨w1.heap.size,0,none⟩) 0 0) []:=by
     rw [hW]
     exact Own.lit (E:=eI) (xs:=[]) (cs:=#[]) hz1' rfl rfl (by decide) (fun x hx=>by cases hx)
    have HO0:=hid hO0
    have HBW:=hid (HB1.out.on hbW)
    have HfW:=hid (Hf1.out.on hbW)
    have HbW:=hid (Hb1.out.trans (hbW.mono Hb1.out.size))
    have HSW:Hid ((fun k=>w0.heap.size ≤ k) w0.heap.size ∧ ∀ q,(Value.slice (some ⟨w1.heap.size,0,none⟩) 0 0).ownBlock = some q → (fun k=>w0.heap.size ≤ k) q):=hid ⟨Nat.le_refl _,fun q hq=>by have h9:w1.heap.size = q:=Option.some.inj hq;show w0.heap.size ≤ q;omega⟩
    have HVO:Hid (offB o = true ∧ LensOk o):=hid ⟨HV.out.symm,Hl.out⟩
    obtain ⟨M,hM⟩:∃ M,M = minL o pc xs:=⟨_,rfl⟩
    have HM:=hid hM
    rw [← hM] at HR2 HL2
    have HM0:Hid (M = (minL o pc (xs.drop 0)).map (fun l=>[] ++ l)):=hid (by rw [List.drop_zero,hM];cases minL o pc xs <;> rfl)
    have HW:=hid hW
    clear hO0 hbW hz1' hW hM
    go_wp2
    rw [← HW.out]
    go_loopw [8,30] (fun ov iv wr=>∃ (k:Nat) (oc:OffT) (S:Nat → Prop) (a1 a2 oo:Option Addr) (n1 n2 c1 c2 occ:Nat) (L:List Int),k ≤ n ∧ iv = .int .i64 k ∧ ov = .slice oo k occ ∧ Hid (OwnInt64S (w0.heap.size + 1) wr (.slice oo k occ) L) ∧ Hid (L.length = k) ∧ Hid (FrS RdO S wr (.agg #[.slice a1 n1 c1,.slice a2 n2 c2]) oc) ∧ Hid (S w0.heap.size ∧ ∀ q,(Value.slice oo k occ).ownBlock = some q → S q) ∧ Hid (Box wr w0.heap.size [.slice a1 n1 c1,.slice a2 n2 c2]) ∧ Hid (offB oc = true ∧ LensOk oc) ∧ Hid (M = (minL oc pc (xs.drop k)).map (fun l=>L ++ l)) ∧ Hid (Below w0.heap.size w0 wr)) (fun _ i _=>n - (intOf i).toNat)
    case atStart=>exact ⟨0,o,_,_,_,_,_,_,_,_,_,[],Nat.zero_le _,rfl,rfl,HO0,hid rfl,HfW,HSW,HBW,HVO,HM0,HbW⟩
    case round =>
     obtain ⟨k,oc,S,a1,a2,oo,n1,n2,c1,c2,occ,L,hk,rfl,rfl,HO,HLl,HF,HS,HBx,HVo,HMk,Hb⟩:=hrel
     clear HO0 HfW HSW HBW HVO HM0 HbW
     by_cases hkn:k < n
     · obtain ⟨sb,soff,rfl,slt,scc⟩:=Hso.out (by omega)
       obtain ⟨x,hxk,⟨e0,e1,e2,e3,e4,e5,e6,e7,e8⟩,bx⟩:=scc k hkn
       have hmv:=fun (j:Nat) (y:Value) (h:w0.cell? ⟨sb,soff + k * 9 + j,none⟩ = some y)=>(Hb.out.cell (p:=⟨sb,soff + k * 9 + j,none⟩) slt.2).trans h
       have s0:wr.cell? ⟨sb,soff + k * 9,none⟩ = some (.int .i64 x.kd):=hmv 0 _ e0
       have s1:=hmv 1 _ e1
       have s2:=hmv 2 _ e2
       have s3:=hmv 3 _ e3
       have s4:=hmv 4 _ e4
       have s5:=hmv 5 _ e5
       have s6:=hmv 6 _ e6
       have s7:=hmv 7 _ e7
       have s8:=hmv 8 _ e8
       obtain ⟨T1,hT1⟩:∃ T1,T1 = wr.alloc (.cells #[.int .i64 x.kd,.int .i64 x.ta,.int .i64 x.tb,.int .i64 x.tc,.int .i64 x.ff,.int .i64 x.ft,.int .i64 x.sf,.int .i64 x.st,.string x.tx] 75):=⟨_,rfl⟩
       have hbT1:Below wr.heap.size wr T1:=by rw [hT1];exact (Below.refl _ _).alloc (Nat.le_refl _) _
       have hX1:Box T1 wr.heap.size [.int .i64 x.kd,.int .i64 x.ta,.int .i64 x.tb,.int .i64 x.tc,.int .i64 x.ff,.int .i64 x.ft,.int .i64 x.sf,.int .i64 x.st,.string x.tx]:=by rw [hT1];exact Box.new wr [.int .i64 x.kd,.int .i64 x.ta,.int .i64 x.tb,.int .i64 x.tc,.int .i64 x.ff,.int .i64 x.ft,.int .i64 x.sf,.int .i64 x.st,.string x.tx] _
       have hFT:=HF.out.on hbT1
       have hcp:=copy_of HVo.out.1 HVo.out.2
       have hds:=doStep_c (RdO.off hFT) HVo.out.1 ⟨hcp.1,hcp.2.1,hcp.2.2,HVo.out.2⟩ bx
       unfold vStep at hds
       have Hds:=hid hds
       have Hx:=hid hxk
       have HT1:=hid hT1
       have HbT1:=hid hbT1
       have HX1:=hid hX1
       have hBT1:=HBx.out.on hbT1
       have HBT1:=hid hBT1
       have x0:=hX1.cell 0 _ rfl
       have x1:=hX1.cell 1 _ rfl
       have x2:=hX1.cell 2 _ rfl
       have x3:=hX1.cell 3 _ rfl
       have x4:=hX1.cell 4 _ rfl
       have x5:=hX1.cell 5 _ rfl
       have x6:=hX1.cell 6 _ rfl
       have x7:=hX1.cell 7 _ rfl
       have x8:=hX1.cell 8 _ rfl
       have b0:=hBT1.cell 0 _ rfl
       have b1:=hBT1.cell 1 _ rfl
       clear scc hxk e0 e1 e2 e3 e4 e5 e6 e7 e8 bx hmv hT1 hbT1 hX1 hFT hcp hds hBT1
       go_upto_region 9 with fail
       rw [← HT1.out]
       clear s0 s1 s2 s3 s4 s5 s6 s7 s8
       go_wp2_with fail
       with_reducible refine Hds.out.mono ?_
       rintro e w3 ⟨⟨u3,v3,rfl,⟨⟨p1,q1,r1,rfl⟩,p2,q2,r2,rfl⟩,hN⟩,hb3⟩
       obtain ⟨T3,hT3⟩:∃ T3,T3 = w3.alloc (.cells #[.slice p1 q1 r1,.slice p2 q2 r2] 35):=⟨_,rfl⟩
       have hbT3:Below w3.heap.size w3 T3:=by rw [hT3];exact (Below.refl _ _).alloc (Nat.le_refl _) _
       have hX3:Box T3 w3.heap.size [.slice p1 q1 r1,.slice p2 q2 r2]:=by rw [hT3];exact Box.new w3 [.slice p1 q1 r1,.slice p2 q2 r2] _
       have hb13:Below T1.heap.size T1 T3:=hb3.trans (hbT3.mono hb3.size)
       have hbr3:Below wr.heap.size wr T3:=HbT1.out.trans (hb13.mono HbT1.out.size)
       have hms:=minL_step (o:=oc) (m:=pc) Hx.out
       have HT3:=hid hT3
       have HX3:=hid hX3
       have Hbr3:=hid hbr3
       have HX13:=hid (HX1.out.on hb13)
       have HB13:=hid (HBT1.out.on hb13)
       have Hms:=hid hms
       have hz3:T1.heap.size ≤ w3.heap.size:=hb3.size
       have hz13:wr.heap.size < T1.heap.size:=HX1.out.lt
       obtain ⟨C,hC⟩:∃ C,C = stpC oc x:=⟨_,rfl⟩
       rw [← hC] at hN ⊢
       have HC:=hid hC
       clear hb3 hT3 hX3 hb13 hbr3 hms x0 x1 x2 x3 x4 x5 x6 x7 x8 b0 b1 hC
       go_upto_region 10 with fail
       rw [← HT3.out]
       by_cases hC0:C = 0
       case neg =>
        have HE:Hid (M = none):=hid (by rw [HMk.out,Hms.out,if_neg (by rw [← HC.out];exact hC0)];rfl)
        have HE1:Hid (R = 6):=hid (by rw [HR2.out,if_pos HE.out])
        have HE2:Hid (LR = []):=hid (by rw [HL2.out,HE.out];rfl)
        have h1:(C != 0) = true:=by simpa using hC0
        have HBf:=hid (Hb.out.trans (Hbr3.out.mono Hb.out.size))
        clear hC0 hN hbT3
        go_wp2
        go_ret2
        exact ⟨⟨.slice none 0 0,by rw [HE1.out];rfl,by rw [HE2.out];exact Own.nil _ _ _ _⟩,HBf.out⟩
       have hN0:=hN hC0
       have hst:=stp_st (o:=oc) (x:=x) (by rw [← HC.out];exact hC0)
       have hbd:=minO_bd HVo.out.1 hst Hpc.out
       obtain ⟨mn,hmn⟩:∃ mn,mn = minO oc x pc:=⟨_,rfl⟩
       have HM2:Hid (M = (minL (stpD oc x) pc (xs.drop (k + 1))).map (fun l=>(L ++ [mn]) ++ l)):=hid (by
        rw [HMk.out,Hms.out,if_pos (by rw [← HC.out];exact hC0),← hmn]
        cases minL (stpD oc x) pc (xs.drop (k + 1)) with
        | none=>rfl
        | some l=>simp)
       have hp:=offB_parts HVo.out.1
       have ta:=trD_at hp.1 hst.ta
       have tb:=trD_at hp.1 hst.tb
       have hF3:=HF.out.on Hbr3.out
       have hof:=RdO.off hF3
       obtain ⟨uo',uc',hs,hop⟩:=RdL.open rowK_D hof.1
       rw [hp.1] at hs hop
       injection hs with g1 g2 g3
       subst g1;subst g2;subst g3
       obtain ⟨tb0,toff,rfl,tlt,hc⟩:=hop (by omega)
       obtain ⟨p,hpe⟩:=Int.eq_ofNat_of_zero_le hst.ta.1
       obtain ⟨q,hqe⟩:=Int.eq_ofNat_of_zero_le hst.tb.1
       have hp6:p < 6:=by have:=hst.ta.2;omega
       have hq6:q < 6:=by have:=hst.tb.2;omega
       obtain ⟨a,ao,ac,ha,hac,-⟩:=hc p hp6
       obtain ⟨b,bo,bc,hb,hbc,-⟩:=hc q hq6
       rw [hpe,Int.toNat_natCast] at ta
       rw [hqe,Int.toNat_natCast] at tb
       rw [ta] at ha
       rw [tb] at hb
       have ha:=Option.some.inj ha
       have hb:=Option.some.inj hb
       have hal:=(deckB_parts (hp.2.2 _ (List.mem_of_getElem? ta)).1).1
       have hbl:=(deckB_parts (hp.2.2 _ (List.mem_of_getElem? tb)).1).1
       rw [ha] at hal
       rw [hb] at hbl
       obtain ⟨l1,hl1⟩:∃ l,l = a.length:=⟨_,rfl⟩
       obtain ⟨l2,hl2⟩:∃ l,l = b.length:=⟨_,rfl⟩
       rw [← hl1] at hac hal
       rw [← hl2] at hbc hbl
       have hmn2:mn = if twoP x.kd then ((l1 + l2:Nat):Int) * pc else if x.kd = 1 then (l1:Int) * pc * (2 * (x.ft - x.ff)) else (l1:Int) * pc:=by
        rw [hmn]
        unfold minO
        rw [hpe,hqe,ha,hb,← hl1,← hl2]
       obtain ⟨pn,hpn⟩:=Int.eq_ofNat_of_zero_le (show 0 ≤ pc by have:=Hpc.out;omega)
       have hpn100:pn ≤ 100:=by have:=Hpc.out;omega
       have hm1:l1 * pn ≤ 4000:=Nat.le_trans (Nat.mul_le_mul hal hpn100) (by decide)
       have hm2:l2 * pn ≤ 4000:=Nat.le_trans (Nat.mul_le_mul hbl hpn100) (by decide)
       have hp1:0 ≤ (l1:Int) * pc ∧ (l1:Int) * pc ≤ 4000:=by
        have e:(l1:Int) * pc = ((l1 * pn:Nat):Int):=by rw [hpn];push_cast;rfl
        rw [e];omega
       have hp2:0 ≤ (l2:Int) * pc ∧ (l2:Int) * pc ≤ 4000:=by
        have e:(l2:Int) * pc = ((l2 * pn:Nat):Int):=by rw [hpn];push_cast;rfl
        rw [e];omega
       have hbdm:-9223372036854775808 ≤ mn ∧ mn ≤ 9223372036854775807:=by rw [← hmn] at hbd;omega
       obtain ⟨Q1,hQ1⟩:∃ Q,Q = (l1:Int) * pc:=⟨_,rfl⟩
       obtain ⟨Q2,hQ2⟩:∃ Q,Q = (l2:Int) * pc:=⟨_,rfl⟩
       rw [← hQ1] at hp1
       rw [← hQ2] at hp2
       have hw1:IntKind.i64.wrap ((l1:Int) * pc) = Q1:=by rw [← hQ1];exact IntWalk.i64_in _ (by omega)
       have hw2:IntKind.i64.wrap ((l2:Int) * pc) = Q2:=by rw [← hQ2];exact IntWalk.i64_in _ (by omega)
       have hmn3:mn = if twoP x.kd then Q1 + Q2 else if x.kd = 1 then Q1 * (2 * (x.ft - x.ff)) else Q1:=by
        rw [hmn2,hQ1,hQ2]
        split
        · push_cast;rw [Int.add_mul]
        · rfl
       have x0:=HX13.out.cell 0 _ rfl
       have x1:=HX13.out.cell 1 _ rfl
       have x2:=HX13.out.cell 2 _ rfl
       have x4:=HX13.out.cell 4 _ rfl
       have x5:=HX13.out.cell 5 _ rfl
       have b0:=HB13.out.cell 0 _ rfl
       have b1:=HB13.out.cell 1 _ rfl
       rw [hpe] at x1
       rw [hqe] at x2
       have hFf:=hst.ff
       have hcb:=colO_bd (ts:=oc.trays) (fun d hd=>(hp.2.2 d hd).1)
       have hOt:=HO.out.below Hbr3.out (Nat.le_refl _)
       have hOl:=HO.out.lt
       have hVn:=stp_ok (x:=x) HVo.out.1 (by rw [← HC.out];exact hC0)
       have hLn:=stp_lens (x:=x) HVo.out.1 HVo.out.2 (by rw [← HC.out];exact hC0)
       have hfr3:=(RdO.own hN0 (Nat.le_refl T1.heap.size)).on hbT3
       have HO3:=hid hOt
       have HOl:=hid hOl
       have HVn:=hid (show offB (stpD oc x) = true ∧ LensOk (stpD oc x) from ⟨hVn,hLn⟩)
       have Hfr3:=hid hfr3
       have Hmn:=hid hmn3
       have Hokm:Hid (eI.ok mn):=hid hbdm
       have hq1:l1 ≤ 9223372036854775807:=by omega
       have hq2:l2 ≤ 9223372036854775807:=by omega
       have ip:(p:Int) < 6:=by omega
       have iq:(q:Int) < 6:=by omega
       have hLk:Hid (L.length ≤ 1000):=hid (by rw [HLl.out];omega)
       have hsz3:w0.heap.size + 1 ≤ T3.heap.size:=by have:=HB13.out.lt;omega
       have hX3l:w3.heap.size < T3.heap.size:=HX3.out.lt
       subst hC0
       clear hN hN0 hst hbd hmn hp ta tb hF3 hof hop hc ha hb hal hbl hl1 hl2 hmn2 hpn hm1 hm2 hbdm hQ1 hQ2 hmn3 hpe hqe hOt hOl hVn hLn hfr3 hpn100 hbT3 HO tlt slt
       by_cases htw:twoP x.kd
       · have Hex:Hid (mn = Q1 + Q2):=hid (by rw [Hmn.out,if_pos htw])
         have Hok:Hid (eI.ok (Q1 + Q2)):=hid (by rw [← Hex.out];exact Hokm.out)
         have Htw:=hid (fun w=>takesTwo_yes x.kd w htw)
         have hw3:IntKind.i64.wrap (Q1 + Q2) = Q1 + Q2:=IntWalk.i64_in _ (by omega)
         clear htw
         go_wp2_with (first | (go_at_call 51;first | (with_reducible refine (sizeC_c hq1).mono ?_;rintro e w9 ⟨rfl,rfl⟩) | (with_reducible refine (sizeC_c hq2).mono ?_;rintro e w9 ⟨rfl,rfl⟩)) | (go_at_call 52;with_reducible refine (Htw.out _).mono ?_;rintro e w9 ⟨rfl,rfl⟩) | (at_builtin;refine wpList_appS (E:=eI) rfl _ _ 29 rfl Tryz.underlying29 hi hz0 hz1 hz2 rfl (by decide) rfl rfl (HO3.out.alloc _) (rds_one (E:=eI) (x:=Q1 + Q2) Hok.out rfl) ?b1 ?b2 ?b3 ?_))
         case b1=>have:=hLk.out;unfold maxLen;simp;omega
         case b2=>have:=hLk.out;simp;omega
         case b3=>first | (simp;omega) | omega
         intro v6 w6 hO6 hg6
         obtain ⟨oo6,oc6,hv6⟩:=hO6.shape
         rw [show (L ++ [Q1 + Q2]).length = k + 1 by rw [List.length_append,HLl.out];rfl] at hv6
         subst hv6
         rw [← Hex.out] at hO6
         have hg7:=hg6.alloc
         have hA6:Agr (fun q=>(Value.slice oo k occ).ownBlock = some q) T3 w6:=Agr.of_grown hg7.1 (fun q hq _=>hq)
         have hB6:=boxAgr HB13.out hA6 (fun e=>by have:=(HOl.out _ e).1;omega)
         have hX6:=boxAgr HX3.out hA6 (fun e=>by have:=(HOl.out _ e).2;omega)
         obtain ⟨W7,hW7⟩:∃ W7,W7 = (w6.setCell ⟨w0.heap.size,0,none⟩ (.slice p1 q1 r1)).setCell ⟨w0.heap.size,1,none⟩ (.slice p2 q2 r2):=⟨_,rfl⟩
         have hA7:Agr (fun q=>q = w0.heap.size) w6 W7:=by rw [hW7];exact agr2 _ _ _ _
         have hO7:=(OwnT.agr (Own.top hO6) hA7 (fun q hq hS=>by have:=(hO6.lt q hq).1;omega)).1
         have hB7:Box W7 w0.heap.size [.slice p1 q1 r1,.slice p2 q2 r2]:=by rw [hW7];exact (hB6.set1 (j:=0) (by simp) _).set1 (j:=1) (by simp) _
         have hF7:FrS RdO (fun q=>q < T1.heap.size ∨ T3.heap.size ≤ q) W7 (.agg #[.slice p1 q1 r1,.slice p2 q2 r2]) (stpD oc x):=(Hfr3.out.step hA6 (fun q hq _=>by have:=(HOl.out _ hq).2;show q < T1.heap.size;omega) (S'':=fun q=>q < T1.heap.size ∨ T3.heap.size ≤ q) (fun q hq hlt=>hq.elim id (fun h=>by omega))).step hA7 (fun q hq _=>.inl (by have:=Hb.out.size;omega)) (fun q h _=>h)
         have hS7:(w0.heap.size < T1.heap.size ∨ T3.heap.size ≤ w0.heap.size) ∧ ∀ q,(Value.slice oo6 (k + 1) oc6).ownBlock = some q → (q < T1.heap.size ∨ T3.heap.size ≤ q):=⟨.inl (by have:=Hb.out.size;omega),fun q hq=>by
          rcases hg7.2 with e | ⟨z,e,hz⟩
          · exact .inl (by have:=(HOl.out q (by rw [← e];exact hq)).2;omega)
          · rw [e] at hq;cases hq;exact .inr hz⟩
         have hb7:Below w0.heap.size w0 W7:=((Hb.out.trans (Hbr3.out.mono Hb.out.size)).trans (hA6.below (fun q hq=>by have:=(HOl.out _ hq).1;omega) (by omega))).trans (hA7.below (fun q hq=>by omega) (by have:=hA6.size;omega))
         have HO7:=hid hO7
         have HB7:=hid hB7
         have HF7:=hid hF7
         have HS7:=hid hS7
         have Hb7:=hid hb7
         have HW7:=hid hW7
         have y0:=hX6.cell 0 _ rfl
         have y1:=hX6.cell 1 _ rfl
         have z0:=hB6.cell 0 _ rfl
         have z1:=hB6.cell 1 _ rfl
         have zf0:=hB6.free 0
         have zf1:=hB6.free 1
         clear hO6 hg6 hg7 hA6 hB6 hX6 hA7 hO7 hB7 hF7 hS7 hb7 hW7 b0 b1 x0 x1 x2 x4 x5
         go_wp2
         rw [← HW7.out]
         go_roundw
         case rel=>exact ⟨k + 1,stpD oc x,_,_,_,_,_,_,_,_,_,L ++ [mn],by omega,by go_num,rfl,HO7,hid (by rw [List.length_append,HLl.out];rfl),HF7,HS7,HB7,HVn,HM2,Hb7⟩
         case measure=>simp [intOf];omega
       · by_cases hk1:x.kd = 1
         · have Hex:Hid (mn = Q1 * (2 * (x.ft - x.ff))):=hid (by rw [Hmn.out,if_neg htw,if_pos hk1])
           have Hok:Hid (eI.ok (Q1 * (2 * (x.ft - x.ff)))):=hid (by rw [← Hex.out];exact Hokm.out)
           have Htw:=hid (fun w=>takesTwo_no 1 w (by rw [← hk1];exact htw))
           have hw3:IntKind.i64.wrap (x.ft - x.ff) = x.ft - x.ff:=IntWalk.i64_in _ (by have:=hFf.1;have:=hFf.2.1;have:=hFf.2.2;omega)
           have hw4:IntKind.i64.wrap (2 * (x.ft - x.ff)) = 2 * (x.ft - x.ff):=IntWalk.i64_in _ (by have:=hFf.1;have:=hFf.2.1;have:=hFf.2.2;omega)
           have hw5:IntKind.i64.wrap (Q1 * (2 * (x.ft - x.ff))) = Q1 * (2 * (x.ft - x.ff)):=IntWalk.i64_in _ (by have:=Hok.out;exact this)
           have Hk1:=hid hk1
           rw [hk1] at x0
           clear htw hFf hcb hk1
           go_wp2_with (first | (go_at_call 51;first | (with_reducible refine (sizeC_c hq1).mono ?_;rintro e w9 ⟨rfl,rfl⟩) | (with_reducible refine (sizeC_c hq2).mono ?_;rintro e w9 ⟨rfl,rfl⟩)) | (go_at_call 52;with_reducible refine (Htw.out _).mono ?_;rintro e w9 ⟨rfl,rfl⟩) | (at_builtin;refine wpList_appS (E:=eI) rfl _ _ 29 rfl Tryz.underlying29 hi hz0 hz1 hz2 rfl (by decide) rfl rfl (HO3.out.alloc _) (rds_one (E:=eI) (x:=Q1 * (2 * (x.ft - x.ff))) Hok.out rfl) ?b1 ?b2 ?b3 ?_))
           case b1=>have:=hLk.out;unfold maxLen;simp;omega
           case b2=>have:=hLk.out;simp;omega
           case b3=>first | (simp;omega) | omega
           intro v6 w6 hO6 hg6
           obtain ⟨oo6,oc6,hv6⟩:=hO6.shape
           rw [show (L ++ [Q1 * (2 * (x.ft - x.ff))]).length = k + 1 by rw [List.length_append,HLl.out];rfl] at hv6
           subst hv6
           rw [← Hex.out] at hO6
           have hg7:=hg6.alloc
           have hA6:Agr (fun q=>(Value.slice oo k occ).ownBlock = some q) T3 w6:=Agr.of_grown hg7.1 (fun q hq _=>hq)
           have hB6:=boxAgr HB13.out hA6 (fun e=>by have:=(HOl.out _ e).1;omega)
           have hX6:=boxAgr HX3.out hA6 (fun e=>by have:=(HOl.out _ e).2;omega)
           obtain ⟨W7,hW7⟩:∃ W7,W7 = (w6.setCell ⟨w0.heap.size,0,none⟩ (.slice p1 q1 r1)).setCell ⟨w0.heap.size,1,none⟩ (.slice p2 q2 r2):=⟨_,rfl⟩
           have hA7:Agr (fun q=>q = w0.heap.size) w6 W7:=by rw [hW7];exact agr2 _ _ _ _
           have hO7:=(OwnT.agr (Own.top hO6) hA7 (fun q hq hS=>by have:=(hO6.lt q hq).1;omega)).1
           have hB7:Box W7 w0.heap.size [.slice p1 q1 r1,.slice p2 q2 r2]:=by rw [hW7];exact (hB6.set1 (j:=0) (by simp) _).set1 (j:=1) (by simp) _
           have hF7:FrS RdO (fun q=>q < T1.heap.size ∨ T3.heap.size ≤ q) W7 (.agg #[.slice p1 q1 r1,.slice p2 q2 r2]) (stpD oc x):=(Hfr3.out.step hA6 (fun q hq _=>by have:=(HOl.out _ hq).2;show q < T1.heap.size;omega) (S'':=fun q=>q < T1.heap.size ∨ T3.heap.size ≤ q) (fun q hq hlt=>hq.elim id (fun h=>by omega))).step hA7 (fun q hq _=>.inl (by have:=Hb.out.size;omega)) (fun q h _=>h)
           have hS7:(w0.heap.size < T1.heap.size ∨ T3.heap.size ≤ w0.heap.size) ∧ ∀ q,(Value.slice oo6 (k + 1) oc6).ownBlock = some q → (q < T1.heap.size ∨ T3.heap.size ≤ q):=⟨.inl (by have:=Hb.out.size;omega),fun q hq=>by
            rcases hg7.2 with e | ⟨z,e,hz⟩
            · exact .inl (by have:=(HOl.out q (by rw [← e];exact hq)).2;omega)
            · rw [e] at hq;cases hq;exact .inr hz⟩
           have hb7:Below w0.heap.size w0 W7:=((Hb.out.trans (Hbr3.out.mono Hb.out.size)).trans (hA6.below (fun q hq=>by have:=(HOl.out _ hq).1;omega) (by omega))).trans (hA7.below (fun q hq=>by omega) (by have:=hA6.size;omega))
           have HO7:=hid hO7
           have HB7:=hid hB7
           have HF7:=hid hF7
           have HS7:=hid hS7
           have Hb7:=hid hb7
           have HW7:=hid hW7
           have y0:=hX6.cell 0 _ rfl
           have y1:=hX6.cell 1 _ rfl
           have z0:=hB6.cell 0 _ rfl
           have z1:=hB6.cell 1 _ rfl
           have zf0:=hB6.free 0
           have zf1:=hB6.free 1
           clear hO6 hg6 hg7 hA6 hB6 hX6 hA7 hO7 hB7 hF7 hS7 hb7 hW7 b0 b1 x0 x1 x2 x4 x5
           go_wp2
           rw [← HW7.out]
           go_roundw
           case rel=>exact ⟨k + 1,stpD oc x,_,_,_,_,_,_,_,_,_,L ++ [mn],by omega,by go_num,rfl,HO7,hid (by rw [List.length_append,HLl.out];rfl),HF7,HS7,HB7,HVn,HM2,Hb7⟩
           case measure=>simp [intOf];omega
         · have Hex:Hid (mn = Q1):=hid (by rw [Hmn.out,if_neg htw,if_neg hk1])
           have Hok:Hid (eI.ok Q1):=hid (by rw [← Hex.out];exact Hokm.out)
           have Htw:=hid (fun w=>takesTwo_no x.kd w htw)
           have hk2:(x.kd == 1) = false:=beq_eq_false_iff_ne.2 hk1
           clear htw hFf hcb
           go_wp2_with (first | (go_at_call 51;first | (with_reducible refine (sizeC_c hq1).mono ?_;rintro e w9 ⟨rfl,rfl⟩) | (with_reducible refine (sizeC_c hq2).mono ?_;rintro e w9 ⟨rfl,rfl⟩)) | (go_at_call 52;with_reducible refine (Htw.out _).mono ?_;rintro e w9 ⟨rfl,rfl⟩) | (at_builtin;refine wpList_appS (E:=eI) rfl _ _ 29 rfl Tryz.underlying29 hi hz0 hz1 hz2 rfl (by decide) rfl rfl (HO3.out.alloc _) (rds_one (E:=eI) (x:=Q1) Hok.out rfl) ?b1 ?b2 ?b3 ?_))
           case b1=>have:=hLk.out;unfold maxLen;simp;omega
           case b2=>have:=hLk.out;simp;omega
           case b3=>first | (simp;omega) | omega
           intro v6 w6 hO6 hg6
           obtain ⟨oo6,oc6,hv6⟩:=hO6.shape
           rw [show (L ++ [Q1]).length = k + 1 by rw [List.length_append,HLl.out];rfl] at hv6
           subst hv6
           rw [← Hex.out] at hO6
           have hg7:=hg6.alloc
           have hA6:Agr (fun q=>(Value.slice oo k occ).ownBlock = some q) T3 w6:=Agr.of_grown hg7.1 (fun q hq _=>hq)
           have hB6:=boxAgr HB13.out hA6 (fun e=>by have:=(HOl.out _ e).1;omega)
           have hX6:=boxAgr HX3.out hA6 (fun e=>by have:=(HOl.out _ e).2;omega)
           obtain ⟨W7,hW7⟩:∃ W7,W7 = (w6.setCell ⟨w0.heap.size,0,none⟩ (.slice p1 q1 r1)).setCell ⟨w0.heap.size,1,none⟩ (.slice p2 q2 r2):=⟨_,rfl⟩
           have hA7:Agr (fun q=>q = w0.heap.size) w6 W7:=by rw [hW7];exact agr2 _ _ _ _
           have hO7:=(OwnT.agr (Own.top hO6) hA7 (fun q hq hS=>by have:=(hO6.lt q hq).1;omega)).1
           have hB7:Box W7 w0.heap.size [.slice p1 q1 r1,.slice p2 q2 r2]:=by rw [hW7];exact (hB6.set1 (j:=0) (by simp) _).set1 (j:=1) (by simp) _
           have hF7:FrS RdO (fun q=>q < T1.heap.size ∨ T3.heap.size ≤ q) W7 (.agg #[.slice p1 q1 r1,.slice p2 q2 r2]) (stpD oc x):=(Hfr3.out.step hA6 (fun q hq _=>by have:=(HOl.out _ hq).2;show q < T1.heap.size;omega) (S'':=fun q=>q < T1.heap.size ∨ T3.heap.size ≤ q) (fun q hq hlt=>hq.elim id (fun h=>by omega))).step hA7 (fun q hq _=>.inl (by have:=Hb.out.size;omega)) (fun q h _=>h)
           have hS7:(w0.heap.size < T1.heap.size ∨ T3.heap.size ≤ w0.heap.size) ∧ ∀ q,(Value.slice oo6 (k + 1) oc6).ownBlock = some q → (q < T1.heap.size ∨ T3.heap.size ≤ q):=⟨.inl (by have:=Hb.out.size;omega),fun q hq=>by
            rcases hg7.2 with e | ⟨z,e,hz⟩
            · exact .inl (by have:=(HOl.out q (by rw [← e];exact hq)).2;omega)
            · rw [e] at hq;cases hq;exact .inr hz⟩
           have hb7:Below w0.heap.size w0 W7:=((Hb.out.trans (Hbr3.out.mono Hb.out.size)).trans (hA6.below (fun q hq=>by have:=(HOl.out _ hq).1;omega) (by omega))).trans (hA7.below (fun q hq=>by omega) (by have:=hA6.size;omega))
           have HO7:=hid hO7
           have HB7:=hid hB7
           have HF7:=hid hF7
           have HS7:=hid hS7
           have Hb7:=hid hb7
           have HW7:=hid hW7
           have y0:=hX6.cell 0 _ rfl
           have y1:=hX6.cell 1 _ rfl
           have z0:=hB6.cell 0 _ rfl
           have z1:=hB6.cell 1 _ rfl
           have zf0:=hB6.free 0
           have zf1:=hB6.free 1
           clear hO6 hg6 hg7 hA6 hB6 hX6 hA7 hO7 hB7 hF7 hS7 hb7 hW7 b0 b1 x0 x1 x2 x4 x5
           go_wp2
           rw [← HW7.out]
           go_roundw
           case rel=>exact ⟨k + 1,stpD oc x,_,_,_,_,_,_,_,_,_,L ++ [mn],by omega,by go_num,rfl,HO7,hid (by rw [List.length_append,HLl.out];rfl),HF7,HS7,HB7,HVn,HM2,Hb7⟩
           case measure=>simp [intOf];omega
     · obtain rfl:k = n:=by omega
       have hME:M = some L:=by
        rw [HMk.out,List.drop_of_length_le (by have:=Hn.out;omega)]
        simp [minL]
       have HE1:Hid (R = 0):=hid (by rw [HR2.out,hME,if_neg (by simp)])
       have HE2:Hid (LR = L):=hid (by rw [HL2.out,hME];rfl)
       have HOf:=hid (HO.out.mono (Nat.le_succ _))
       clear hME
       go_wp2
       go_ret2
       exact ⟨⟨_,by rw [HE1.out];rfl,by rw [HE2.out];exact HOf.out⟩,Hb.out⟩
end Go.Proofs.YthdaghfhlfjclaaGreat
