/- Lemmas on the way to the law FnTop. No condition. -/
import Derived.Test.YtmindpfmgnnieaaGreatDoorTP30
import Derived.Test.YtmindpfmgnnieaaGreatDoorTP6
namespace Go.Proofs.YtmindpfmgnnieaaGreatDoor
set_option maxHeartbeats 2000000
set_option linter.unusedSimpArgs false
open Lib (hid)
open Go.ChangeShapes Go.WideShapes Go.ChangeAt Go.RowKit Go.Sort
set_option linter.unusedVariables false
set_option maxRecDepth 100000
theorem rdsDrewS {α:Type} {E:Elt α} {B:Nat} {w:World} {v:Value} {xs:List α} (h:Rds E B w v xs):Rds E B w.drew v xs:=h
theorem growDrewS {w w':World} {o:Obj} {v v':Value} (h:Grew (w.alloc o).drew w' v v'):Grew w w' v v':=Grew.alloc (o:=o) ⟨⟨h.1.os,h.1.tape,h.1.output,h.1.size,h.1.block⟩,h.2⟩
theorem l19Read_c {n:Int} {f:FaultT} (hn:0<=n/\n<=9999) (hp:0<=f.place/\f.place<=3) (hd:0<=f.digit/\f.digit<=9) (w:World) :
 Calls Tryz.prog 100 #[.int .i64 n,vFault f] w fun e w'=>e=.returned (.int .i64 (readF n f))/\Below w.heap.size w w':=by
 obtain ⟨kd,cd,pl,dg⟩:=f;simp only at hp hd;obtain ⟨p,rfl⟩:=zG hp.1;have hp4:p<4:=by omega
 have hR:readF n ⟨kd,cd,(p:Int),dg⟩=n+(dg - n / p10 (p:Int) % 10) * p10 (p:Int):=rfl;have hpw:=fun W=>l19Power_c (p:=p) (w:=W) hp4;have hP:p10 (p:Int)=1\/p10 (p:Int)=10\/p10 (p:Int)=100\/p10 (p:Int)=1000:=by
  rcases p10_cases (p:=(p:Int)) (by omega) with ⟨_,e⟩ | ⟨_,e⟩ | ⟨_,e⟩ | ⟨_,e⟩ <;> omega
 rw [hR];generalize p10 (p:Int)=P at hpw hP |-;have Hpw:=hid hpw;obtain ⟨n0,n1⟩:=hn;obtain ⟨d0,d1⟩:=hd;clear hR hpw hp;rcases hP with rfl | rfl | rfl | rfl;all_goals
  go_enter Tryz.func100,Tryz.ntmps100;go_wp2_with fail;with_reducible refine (Hpw.out _).mono ?_
  rintro e w1 ⟨rfl,rfl⟩;go_wp2;go_quiet (fail);go_wp2;go_ret;exact ⟨yAJ (by first | rfl | omega | (simp;omega)),((zB _ _).alloc (zA _) _).drewNy _⟩
theorem findF_mid {pre post:List FaultT} {i:Int} (hpre:∀ g∈pre,g.card<i) (hpost:∀ g∈post,i<=g.card) (hs:post.Pairwise (fun f g=>f.card<g.card)) :
 (∀ g post',post=g :: post'->g.card=i->findF (pre++post) i=some g)/\((∀ g post',post=g :: post'->g.card ≠ i)->findF (pre++post) i=none):=by
 have h1:pre.find? (fun f=>f.card == i)=none:=by rw [List.find?_eq_none];intro g hg;have:=hpre g hg;simp;omega
 constructor
 . intro g post' hp hg
   subst hp;unfold findF;rw [List.find?_append,h1,List.find?_cons];simp [hg]
 . intro hne
   unfold findF;rw [List.find?_append,h1];cases post with
   | nil=>rfl
   | cons g post' =>
    have h2:=hne g post' rfl;have h3:=hpost g (by simp);have h4:=(List.pairwise_cons.1 hs).1;show (List.find? (fun f=>f.card == i) (g :: post'))=none
    rw [List.find?_eq_none];intro x hx;rcases List.mem_cons.1 hx with rfl | hx
    . simpa using h2
    . have:=h4 x hx
      simp;omega
theorem l19After_c {xs:List Int} {fs:List FaultT} {v u:Value} {w:World} {A B:Nat} (ha:RdI A w v xs) (hf:RdFaultS B w u fs) (hx:∀ n∈xs,0<=n/\n<=9999) (hl:xs.length<=24) (hfo:∀ f∈fs,fRd f) (hs:fs.Pairwise (fun f g=>f.card<g.card)) (h0c:∀ f∈fs,0<=f.card) :
 Calls Tryz.prog 53 #[v,u] w fun e w'=>∃ z,e=.returned z/\OwnInt64S w.heap.size w' z (afterL xs fs)/\Below w.heap.size w w':=by
 obtain ⟨i0,hi,hz0,hz1,hz2⟩:=info_parts Tryz.infoInt64;obtain ⟨ao,cap,rfl,ho⟩:=ha.open;obtain ⟨n,hn⟩:∃ n,n=xs.length:=⟨_,rfl⟩;have hfle:=hf.le;obtain ⟨fo,fcap,rfl,hfc⟩:=yAU hf;obtain ⟨m,hm⟩:∃ m,m=fs.length:=⟨_,rfl⟩;have e1:afterL xs fs=afterK xs fs n:=by rw [hn];rfl
 rw [e1];rw [<- hn] at ho hl |-;rw [<- hm] at hfle hfc |-;have h0:OwnInt64S w.heap.size (w.alloc (.cells #[] 2)) (.slice (some ⟨w.heap.size,0,none⟩) 0 0) ([]:List Int):=Own.lit (E:=eI) (xs:=[]) (cs:=#[]) (zA _) rfl rfl (by decide) (fun x hx=>by cases hx);have hb0:Below w.heap.size w (w.alloc (.cells #[] 2)):=(zB _ _).alloc (zA _) _;have Ho:=hid ho;have Hx:=hid hx;have Hn:=hid hn;have Hm:=hid hm;have Hfc:=hid hfc;have Hfo:=hid hfo;have Hs:=hid hs;have H0c:=hid h0c;have H0:=hid h0;have Hb0:=hid hb0;clear ha ho hx hn hm hf hfo h0 hb0 e1 hfc hs h0c;go_enter Tryz.func53,Tryz.ntmps53;go_wp2;go_loopw [7,6,5] (fun iv kv zv wr=>∃ (i:Nat) (pre post:List FaultT),i<=n/\iv=.int .i64 i/\kv=.int .i64 (pre.length:Int)/\Hid (fs=pre++post)/\Hid (∀ g∈pre,g.card<(i:Int))/\Hid (∀ g∈post,(i:Int)<=g.card)/\OwnInt64S w.heap.size wr zv (afterK xs fs i)/\Below w.heap.size w wr) (fun iv _ _ _=>n - (intOf iv).toNat)
 case atStart=>exact ⟨0,[],fs,zK _,rfl,rfl,hid rfl,hid (fun g hg=>by cases hg),hid (fun g hg=>H0c.out g hg),H0.out,Hb0.out⟩
 case round =>
  obtain ⟨i,pre,post,hin,rfl,rfl,Hsp,Hpre,Hpost,hZ,hb⟩:=hrel;clear H0 Hb0;by_cases hii:i<n
  . obtain ⟨b,off,rfl,hlt,hc⟩:=Ho.out (by omega)
    obtain ⟨x,hxk,hcx,hxo⟩:=hc i hii;obtain ⟨x0,x1⟩:=Hx.out x (zC hxk);have hgd:xs.getD i 0=x:=by rw [List.getD_eq_getElem?_getD,hxk];rfl
    have hsu:=afterK_succ xs fs i;rw [hgd] at hsu;have hal:=afterK_len xs fs i;have hsps:post.Pairwise (fun f g=>f.card<g.card):=by have h:=Hs.out;rw [Hsp.out] at h;exact (List.pairwise_append.1 h).2.1
    obtain ⟨hf1,hf2⟩:=findF_mid Hpre.out Hpost.out hsps;rw [<- Hsp.out] at hf1 hf2;have c0:=(hb.cell (p:=⟨b,off+i,none⟩) hlt.2).trans hcx;have hsz:=hb.size;have hxok:eI.ok x:=by show -9223372036854775808<=x/\x<=9223372036854775807;omega
    have hml:m=pre.length+post.length:=by rw [Hm.out,Hsp.out,zE]
    obtain ⟨q,hq⟩:∃ q,q=pre.length:=⟨_,rfl⟩;rw [<- hq] at hml |-;have HZ:=hid hZ;have Hb:=hid hb;have Hal:=hid hal;have Hxok:=hid hxok;have Hq:=hid hq;clear hxk hcx hxo hgd hal hZ hb hc hxok hq;by_cases hnone:∀ g post',post=g :: post'->g.card ≠ (i:Int)
    . rw [hf2 hnone] at hsu
      have Hsu:Hid (afterK xs fs (i+1)=afterK xs fs i++[x]):=hid hsu;have Hp2:Hid (∀ g∈post,((i+1:Nat):Int)<=g.card):=hid (fun g hg=>by
       cases post with
       | nil=>cases hg
       | cons g0 post' =>
        have h1:=hnone g0 post' rfl;have h2:=Hpost.out g0 (by simp);rcases List.mem_cons.1 hg with rfl | hg
        . omega
        . have:=(List.pairwise_cons.1 hsps).1 g hg;omega)
      have Hpr2:Hid (∀ g∈pre,g.card<((i+1:Nat):Int)):=hid (fun g hg=>by have:=Hpre.out g hg;omega);have Hnone:=hid hnone;clear hsu hf1 hf2 hnone;cases post with
      | nil =>
       have hqm:((q:Int) == (m:Int))=true:=by simp at hml |-;omega
       have hqm2:q=m:=by simpa using hml.symm
       clear hml;go_wp2_with (first | (at_builtin;refine yAB (E:=eI) rfl _ _ 48 rfl Tryz.underlying48 hi hz0 hz1 hz2 rfl (by decide) rfl rfl (HZ.out.alloc _) (yAH (E:=eI) (x:=x) Hxok.out rfl) ?b1 ?b2 ?b3 ?_))
       case b1=>have:=Hal.out;unfold maxLen;(try simp) <;> omega
       case b2=>have:=Hal.out;(try simp) <;> omega
       case b3=>(try simp) <;> omega
       intro v5 w5 hO5 hg5;have hb5:=hg5.alloc.below Hb.out hsz (fun z hz=>(HZ.out.lt z hz).1);have HO5:=hid hO5;have Hb5:=hid hb5;clear hO5 hg5 hb5 c0;go_wp2;go_roundw
       case rel=>exact ⟨i+1,pre,[],by omega,by go_num,by rw [<- Hq.out];first | rfl | rw [hqm2],Hsp,Hpr2,Hp2,by rw [Hsu.out];exact HO5.out,Hb5.out⟩
       case measure=>simp [intOf];omega
      | cons g post' =>
       have hqf:fs[q]?=some g:=by rw [Hsp.out,Hq.out,zJ (zA _)];simp
       have hqm:q<m:=by rw [hml];simp
       obtain ⟨fb,foff,rfl,hfl,hfcc⟩:=Hfc.out (by omega);obtain ⟨y,hy,⟨d0,d1,d2,d3⟩,hyo⟩:=hfcc q hqm;obtain rfl:y=g:=zD (hy.symm.trans hqf);replace d0:=(Hb.out.cell (p:=⟨fb,foff+q * 4,none⟩) hfl.2).trans d0;replace d1:=(Hb.out.cell (p:=⟨fb,foff+q * 4+1,none⟩) hfl.2).trans d1;replace d2:=(Hb.out.cell (p:=⟨fb,foff+q * 4+2,none⟩) hfl.2).trans d2;replace d3:=(Hb.out.cell (p:=⟨fb,foff+q * 4+3,none⟩) hfl.2).trans d3;have hqmi:(q:Int)<(m:Int):=by omega
       have hqe:((q:Int) == (m:Int))=false:=by simp;omega
       have hqe2:¬ q=m:=by omega
       clear hml hfcc hy;have hcd:=Hnone.out y post' rfl;have hcd2:(y.card != (i:Int))=true:=by simpa using hcd
       clear hcd hqf hyo;go_wp2_with (first | (at_builtin;refine yAB (E:=eI) rfl _ _ 48 rfl Tryz.underlying48 hi hz0 hz1 hz2 rfl (by decide) rfl rfl (HZ.out.alloc _) (yAH (E:=eI) (x:=x) Hxok.out rfl) ?b1 ?b2 ?b3 ?_))
       case b1=>have:=Hal.out;unfold maxLen;(try simp) <;> omega
       case b2=>have:=Hal.out;(try simp) <;> omega
       case b3=>(try simp) <;> omega
       intro v5 w5 hO5 hg5;have hb5:=hg5.alloc.below Hb.out hsz (fun z hz=>(HZ.out.lt z hz).1);have HO5:=hid hO5;have Hb5:=hid hb5;clear hO5 hg5 hb5 c0 d0 d1 d2 d3;go_wp2;go_roundw
       case rel=>exact ⟨i+1,pre,(y :: post'),by omega,by go_num,by first | rfl | (rw [<- Hq.out]) | exact congrArg _ (by rw [<- Hq.out]),Hsp,Hpr2,Hp2,by rw [Hsu.out];exact HO5.out,Hb5.out⟩
       case measure=>simp [intOf];omega
    . obtain ⟨g,post',hpo,hgc⟩:∃ g post',post=g :: post'/\g.card=(i:Int):=by
       cases post with
       | nil=>exact absurd (fun g post' h=>by cases h) hnone
       | cons g post' =>
        by_cases h:g.card=(i:Int)
        . exact ⟨g,post',rfl,h⟩
        . exact absurd (fun g' post'' h2=>by injection h2 with h3 h4;rw [<- h3];exact h) hnone
      subst hpo;rw [hf1 g post' rfl hgc] at hsu;have hsu2:afterK xs fs (i+1)=afterK xs fs i++afterF x g:=hsu;have Hp2:Hid (∀ z∈post',((i+1:Nat):Int)<=z.card):=hid (fun z hz=>by have:=(List.pairwise_cons.1 hsps).1 z hz;omega);have Hpr2:Hid (∀ z∈pre++[g],z.card<((i+1:Nat):Int)):=hid (fun z hz=>by
       rcases List.mem_append.1 hz with hz | hz
       . have:=Hpre.out z hz;omega
       . rw [List.mem_singleton] at hz;rw [hz];omega)
      have Hsp2:Hid (fs=(pre++[g])++post'):=hid (by rw [Hsp.out];simp);have hrd:=Hfo.out g (by rw [Hsp.out];simp);have Hrd:=hid hrd;clear hsu hf1 hf2 hnone hrd;have hdummy:=True.intro;have hqf:fs[q]?=some g:=by rw [Hsp.out,Hq.out,zJ (zA _)];simp
      have hqm:q<m:=by rw [hml];simp
      obtain ⟨fb,foff,rfl,hfl,hfcc⟩:=Hfc.out (by omega);obtain ⟨y,hy,⟨d0,d1,d2,d3⟩,hyo⟩:=hfcc q hqm;obtain rfl:y=g:=zD (hy.symm.trans hqf);replace d0:=(Hb.out.cell (p:=⟨fb,foff+q * 4,none⟩) hfl.2).trans d0;replace d1:=(Hb.out.cell (p:=⟨fb,foff+q * 4+1,none⟩) hfl.2).trans d1;replace d2:=(Hb.out.cell (p:=⟨fb,foff+q * 4+2,none⟩) hfl.2).trans d2;replace d3:=(Hb.out.cell (p:=⟨fb,foff+q * 4+3,none⟩) hfl.2).trans d3;have hqmi:(q:Int)<(m:Int):=by omega
      have hqe:((q:Int) == (m:Int))=false:=by simp;omega
      have hqe2:¬ q=m:=by omega
      clear hml hfcc hy;have hcd2:(y.card != (i:Int))=false:=by simpa using hgc
      have hfok:okFault y:=hyo;have Hfok:=hid hfok;have Hlq:Hid (((pre++[y]).length:Nat)=q+1):=hid (by rw [zE,Hq.out];rfl);clear hqf hyo hfok hdummy;obtain ⟨kd,cd,pl,dg⟩:=y;simp only at d0 d1 d2 d3 hcd2 hgc;obtain rfl:cd=(i:Int):=hgc;by_cases h2:kd=2
      . subst h2
        have ea:afterF x ⟨2,(i:Int),pl,dg⟩=[x,x]:=by unfold afterF;rw [if_pos rfl]
        rw [ea] at hsu2;have Hsu2:=hid hsu2;clear hsu2 ea;go_wp2;have hlit:=(Own.lit (E:=eI) (e:=2) (base:=0) (w:=wr) (xs:=[x,x]) (cs:=#[.int .i64 x,.int .i64 x]) (n:=2) (zK _) rfl rfl (by decide) (fun z hz=>by simp at hz;rw [hz];exact Hxok.out)).rds;have Hlit:=hid hlit;clear hlit;go_region_law (refine step_appS (E:=eI) rfl _ _ 48 (by rfl) Tryz.underlying48 hi hz0 hz1 hz2 rfl (by decide) (by rfl) (by rfl) (HZ.out.alloc _).drew (rdsDrewS Hlit.out) (by have:=Hal.out;unfold maxLen;(try simp) <;> omega) (by have:=Hal.out;(try simp) <;> omega) (by (try simp) <;> omega) ?_;intro v5 w5 hO5 hg5)
        all_goals
         have hb5:=(growDrewS hg5).below Hb.out hsz (fun z hz=>(HZ.out.lt z hz).1);have HO5:=hid hO5;have Hb5:=hid hb5;clear hO5 hg5 hb5 c0 d0 d1 d2 d3;go_wp2;go_roundw
         case rel=>exact ⟨i+1,_,post',by omega,by go_num,by rw [Hlq.out];go_num,Hsp2,Hpr2,Hp2,by rw [Hsu2.out];exact HO5.out,Hb5.out⟩
         case measure=>simp [intOf];omega
      . have t2:(kd == 2)=false:=by simpa using h2
        by_cases h3:kd=3
        . subst h3
          obtain ⟨hpp,hdd⟩:=Hrd.out rfl;have ea:afterF x ⟨3,(i:Int),pl,dg⟩=[readF x ⟨3,(i:Int),pl,dg⟩]:=by unfold afterF;rw [if_neg h2,if_pos rfl]
          have hrb:=readF_bound (n:=x) (f:=⟨3,(i:Int),pl,dg⟩) ⟨x0,x1⟩ hpp hdd;have hcon:=fun W=>l19Read_c (n:=x) (f:=⟨3,(i:Int),pl,dg⟩) ⟨x0,x1⟩ hpp hdd W;rw [ea] at hsu2;generalize hR:readF x ⟨3,(i:Int),pl,dg⟩=R at hsu2 hrb hcon;have hRok:eI.ok R:=by show -9223372036854775808<=R/\R<=9223372036854775807;omega
          have Hsu2:=hid hsu2;have Hcon:=hid hcon;have HRok:=hid hRok;clear hsu2 ea hrb hcon hR hRok;go_wp2;have hTd:Below wr.heap.size wr wr.drew:=(zB _ _).drew1;go_region_law (first
           | (refine step_appS (E:=eI) rfl _ _ 48 (by rfl) Tryz.underlying48 hi hz0 hz1 hz2 rfl (by decide) (by rfl) (by rfl) (HZ7.out.alloc _) (yAH (E:=eI) (x:=R) HRok.out rfl) (by have:=Hal.out;unfold maxLen;(try simp) <;> omega) (by have:=Hal.out;(try simp) <;> omega) (by (try simp) <;> omega) ?_;intro v5 w5 hO5 hg5)
           | (go_simp;go_at_call 100;(with_reducible refine (Hcon.out _).mono ?_);rintro e w7 ⟨rfl,hb7⟩;have hb7x:=hTd.trans hb7;have HZ7:=hid (HZ.out.below hb7x (zA _));have hs7:w.heap.size<=w7.heap.size:=(by have:=hb7x.size;omega)))
          all_goals
           have hb5:=hg5.alloc.below (Hb.out.trans (hb7x.mono hsz)) hs7 (fun z hz=>(HZ7.out.lt z hz).1);have HO5:=hid hO5;have Hb5:=hid hb5;clear hO5 hg5 hb5 c0 d0 d1 d2 d3 hb7 hb7x HZ7 hTd;go_wp2;go_roundw
           case rel=>exact ⟨i+1,_,post',by omega,by go_num,by rw [Hlq.out];go_num,Hsp2,Hpr2,Hp2,by rw [Hsu2.out];exact HO5.out,Hb5.out⟩
           case measure=>simp [intOf];omega
        . have t3:(kd == 3)=false:=by simpa using h3
          have ea:afterF x ⟨kd,(i:Int),pl,dg⟩=[]:=by unfold afterF;rw [if_neg h2,if_neg h3]
          rw [ea,List.append_nil] at hsu2;have Hsu2:=hid hsu2;clear hsu2 ea;go_wp2;clear c0 d0 d1 d2 d3;go_roundw
          case rel=>exact ⟨i+1,_,post',by omega,by go_num,by rw [Hlq.out];go_num,Hsp2,Hpr2,Hp2,by rw [Hsu2.out];exact HZ.out,Hb.out⟩
          case measure=>simp [intOf];omega
  . obtain rfl:i=n:=by omega
    have HZ:=hid hZ;have Hb:=hid hb;clear hZ hb;go_wp2;go_ret;exact ⟨_,rfl,HZ.out,Hb.out⟩
theorem fsOk_rd {xs:List Int} {fs:List FaultT} (h:fsOk xs fs):∀ f∈fs,fRd f:=by
 intro f hf h3;rcases (h.1 f hf).2 with ⟨h1,_⟩ | ⟨_,h1,h2,_⟩
 . omega
 . exact ⟨h1,h2⟩
theorem fsOk_card {xs:List Int} {fs:List FaultT} (h:fsOk xs fs):∀ f∈fs,0<=f.card:=fun f hf=>(h.1 f hf).1.1
theorem afterL_ok {xs:List Int} {fs:List FaultT} (hx:amtOk xs=true) (h:fsOk xs fs):(afterL xs fs).length<=24/\∀ n∈afterL xs fs,0<=n/\n<=9999:=by
 have hp:=yAQ hx;constructor
 . have:=afterK_len xs fs xs.length
   unfold afterL;omega
 . intro n hn
   unfold afterL afterK at hn;obtain ⟨i,hi,hm⟩:=List.mem_flatMap.1 hn;have hi2:i<xs.length:=List.mem_range.1 hi;have hgd:xs.getD i 0∈xs:=by
    rw [List.getD_eq_getElem?_getD,zF hi2];exact List.getElem_mem hi2
   cases hf:findF fs (i:Int) with
   | none =>
    rw [hf] at hm;unfold readAt at hm;rw [List.mem_singleton] at hm;rw [hm];exact hp.2 _ hgd
   | some f =>
    rw [hf] at hm;have hfm:f∈fs:=List.mem_of_find?_eq_some hf;have hc:f.card=(i:Int):=by have:=List.find?_some hf;simpa using this
    have ha:atN xs f.card=xs.getD i 0:=by unfold atN;rw [hc,zR]
    have h2:=(after_ok hx (h.1 f hfm)).2 n;rw [ha] at h2;exact h2 hm
end Go.Proofs.YtmindpfmgnnieaaGreatDoor
