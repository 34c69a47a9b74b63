/- Lemmas on the way to the law that RestartAt returns what the reference's returns. No condition. -/
import Derived.Test.YthdaghfhlfjclaaGreatMO30
import Derived.Test.YthdaghfhlfjclaaGreatMO5
import Derived.Test.YthdaghfhlfjclaaGreatMO14
import Derived.Test.YthdaghfhlfjclaaGreatMO32
import Derived.Test.YthdaghfhlfjclaaGreatMO13
namespace Go.Proofs.YthdaghfhlfjclaaGreat
set_option linter.unusedSimpArgs false
open Lib (hid)
open Go.ChangeShapes Go.WideShapes Go.ChangeAt Go.RowKit Go.Sort
set_option linter.unusedVariables false
set_option maxRecDepth 100000
set_option maxHeartbeats 1000000
theorem sumBy_16 {α:Type} {f g:α→Int} (h:∀ x,f x≤16 * g x):∀ xs:List α,sumBy f xs≤16 * sumBy g xs
 | []=>by simp [sumBy]
 | x :: xs=>by have h1:=h x;have h2:=sumBy_16 h xs;simp only [sumBy];omega
theorem rdTs {B:Nat} {w:World} {v:Value} {x:List TotalT} (h:RdTs B w v x):RdTotalS B w v x:=h
def szCardSS (x:List (List (List Int))):Int:=x.length+sumBy szCardS x
theorem szCardSS_nonneg (x:List (List (List Int))):0≤szCardSS x:=by unfold szCardSS;have:=sumBy_nonneg szCardS_nonneg x;omega
theorem szCardSS_len (x:List (List (List Int))):(x.length:Int)≤szCardSS x:=by unfold szCardSS;have:=sumBy_nonneg szCardS_nonneg x;omega
theorem szCardSS_row {x:List (List (List Int))} {k:Nat} {y:List (List Int)} (h:x[k]?=some y):szCardS y≤szCardSS x:=by
 have h4:=sumBy_snoc szCardS h;have h5:=sumBy_take_le szCardS_nonneg x (k+1);have h6:=sumBy_nonneg szCardS_nonneg (x.take k);unfold szCardSS;omega
def cICardSS (r:List (List Int)):Int:=cntCardS r
theorem cICardSS_nonneg (r:List (List Int)):0≤cICardSS r:=by unfold cICardSS;omega
def cntCardSS (x:List (List (List Int))):Nat:=(sumBy cICardSS x).toNat
theorem cntCardSS_eq (x:List (List (List Int))):(cntCardSS x:Int)=sumBy cICardSS x:=by unfold cntCardSS;have:=sumBy_nonneg cICardSS_nonneg x;omega
theorem cntCardSS_le (x:List (List (List Int))):(cntCardSS x:Int)≤16 * szCardSS x:=by
 rw [cntCardSS_eq];unfold szCardSS;have:=sumBy_16 (f:=cICardSS) (g:=szCardS) cntCardS_le x;omega
def mkCardSS (k:Int) (x:List (List (List Int))):List (List (List Int)):=mkG mkCardS cICardSS k x
theorem szCardSS_c {xss:List (List (List Int))} {v:Value} {w:World} {A:Nat} {left:Int} (ha:RdDs A w v xss) (h1:left≤1048576) (h2:szCardSS xss≤left) :
 Calls Tryz.prog 35 #[v,.int .i64 left] w fun e w'=>e=.returned (.int .i64 (left - szCardSS xss))∧Below w.heap.size w w':=by
 have hle:=RdL.le ha;obtain ⟨ao,cap,rfl,ho⟩:=RdL.open rowK_D ha;obtain ⟨n,hn⟩:∃ n,n=xss.length:=⟨_,rfl⟩;rw [← hn];have Hn:=hid hn;have Ho:=hid ho;have hle':n≤9223372036854775807:=by omega
 have h2':n+sumBy szCardS xss≤left:=by unfold szCardSS at h2;omega
 have h3:=sumBy_nonneg szCardS_nonneg xss;have H2:=hid h2';have h4:(n:Int)≤left:=by omega
 clear ho hn hle ha h2 h2' h3;go_enter Tryz.func35,Tryz.ntmps35
 go_wp2
 go_loopw [1,5] (fun l i wr=>∃ k:Nat,k≤n∧i=.int .i64 k∧∃ lf:Int,l=.int .i64 lf∧(lf≤1048576∧0≤lf)∧Hid (lf=left - n - sumBy szCardS (xss.take k))∧Below w.heap.size w wr) (fun _ i _=>n - (intOf i).toNat)
 case atStart=>exact ⟨0,Nat.zero_le _,rfl,left - n,rfl,by omega,by show left - n=_;simp [sumBy],Below.refl _ _⟩
 case round =>
  obtain ⟨k,hk,rfl,lf,rfl,⟨hl1,hl2⟩,hlf,hb⟩:=hrel;by_cases hkn:k<n
  · obtain ⟨b,off,rfl,hlt,hc⟩:=Ho.out (by have:=Hn.out;omega)
    obtain ⟨x,ro,rc,hx,hcell,hrd⟩:=hc k (by have:=Hn.out;omega);replace hcell:=(hb.cell (p:=⟨b,off+k,none⟩) hlt.2).trans hcell;have Hx:=hid hx;have Hrd:=hid ((rowK_D.below (rowK_D.tight hrd) hb (Nat.le_refl _)));have hf:szCardS x≤lf:=by
     rw [hlf.out];have h4:=sumBy_snoc szCardS hx;have h5:=sumBy_take_le szCardS_nonneg xss (k+1);have:=H2.out;omega
    have hf0:=szCardS_nonneg x;have hf1:¬ lf - szCardS x<0:=by omega
    have Hf:=hid hf;have Hb:=hid hb;clear hx hc hrd hb hf;go_wp2_with fail
    with_reducible refine (szCardS_c (Hrd.out) hl1 Hf.out).mono ?_
    rintro e w1 ⟨rfl,hb1⟩
    have Hb1:=hid (Hb.out.trans (hb1.mono Hb.out.size));clear hb1;go_wp2
    go_roundw
    case rel=>exact ⟨k+1,by omega,by go_num,lf - szCardS x,rfl,by have:=Hf.out;omega,by show lf - szCardS x=_;rw [sumBy_snoc szCardS Hx.out,hlf.out];omega,Hb1.out⟩
    case measure=>simp [intOf];omega
  · go_wp2
    go_ret
    refine ⟨ret_int ?_,hb⟩
    rw [hlf.out,List.take_of_length_le (by have:=Hn.out;omega)];unfold szCardSS;have:=Hn.out;omega
theorem szCardSS_no {xss:List (List (List Int))} {v:Value} {w:World} {A:Nat} {left:Int} (ha:RdDs A w v xss) (h0:0≤left∧left≤1048576) (h2:¬ szCardSS xss≤left) :
 Calls Tryz.prog 35 #[v,.int .i64 left] w fun e w'=>e=.returned (.int .i64 (-1))∧Below w.heap.size w w':=by
 have h1:=h0.2;have h00:=h0.1;have hle:=RdL.le ha;obtain ⟨ao,cap,rfl,ho⟩:=RdL.open rowK_D ha;obtain ⟨n,hn⟩:∃ n,n=xss.length:=⟨_,rfl⟩;rw [← hn];have Hn:=hid hn;have Ho:=hid ho;have hle':n≤9223372036854775807:=by omega
 have h2':¬ n+sumBy szCardS xss≤left:=by unfold szCardSS at h2;omega
 have H2:=hid h2';clear ho hn hle ha h2 h0 h2';by_cases hb:left<n
 · clear H2
   go_enter Tryz.func35,Tryz.ntmps35
   go_wp2
   go_ret
   exact ⟨rfl,Below.refl _ _⟩
 go_enter Tryz.func35,Tryz.ntmps35
 go_wp2
 go_loopw [1,5] (fun l i wr=>∃ k:Nat,k≤n∧i=.int .i64 k∧∃ lf:Int,l=.int .i64 lf∧(lf≤1048576∧0≤lf)∧Hid (lf=left - n - sumBy szCardS (xss.take k))∧Below w.heap.size w wr) (fun _ i _=>n - (intOf i).toNat)
 case atStart=>exact ⟨0,Nat.zero_le _,rfl,left - n,rfl,by omega,by show left - n=_;simp [sumBy],Below.refl _ _⟩
 case round =>
  obtain ⟨k,hk,rfl,lf,rfl,⟨hl1,hl2⟩,hlf,hb⟩:=hrel;by_cases hkn:k<n
  · obtain ⟨b,off,rfl,hlt,hc⟩:=Ho.out (by have:=Hn.out;omega)
    obtain ⟨x,ro,rc,hx,hcell,hrd⟩:=hc k (by have:=Hn.out;omega);replace hcell:=(hb.cell (p:=⟨b,off+k,none⟩) hlt.2).trans hcell;have Hx:=hid hx;have Hrd:=hid ((rowK_D.below (rowK_D.tight hrd) hb (Nat.le_refl _)));have Hb:=hid hb;clear hx hc hrd hb;by_cases hf:szCardS x≤lf
    · have hf0:=szCardS_nonneg x
      have hf1:¬ lf - szCardS x<0:=by omega
      have Hf:=hid hf;clear hf;go_wp2_with fail
      with_reducible refine (szCardS_c (Hrd.out) hl1 Hf.out).mono ?_
      rintro e w1 ⟨rfl,hb1⟩
      have Hb1:=hid (Hb.out.trans (hb1.mono Hb.out.size));clear hb1;go_wp2
      go_roundw
      case rel=>exact ⟨k+1,by omega,by go_num,lf - szCardS x,rfl,by have:=Hf.out;omega,by show lf - szCardS x=_;rw [sumBy_snoc szCardS Hx.out,hlf.out];omega,Hb1.out⟩
      case measure=>simp [intOf];omega
    · have Hf:=hid hf
      clear hf;go_wp2_with fail
      with_reducible refine (szCardS_no (Hrd.out) ⟨hl2,hl1⟩ (by have:=Hf.out;omega)).mono ?_
      rintro e w1 ⟨rfl,hb1⟩
      have Hb1:=hid (Hb.out.trans (hb1.mono Hb.out.size));clear hb1;go_wp2
      go_ret
      exact ⟨rfl,Hb1.out⟩
  · exfalso
    have h6:=hlf.out;rw [List.take_of_length_le (by have:=Hn.out;omega)] at h6;have:=H2.out;omega
theorem eqCardSS_c {xss:List (List (List Int))} {va vb:Value} {w:World} {A B:Nat} (ha:RdDs A w va xss) (hb:RdDs B w vb xss) :
 Calls Tryz.prog 53 #[va,vb] w fun e w'=>e=.returned (.bool true)∧Below w.heap.size w w':=by
 obtain ⟨bo,bcap,rfl,hob⟩:=RdL.open rowK_D hb;have Hob:=hid hob;clear hob hb;have hle:=RdL.le ha;obtain ⟨ao,cap,rfl,ho⟩:=RdL.open rowK_D ha;obtain ⟨n,hn⟩:∃ n,n=xss.length:=⟨_,rfl⟩;rw [← hn];have Hn:=hid hn;have Ho:=hid ho;have hle':n≤9223372036854775807:=by omega
 clear ho hn hle ha;go_enter Tryz.func53,Tryz.ntmps53
 go_wp2
 go_loopw [5] (fun i wr=>∃ k:Nat,k≤n∧i=.int .i64 k∧Below w.heap.size w wr) (fun i _=>n - (intOf i).toNat)
 case atStart=>exact ⟨0,Nat.zero_le _,rfl,Below.refl _ _⟩
 case round =>
  obtain ⟨k,hk,rfl,hb⟩:=hrel;by_cases hkn:k<n
  · obtain ⟨b,off,rfl,hlt,hc⟩:=Ho.out (by have:=Hn.out;omega)
    obtain ⟨x,ro,rc,hx,hcell,hrd⟩:=hc k (by have:=Hn.out;omega);have Hx:=hid hx;obtain ⟨b2,off2,rfl,hlt2,hc2⟩:=Hob.out (by have:=Hn.out;omega);obtain ⟨x2,ro2,rc2,hx2,hcell2,hrd2⟩:=hc2 k (by have:=Hn.out;omega);obtain rfl:x=x2:=Option.some.inj (Hx.out.symm.trans hx2);replace hcell:=(hb.cell (p:=⟨b,off+k,none⟩) hlt.2).trans hcell;replace hcell2:=(hb.cell (p:=⟨b2,off2+k,none⟩) hlt2.2).trans hcell2;have Hrd:=hid (rowK_D.mono (rowK_D.below (rowK_D.tight hrd) hb (Nat.le_refl _)) hb.size);have Hrd2:=hid (rowK_D.mono (rowK_D.below (rowK_D.tight hrd2) hb (Nat.le_refl _)) hb.size);have Hb:=hid hb;have f1:=cell_regrown hcell;have f2:=cell_regrown hcell2;clear hx hc hrd hx2 hc2 hrd2 hb hcell hcell2;go_wp2
    refine wp_region_quiet_below (by kernel_rfl) (by kernel_rfl) ?_
    repeat ((with_reducible refine wpQuiet_step (fun K hK=>?_));go_simp;first | ((with_reducible refine hK _ ?_);clear hK K) | (apply Exists.intro;refine ⟨fun _=>?_,hK _ ?_⟩;((go_at_call 96;exact qb_below (eqCardS_c ((rowK_D.below Hrd.out (below_regrown _ _ _) (Nat.le_refl _))) ((rowK_D.below Hrd2.out (below_regrown _ _ _) (Nat.le_refl _))))));clear hK K))
    refine wpQuiet_nil ?_
    intro _ hw';obtain ⟨⟨dq,osq⟩,hw''⟩:=hw';subst hw'';have hbq:=below_regrown wr dq osq;generalize grow (redrawn wr dq) osq=wq at hbq ⊢;have Hb1:=hid (Hb.out.trans (hbq.mono Hb.out.size));clear hbq f1 f2;go_wp2
    go_roundw
    case rel=>exact ⟨k+1,by omega,by go_num,Hb1.out⟩
    case measure=>simp [intOf];omega
  · go_wp2
    go_ret
    exact ⟨rfl,hb⟩
theorem toCardSS_c {w:World} {A:Nat} {xss:List (List (List Int))} {v:Value} (ha:RdDs A w v xss) (hl:szCardSS xss≤1048576) :
 Calls Tryz.prog 45 #[v] w fun e w'=>∃ u,e=.returned u∧OwnDs (fun q=>w.heap.size≤q∧q<w'.heap.size) w' u xss∧Below w.heap.size w w':=by
 have hl2:xss.length≤1048576:=by have:=szCardSS_len xss;omega
 have hrow:∀ (k:Nat) (x:List (List Int)),xss[k]?=some x→szCardS x≤1048576:=fun k x hx=>by have:=szCardSS_row hx;omega
 have ha:=RdL.tight rowK_D ha;have hle:=RdL.le ha;obtain ⟨ao,cap,rfl,ho⟩:=RdL.open rowK_D ha;obtain ⟨n,hn⟩:∃ n,n=xss.length:=⟨_,rfl⟩;rw [← hn];have Hn:=hid hn;have Ho:=hid ho;have hle':n≤9223372036854775807:=by omega
 have Hrow:=hid hrow;have hle2:n≤1048576:=by omega
 obtain ⟨i0,hi,hz0,hz1,hz2⟩:=info_parts Tryz.infoDk;clear ho hn hle ha hl hl2 hrow;go_enter Tryz.func45,Tryz.ntmps45
 go_wp2_with (first | (at_make;refine wpList_make_full _ rfl _ _ 32 rfl w.heap.size 78 i0 (.slice none 0 0) 1 Tryz.underlying32 hi hz0 hz1 _ _ _ _ n rfl rfl rfl rfl ?b1 ?b2 (Nat.le_refl _) ?_))
 case b1=>first | omega | (rw [hz2];omega)
 case b2=>unfold maxLen;omega
 intro w1 hown hgr;have hb1:Below w.heap.size w w1:=(Below.refl _ _).grown hgr (Nat.le_refl _) (fun k hk=>by cases hk);have hown0:OwnDs (fun q=>w.heap.size≤q∧q<w1.heap.size) w1 (.slice (some ⟨w.heap.size,0,none⟩) n n) (xss.take 0++List.replicate (n - 0) []):=by
  have h1:Own eS 78 w.heap.size w1 (.slice (some ⟨w.heap.size,0,none⟩) n n) (List.replicate n ⟨none,0,0⟩):=by
   refine ⟨?_,fun x hx=>trivial⟩
   have hown2:w1.ownsRow w.heap.size 78 eS.sz (.slice (some ⟨w.heap.size,0,none⟩) n n) n (madeCells (Value.slice none 0 0).cells (n * eS.sz)).toList:=by rw [show n * eS.sz=n from Nat.mul_one n];exact hown
   rw [Elt.all_made (E:=eS) (z:=⟨none,0,0⟩) (zv:=Value.slice none 0 0) (by decide) rfl n] at hown2;simpa using hown2
  refine ⟨List.replicate n ⟨none,0,0⟩,fun _ _=>False,h1.mono (Nat.zero_le _),fun q hq=>h1.lt q hq,by simp,?_,fun _ _ _ h=>h.elim,fun _ _ _ _ _ _ h=>h.elim⟩
  intro i h xs e1 e2;simp only [List.take_zero,List.nil_append,Nat.sub_zero] at e2
  rw [List.getElem?_replicate] at e1 e2;by_cases hi:i<n
  · rw [if_pos hi] at e1 e2;cases e1;cases e2;exact ⟨0,0,OwnTM.nil _ _ _ _,Nat.zero_le _,fun k a b=>absurd b (Nat.not_lt_zero _)⟩
  · rw [if_neg hi] at e1;cases e1
 clear hown hgr;go_wp2
 go_loopw [4] (fun i wr=>∃ k:Nat,k≤n∧i=.int .i64 k∧OwnDs (fun q=>w.heap.size≤q∧q<wr.heap.size) wr (.slice (some ⟨w.heap.size,0,none⟩) n n) (xss.take k++List.replicate (n - k) [])∧Below w.heap.size w wr) (fun i _=>n - (intOf i).toNat)
 case atStart=>exact ⟨0,Nat.zero_le _,rfl,hown0,hb1⟩
 case round =>
  obtain ⟨k,hk,rfl,hw,hb⟩:=hrel;by_cases hkn:k<n
  · obtain ⟨b,off,rfl,hlt,hc⟩:=Ho.out (by have:=Hn.out;omega)
    obtain ⟨x,ro,rc,hx,hcell,hrd⟩:=hc k (by have:=Hn.out;omega);have hrd2:=rowK_D.below hrd hb (Nat.le_refl _);have hl3:=Hrow.out k x hx;have Hx:=hid hx;clear hx hc hrd hb1 hown0;have d:=(hb.cell (p:=⟨b,off+k,none⟩) hlt.2).trans hcell;clear hcell;have Hrd:=hid hrd2;have Hl3:=hid hl3;clear hrd2 hl3;have hb0:=hb.size;go_wp2_with fail
    with_reducible refine (toCardS_c (Hrd.out) Hl3.out).mono ?_
    rintro e w2 ⟨u,rfl,hu,hb2⟩
    have hw2:=OwnL.agr rowO_D hw (Agr.on (S:=fun _=>False) hb2) (fun _ _ h=>h);have hb3:Below w.heap.size w w2:=hb.trans (hb2.mono hb0);have hlen:n=(xss.take k++List.replicate (n - k) []).length:=by have:=Hn.out;simp;omega
    have hq:QD (fun q=>wr.heap.size≤q∧q<w2.heap.size) w2 u x:=⟨_,_,OwnCardS.top hu,Nat.le_refl _,fun k a b=>⟨a,b⟩⟩;obtain ⟨uo,uc,rfl⟩:=rowO_D.shape hq;obtain ⟨⟨y,hy⟩,hf,ho,hg⟩:=OwnL.put rowO_D hw2 hlen hkn hq (fun q h1 h2=>by omega);rw [set_take_rowsG Hx.out Hn.out hkn] at ho;have hs2:=hb2.size;have Hst:=hid (OwnL.sub (S':=fun q=>w.heap.size≤q∧q<(w2.setCell ⟨w.heap.size,k,none⟩ (.slice uo x.length uc)).heap.size) ho (fun q hq=>by simp;omega));have Hb3:=hid hb3;clear ho hlen hb hb2 hw hw2 hb3 d hu hg hq hs2;go_wp2
    go_roundw
    case rel=>exact ⟨k+1,by omega,by go_num,Hst.out,Hb3.out.setCell (Nat.le_refl _) _⟩
    case measure=>simp [intOf];omega
  · go_wp2
    go_ret
    refine ⟨_,rfl,?_,hb⟩
    have:=Hn.out;rw [List.take_of_length_le (by omega),show n - k=0 by omega] at hw;simpa using hw
def szTotalSS (x:List (List (TotalT))):Int:=x.length+sumBy szTotalS x
theorem szTotalSS_nonneg (x:List (List (TotalT))):0≤szTotalSS x:=by unfold szTotalSS;have:=sumBy_nonneg szTotalS_nonneg x;omega
theorem szTotalSS_len (x:List (List (TotalT))):(x.length:Int)≤szTotalSS x:=by unfold szTotalSS;have:=sumBy_nonneg szTotalS_nonneg x;omega
theorem szTotalSS_row {x:List (List (TotalT))} {k:Nat} {y:List (TotalT)} (h:x[k]?=some y):szTotalS y≤szTotalSS x:=by
 have h4:=sumBy_snoc szTotalS h;have h5:=sumBy_take_le szTotalS_nonneg x (k+1);have h6:=sumBy_nonneg szTotalS_nonneg (x.take k);unfold szTotalSS;omega
def cITotalSS (r:List (TotalT)):Int:=cntTotalS r
theorem cITotalSS_nonneg (r:List (TotalT)):0≤cITotalSS r:=by unfold cITotalSS;omega
def cntTotalSS (x:List (List (TotalT))):Nat:=(sumBy cITotalSS x).toNat
theorem cntTotalSS_eq (x:List (List (TotalT))):(cntTotalSS x:Int)=sumBy cITotalSS x:=by unfold cntTotalSS;have:=sumBy_nonneg cITotalSS_nonneg x;omega
theorem cntTotalSS_le (x:List (List (TotalT))):(cntTotalSS x:Int)≤16 * szTotalSS x:=by
 rw [cntTotalSS_eq];unfold szTotalSS;have:=sumBy_16 (f:=cITotalSS) (g:=szTotalS) cntTotalS_le x;omega
def mkTotalSS (k:Int) (x:List (List (TotalT))):List (List (TotalT)):=mkG mkTotalS cITotalSS k x
theorem szTotalSS_c {xss:List (List (TotalT))} {v:Value} {w:World} {A:Nat} {left:Int} (ha:RdTL A w v xss) (h1:left≤1048576) (h2:szTotalSS xss≤left) :
 Calls Tryz.prog 36 #[v,.int .i64 left] w fun e w'=>e=.returned (.int .i64 (left - szTotalSS xss))∧Below w.heap.size w w':=by
 have hle:=RdL.le ha;obtain ⟨ao,cap,rfl,ho⟩:=RdL.open rowK_T ha;obtain ⟨n,hn⟩:∃ n,n=xss.length:=⟨_,rfl⟩;rw [← hn];have Hn:=hid hn;have Ho:=hid ho;have hle':n≤9223372036854775807:=by omega
 have h2':n+sumBy szTotalS xss≤left:=by unfold szTotalSS at h2;omega
 have h3:=sumBy_nonneg szTotalS_nonneg xss;have H2:=hid h2';have h4:(n:Int)≤left:=by omega
 clear ho hn hle ha h2 h2' h3;go_enter Tryz.func36,Tryz.ntmps36
 go_wp2
 go_loopw [1,5] (fun l i wr=>∃ k:Nat,k≤n∧i=.int .i64 k∧∃ lf:Int,l=.int .i64 lf∧(lf≤1048576∧0≤lf)∧Hid (lf=left - n - sumBy szTotalS (xss.take k))∧Below w.heap.size w wr) (fun _ i _=>n - (intOf i).toNat)
 case atStart=>exact ⟨0,Nat.zero_le _,rfl,left - n,rfl,by omega,by show left - n=_;simp [sumBy],Below.refl _ _⟩
 case round =>
  obtain ⟨k,hk,rfl,lf,rfl,⟨hl1,hl2⟩,hlf,hb⟩:=hrel;by_cases hkn:k<n
  · obtain ⟨b,off,rfl,hlt,hc⟩:=Ho.out (by have:=Hn.out;omega)
    obtain ⟨x,ro,rc,hx,hcell,hrd⟩:=hc k (by have:=Hn.out;omega);replace hcell:=(hb.cell (p:=⟨b,off+k,none⟩) hlt.2).trans hcell;have Hx:=hid hx;have Hrd:=hid ((rowK_T.below (rowK_T.tight hrd) hb (Nat.le_refl _)));have hf:szTotalS x≤lf:=by
     rw [hlf.out];have h4:=sumBy_snoc szTotalS hx;have h5:=sumBy_take_le szTotalS_nonneg xss (k+1);have:=H2.out;omega
    have hf0:=szTotalS_nonneg x;have hf1:¬ lf - szTotalS x<0:=by omega
    have Hf:=hid hf;have Hb:=hid hb;clear hx hc hrd hb hf;go_wp2_with fail
    with_reducible refine (szTotalS_c (rdTs Hrd.out) hl1 Hf.out).mono ?_
    rintro e w1 ⟨rfl,hb1⟩
    have Hb1:=hid (Hb.out.trans (hb1.mono Hb.out.size));clear hb1;go_wp2
    go_roundw
    case rel=>exact ⟨k+1,by omega,by go_num,lf - szTotalS x,rfl,by have:=Hf.out;omega,by show lf - szTotalS x=_;rw [sumBy_snoc szTotalS Hx.out,hlf.out];omega,Hb1.out⟩
    case measure=>simp [intOf];omega
  · go_wp2
    go_ret
    refine ⟨ret_int ?_,hb⟩
    rw [hlf.out,List.take_of_length_le (by have:=Hn.out;omega)];unfold szTotalSS;have:=Hn.out;omega
theorem szTotalSS_no {xss:List (List (TotalT))} {v:Value} {w:World} {A:Nat} {left:Int} (ha:RdTL A w v xss) (h0:0≤left∧left≤1048576) (h2:¬ szTotalSS xss≤left) :
 Calls Tryz.prog 36 #[v,.int .i64 left] w fun e w'=>e=.returned (.int .i64 (-1))∧Below w.heap.size w w':=by
 have h1:=h0.2;have h00:=h0.1;have hle:=RdL.le ha;obtain ⟨ao,cap,rfl,ho⟩:=RdL.open rowK_T ha;obtain ⟨n,hn⟩:∃ n,n=xss.length:=⟨_,rfl⟩;rw [← hn];have Hn:=hid hn;have Ho:=hid ho;have hle':n≤9223372036854775807:=by omega
 have h2':¬ n+sumBy szTotalS xss≤left:=by unfold szTotalSS at h2;omega
 have H2:=hid h2';clear ho hn hle ha h2 h0 h2';by_cases hb:left<n
 · clear H2
   go_enter Tryz.func36,Tryz.ntmps36
   go_wp2
   go_ret
   exact ⟨rfl,Below.refl _ _⟩
 go_enter Tryz.func36,Tryz.ntmps36
 go_wp2
 go_loopw [1,5] (fun l i wr=>∃ k:Nat,k≤n∧i=.int .i64 k∧∃ lf:Int,l=.int .i64 lf∧(lf≤1048576∧0≤lf)∧Hid (lf=left - n - sumBy szTotalS (xss.take k))∧Below w.heap.size w wr) (fun _ i _=>n - (intOf i).toNat)
 case atStart=>exact ⟨0,Nat.zero_le _,rfl,left - n,rfl,by omega,by show left - n=_;simp [sumBy],Below.refl _ _⟩
 case round =>
  obtain ⟨k,hk,rfl,lf,rfl,⟨hl1,hl2⟩,hlf,hb⟩:=hrel;by_cases hkn:k<n
  · obtain ⟨b,off,rfl,hlt,hc⟩:=Ho.out (by have:=Hn.out;omega)
    obtain ⟨x,ro,rc,hx,hcell,hrd⟩:=hc k (by have:=Hn.out;omega);replace hcell:=(hb.cell (p:=⟨b,off+k,none⟩) hlt.2).trans hcell;have Hx:=hid hx;have Hrd:=hid ((rowK_T.below (rowK_T.tight hrd) hb (Nat.le_refl _)));have Hb:=hid hb;clear hx hc hrd hb;by_cases hf:szTotalS x≤lf
    · have hf0:=szTotalS_nonneg x
      have hf1:¬ lf - szTotalS x<0:=by omega
      have Hf:=hid hf;clear hf;go_wp2_with fail
      with_reducible refine (szTotalS_c (rdTs Hrd.out) hl1 Hf.out).mono ?_
      rintro e w1 ⟨rfl,hb1⟩
      have Hb1:=hid (Hb.out.trans (hb1.mono Hb.out.size));clear hb1;go_wp2
      go_roundw
      case rel=>exact ⟨k+1,by omega,by go_num,lf - szTotalS x,rfl,by have:=Hf.out;omega,by show lf - szTotalS x=_;rw [sumBy_snoc szTotalS Hx.out,hlf.out];omega,Hb1.out⟩
      case measure=>simp [intOf];omega
    · have Hf:=hid hf
      clear hf;go_wp2_with fail
      with_reducible refine (szTotalS_no (rdTs Hrd.out) ⟨hl2,hl1⟩ (by have:=Hf.out;omega)).mono ?_
      rintro e w1 ⟨rfl,hb1⟩
      have Hb1:=hid (Hb.out.trans (hb1.mono Hb.out.size));clear hb1;go_wp2
      go_ret
      exact ⟨rfl,Hb1.out⟩
  · exfalso
    have h6:=hlf.out;rw [List.take_of_length_le (by have:=Hn.out;omega)] at h6;have:=H2.out;omega
theorem eqTotalSS_c {xss:List (List (TotalT))} {va vb:Value} {w:World} {A B:Nat} (ha:RdTL A w va xss) (hb:RdTL B w vb xss) :
 Calls Tryz.prog 54 #[va,vb] w fun e w'=>e=.returned (.bool true)∧Below w.heap.size w w':=by
 obtain ⟨bo,bcap,rfl,hob⟩:=RdL.open rowK_T hb;have Hob:=hid hob;clear hob hb;have hle:=RdL.le ha;obtain ⟨ao,cap,rfl,ho⟩:=RdL.open rowK_T ha;obtain ⟨n,hn⟩:∃ n,n=xss.length:=⟨_,rfl⟩;rw [← hn];have Hn:=hid hn;have Ho:=hid ho;have hle':n≤9223372036854775807:=by omega
 clear ho hn hle ha;go_enter Tryz.func54,Tryz.ntmps54
 go_wp2
 go_loopw [5] (fun i wr=>∃ k:Nat,k≤n∧i=.int .i64 k∧Below w.heap.size w wr) (fun i _=>n - (intOf i).toNat)
 case atStart=>exact ⟨0,Nat.zero_le _,rfl,Below.refl _ _⟩
 case round =>
  obtain ⟨k,hk,rfl,hb⟩:=hrel;by_cases hkn:k<n
  · obtain ⟨b,off,rfl,hlt,hc⟩:=Ho.out (by have:=Hn.out;omega)
    obtain ⟨x,ro,rc,hx,hcell,hrd⟩:=hc k (by have:=Hn.out;omega);have Hx:=hid hx;obtain ⟨b2,off2,rfl,hlt2,hc2⟩:=Hob.out (by have:=Hn.out;omega);obtain ⟨x2,ro2,rc2,hx2,hcell2,hrd2⟩:=hc2 k (by have:=Hn.out;omega);obtain rfl:x=x2:=Option.some.inj (Hx.out.symm.trans hx2);replace hcell:=(hb.cell (p:=⟨b,off+k,none⟩) hlt.2).trans hcell;replace hcell2:=(hb.cell (p:=⟨b2,off2+k,none⟩) hlt2.2).trans hcell2;have Hrd:=hid (rowK_T.mono (rowK_T.below (rowK_T.tight hrd) hb (Nat.le_refl _)) hb.size);have Hrd2:=hid (rowK_T.mono (rowK_T.below (rowK_T.tight hrd2) hb (Nat.le_refl _)) hb.size);have Hb:=hid hb;have f1:=cell_regrown hcell;have f2:=cell_regrown hcell2;clear hx hc hrd hx2 hc2 hrd2 hb hcell hcell2;go_wp2
    refine wp_region_quiet_below (by kernel_rfl) (by kernel_rfl) ?_
    repeat ((with_reducible refine wpQuiet_step (fun K hK=>?_));go_simp;first | ((with_reducible refine hK _ ?_);clear hK K) | (apply Exists.intro;refine ⟨fun _=>?_,hK _ ?_⟩;((go_at_call 97;exact qb_below (eqTotalS_c (rdTs (rowK_T.below Hrd.out (below_regrown _ _ _) (Nat.le_refl _))) (rdTs (rowK_T.below Hrd2.out (below_regrown _ _ _) (Nat.le_refl _))))));clear hK K))
    refine wpQuiet_nil ?_
    intro _ hw';obtain ⟨⟨dq,osq⟩,hw''⟩:=hw';subst hw'';have hbq:=below_regrown wr dq osq;generalize grow (redrawn wr dq) osq=wq at hbq ⊢;have Hb1:=hid (Hb.out.trans (hbq.mono Hb.out.size));clear hbq f1 f2;go_wp2
    go_roundw
    case rel=>exact ⟨k+1,by omega,by go_num,Hb1.out⟩
    case measure=>simp [intOf];omega
  · go_wp2
    go_ret
    exact ⟨rfl,hb⟩
theorem toTotalSS_c {w:World} {A:Nat} {xss:List (List (TotalT))} {v:Value} (ha:RdTL A w v xss) (hl:szTotalSS xss≤1048576) :
 Calls Tryz.prog 46 #[v] w fun e w'=>∃ u,e=.returned u∧OwnTs (fun q=>w.heap.size≤q∧q<w'.heap.size) w' u xss∧Below w.heap.size w w':=by
 have hl2:xss.length≤1048576:=by have:=szTotalSS_len xss;omega
 have hrow:∀ (k:Nat) (x:List (TotalT)),xss[k]?=some x→szTotalS x≤1048576:=fun k x hx=>by have:=szTotalSS_row hx;omega
 have ha:=RdL.tight rowK_T ha;have hle:=RdL.le ha;obtain ⟨ao,cap,rfl,ho⟩:=RdL.open rowK_T ha;obtain ⟨n,hn⟩:∃ n,n=xss.length:=⟨_,rfl⟩;rw [← hn];have Hn:=hid hn;have Ho:=hid ho;have hle':n≤9223372036854775807:=by omega
 have Hrow:=hid hrow;have hle2:n≤1048576:=by omega
 obtain ⟨i0,hi,hz0,hz1,hz2⟩:=info_parts Tryz.infoTl;clear ho hn hle ha hl hl2 hrow;go_enter Tryz.func46,Tryz.ntmps46
 go_wp2_with (first | (at_make;refine wpList_make_full _ rfl _ _ 33 rfl w.heap.size 110 i0 (.slice none 0 0) 1 Tryz.underlying33 hi hz0 hz1 _ _ _ _ n rfl rfl rfl rfl ?b1 ?b2 (Nat.le_refl _) ?_))
 case b1=>first | omega | (rw [hz2];omega)
 case b2=>unfold maxLen;omega
 intro w1 hown hgr;have hb1:Below w.heap.size w w1:=(Below.refl _ _).grown hgr (Nat.le_refl _) (fun k hk=>by cases hk);have hown0:OwnTs (fun q=>w.heap.size≤q∧q<w1.heap.size) w1 (.slice (some ⟨w.heap.size,0,none⟩) n n) (xss.take 0++List.replicate (n - 0) []):=by
  have h1:Own eS 110 w.heap.size w1 (.slice (some ⟨w.heap.size,0,none⟩) n n) (List.replicate n ⟨none,0,0⟩):=by
   refine ⟨?_,fun x hx=>trivial⟩
   have hown2:w1.ownsRow w.heap.size 110 eS.sz (.slice (some ⟨w.heap.size,0,none⟩) n n) n (madeCells (Value.slice none 0 0).cells (n * eS.sz)).toList:=by rw [show n * eS.sz=n from Nat.mul_one n];exact hown
   rw [Elt.all_made (E:=eS) (z:=⟨none,0,0⟩) (zv:=Value.slice none 0 0) (by decide) rfl n] at hown2;simpa using hown2
  refine ⟨List.replicate n ⟨none,0,0⟩,fun _ _=>False,h1.mono (Nat.zero_le _),fun q hq=>h1.lt q hq,by simp,?_,fun _ _ _ h=>h.elim,fun _ _ _ _ _ _ h=>h.elim⟩
  intro i h xs e1 e2;simp only [List.take_zero,List.nil_append,Nat.sub_zero] at e2
  rw [List.getElem?_replicate] at e1 e2;by_cases hi:i<n
  · rw [if_pos hi] at e1 e2;cases e1;cases e2;exact ⟨0,0,⟨Own.nil _ _ _ _,fun k hk=>by cases hk⟩,Nat.zero_le _,fun k a b=>absurd b (Nat.not_lt_zero _)⟩
  · rw [if_neg hi] at e1;cases e1
 clear hown hgr;go_wp2
 go_loopw [4] (fun i wr=>∃ k:Nat,k≤n∧i=.int .i64 k∧OwnTs (fun q=>w.heap.size≤q∧q<wr.heap.size) wr (.slice (some ⟨w.heap.size,0,none⟩) n n) (xss.take k++List.replicate (n - k) [])∧Below w.heap.size w wr) (fun i _=>n - (intOf i).toNat)
 case atStart=>exact ⟨0,Nat.zero_le _,rfl,hown0,hb1⟩
 case round =>
  obtain ⟨k,hk,rfl,hw,hb⟩:=hrel;by_cases hkn:k<n
  · obtain ⟨b,off,rfl,hlt,hc⟩:=Ho.out (by have:=Hn.out;omega)
    obtain ⟨x,ro,rc,hx,hcell,hrd⟩:=hc k (by have:=Hn.out;omega);have hrd2:=rowK_T.below hrd hb (Nat.le_refl _);have hl3:=Hrow.out k x hx;have Hx:=hid hx;clear hx hc hrd hb1 hown0;have d:=(hb.cell (p:=⟨b,off+k,none⟩) hlt.2).trans hcell;clear hcell;have Hrd:=hid hrd2;have Hl3:=hid hl3;clear hrd2 hl3;have hb0:=hb.size;go_wp2_with fail
    with_reducible refine (toTotalS_c (rdTs Hrd.out) Hl3.out).mono ?_
    rintro e w2 ⟨u,rfl,hu,hb2⟩
    have hw2:=OwnL.agr rowO_T hw (Agr.on (S:=fun _=>False) hb2) (fun _ _ h=>h);have hb3:Below w.heap.size w w2:=hb.trans (hb2.mono hb0);have hlen:n=(xss.take k++List.replicate (n - k) []).length:=by have:=Hn.out;simp;omega
    have hq:QT (fun q=>wr.heap.size≤q∧q<w2.heap.size) w2 u x:=⟨_,_,Own.top hu,Nat.le_refl _,fun k a b=>⟨a,b⟩⟩;obtain ⟨uo,uc,rfl⟩:=rowO_T.shape hq;obtain ⟨⟨y,hy⟩,hf,ho,hg⟩:=OwnL.put rowO_T hw2 hlen hkn hq (fun q h1 h2=>by omega);rw [set_take_rowsG Hx.out Hn.out hkn] at ho;have hs2:=hb2.size;have Hst:=hid (OwnL.sub (S':=fun q=>w.heap.size≤q∧q<(w2.setCell ⟨w.heap.size,k,none⟩ (.slice uo x.length uc)).heap.size) ho (fun q hq=>by simp;omega));have Hb3:=hid hb3;clear ho hlen hb hb2 hw hw2 hb3 d hu hg hq hs2;go_wp2
    go_roundw
    case rel=>exact ⟨k+1,by omega,by go_num,Hst.out,Hb3.out.setCell (Nat.le_refl _) _⟩
    case measure=>simp [intOf];omega
  · go_wp2
    go_ret
    refine ⟨_,rfl,?_,hb⟩
    have:=Hn.out;rw [List.take_of_length_le (by omega),show n - k=0 by omega] at hw;simpa using hw
set_option maxHeartbeats 1000000
theorem markCardSS_c {xss:List (List (List Int))} {S:Nat→Prop} {v:Value} {w:World} (k:Int) (ha:OwnDs S w v xss) (hk:0≤k) (hl:k+cntCardSS xss≤9223372036854775807) :
 Calls Tryz.prog 56 #[v,.int .i64 k] w fun e w'=>e=.returned (.int .i64 (k+cntCardSS xss))∧OwnDs S w' v (mkCardSS k xss)∧Agr S w w':=by
 have hle:=RdL.le (OwnDs.rds ha);obtain ⟨ao,cap,rfl⟩:=OwnL.shape ha;obtain ⟨n,hn⟩:∃ n,n=xss.length:=⟨_,rfl⟩;rw [cntCardSS_eq] at hl ⊢;rw [← hn] at ha ⊢;have Hn:=hid hn;have Hl:=hid hl;have hle':n≤9223372036854775807:=by omega
 have Ha:Hid (OwnDs S w (.slice ao n cap) (mkG mkCardS cICardSS k (xss.take 0)++xss.drop 0)):=hid (by simpa [mkG] using ha);clear hn hle hl ha;go_enter Tryz.func56,Tryz.ntmps56
 go_wp2
 go_loopw [1,5] (fun c i wr=>∃ j:Nat,j≤n∧i=.int .i64 j∧∃ s:Int,c=.int .i64 (k+s)∧Hid (s=sumBy cICardSS (xss.take j))∧0≤s∧Hid (OwnDs S wr (.slice ao n cap) (mkG mkCardS cICardSS k (xss.take j)++xss.drop j))∧Hid (Agr S w wr)) (fun _ i _=>n - (intOf i).toNat)
 case atStart=>exact ⟨0,Nat.zero_le _,rfl,0,by simp,by show (0:Int)=_;simp [sumBy],by omega,Ha,Agr.refl _ _⟩
 case round =>
  obtain ⟨j,hj,rfl,s,rfl,Hs,hs0,Hw,Hwi⟩:=hrel;clear Ha;by_cases hjn:j<n
  · have hlen:(mkG mkCardS cICardSS k (xss.take j)++xss.drop j).length=n:=by have:=Hn.out;rw [List.length_append,mkG_length];simp;omega
    obtain ⟨g,cp,hv,hg1,hg2⟩:=OwnL.addr Hw.out (by omega);obtain ⟨hv1,hv2,hv3⟩:=Value.slice.inj hv;subst hv1;subst hv3;clear hv2;have hx:xss[j]?=some (xss[j]'(by have:=Hn.out;omega)):=List.getElem?_eq_getElem _;generalize xss[j]'(by have:=Hn.out;omega)=x at hx;have hx2:(mkG mkCardS cICardSS k (xss.take j)++xss.drop j)[j]?=some x:=by
     have h0:(mkG mkCardS cICardSS k (xss.take j)).length=j:=by rw [mkG_length];have:=Hn.out;simp;omega
     rw [List.getElem?_append_right (by omega),h0,Nat.sub_self,List.getElem?_drop,Nat.add_zero];exact hx
    obtain ⟨ro,rc,Tk,hcell,hown,hsub,hback⟩:=OwnL.row rowO_D Hw.out hx2;obtain ⟨lo,hi,ho,hhi,hin⟩:=hown;have h4:=sumBy_snoc cICardSS hx;have h5:=sumBy_take_le cICardSS_nonneg xss (j+1);have hl2:(k+s)+(cntCardS x:Int)≤9223372036854775807:=by have:=Hl.out;have:=Hs.out;have hcx:cICardSS x=(cntCardS x:Int):=rfl;omega
    have Hx:=hid hx;have Ho:=hid ho;have Hback:=hid hback;have Hhi:=hid hhi;have Hin:=hid hin;have Hsub:=hid hsub;have Hl2:=hid hl2;clear hx hx2 ho hback hv h4 h5 hlen hhi hin hsub hl2;go_wp2_with fail
    with_reducible refine (markCardS_c (k+s) Ho.out (by omega) Hl2.out).mono ?_
    rintro e w2 ⟨rfl,ho2,hwi⟩
    have hAg:Agr Tk wr w2:=Within.agrT hwi Hin.out;have ht:=Hback.out w2 (mkCardS (k+s) x) (mkRows_length _ _) ⟨lo,hi,ho2,Nat.le_trans Hhi.out hwi.size,Hin.out⟩ hAg;rw [Hs.out,mkG_set (mk:=mkCardS) (cnt:=cICardSS) Hx.out] at ht;have Ht:=hid ht;have Hwi2:=hid (Hwi.out.trans hAg (fun i hi _=>(Hsub.out i hi).1));have hl3:=Hl2.out;clear ho2 hwi hAg ht;go_wp2
    go_roundw
    case rel=>exact ⟨j+1,by omega,by go_num,s+cntCardS x,by go_num,by show s+(cntCardS x:Int)=_;rw [sumBy_snoc cICardSS Hx.out,← Hs.out];rfl,by omega,Ht.out,Hwi2.out⟩
    case measure=>simp [intOf];omega
  · go_wp2
    go_ret
    have:=Hn.out;have hw:=Hw.out;have hs:=Hs.out;rw [List.take_of_length_le (by omega)] at hs;rw [List.take_of_length_le (by omega),List.drop_of_length_le (by omega),List.append_nil] at hw;exact ⟨ret_int (by rw [hs]),hw,Hwi.out⟩
theorem heldCardSS_c {xss:List (List (List Int))} {v:Value} {w:World} {A:Nat} (k:Int) (ha:RdDs A w v (mkCardSS k xss)) (hk:0≤k) (hl:k+cntCardSS xss≤9223372036854775807) :
 Calls Tryz.prog 62 #[v,.int .i64 k] w fun e w'=>e=.returned (.int .i64 (k+cntCardSS xss))∧Below w.heap.size w w':=by
 have hle:=RdL.le ha;obtain ⟨ao,cap,rfl,ho⟩:=RdL.open rowK_D ha;have e0:(mkCardSS k xss).length=xss.length:=mkG_length _ _;rw [e0] at hle ho ⊢;obtain ⟨n,hn⟩:∃ n,n=xss.length:=⟨_,rfl⟩;rw [cntCardSS_eq] at hl ⊢;rw [← hn] at ho ⊢;have Hn:=hid hn;have Ho:=hid ho;have Hl:=hid hl;have hle':n≤9223372036854775807:=by omega
 clear ho hn hle ha hl e0;go_enter Tryz.func62,Tryz.ntmps62
 go_wp2
 go_loopw [1,5] (fun c i wr=>∃ j:Nat,j≤n∧i=.int .i64 j∧∃ s:Int,c=.int .i64 (k+s)∧Hid (s=sumBy cICardSS (xss.take j))∧0≤s∧Hid (Below w.heap.size w wr)) (fun _ i _=>n - (intOf i).toNat)
 case atStart=>exact ⟨0,Nat.zero_le _,rfl,0,by simp,by show (0:Int)=_;simp [sumBy],by omega,Below.refl _ _⟩
 case round =>
  obtain ⟨j,hj,rfl,s,rfl,hs,hs0,Hb⟩:=hrel;by_cases hjn:j<n
  · obtain ⟨b,off,rfl,hlt,hc⟩:=Ho.out (by omega)
    obtain ⟨y,ro,rc,hy,hcell,hrd⟩:=hc j hjn;have hx:xss[j]?=some (xss[j]'(by have:=Hn.out;omega)):=List.getElem?_eq_getElem _;generalize xss[j]'(by have:=Hn.out;omega)=x at hx;have hy2:y=mkCardS (k+s) x:=by
     have:=mkG_get (mk:=mkCardS) (cnt:=cICardSS) (k:=k) hx;rw [← hs.out] at this;exact Option.some.inj (hy.symm.trans this)
    subst hy2;have h4:=sumBy_snoc cICardSS hx;have h5:=sumBy_take_le cICardSS_nonneg xss (j+1);have hl2:(k+s)+(cntCardS x:Int)≤9223372036854775807:=by have:=Hl.out;have:=hs.out;have hcx:cICardSS x=(cntCardS x:Int):=rfl;omega
    have hge:¬ (k+s)+(cntCardS x:Int)<0:=by omega
    have d:=(Hb.out.cell (p:=⟨b,off+j,none⟩) hlt.2).trans hcell;have Hx:=hid hx;have Hrd:=hid (rowK_D.below (rowK_D.tight hrd) Hb.out (Nat.le_refl _));have Hl2:=hid hl2;clear hx hc hrd hy h4 h5 hcell hl2;go_wp2_with fail
    with_reducible refine (heldCardS_c (k+s) (Hrd.out) (by omega) Hl2.out).mono ?_
    rintro e w1 ⟨rfl,hb1⟩
    have Hb1:=hid (Hb.out.trans (hb1.mono Hb.out.size));have hl3:=Hl2.out;clear hb1;go_wp2
    go_roundw
    case rel=>exact ⟨j+1,by omega,by go_num,s+cntCardS x,by go_num,by show s+(cntCardS x:Int)=_;rw [sumBy_snoc cICardSS Hx.out,← hs.out];rfl,by omega,Hb1.out⟩
    case measure=>simp [intOf];omega
  · go_wp2
    go_ret
    refine ⟨ret_int ?_,Hb.out⟩
    rw [hs.out,List.take_of_length_le (by have:=Hn.out;omega)]
theorem markTotalSS_c {xss:List (List (TotalT))} {S:Nat→Prop} {v:Value} {w:World} (k:Int) (ha:OwnTs S w v xss) (hk:0≤k) (hl:k+cntTotalSS xss≤9223372036854775807) :
 Calls Tryz.prog 57 #[v,.int .i64 k] w fun e w'=>e=.returned (.int .i64 (k+cntTotalSS xss))∧OwnTs S w' v (mkTotalSS k xss)∧Agr S w w':=by
 have hle:=RdL.le (OwnTs.rds ha);obtain ⟨ao,cap,rfl⟩:=OwnL.shape ha;obtain ⟨n,hn⟩:∃ n,n=xss.length:=⟨_,rfl⟩;rw [cntTotalSS_eq] at hl ⊢;rw [← hn] at ha ⊢;have Hn:=hid hn;have Hl:=hid hl;have hle':n≤9223372036854775807:=by omega
 have Ha:Hid (OwnTs S w (.slice ao n cap) (mkG mkTotalS cITotalSS k (xss.take 0)++xss.drop 0)):=hid (by simpa [mkG] using ha);clear hn hle hl ha;go_enter Tryz.func57,Tryz.ntmps57
 go_wp2
 go_loopw [1,5] (fun c i wr=>∃ j:Nat,j≤n∧i=.int .i64 j∧∃ s:Int,c=.int .i64 (k+s)∧Hid (s=sumBy cITotalSS (xss.take j))∧0≤s∧Hid (OwnTs S wr (.slice ao n cap) (mkG mkTotalS cITotalSS k (xss.take j)++xss.drop j))∧Hid (Agr S w wr)) (fun _ i _=>n - (intOf i).toNat)
 case atStart=>exact ⟨0,Nat.zero_le _,rfl,0,by simp,by show (0:Int)=_;simp [sumBy],by omega,Ha,Agr.refl _ _⟩
 case round =>
  obtain ⟨j,hj,rfl,s,rfl,Hs,hs0,Hw,Hwi⟩:=hrel;clear Ha;by_cases hjn:j<n
  · have hlen:(mkG mkTotalS cITotalSS k (xss.take j)++xss.drop j).length=n:=by have:=Hn.out;rw [List.length_append,mkG_length];simp;omega
    obtain ⟨g,cp,hv,hg1,hg2⟩:=OwnL.addr Hw.out (by omega);obtain ⟨hv1,hv2,hv3⟩:=Value.slice.inj hv;subst hv1;subst hv3;clear hv2;have hx:xss[j]?=some (xss[j]'(by have:=Hn.out;omega)):=List.getElem?_eq_getElem _;generalize xss[j]'(by have:=Hn.out;omega)=x at hx;have hx2:(mkG mkTotalS cITotalSS k (xss.take j)++xss.drop j)[j]?=some x:=by
     have h0:(mkG mkTotalS cITotalSS k (xss.take j)).length=j:=by rw [mkG_length];have:=Hn.out;simp;omega
     rw [List.getElem?_append_right (by omega),h0,Nat.sub_self,List.getElem?_drop,Nat.add_zero];exact hx
    obtain ⟨ro,rc,Tk,hcell,hown,hsub,hback⟩:=OwnL.row rowO_T Hw.out hx2;obtain ⟨lo,hi,ho,hhi,hin⟩:=hown;have h4:=sumBy_snoc cITotalSS hx;have h5:=sumBy_take_le cITotalSS_nonneg xss (j+1);have hl2:(k+s)+(cntTotalS x:Int)≤9223372036854775807:=by have:=Hl.out;have:=Hs.out;have hcx:cITotalSS x=(cntTotalS x:Int):=rfl;omega
    have Hx:=hid hx;have Ho:=hid ho;have Hback:=hid hback;have Hhi:=hid hhi;have Hin:=hid hin;have Hsub:=hid hsub;have Hl2:=hid hl2;clear hx hx2 ho hback hv h4 h5 hlen hhi hin hsub hl2;go_wp2_with fail
    with_reducible refine (markTotalS_c (k+s) Ho.out (by omega) Hl2.out).mono ?_
    rintro e w2 ⟨rfl,ho2,hwi,_⟩
    have hAg:Agr Tk wr w2:=Within.agrT hwi Hin.out;have ht:=Hback.out w2 (mkTotalS (k+s) x) (mkL_length _ _) ⟨lo,hi,ho2,Nat.le_trans Hhi.out hwi.size,Hin.out⟩ hAg;rw [Hs.out,mkG_set (mk:=mkTotalS) (cnt:=cITotalSS) Hx.out] at ht;have Ht:=hid ht;have Hwi2:=hid (Hwi.out.trans hAg (fun i hi _=>(Hsub.out i hi).1));have hl3:=Hl2.out;clear ho2 hwi hAg ht;go_wp2
    go_roundw
    case rel=>exact ⟨j+1,by omega,by go_num,s+cntTotalS x,by go_num,by show s+(cntTotalS x:Int)=_;rw [sumBy_snoc cITotalSS Hx.out,← Hs.out];rfl,by omega,Ht.out,Hwi2.out⟩
    case measure=>simp [intOf];omega
  · go_wp2
    go_ret
    have:=Hn.out;have hw:=Hw.out;have hs:=Hs.out;rw [List.take_of_length_le (by omega)] at hs;rw [List.take_of_length_le (by omega),List.drop_of_length_le (by omega),List.append_nil] at hw;exact ⟨ret_int (by rw [hs]),hw,Hwi.out⟩
theorem heldTotalSS_c {xss:List (List (TotalT))} {v:Value} {w:World} {A:Nat} (k:Int) (ha:RdTL A w v (mkTotalSS k xss)) (hk:0≤k) (hl:k+cntTotalSS xss≤9223372036854775807) :
 Calls Tryz.prog 63 #[v,.int .i64 k] w fun e w'=>e=.returned (.int .i64 (k+cntTotalSS xss))∧Below w.heap.size w w':=by
 have hle:=RdL.le ha;obtain ⟨ao,cap,rfl,ho⟩:=RdL.open rowK_T ha;have e0:(mkTotalSS k xss).length=xss.length:=mkG_length _ _;rw [e0] at hle ho ⊢;obtain ⟨n,hn⟩:∃ n,n=xss.length:=⟨_,rfl⟩;rw [cntTotalSS_eq] at hl ⊢;rw [← hn] at ho ⊢;have Hn:=hid hn;have Ho:=hid ho;have Hl:=hid hl;have hle':n≤9223372036854775807:=by omega
 clear ho hn hle ha hl e0;go_enter Tryz.func63,Tryz.ntmps63
 go_wp2
 go_loopw [1,5] (fun c i wr=>∃ j:Nat,j≤n∧i=.int .i64 j∧∃ s:Int,c=.int .i64 (k+s)∧Hid (s=sumBy cITotalSS (xss.take j))∧0≤s∧Hid (Below w.heap.size w wr)) (fun _ i _=>n - (intOf i).toNat)
 case atStart=>exact ⟨0,Nat.zero_le _,rfl,0,by simp,by show (0:Int)=_;simp [sumBy],by omega,Below.refl _ _⟩
 case round =>
  obtain ⟨j,hj,rfl,s,rfl,hs,hs0,Hb⟩:=hrel;by_cases hjn:j<n
  · obtain ⟨b,off,rfl,hlt,hc⟩:=Ho.out (by omega)
    obtain ⟨y,ro,rc,hy,hcell,hrd⟩:=hc j hjn;have hx:xss[j]?=some (xss[j]'(by have:=Hn.out;omega)):=List.getElem?_eq_getElem _;generalize xss[j]'(by have:=Hn.out;omega)=x at hx;have hy2:y=mkTotalS (k+s) x:=by
     have:=mkG_get (mk:=mkTotalS) (cnt:=cITotalSS) (k:=k) hx;rw [← hs.out] at this;exact Option.some.inj (hy.symm.trans this)
    subst hy2;have h4:=sumBy_snoc cITotalSS hx;have h5:=sumBy_take_le cITotalSS_nonneg xss (j+1);have hl2:(k+s)+(cntTotalS x:Int)≤9223372036854775807:=by have:=Hl.out;have:=hs.out;have hcx:cITotalSS x=(cntTotalS x:Int):=rfl;omega
    have hge:¬ (k+s)+(cntTotalS x:Int)<0:=by omega
    have d:=(Hb.out.cell (p:=⟨b,off+j,none⟩) hlt.2).trans hcell;have Hx:=hid hx;have Hrd:=hid (rowK_T.below (rowK_T.tight hrd) Hb.out (Nat.le_refl _));have Hl2:=hid hl2;clear hx hc hrd hy h4 h5 hcell hl2;go_wp2_with fail
    with_reducible refine (heldTotalS_c (k+s) (rdTs Hrd.out) (by omega) Hl2.out).mono ?_
    rintro e w1 ⟨rfl,hb1⟩
    have Hb1:=hid (Hb.out.trans (hb1.mono Hb.out.size));have hl3:=Hl2.out;clear hb1;go_wp2
    go_roundw
    case rel=>exact ⟨j+1,by omega,by go_num,s+cntTotalS x,by go_num,by show s+(cntTotalS x:Int)=_;rw [sumBy_snoc cITotalSS Hx.out,← hs.out];rfl,by omega,Hb1.out⟩
    case measure=>simp [intOf];omega
  · go_wp2
    go_ret
    refine ⟨ret_int ?_,Hb.out⟩
    rw [hs.out,List.take_of_length_le (by have:=Hn.out;omega)]
end Go.Proofs.YthdaghfhlfjclaaGreat
