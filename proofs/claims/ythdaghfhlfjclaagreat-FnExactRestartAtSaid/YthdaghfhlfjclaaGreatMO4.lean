/- Lemmas on the way to the law that OfficeAt returns what the reference's returns. No condition. -/
import Derived.Test.YthdaghfhlfjclaaGreatRows
import Derived.Test.YthdaghfhlfjclaaGreatMO3
namespace Go.Proofs.YthdaghfhlfjclaaGreat
set_option linter.unusedSimpArgs false
open Lib (hid)
open Go.ChangeShapes Go.WideShapes Go.ChangeAt Go.RowKit
set_option linter.unusedVariables false
set_option maxRecDepth 100000
theorem inside_yes (n lo hi:Int) (w:World) (hlo:lo≤n) (hhi:n≤hi) :
 Calls Tryz.prog 49 #[.int .i64 n,.int .i64 lo,.int .i64 hi] w fun e w'=>e=.returned (.bool true)∧w=w':=by
 go_enter Tryz.func49,Tryz.ntmps49
 go_wp2
 go_ret
 exact ⟨rfl,rfl⟩
theorem inside_no (n lo hi:Int) (w:World) (hno:n<lo∨hi<n) :
 Calls Tryz.prog 49 #[.int .i64 n,.int .i64 lo,.int .i64 hi] w fun e w'=>e=.returned (.bool false)∧w=w':=by
 by_cases hlo:lo≤n
 · have hhi:hi<n:=by omega
   clear hno;go_enter Tryz.func49,Tryz.ntmps49
   go_wp2
   go_ret
   exact ⟨ret_bool (by simp;omega),rfl⟩
 · clear hno
   go_enter Tryz.func49,Tryz.ntmps49
   go_wp2
   go_ret
   exact ⟨rfl,rfl⟩
theorem inside_any (n lo hi:Int) (w:World) :
 Calls Tryz.prog 49 #[.int .i64 n,.int .i64 lo,.int .i64 hi] w fun e w'=>e=.returned (.bool (decide (lo≤n∧n≤hi)))∧w=w':=by
 by_cases h:lo≤n∧n≤hi
 · exact (inside_yes n lo hi w h.1 h.2).mono fun e w' hh=>⟨by rw [hh.1];exact ret_bool (by simp [h]),hh.2⟩
 · exact (inside_no n lo hi w (by omega)).mono fun e w' hh=>⟨by rw [hh.1];exact ret_bool (by simp [h]),hh.2⟩
theorem l00In_yes (n lo hi:Int) (w:World) (hlo:lo≤n) (hhi:n≤hi) :
 Calls Tryz.prog 39 #[.int .i64 n,.int .i64 lo,.int .i64 hi] w fun e w'=>e=.returned (.bool true)∧w=w':=by
 go_enter Tryz.func39,Tryz.ntmps39
 go_wp2
 go_ret
 exact ⟨rfl,rfl⟩
theorem l00In_no (n lo hi:Int) (w:World) (hno:n<lo∨hi<n) :
 Calls Tryz.prog 39 #[.int .i64 n,.int .i64 lo,.int .i64 hi] w fun e w'=>e=.returned (.bool false)∧w=w':=by
 by_cases hlo:lo≤n
 · have hhi:hi<n:=by omega
   clear hno;go_enter Tryz.func39,Tryz.ntmps39
   go_wp2
   go_ret
   exact ⟨ret_bool (by simp;omega),rfl⟩
 · clear hno
   go_enter Tryz.func39,Tryz.ntmps39
   go_wp2
   go_ret
   exact ⟨rfl,rfl⟩
theorem l00In_any (n lo hi:Int) (w:World) :
 Calls Tryz.prog 39 #[.int .i64 n,.int .i64 lo,.int .i64 hi] w fun e w'=>e=.returned (.bool (decide (lo≤n∧n≤hi)))∧w=w':=by
 by_cases h:lo≤n∧n≤hi
 · exact (l00In_yes n lo hi w h.1 h.2).mono fun e w' hh=>⟨by rw [hh.1];exact ret_bool (by simp [h]),hh.2⟩
 · exact (l00In_no n lo hi w (by omega)).mono fun e w' hh=>⟨by rw [hh.1];exact ret_bool (by simp [h]),hh.2⟩
theorem any_end {xs:List Int} {p:Int→Bool} (h:xs.any p=false):(0:Int)≤-1 ↔ ∃ x,x∈xs∧p x=true :=
 ⟨fun h=>by omega,fun ⟨x,hx,hp⟩=>by rw [List.any_eq_true.2 ⟨x,hx,hp⟩] at h;cases h⟩
theorem size_any0 {ao:Option Addr} {n cap:Nat} {w:World} (hn:n≤9223372036854775807) :
 Calls Tryz.prog 132 #[.slice ao n cap] w fun e w'=>e=.returned (.int .i64 n)∧w=w':=by
 go_enter Tryz.func132,Tryz.ntmps132
 go_wp2
 go_ret
 exact ⟨rfl,rfl⟩
def Pre {α:Type} (xs ys:List α) (k:Nat):Prop:=xs.take k=ys.take k
theorem eqI_some {xs ys:List Int} {b off cap b' off' cap':Nat} {w:World} (hlen:xs.length=ys.length) (hle:xs.length≤9223372036854775807)
 (hc:∀ k,k<xs.length→∃ x,xs[k]?=some x∧w.cell? ⟨b,off+k,none⟩=some (.int .i64 x)∧-9223372036854775808≤x∧x≤9223372036854775807)
 (hc':∀ k,k<ys.length→∃ x,ys[k]?=some x∧w.cell? ⟨b',off'+k,none⟩=some (.int .i64 x)∧-9223372036854775808≤x∧x≤9223372036854775807) :
 Calls Tryz.prog 13 #[.slice (some ⟨b,off,none⟩) xs.length cap,.slice (some ⟨b',off',none⟩) ys.length cap'] w fun e w'=>e=.returned (.bool (decide (xs=ys)))∧∃ m,w'=w.drewN m:=by
 have Hc:=hid hc;have Hc':=hid hc';have Hl:=hid hlen;obtain ⟨n,hn⟩:∃ n,n=xs.length:=⟨_,rfl⟩;rw [← hn,← (hn.trans hlen)];have Hn:=hid hn;have hn':n≤9223372036854775807:=by omega
 clear hc hc' hlen hn hle;go_enter Tryz.func13,Tryz.ntmps13
 go_wp2
 go_loopw [5] (fun i wr=>∃ k:Nat,k≤n∧i=.int .i64 k∧Pre xs ys k∧∃ m,wr=w.drewN m) (fun i _=>n - (intOf i).toNat)
 case atStart=>exact ⟨0,Nat.zero_le _,rfl,by simp [Pre],0,rfl⟩
 case round =>
  obtain ⟨k,hk,rfl,hp,m,rfl⟩:=hrel;by_cases hkn:k<n
  · obtain ⟨x,hx,hcx,bx⟩:=Hc.out k (by have:=Hn.out;omega)
    obtain ⟨y,hy,hcy,by'⟩:=Hc'.out k (by have:=Hn.out;have:=Hl.out;omega);have Hx:=hid hx;have Hy:=hid hy;clear hx hy;by_cases hxy:x=y
    · subst hxy
      have hf:(x != x)=false:=by simp
      go_wp2
      go_quiet (fail)
      go_wp2
      go_roundw
      case rel=>exact ⟨k+1,by omega,by go_num,take_eq_succ hp Hx.out Hy.out rfl,_,rfl⟩
      case measure=>simp [intOf];omega
    · have hf:(x != y)=true:=by simpa using hxy
      clear hxy;go_wp2
      go_quiet (fail)
      go_wp2
      go_ret
      exact ⟨ret_bool (by have:=ne_of_at Hx.out Hy.out (by simpa using hf);simp [this]),_,World.drewN_drewN _ _ _⟩
  · go_wp2
    go_ret
    exact ⟨ret_bool (by have:=eq_of_take hp Hn.out Hl.out hk hkn;simp [this]),m,rfl⟩
theorem eqI {xs ys:List Int} {va vb:Value} {w:World} {A B:Nat} (ha:RdI A w va xs) (hb:RdI B w vb ys) :
 Calls Tryz.prog 13 #[va,vb] w fun e w'=>e=.returned (.bool (decide (xs=ys)))∧∃ m,w'=w.drewN m:=by
 by_cases hlen:xs.length=ys.length
 · have hle:=ha.le
   rcases ha.cases with ⟨rfl,ao,cap,rfl,_⟩ | ⟨b,off,cap,rfl,hlt,hc⟩
   · obtain rfl:ys=[]:=List.eq_nil_of_length_eq_zero (by simpa using hlen.symm)
     obtain ⟨ao',cap',rfl⟩:=hb.shape;clear hlen ha hb hle;go_enter Tryz.func13,Tryz.ntmps13
     go_wp2
     go_rounds 1
     go_ret
     exact ⟨rfl,0,rfl⟩
   · rcases hb.cases with ⟨rfl,ao',cap',rfl,_⟩ | ⟨b',off',cap',rfl,hlt',hc'⟩
     · obtain rfl:xs=[]:=List.eq_nil_of_length_eq_zero (by simpa using hlen)
       clear hlen ha hb hc hle;go_enter Tryz.func13,Tryz.ntmps13
       go_wp2
       go_rounds 1
       go_ret
       exact ⟨rfl,0,rfl⟩
     · exact eqI_some hlen hle hc hc'
 · obtain ⟨ao,cap,rfl⟩:=ha.shape
   obtain ⟨ao',cap',rfl⟩:=hb.shape;have hf:((xs.length:Int) != (ys.length:Int))=true:=by simpa using fun h:(xs.length:Int)=ys.length=>hlen (by omega)
   have Hl:=hid hlen;clear hlen ha hb;go_enter Tryz.func13,Tryz.ntmps13
   go_wp2
   go_ret
   exact ⟨ret_bool (by have:=ne_of_length Hl.out;simp [this]),0,rfl⟩
theorem eqI_same {xs:List Int} {va vb:Value} {w:World} {A B:Nat} (ha:RdI A w va xs) (hb:RdI B w vb xs) :
 Calls Tryz.prog 13 #[va,vb] w fun e w'=>e=.returned (.bool true)∧∃ m,w'=w.drewN m :=
 (eqI ha hb).mono fun e w' h=>⟨by rw [h.1];exact ret_bool (by simp),h.2⟩
def markL (k:Int):Nat→List Int
 | 0=>[]
 | n+1=>k :: markL (k+1) n
theorem markL_length (n:Nat):∀ k,(markL k n).length=n:=by
 induction n with
 | zero=>intro k;rfl
 | succ n ih=>intro k;simp [markL,ih]
theorem markL_at (n:Nat):∀ (k:Int) (j:Nat),j<n→(markL k n)[j]?=some (k+j):=by
 induction n with
 | zero=>intro k j h;omega
 | succ n ih =>
  intro k j h;cases j with
  | zero=>simp [markL]
  | succ j =>
   have:=ih (k+1) j (by omega);simp only [markL,List.getElem?_cons_succ,this]
   congr 1
   omega
theorem markL_mem {n:Nat} {k x:Int} (h:x∈markL k n):k≤x∧x<k+n:=by
 obtain ⟨j,hj,rfl⟩:=List.mem_iff_getElem.1 h;have hj':j<n:=by simpa [markL_length] using hj
 have:=markL_at n k j hj';rw [List.getElem?_eq_getElem hj] at this;have:=Option.some.inj this;omega
theorem markL_get (n:Nat) (k:Int) (j:Nat):(markL k n)[j]?=if j<n then some (k+j) else none:=by
 by_cases h:j<n
 · rw [if_pos h,markL_at n k j h]
 · rw [if_neg h,List.getElem?_eq_none (by rw [markL_length];omega)]
theorem markL_set (xs:List Int) (k:Int) (j:Nat) (hj:j<xs.length):(((markL k j).map (Value.int .i64))++((xs.drop j).map (Value.int .i64))).set j (.int .i64 (k+j))=((markL k (j+1)).map (Value.int .i64))++((xs.drop (j+1)).map (Value.int .i64)):=by
 apply List.ext_getElem?
 intro i;simp only [List.getElem?_set,List.getElem?_append,List.length_append,List.length_map,List.length_drop,markL_length,List.getElem?_map,markL_get,List.getElem?_drop]
 by_cases h1:j=i
 · subst h1
   rw [if_pos rfl,if_pos (by omega),if_pos (by omega),if_pos (by omega)];rfl
 · rw [if_neg h1]
   by_cases h2:i<j
   · rw [if_pos h2,if_pos h2,if_pos (by omega),if_pos (by omega)]
   · rw [if_neg h2,if_neg (by omega)]
     congr 2
     omega
theorem copy_set (xs:List Int) (n k:Nat) (x:Int) (hx:xs[k]?=some x) (hk:k<n):(((xs.take k).map (Value.int .i64))++List.replicate (n - k) (Value.int .i64 0)).set k (.int .i64 x)=((xs.take (k+1)).map (Value.int .i64))++List.replicate (n - (k+1)) (Value.int .i64 0):=by
 have hl:=at_lt hx;rw [take_snoc hx,List.map_append];have e:n - k=(n - (k+1))+1:=by omega
 have h0:((xs.take k).map (Value.int .i64)).length=k:=by simp;omega
 rw [e,List.replicate_succ,List.set_append_right _ _ (by omega),h0,Nat.sub_self];simp
theorem Tryz.infoInt64:(Tryz.prog.info? 2).map (fun i=>(i.zero,i.size,i.bytes))=some (some (.int .i64 0),1,8):=by kernel_rfl
theorem toI {xs:List Int} {v:Value} {w:World} {A:Nat} (ha:RdI A w v xs) (hl:xs.length≤1048576) :
 Calls Tryz.prog 171 #[v] w fun e w'=>∃ u,e=.returned u∧Own eI 2 w.heap.size w' u xs∧Below w.heap.size w w':=by
 have hle:=ha.le;have hok:=ha.2;have key:∀ (ao:Option Addr) (cap:Nat),v=.slice ao xs.length cap→(∀ k,k<xs.length→∃ b off x,ao=some ⟨b,off,none⟩∧b<w.heap.size∧xs[k]?=some x∧w.cell? ⟨b,off+k,none⟩=some (.int .i64 x)∧-9223372036854775808≤x∧x≤9223372036854775807) →
  Calls Tryz.prog 171 #[.slice ao xs.length cap] w fun e w'=>∃ u,e=.returned u∧Own eI 2 w.heap.size w' u xs∧Below w.heap.size w w':=by
  intro ao cap hv hc;obtain ⟨i0,hi,hz0,hz1,hz2⟩:=info_parts Tryz.infoInt64;have Hc:=hid hc;have Hok:=hid hok;obtain ⟨n,hn⟩:∃ n,n=xs.length:=⟨_,rfl⟩;rw [← hn];have Hn:=hid hn;have hn':n≤1048576:=by omega
  have HB:=hid (rfl:w.heap.size=w.heap.size);clear hc hok hv hn hle hl ha;go_enter Tryz.func171,Tryz.ntmps171
  go_wp2_with (first | (at_make;refine wpList_make_full _ rfl _ _ 29 rfl w.heap.size 2 i0 (.int .i64 0) 1 Tryz.underlying29 hi hz0 hz1 _ _ _ _ n rfl rfl rfl rfl ?b1 ?b2 (Nat.le_refl _) ?_))
  case b1=>first | omega | (rw [hz2];omega)
  case b2=>unfold maxLen;omega
  intro w1 hown hgr;have hb1:Below w.heap.size w w1:=(Below.refl _ _).grown hgr (Nat.le_refl _) (fun k hk=>by cases hk);have hown0:w1.ownsRow w.heap.size 2 1 (.slice (some ⟨w.heap.size,0,none⟩) n n) n (((xs.take 0).map (Value.int .i64))++List.replicate (n - 0) (Value.int .i64 0)):=by
   rw [toList_madeCells_one] at hown;simpa using hown
  have hs1:w.heap.size<w1.heap.size:=(hown0.lt _ rfl).2;clear hown hgr;go_wp2
  go_loopw [4] (fun i wr=>∃ k:Nat,k≤n∧i=.int .i64 k∧wr.ownsRow w.heap.size 2 1 (.slice (some ⟨w.heap.size,0,none⟩) n n) n (((xs.take k).map (Value.int .i64))++List.replicate (n - k) (Value.int .i64 0))∧Below w.heap.size w wr) (fun i _=>n - (intOf i).toNat)
  case atStart=>exact ⟨0,Nat.zero_le _,rfl,hown0,hb1⟩
  case round =>
   obtain ⟨k,hk,rfl,hw,hb⟩:=hrel;by_cases hkn:k<n
   · obtain ⟨b,off,x,rfl,hlt,hx,hcx,bx⟩:=Hc.out k (by have:=Hn.out;omega)
     have Hx:=hid hx;clear hx hb1 hown0;have hcx':wr.cell? ⟨b,off+k,none⟩=some (.int .i64 x):=(hb.cell (p:=⟨b,off+k,none⟩) hlt).trans hcx;have hcell:wr.cell? ⟨w.heap.size,k,none⟩=some (.int .i64 0):=by
      rw [hw.cellAt k (by omega)];have:=Hn.out;have e:((xs.take k).map (Value.int .i64)).length=k:=by rw [List.length_map,List.length_take];omega
      rw [List.getElem?_append_right (by omega),e,Nat.sub_self,List.getElem?_replicate,if_pos (by omega)]
     have hfr:wr.frozen? ⟨w.heap.size,k,none⟩=false:=hw.frozenAt k;have hst:=hw.stored k (.int .i64 x);rw [copy_set xs n k x Hx.out hkn] at hst;have Hst:=hid hst;clear hst;go_wp2
     go_roundw
     case rel=>exact ⟨k+1,by omega,by go_num,Hst.out.1,hb.setCell (Nat.le_refl _) _⟩
     case measure=>simp [intOf];omega
   · go_wp2
     go_ret
     refine ⟨_,rfl,Own.ofInts ?_ Hok.out,hb⟩
     have:=Hn.out;have e:((xs.take k).map (Value.int .i64))++List.replicate (n - k) (Value.int .i64 0)=xs.map (Value.int .i64):=by
      rw [List.take_of_length_le (by omega),show n - k=0 by omega];simp
     rw [e] at hw;rw [← this];exact hw
 rcases ha.cases with ⟨rfl,ao,cap,rfl,_⟩ | ⟨b,off,cap,rfl,hlt,hc⟩
 · exact key ao cap rfl (fun k hk=>absurd hk (by simp))
 · exact key _ cap rfl (fun k hk=>by obtain ⟨x,h1,h2⟩:=hc k hk;exact ⟨b,off,x,rfl,hlt.2,h1,h2⟩)
theorem markI {xs:List Int} {base:Nat} {v:Value} {w:World} (k:Int) (ha:Own eI 2 base w v xs) (hk:0≤k) (hl:k+xs.length≤9223372036854775807) :
 Calls Tryz.prog 18 #[v,.int .i64 k] w fun e w'=>e=.returned (.int .i64 (k+xs.length))∧Own eI 2 base w' v (markL k xs.length)∧w.grownBy w' v.ownBlock∧w'.heap.size=w.heap.size:=by
 have hint:=ha.ints;rcases hint.2 with ⟨rfl,h0⟩ | ⟨g,cap,cur,rfl,hbg,hg,rest⟩
 · obtain rfl:xs=[]:=List.eq_nil_of_length_eq_zero h0
   clear hint;go_enter Tryz.func18,Tryz.ntmps18
   go_wp2
   go_rounds 1
   go_ret
   exact ⟨ret_int (by simp),Own.nil _ _ _ _,World.grownBy.refl _ _,rfl⟩
 · obtain ⟨n,hn⟩:∃ n,n=xs.length:=⟨_,rfl⟩
   rw [← hn] at hint hl ⊢;have Hn:=hid hn;have hn':k+n≤9223372036854775807:=by omega
   have hown0:w.ownsRow base 2 1 (.slice (some ⟨g,0,none⟩) n cap) n ((markL k 0).map (Value.int .i64)++(xs.drop 0).map (Value.int .i64)):=by simpa [markL] using hint
   clear hint ha hn hl hg rest;go_enter Tryz.func18,Tryz.ntmps18
   go_wp2
   go_loopw [1,5] (fun c i wr=>∃ j:Nat,j≤n∧i=.int .i64 j∧c=.int .i64 (k+j)∧wr.ownsRow base 2 1 (.slice (some ⟨g,0,none⟩) n cap) n ((markL k j).map (Value.int .i64)++(xs.drop j).map (Value.int .i64))∧w.grownBy wr (some g)∧wr.heap.size=w.heap.size) (fun _ i _=>n - (intOf i).toNat)
   case atStart=>exact ⟨0,Nat.zero_le _,rfl,by simp,hown0,World.grownBy.refl _ _,rfl⟩
   case round =>
    obtain ⟨j,hj,rfl,rfl,hw,hgr,hsz⟩:=hrel;have Hsz:=hid hsz;clear hsz;clear hown0;by_cases hjn:j<n
    · have hcell:∃ x,wr.cell? ⟨g,j,none⟩=some x:=by
       rw [hw.cellAt j (by omega)];exact ⟨_,List.getElem?_eq_getElem (by rw [hw.1];omega)⟩
      obtain ⟨x,hcell⟩:=hcell;have hfr:wr.frozen? ⟨g,j,none⟩=false:=hw.frozenAt j;have hst:=hw.stored j (.int .i64 (k+j));rw [markL_set xs k j (by have:=Hn.out;omega)] at hst;have Hst:=hid hst;clear hst;go_wp2
      go_roundw
      case rel=>exact ⟨j+1,by omega,by go_num,by go_num,Hst.out.1,grownBy_trans hgr Hst.out.2,by rw [← Hsz.out];simp⟩
      case measure=>simp [intOf];omega
    · go_wp2
      go_ret
      obtain rfl:j=n:=by omega
      refine ⟨rfl,Own.ofInts ?_ ?_,hgr,Hsz.out⟩
      · rw [markL_length]
        rw [List.drop_of_length_le (by have:=Hn.out;omega)] at hw;simpa using hw
      · intro x hx
        have:=markL_mem hx;show -9223372036854775808≤x∧x≤9223372036854775807
        omega
theorem heldI {n:Nat} {v:Value} {w:World} {A:Nat} (k:Int) (ha:RdI A w v (markL k n)) (hk:0≤k) (hl:k+n≤9223372036854775807) :
 Calls Tryz.prog 19 #[v,.int .i64 k] w fun e w'=>e=.returned (.int .i64 (k+n))∧w=w':=by
 rcases ha.cases with ⟨h0,ao,cap,rfl,_⟩ | ⟨b,off,cap,rfl,hlt,hc⟩
 · obtain rfl:n=0:=by have:=congrArg List.length h0;rw [markL_length] at this;exact this
   clear ha h0;go_enter Tryz.func19,Tryz.ntmps19
   go_wp2
   go_rounds 1
   go_ret
   exact ⟨ret_int (by simp),rfl⟩
 · rw [markL_length]
   have hc2:∀ j,j<n→w.cell? ⟨b,off+j,none⟩=some (.int .i64 (k+j)):=by
    intro j hj;obtain ⟨x,h1,h2,_⟩:=hc j (by rw [markL_length];exact hj);rw [markL_at n k j hj] at h1;rw [h2,Option.some.inj h1]
   have Hc:=hid hc2;clear hc hc2 ha;go_enter Tryz.func19,Tryz.ntmps19
   go_wp2
   go_loop [1,5] (fun c i=>∃ j:Nat,j≤n∧i=.int .i64 j∧c=.int .i64 (k+j)) (fun _ i=>n - (intOf i).toNat)
   case atStart=>exact ⟨0,Nat.zero_le _,rfl,by simp⟩
   case round =>
    obtain ⟨j,hj,rfl,rfl⟩:=hrel;by_cases hjn:j<n
    · have hcell:=Hc.out j hjn
      have hf:((k+j:Int) != (k+j:Int))=false:=by simp
      go_wp2
      go_round
      case rel=>exact ⟨j+1,by omega,by go_num,by go_num⟩
      case measure=>simp [intOf];omega
    · go_wp2
      go_ret
      obtain rfl:j=n:=by omega
      exact ⟨rfl,rfl⟩
theorem szI {xs:List Int} {v:Value} {w:World} {A:Nat} (left:Int) (ha:RdI A w v xs) (h0:0≤left) (h1:left≤1048576) :
 Calls Tryz.prog 155 #[v,.int .i64 left] w fun e w'=>e=.returned (.int .i64 (if left<xs.length then -1 else left - xs.length))∧w=w':=by
 have hle:=ha.le;obtain ⟨ao,cap,rfl⟩:=ha.shape;obtain ⟨n,hn⟩:∃ n,n=xs.length:=⟨_,rfl⟩;rw [← hn] at hle ⊢;clear ha hn;by_cases hlt:left<n
 · go_enter Tryz.func155,Tryz.ntmps155
   go_wp2
   go_ret
   exact ⟨rfl,rfl⟩
 · go_enter Tryz.func155,Tryz.ntmps155
   go_wp2
   go_ret
   exact ⟨rfl,rfl⟩
/- the same in the one form that the laws' walks take -/
abbrev okInt64 (x:Int):Prop:=-9223372036854775808≤x∧x≤9223372036854775807
abbrev OwnInt64S (base:Nat) (w:World) (v:Value) (x:List Int):Prop:=Own eI 2 base w v x
end Go.Proofs.YthdaghfhlfjclaaGreat
