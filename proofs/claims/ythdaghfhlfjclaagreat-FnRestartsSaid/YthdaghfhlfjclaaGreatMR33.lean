/- Lemmas on the way to the law FnRestarts. No condition. -/
import Derived.Test.YthdaghfhlfjclaaGreatMR32
import Derived.Test.YthdaghfhlfjclaaGreatMR12
import Derived.Test.YthdaghfhlfjclaaGreatMR31
import Derived.Test.YthdaghfhlfjclaaGreatMR19
import Derived.Test.YthdaghfhlfjclaaGreatMR29
namespace Go.Proofs.YthdaghfhlfjclaaGreat
set_option maxHeartbeats 8000000
set_option linter.unusedSimpArgs false
open Lib (hid)
open Go.ChangeShapes Go.WideShapes Go.ChangeAt Go.RowKit Go.Sort
set_option linter.unusedVariables false
set_option maxRecDepth 100000
theorem bool_of (p:Prop):∃ q:Bool,(q=true ↔ p):=by
 by_cases h:p
 . exact ⟨true,⟨fun _=>h,fun _=>rfl⟩⟩
 . exact ⟨false,⟨(fun e=>by cases e),fun e=>absurd e h⟩⟩
theorem ltK_trans {d:List (List Int)} {f t:Int} {a b c:Int} (h1:ltK d f t a b) (h2:ltK d f t b c):ltK d f t a c:=by
 unfold ltK at *
 rcases h1 with h1 | ⟨e1,h1⟩ <;> rcases h2 with h2 | ⟨e2,h2⟩
 . exact .inl (lexL_trans h1 h2)
 . exact .inl (by rw [<- e2];exact h1)
 . exact .inl (by rw [e1];exact h2)
 . exact .inr ⟨e1.trans e2,by omega⟩
theorem ins_sorted {d:List (List Int)} {f t:Int} {Z:List Int} {i:Int} {k:Nat} (hz:Z.Pairwise (ltK d f t)) (h1:∀ x∈Z.drop k,ltK d f t i x) (h2:k=0\/∃ y,Z[k - 1]?=some y/\ltK d f t y i) :
 (Z.take k++[i]++Z.drop k).Pairwise (ltK d f t):=by
 have hz2:=hz;rw [<- zP k Z,List.pairwise_append] at hz2;have ht:∀ y∈Z.take k,ltK d f t y i:=by
  intro y hy;rcases h2 with h2 | ⟨y0,e,h2⟩
  . rw [h2] at hy;simp at hy
  . obtain ⟨j,hj,rfl⟩:=List.mem_iff_getElem.1 hy
    have hjk:j<k/\j<Z.length:=by rw [zI] at hj;omega
    obtain ⟨hk1,e1⟩:=zS.1 e;rw [List.getElem_take];rcases Nat.lt_or_ge j (k - 1) with h | h
    . have:=List.pairwise_iff_getElem.1 hz j (k - 1) hjk.2 hk1 h
      rw [e1] at this;exact ltK_trans this h2
    . have hj0:j=k - 1:=by omega
      subst hj0;rw [e1];exact h2
 rw [zN,List.pairwise_append];refine ⟨hz2.1,?_,fun y hy x hx=>?_⟩
 . rw [List.singleton_append,List.pairwise_cons]
   exact ⟨h1,hz2.2.1⟩
 . rw [List.singleton_append] at hx
   rcases List.mem_cons.1 hx with rfl | hx
   . exact ht y hy
   . exact hz2.2.2 y hy x hx
theorem ins_perm {Z:List Int} {i k:Nat} (hz:Z.Perm (rangeN i)):(Z.take k++[(i:Int)]++Z.drop k).Perm (rangeN (i+1)):=by
 rw [rangeN_succ];have h1:(Z.take k++[(i:Int)]++Z.drop k).Perm ((i:Int) :: (Z.take k++Z.drop k)):=by
  rw [zN,List.singleton_append];exact List.perm_middle
 rw [zP] at h1;exact h1.trans ((List.perm_append_singleton _ _).symm.trans (List.Perm.append_right _ hz))
theorem key_len {d:List (List Int)} {f t:Int} (hC:ColsOk d f t) {k:Nat} (hk:k<d.length):(rks (keyC d f t k)).length=t.toNat - f.toNat:=by
 have e:d[k]?=some (d[k]'hk):=zF hk;unfold rks keyC;rw [List.length_map,List.getD_eq_getElem?_getD,e];exact yAP hC.1.1 hC.1.2 (hC.2 _ (zC e))
theorem Rds.empty {α:Type} (E:Elt α) (B:Nat) (w:World) (a:Addr) (c:Nat):Rds E B w (.slice (some a) 0 c) ([]:List α):=⟨⟨by simp [Elt.all],by simp,.inl ⟨rfl,_,_,rfl,fun h=>by cases h⟩⟩,fun x hx=>by cases hx⟩
theorem own_assoc {e:TypeId} {base:Nat} {w:World} {v:Value} {a c:List Int} {b:Int} (h:Own eI e base w v (a++b :: c)):Own eI e base w v (a++[b]++c):=by rw [zN];exact h
theorem l07Places_c {d:List (List Int)} {v:Value} {w:World} {A:Nat} {f t:Int} (hk:Rds eT A w v (keyT d f t)) (hC:ColsOk d f t) (hr:RowsOk d) (hh:hasD d f t=true) :
 Calls Tryz.prog 165 #[v] w fun e w'=>(∃ r Z,e=.returned r/\OwnInt64S w.heap.size w' r Z/\Z.Perm (rangeN d.length)/\Z.Pairwise (ltK d f t))/\Below w.heap.size w w':=by
 obtain ⟨i0,hi,hz0,hz1,hz2⟩:=info_parts Tryz.infoInt64;obtain ⟨ao,cap,rfl,ho⟩:=RdT.at hk.tight;rw [yAZ] at ho |-;have hl:=hr.1;obtain ⟨n,hn⟩:∃ n,n=d.length:=⟨_,rfl⟩;have hka:=fun (k:Nat) (hk:k<d.length)=>key_at hC hr hh hk;have hkl:∀ x y:Nat,x<d.length->y<d.length->(rks (keyC d f t x)).length=(rks (keyC d f t y)).length:=fun x y hx hy=>by rw [key_len hC hx,key_len hC hy]
 have hO0:OwnInt64S w.heap.size (w.alloc (.cells #[] 2)) (.slice (some ⟨w.heap.size,0,none⟩) 0 0) []:=Own.lit (E:=eI) (xs:=[]) (cs:=#[]) (zA _) rfl rfl (by decide) (fun x hx=>by cases hx);have hB0:Below w.heap.size w (w.alloc (.cells #[] 2)):=(zB _ _).alloc (zA _) _;rw [<- hn] at ho hl hka hkl |-;have klen:=hkl;clear hkl;have Ho:=hid ho;have Hn:=hid hn;have Hka:=hid hka;have HO0:=hid hO0;have HB0:=hid hB0;clear hk hC hr hh ho hn hka hO0 hB0;go_enter Tryz.func165,Tryz.ntmps165;go_wp2;go_loopw [3,4] (fun ov iv wr=>∃ (i g oc:Nat) (Z:List Int),i<=n/\iv=.int .i64 i/\ov=.slice (some ⟨g,0,none⟩) i oc/\Hid (OwnInt64S w.heap.size wr (.slice (some ⟨g,0,none⟩) i oc) Z)/\Hid (Z.length=i)/\Hid (Z.Perm (rangeN i)/\Z.Pairwise (ltK d f t))/\Hid (Below w.heap.size w wr)) (fun _ i _=>n - (intOf i).toNat)
 case atStart=>exact ⟨0,_,_,[],zK _,rfl,rfl,HO0,hid rfl,hid ⟨List.Perm.refl _,List.Pairwise.nil⟩,HB0⟩
 case round =>
  obtain ⟨i,g,oc,Z,hi',rfl,rfl,HO,HZl,HZ,HB⟩:=hrel;clear HO0 HB0;by_cases hin:i<n
  . obtain ⟨kb,koff,rfl,klt,kcc⟩:=Ho.out (by omega)
    obtain ⟨si,ei,ri,-,zi,yi⟩:=Hka.out i hin;have hoc:=(HO.out.rds).cap;have hocl:i<=oc:=hoc.1;have hoc64:oc<=9223372036854775807\/i=0:=by rcases Nat.eq_zero_or_pos i with h | h;exact .inr h;exact .inl (hoc.2.2 h)
    have hci:=(HB.out.cell (p:=⟨kb,koff+i,none⟩) klt.2).trans (kcc i si ei);have Hkcc:=hid kcc;have hi64:(i:Int)<=1000:=by omega
    obtain ⟨W0,hW0⟩:∃ x,x=wr:=⟨_,rfl⟩;subst hW0;clear hoc kcc;go_wp2;go_loopw [5] (fun kv wr=>∃ k:Nat,k<=i/\kv=.int .i64 k/\Hid (∀ x∈Z.drop k,ltK d f t i x)/\Hid (Below W0.heap.size W0 wr)) (fun kv _=>(intOf kv).toNat)
    case atStart=>exact ⟨i,zA _,rfl,hid (fun x hx=>by rw [List.drop_of_length_le (by rw [HZl.out];exact zA _)] at hx;cases hx),hid (zB _ _)⟩
    case round =>
     obtain ⟨k,hk,rfl,HD,Hb⟩:=hrel;go_upto_region 6 with fail;obtain ⟨q,hq⟩:∃ q:Bool,(q=true ↔ ∃ z:Nat,0<k/\Z[k - 1]?=some (z:Int)/\cmpN (rks (keyC d f t i)) (rks (keyC d f t z))<0):=bool_of _;have Hq:=hid hq;clear hq;go_cut [33] (fun c wx=>c=.bool q/\Hid (Below W0.heap.size W0 wx))
     case first =>
      by_cases hk0:k=0
      . have HE:Hid (q=false):=hid (Bool.eq_false_iff.2 (fun h=>by obtain ⟨z,h1,_⟩:=Hq.out.1 h;omega))
        subst hk0;refine wp_region_quiet_below (by kernel_rfl) (by kernel_rfl) ?_;repeat ((with_reducible refine wpQuiet_step (fun K hK=>?_));go_simp;first | ((with_reducible refine hK _ ?_);clear hK K) | ((with_reducible rw [if_neg]);rotate_left;(intro hgd;cases hgd);(with_reducible refine hK _ ?_);clear hK K) | (apply Exists.intro;refine ⟨fun _=>?_,hK _ ?_⟩;((fail));clear hK K))
        refine wpQuiet_nil ?_;intro _ hw';obtain ⟨⟨dq,osq⟩,hw''⟩:=hw';subst hw'';have hbq:=below_regrown wr dq osq;generalize grow (redrawn wr dq) osq=wq at hbq |-;have HBq:=hid (Hb.out.trans (hbq.mono Hb.out.size));clear hbq;go_wp2_with fail;go_meet;exact ⟨by rw [HE.out],HBq⟩
      . obtain ⟨j,rfl⟩:∃ j,k=j+1:=⟨k - 1,by omega⟩
        have hOr:=HO.out.below Hb.out (zA _);obtain ⟨zao,zcap,hzs,hzop⟩:=RdI.open hOr.rds;rw [HZl.out] at hzs hzop;injection hzs with u1 u2 u3;subst u1;subst u3;clear u2;obtain ⟨zb,zoff,hzb,zlt,zc⟩:=hzop (by omega);injection hzb with hzb;injection hzb with g1 g2;subst g1;subst g2;obtain ⟨zz,hz1,hzc,-⟩:=zc j (by omega);obtain ⟨z,hzn,hze⟩:=rangeN_rng i zz (HZ.out.1.mem_iff.1 (zC hz1));subst hze;obtain ⟨sz,ez,rz,-,zz2,-⟩:=Hka.out z (by omega);have e0:=cell_regrown ((Hb.out.cell (p:=⟨kb,koff+i,none⟩) (World.block_lt_of_cell? _ _ hci)).trans hci);have e1:=cell_regrown hzc;rw [Nat.zero_add] at e1;have e2:=cell_regrown (((HB.out.trans (Hb.out.mono HB.out.size)).cell (p:=⟨kb,koff+z,none⟩) klt.2).trans (Hkcc.out z sz ez));have hcmp:=fun w=>l03Compare_c (s:=si) (u:=sz) w (by rw [zi,zz2]) yi;rw [ri,rz] at hcmp;obtain ⟨R,hR⟩:∃ R,R=cmpN (rks (keyC d f t i)) (rks (keyC d f t z)):=⟨_,rfl⟩;rw [<- hR] at hcmp;have Hcmp:=hid hcmp;have HE:Hid (q=decide (R<0)):=hid (by
         rw [Bool.eq_iff_iff,decide_eq_true_iff,Hq.out];refine ⟨fun ⟨z',h1,h2,h3⟩=>?_,fun h=>⟨z,by omega,hz1,by rw [<- hR];exact h⟩⟩;have h2:Z[j]?=some (z':Int):=h2;rw [hz1] at h2;have h4:(z:Int)=(z':Int):=zD h2;have h5:z'=z:=by omega
         subst h5;rw [hR];exact h3)
        have hs1:IntKind.i64.wrap ((j:Int)+1 - 1)=(j:Int):=by rw [show (j:Int)+1 - 1=(j:Int) by omega];exact IntWalk.i64_in _ (by omega)
        have hs2:IntKind.i64.wrap (j:Int)=(j:Int):=IntWalk.i64_in _ (by omega);have p0:(0:Int)<(j:Int)+1:=by omega
        have p1:(j:Int)<(i:Int):=by omega
        have p2:(z:Int)<(n:Int):=by omega
        have p3:(i:Int)<(n:Int):=by omega
        clear hOr hzop zc hz1 hzc ez rz hcmp hR zlt;refine wp_region_quiet_below (by kernel_rfl) (by kernel_rfl) ?_;repeat ((with_reducible refine wpQuiet_step (fun K hK=>?_));go_simp;first | ((with_reducible refine hK _ ?_);clear hK K) | ((with_reducible rw [if_neg]);rotate_left;(intro hgd;cases hgd);(with_reducible refine hK _ ?_);clear hK K) | (apply Exists.intro;refine ⟨fun _=>?_,hK _ ?_⟩;((first | (go_at_call 203;with_reducible exact qb_same (Hcmp.out _))));clear hK K))
        refine wpQuiet_nil ?_;intro _ hw';obtain ⟨⟨dq,osq⟩,hw''⟩:=hw';subst hw'';have hbq:=below_regrown wr dq osq;generalize grow (redrawn wr dq) osq=wq at hbq |-;have HBq:=hid (Hb.out.trans (hbq.mono Hb.out.size));clear hbq e0 e1 e2 hs1 hs2;go_wp2_with fail;go_meet;exact ⟨by rw [HE.out],HBq⟩
     case rest =>
      obtain ⟨rfl,Hbc⟩:=hcut;obtain ⟨wx,hwx⟩:∃ x,x=wc:=⟨_,rfl⟩;subst hwx;cases q with
      | true =>
       have HD2:Hid (0<k/\∀ x∈Z.drop (k - 1),ltK d f t i x):=hid (by
        obtain ⟨z,h1,h2,h3⟩:=Hq.out.1 rfl;obtain ⟨h4,h5⟩:=zS.1 h2;refine ⟨h1,fun x hx=>?_⟩;rw [List.drop_eq_getElem_cons h4,h5] at hx;rcases List.mem_cons.1 hx with rfl | hx
        . obtain ⟨m,hm,hme⟩:=rangeN_rng i (z:Int) (HZ.out.1.mem_iff.1 (zC h2))
          have e:z=m:=by omega
          unfold ltK;rw [zR,zR];exact .inl (cmpN_neg (klen i z (by omega) (by omega)) h3)
        . rw [show k - 1+1=k by omega] at hx
          exact HD.out x hx)
       obtain ⟨j,rfl⟩:∃ j,k=j+1:=⟨k - 1,by have:=HD2.out.1;omega⟩;have HD3:Hid (∀ x∈Z.drop j,ltK d f t i x):=hid HD2.out.2;clear hci;go_wp2;go_roundw
       case rel=>exact ⟨j,by omega,by go_num,HD3,Hbc⟩
       case measure=>simp [intOf] <;> omega
      | false =>
       have HEnd:Hid (k=0\/∃ y,Z[k - 1]?=some y/\ltK d f t y i):=hid (by
        by_cases h0:k=0
        . exact .inl h0
        . right
          have h4:k - 1<Z.length:=by rw [HZl.out];omega
          have h2:Z[k - 1]?=some (Z[k - 1]'h4):=zF h4;obtain ⟨m,hm,hme⟩:=rangeN_rng i (Z[k - 1]'h4) (HZ.out.1.mem_iff.1 (zC h2));rw [hme] at h2;refine ⟨_,h2,?_⟩;have h5:¬ cmpN (rks (keyC d f t i)) (rks (keyC d f t m))<0:=fun h=>absurd (Hq.out.2 ⟨m,by omega,h2,h⟩) (by decide);unfold ltK;rw [zR,zR];rcases cmpN_pos (klen i m (by omega) (by omega)) h5 with e | e
          . exact .inr ⟨e.symm,by omega⟩
          . exact .inl e)
       have Hbx:=Hbc;clear Hbc hci Hb;have HOx:=hid (HO.out.below Hbx.out (zA _));have hsl:RdI wx.heap.size wx (.slice (some ⟨g,0,none⟩) (k) oc) (Z.take (k)):=(HOx.out.rds).takeN (by omega);have hown:=l00Own_c hsl (by rw [zI];omega);have Hown:=hid hown;have HBx:=hid (HB.out.trans (Hbx.out.mono HB.out.size));have hkoc:(k)<=oc:=by omega
       have Htl:Hid ((Z.take (k)).length=(k)):=hid (by rw [zI,HZl.out];omega);have hoki:eI.ok (i:Int):=by show -9223372036854775808<=(i:Int)/\(i:Int)<=9223372036854775807;omega
       clear hsl hown;go_wp2_with fail;with_reducible refine Hown.out.mono ?_
       rintro e w5 ⟨u5,rfl,hO5,hb5⟩;obtain ⟨uo,uc,hu5⟩:=hO5.shape;rw [Htl.out] at hu5;subst hu5;have HO5:=hid hO5;have Hb5:=hid hb5;have hsz5:wx.heap.size<=w5.heap.size:=hb5.size;clear hO5 hb5;go_wp2_with (first | (at_builtin;refine yAB (E:=eI) rfl _ _ 29 rfl Tryz.underlying29 hi hz0 hz1 hz2 rfl (by decide) rfl rfl (HO5.out.alloc _) (yAJ (E:=eI) (x:=(i:Int)) hoki rfl) ?b1 ?b2 ?b3 ?_))
       case b1=>have:=Htl.out;unfold maxLen;simp;omega
       case b2=>have:=Htl.out;simp;omega
       case b3=>simp;omega
       intro v6 w6 hO6 hg6;obtain ⟨g6,c6,hv6,-,-⟩:=Own.addr hO6 (by simp);rw [show (Z.take (k)++[(i:Int)]).length=(k)+1 by rw [zE,Htl.out];rfl] at hv6;subst hv6;have hb56:Below w5.heap.size w5 (w5.alloc (.cells #[.int .i64 (i:Int)] 2)):=(zB _ _).alloc (zA _) _;have hb6:Below wx.heap.size wx w6:=(Hb5.out.trans (hb56.mono Hb5.out.size)).trans (by
        have h:=Agr.of_grown hg6.1 (S:=fun q=>wx.heap.size<=q) (fun q hq _=>(HO5.out.lt q hq).1);exact h.below (fun k h=>h) (by have:=hb56.size;omega))
       have hO6w:=HOx.out.below hb6 (zA _);have HO6w:=hid hO6w;have HO6:=hid hO6;have Hb6:=hid hb6;have hsz6:wx.heap.size<=w6.heap.size:=hb6.size;clear hO6 hg6 hb56 hb6 hO6w;by_cases hki:k<i
       . have hrt:RdI w6.heap.size w6 (.slice (some ⟨g,0+k,none⟩) (i - k) (oc - k)) (Z.drop k):=by
          have h:=Rds.sub (lo:=k) (hi:=i) (cap':=oc - k) (HO6w.out.rds) (by rw [HZl.out];omega) hki ⟨by omega,by omega⟩;rw [show k * eI.sz=k from Nat.mul_one _,zH (by rw [HZl.out];omega)] at h;exact h
         have hne:¬ oc=k:=by omega
         rw [Nat.zero_add] at hrt;have Hrt:=hid hrt;have hkle:k<=i:=by omega
         clear hrt;go_wp2_with (first | (at_builtin;refine yAB (E:=eI) rfl _ _ 29 rfl Tryz.underlying29 hi hz0 hz1 hz2 rfl (by decide) rfl rfl HO6.out Hrt.out ?c1 ?c2 ?c3 ?_))
         case c1=>have:=Htl.out;have:=HZl.out;unfold maxLen;simp;omega
         case c2=>have:=Htl.out;have:=HZl.out;simp;omega
         case c3=>omega
         intro v7 w7 hO7 hg7;have hO7:=own_assoc hO7;obtain ⟨g7,c7,hv7,-,-⟩:=Own.addr hO7 (by simp;omega);rw [show (Z.take (k)++[(i:Int)]++Z.drop (k)).length=i+1 by rw [zE,zE,Htl.out,zQ,HZl.out];show (k)+1+(i - (k))=i+1;omega] at hv7;subst hv7;have hb7:Below w.heap.size w w7:=(HBx.out.trans (Hb6.out.mono HBx.out.size)).trans ((Agr.of_grown hg7.1 (S:=fun q=>wx.heap.size<=q) (fun q hq _=>(HO6.out.lt q hq).1)).below (fun q hq=>by have h9:wx.heap.size<=q:=hq;have:=HBx.out.size;omega) (by have:=HBx.out.size;omega));have HO7:=hid (hO7.mono (base':=w.heap.size) HBx.out.size);have Hb7:=hid hb7;have HZ7:Hid ((Z.take (k)++[(i:Int)]++Z.drop (k)).Perm (rangeN (i+1))/\(Z.take (k)++[(i:Int)]++Z.drop (k)).Pairwise (ltK d f t)):=hid ⟨ins_perm HZ.out.1,ins_sorted HZ.out.2 HD.out HEnd.out⟩;have HZl7:Hid ((Z.take (k)++[(i:Int)]++Z.drop (k)).length=i+1):=hid (by rw [zE,zE,Htl.out,zQ,HZl.out];show (k)+1+(i - (k))=i+1;omega);clear hO7 hg7 hb7;go_wp2;go_roundw
         case rel=>exact ⟨i+1,g7,c7,_,by omega,by go_num,rfl,HO7,HZl7,HZ7,Hb7⟩
         case measure=>simp [intOf];omega
       . have hke:k=i:=by omega
         have hdn:Z.drop k=[]:=List.drop_of_length_le (by rw [HZl.out];omega);subst hke;by_cases hcap:oc=k
         . have Hrt:Hid (RdI w6.heap.size w6 (.slice (some ⟨g,0,none⟩) 0 0) (Z.drop k)):=hid (by rw [hdn];exact Rds.empty _ _ _ _ _)
           clear hdn;subst hcap;go_wp2_with (first | (at_builtin;refine yAB (E:=eI) rfl _ _ 29 rfl Tryz.underlying29 hi hz0 hz1 hz2 rfl (by decide) rfl rfl HO6.out Hrt.out ?c1 ?c2 ?c3 ?_))
           case c1=>have:=Htl.out;have:=HZl.out;unfold maxLen;simp;omega
           case c2=>have:=Htl.out;have:=HZl.out;simp;omega
           case c3=>omega
           intro v7 w7 hO7 hg7;have hO7:=own_assoc hO7;obtain ⟨g7,c7,hv7,-,-⟩:=Own.addr hO7 (by simp;omega);rw [show (Z.take (oc)++[(oc:Int)]++Z.drop (oc)).length=oc+1 by rw [zE,zE,Htl.out,zQ,HZl.out];show (oc)+1+(oc - (oc))=oc+1;omega] at hv7;subst hv7;have hb7:Below w.heap.size w w7:=(HBx.out.trans (Hb6.out.mono HBx.out.size)).trans ((Agr.of_grown hg7.1 (S:=fun q=>wx.heap.size<=q) (fun q hq _=>(HO6.out.lt q hq).1)).below (fun q hq=>by have h9:wx.heap.size<=q:=hq;have:=HBx.out.size;omega) (by have:=HBx.out.size;omega));have HO7:=hid (hO7.mono (base':=w.heap.size) HBx.out.size);have Hb7:=hid hb7;have HZ7:Hid ((Z.take (oc)++[(oc:Int)]++Z.drop (oc)).Perm (rangeN (oc+1))/\(Z.take (oc)++[(oc:Int)]++Z.drop (oc)).Pairwise (ltK d f t)):=hid ⟨ins_perm HZ.out.1,ins_sorted HZ.out.2 HD.out HEnd.out⟩;have HZl7:Hid ((Z.take (oc)++[(oc:Int)]++Z.drop (oc)).length=oc+1):=hid (by rw [zE,zE,Htl.out,zQ,HZl.out];show (oc)+1+(oc - (oc))=oc+1;omega);clear hO7 hg7 hb7;go_wp2;go_roundw
           case rel=>exact ⟨oc+1,g7,c7,_,by omega,by go_num,rfl,HO7,HZl7,HZ7,Hb7⟩
           case measure=>simp [intOf];omega
         . have Hrt:Hid (RdI w6.heap.size w6 (.slice (some ⟨g,k,none⟩) 0 (oc - k)) (Z.drop k)):=hid (by rw [hdn];exact Rds.empty _ _ _ _ _)
           clear hdn;go_wp2_with (first | (at_builtin;refine yAB (E:=eI) rfl _ _ 29 rfl Tryz.underlying29 hi hz0 hz1 hz2 rfl (by decide) rfl rfl HO6.out Hrt.out ?c1 ?c2 ?c3 ?_))
           case c1=>have:=Htl.out;have:=HZl.out;unfold maxLen;simp;omega
           case c2=>have:=Htl.out;have:=HZl.out;simp;omega
           case c3=>omega
           intro v7 w7 hO7 hg7;have hO7:=own_assoc hO7;obtain ⟨g7,c7,hv7,-,-⟩:=Own.addr hO7 (by simp;omega);rw [show (Z.take (k)++[(k:Int)]++Z.drop (k)).length=k+1 by rw [zE,zE,Htl.out,zQ,HZl.out];show (k)+1+(k - (k))=k+1;omega] at hv7;subst hv7;have hb7:Below w.heap.size w w7:=(HBx.out.trans (Hb6.out.mono HBx.out.size)).trans ((Agr.of_grown hg7.1 (S:=fun q=>wx.heap.size<=q) (fun q hq _=>(HO6.out.lt q hq).1)).below (fun q hq=>by have h9:wx.heap.size<=q:=hq;have:=HBx.out.size;omega) (by have:=HBx.out.size;omega));have HO7:=hid (hO7.mono (base':=w.heap.size) HBx.out.size);have Hb7:=hid hb7;have HZ7:Hid ((Z.take (k)++[(k:Int)]++Z.drop (k)).Perm (rangeN (k+1))/\(Z.take (k)++[(k:Int)]++Z.drop (k)).Pairwise (ltK d f t)):=hid ⟨ins_perm HZ.out.1,ins_sorted HZ.out.2 HD.out HEnd.out⟩;have HZl7:Hid ((Z.take (k)++[(k:Int)]++Z.drop (k)).length=k+1):=hid (by rw [zE,zE,Htl.out,zQ,HZl.out];show (k)+1+(k - (k))=k+1;omega);clear hO7 hg7 hb7;go_wp2;go_roundw
           case rel=>exact ⟨k+1,g7,c7,_,by omega,by go_num,rfl,HO7,HZl7,HZ7,Hb7⟩
           case measure=>simp [intOf];omega
  . obtain rfl:i=n:=by omega
    go_wp2;go_ret;exact ⟨⟨_,Z,rfl,HO.out,HZ.out.1,HZ.out.2⟩,HB.out⟩
theorem sSortedBy_c {d:List (List Int)} {v:Value} {w:World} {A:Nat} {f t:Int} (hd:RdInt64SS A w v d) :
 Calls Tryz.prog 124 #[v,.agg #[.int .i64 f,.int .i64 t]] w fun e w'=>DkPost (sortC d f t) (fun x=>x=pickD d (ordD d f t)) w.heap.size e w'/\Below w.heap.size w w':=by
 obtain ⟨i0,hi,hz0,hz1,hz2c⟩:=info_parts Tryz.infoCard;obtain ⟨vo,vc,rfl⟩:=hd.shape;obtain ⟨T,hT⟩:∃ T,T=w.alloc (.cells #[.int .i64 f,.int .i64 t] 73):=⟨_,rfl⟩;have hbT:Below w.heap.size w T:=by rw [hT];exact (zB _ _).alloc (zA _) _
 have hBT:Box T w.heap.size [.int .i64 f,.int .i64 t]:=by rw [hT];exact Box.new w [.int .i64 f,.int .i64 t] _
 have hdT:=RdInt64SS.onn hd hbT;have hky:=l07Keys_c (f:=f) (t:=t) hdT;have f0:=hBT.cell 0 _ rfl;have f1:=hBT.cell 1 _ rfl;obtain ⟨R,hR⟩:∃ R,sortC d f t=R:=⟨_,rfl⟩;rw [hR] at hky |-;have HR:=hid hR;have Hky:=hid hky;have HT:=hid hT;have HbT:=hid hbT;have HdT:=hid hdT;clear hT hbT hBT hdT hky hR hd;obtain ⟨n,hn⟩:∃ n,n=d.length:=⟨_,rfl⟩;rw [<- hn] at HdT Hky |-;have Hn:=hid hn;clear hn;go_enter Tryz.func124,Tryz.ntmps124;go_upto_region 1 with fail;rw [<- HT.out];go_wp2_with fail;with_reducible refine Hky.out.mono ?_
 rintro e w1 ⟨⟨rk,rfl,hK⟩,hb1⟩;have Hd1:=hid (RdInt64SS.onn HdT.out hb1);have Hb1:=hid (HbT.out.trans (hb1.mono HbT.out.size));clear hb1 f0 f1;by_cases hc0:R=0
 . have hz:=sortC_zero (d:=d) (f:=f) (t:=t) (by rw [HR.out];exact hc0)
   have hKo:=hK hc0;subst hc0;have hlen:=(yAF hz.1).1;have hcon:=l07Places_c hKo.rds (yAT hz.1 hz.2.1) (yAY hz.1) hz.2.2;have Hcon:=hid hcon;have HRw:=hid (yAY hz.1).2;have hl100:n<=100:=by have:=Hn.out;omega
   have Hz:=hid hz;clear hcon hK hKo hlen hz;go_wp2_with fail;with_reducible refine Hcon.out.mono ?_
   rintro e w4 ⟨⟨rz,G,rfl,hG,hZp,hZw⟩,hb4⟩;have hmn:G.length<=n:=by rw [hZp.length_eq,yBB];exact Nat.le_of_eq Hn.out.symm
   have hZm:∀ (j:Nat) (z:Int),G[j]?=some z->∃ k:Nat,k<n/\z=(k:Int):=fun j z hz=>by
    rw [Hn.out];exact rangeN_rng d.length z (hZp.mem_iff.1 (zC hz))
   have HOrd:Hid (IsOrd d f t G):=hid ⟨hZp,hZw⟩;clear hZp hZw;obtain ⟨zo,zc,hzo,hzop⟩:=RdI.open hG.rds;obtain ⟨m,hm⟩:∃ m,m=G.length:=⟨_,rfl⟩;subst hzo;rw [<- hm];have hd4:=RdInt64SS.onn Hd1.out hb4;obtain ⟨vo',vc',hvs,ho⟩:=hd4.open;rw [<- Hn.out] at hvs ho;injection hvs with q1 q2 q3;subst q1;subst q3;clear q2;have Ho:=hid ho;have Hm:=hid hm;have HZo:=hid hzop;have HZm:=hid hZm;have Hb4:=hid (Hb1.out.trans (hb4.mono Hb1.out.size));have hmn2:m<=n:=by rw [hm];exact hmn
   clear hG hb4 hzop hZm hm hd4 ho;have hB0:BldG eI 2 88 w4.heap.size w4.heap.size (w4.alloc (.cells #[] 88)).heap.size (w4.alloc (.cells #[] 88)) (.slice (some ⟨w4.heap.size,0,none⟩) 0 0) (pickD d (G.take 0)):=BldG.empty (B:=w4.heap.size) rfl (Own.lit (E:=eS) (xs:=[]) (cs:=#[]) (zA _) rfl rfl (by decide) (fun x hx=>by cases hx)) (by simp);have HB0:=hid hB0;clear hB0;go_wp2;go_loopw [9,10] (fun ov iv wr=>∃ k:Nat,k<=m/\iv=.int .i64 k/\Hid (BldG eI 2 88 w4.heap.size w4.heap.size wr.heap.size wr ov (pickD d (G.take k)))/\Hid (Below w4.heap.size w4 wr)) (fun _ i _=>m - (intOf i).toNat)
   case atStart=>exact ⟨0,zK _,rfl,HB0,hid ((zB _ _).alloc (zA _) _)⟩
   case round =>
    obtain ⟨k,hk,rfl,HB,Hb⟩:=hrel;clear HB0;by_cases hkn:k<m
    . obtain ⟨zb,zoff,rfl,zlt,zc1⟩:=HZo.out (by have:=Hm.out;omega)
      obtain ⟨z,hz,hzc,-⟩:=zc1 k (by have:=Hm.out;omega);obtain ⟨p,hp,hze⟩:=HZm.out k z hz;subst hze;have d0:=(Hb.out.cell (p:=⟨zb,zoff+k,none⟩) zlt.2).trans hzc;obtain ⟨b,off,rfl,hlt,hc⟩:=Ho.out (by omega);obtain ⟨x,ro,rc,hx,hcell,hrd⟩:=hc p (by omega);have hxl:=HRw.out x (zC hx);have d1:=(Hb.out.cell (p:=⟨b,off+p,none⟩) hlt.2).trans hcell;have hcon:=l02Own_c rfl d1 (Rds.onn hrd Hb.out) (by omega);have Hcon:=hid hcon;have Htk:Hid (pickD d (G.take (k+1))=pickD d (G.take k)++[x]):=hid (by unfold pickD;rw [yAE hz,List.map_append];simp [List.getD_eq_getElem?_getD,hx]);have Hxl:Hid ((pickD d (G.take k)).length<=100):=hid (by unfold pickD;rw [List.length_map,zI];omega);obtain ⟨oo,oc,hov⟩:=HB.out.shape;subst hov;have hmI:(p:Int)<(n:Int):=by omega
      have hmI0:(0:Int)<=(p:Int):=by omega
      clear hc hcell hrd hx hzc zc1 hz hcon d1;generalize pickD d (G.take k)=Tk at *
      go_wp2_with fail;with_reducible refine Hcon.out.mono ?_
      rintro e w6 ⟨⟨u,rfl,hu⟩,hb6⟩;obtain ⟨tp,htp⟩:∃ tp,tp=wr.heap.size:=⟨_,rfl⟩;have htb:w4.heap.size<=tp:=by have:=Hb.out.size;omega
      have hz2:tp<=w6.heap.size:=by have:=hb6.size;omega
      have hB2:BldG eI 2 88 w4.heap.size w4.heap.size tp w6 (.slice oo Tk.length oc) Tk:=by rw [htp];exact HB.out.below hb6 (zA _)
      have hb2':=Hb.out.trans (hb6.mono (by omega));clear hb6 d0;have hR9:=hu.mono (base':=tp) (by omega);obtain ⟨hs',xh,hval,hokx,hlen,hO,hfn⟩:=hB2.app hR9 htb hz2;obtain ⟨rao,rcap,hsh⟩:=hR9.shape;subst hsh;have hcells:(#[.slice rao x.length rcap]:Array Value)=(eS.cells xh).toArray:=by rw [show eS.cells xh=[xh.val] from rfl,hval]
      have HO:=hid hO;have Hfn:=hid hfn;have Hlen:=hid hlen;have Hcells:=hid hcells;have hl0:=HO.out.lt;have Hl0:=hid hl0;have Hb2':=hid hb2';have hszr:w4.heap.size<=w6.heap.size:=hb2'.size;clear hR9 hu hB2 hval hlen hO hfn hcells hl0 hb2';go_wp2_with (first | (at_builtin;refine yAB (E:=eS) rfl _ _ 78 rfl Tryz.underlying78 hi hz0 hz1 hz2c rfl (by decide) rfl rfl (HO.out.alloc _) (yAJ (E:=eS) (x:=xh) hokx Hcells.out) ?b1 ?b2 ?b3 ?_))
      case b1=>rw [Hlen.out];have:=Hxl.out;unfold maxLen;simp;omega
      case b2=>rw [Hlen.out];have:=Hxl.out;simp;omega
      case b3=>simp;omega
      intro v' w8 hO8 hg8;have hg8':=hg8.alloc;have HB8:=hid (Hfn.out w8 v' hO8 hg8');have Hb8:=hid (Hb2'.out.grown hg8'.1 hszr (fun q hq=>(Hl0.out q hq).1));clear hO8 hg8 hg8';go_wp2;go_roundw
      case rel=>exact ⟨k+1,by omega,by go_num,by rw [Htk.out];exact HB8,Hb8⟩
      case measure=>simp [intOf];omega
    . obtain rfl:k=m:=by omega
      have hM:=HB.out.toM (zA _);rw [zH (by have:=Hm.out;omega)] at hM;have HM:=hid hM;clear hM;have hF:=(FrD.own HM.out).mono Hb4.out.size;rw [HOrd.out.eq] at hF;have HF:=hid hF;have HbF:=hid (Hb4.out.trans (Hb.out.mono Hb4.out.size));clear hF;go_wp2;go_ret2;exact ⟨⟨_,rfl,fun _=>⟨_,rfl,HF.out⟩⟩,HbF.out⟩
 . have hc1:(R != 0)=true:=by simpa using hc0
   have HR0:=hid hc0;clear hK hc0;go_wp2;go_ret2;exact ⟨DkPost.no (r:=.slice none 0 0) rfl HR0.out,Hb1.out⟩
theorem sFirstOfGroups_c {d:List (List Int)} {v:Value} {w:World} {A:Nat} {f t:Int} (hd:RdInt64SS A w v d) :
 Calls Tryz.prog 127 #[v,.agg #[.int .i64 f,.int .i64 t]] w fun e w'=>DkPost (sortC d f t) (fun x=>x=firD d f t) w.heap.size e w'/\Below w.heap.size w w':=by
 obtain ⟨i0,hi,hz0,hz1,hz2c⟩:=info_parts Tryz.infoCard;obtain ⟨vo,vc,rfl⟩:=hd.shape;obtain ⟨T,hT⟩:∃ T,T=w.alloc (.cells #[.int .i64 f,.int .i64 t] 73):=⟨_,rfl⟩;have hbT:Below w.heap.size w T:=by rw [hT];exact (zB _ _).alloc (zA _) _
 have hBT:Box T w.heap.size [.int .i64 f,.int .i64 t]:=by rw [hT];exact Box.new w [.int .i64 f,.int .i64 t] _
 have hdT:=RdInt64SS.onn hd hbT;have hky:=l07Keys_c (f:=f) (t:=t) hdT;have f0:=hBT.cell 0 _ rfl;have f1:=hBT.cell 1 _ rfl;obtain ⟨R,hR⟩:∃ R,sortC d f t=R:=⟨_,rfl⟩;rw [hR] at hky |-;have HR:=hid hR;have Hky:=hid hky;have HT:=hid hT;have HbT:=hid hbT;have HdT:=hid hdT;clear hT hbT hBT hdT hky hR hd;obtain ⟨n,hn⟩:∃ n,n=d.length:=⟨_,rfl⟩;rw [<- hn] at HdT Hky |-;have Hn:=hid hn;clear hn;go_enter Tryz.func127,Tryz.ntmps127;go_upto_region 1 with fail;rw [<- HT.out];go_wp2_with fail;with_reducible refine Hky.out.mono ?_
 rintro e w1 ⟨⟨rk,rfl,hK⟩,hb1⟩;have Hd1:=hid (RdInt64SS.onn HdT.out hb1);have Hb1:=hid (HbT.out.trans (hb1.mono HbT.out.size));clear hb1 f0 f1;by_cases hc0:R=0
 . have hz:=sortC_zero (d:=d) (f:=f) (t:=t) (by rw [HR.out];exact hc0)
   have hKo:=hK hc0;subst hc0;have hlen:=(yAF hz.1).1;have hcon:=l09Groups_c hKo.rds (yAT hz.1 hz.2.1) (yAY hz.1) hz.2.2;have Hcon:=hid hcon;have HRw:=hid (yAY hz.1).2;have hl100:n<=100:=by have:=Hn.out;omega
   have Hz:=hid hz;clear hcon hK hKo hlen hz;go_wp2_with fail;with_reducible refine Hcon.out.mono ?_
   rintro e w4 ⟨⟨rz,rfl,hG⟩,hb4⟩;obtain ⟨G,hGe⟩:∃ G,G=selI (grpP d f t) d.length:=⟨_,rfl⟩;rw [<- hGe] at hG;have hmn:G.length<=n:=by rw [hGe,Hn.out];exact yBE _ _
   have hZm:∀ (j:Nat) (z:Int),G[j]?=some z->∃ k:Nat,k<n/\z=(k:Int):=fun j z hz=>by
    rw [hGe] at hz;obtain ⟨k,h1,h2,-⟩:=selI_rng _ _ z (zC hz);exact ⟨k,by have:=Hn.out;omega,h2⟩
   have HGe:=hid hGe;clear hGe;obtain ⟨zo,zc,hzo,hzop⟩:=RdI.open hG.rds;obtain ⟨m,hm⟩:∃ m,m=G.length:=⟨_,rfl⟩;subst hzo;rw [<- hm];have hd4:=RdInt64SS.onn Hd1.out hb4;obtain ⟨vo',vc',hvs,ho⟩:=hd4.open;rw [<- Hn.out] at hvs ho;injection hvs with q1 q2 q3;subst q1;subst q3;clear q2;have Ho:=hid ho;have Hm:=hid hm;have HZo:=hid hzop;have HZm:=hid hZm;have Hb4:=hid (Hb1.out.trans (hb4.mono Hb1.out.size));have hmn2:m<=n:=by rw [hm];exact hmn
   clear hG hb4 hzop hZm hm hd4 ho;have hB0:BldG eI 2 88 w4.heap.size w4.heap.size (w4.alloc (.cells #[] 88)).heap.size (w4.alloc (.cells #[] 88)) (.slice (some ⟨w4.heap.size,0,none⟩) 0 0) (pickD d (G.take 0)):=BldG.empty (B:=w4.heap.size) rfl (Own.lit (E:=eS) (xs:=[]) (cs:=#[]) (zA _) rfl rfl (by decide) (fun x hx=>by cases hx)) (by simp);have HB0:=hid hB0;clear hB0;go_wp2;go_loopw [9,10] (fun ov iv wr=>∃ k:Nat,k<=m/\iv=.int .i64 k/\Hid (BldG eI 2 88 w4.heap.size w4.heap.size wr.heap.size wr ov (pickD d (G.take k)))/\Hid (Below w4.heap.size w4 wr)) (fun _ i _=>m - (intOf i).toNat)
   case atStart=>exact ⟨0,zK _,rfl,HB0,hid ((zB _ _).alloc (zA _) _)⟩
   case round =>
    obtain ⟨k,hk,rfl,HB,Hb⟩:=hrel;clear HB0;by_cases hkn:k<m
    . obtain ⟨zb,zoff,rfl,zlt,zc1⟩:=HZo.out (by have:=Hm.out;omega)
      obtain ⟨z,hz,hzc,-⟩:=zc1 k (by have:=Hm.out;omega);obtain ⟨p,hp,hze⟩:=HZm.out k z hz;subst hze;have d0:=(Hb.out.cell (p:=⟨zb,zoff+k,none⟩) zlt.2).trans hzc;obtain ⟨b,off,rfl,hlt,hc⟩:=Ho.out (by omega);obtain ⟨x,ro,rc,hx,hcell,hrd⟩:=hc p (by omega);have hxl:=HRw.out x (zC hx);have d1:=(Hb.out.cell (p:=⟨b,off+p,none⟩) hlt.2).trans hcell;have hcon:=l02Own_c rfl d1 (Rds.onn hrd Hb.out) (by omega);have Hcon:=hid hcon;have Htk:Hid (pickD d (G.take (k+1))=pickD d (G.take k)++[x]):=hid (by unfold pickD;rw [yAE hz,List.map_append];simp [List.getD_eq_getElem?_getD,hx]);have Hxl:Hid ((pickD d (G.take k)).length<=100):=hid (by unfold pickD;rw [List.length_map,zI];omega);obtain ⟨oo,oc,hov⟩:=HB.out.shape;subst hov;have hmI:(p:Int)<(n:Int):=by omega
      have hmI0:(0:Int)<=(p:Int):=by omega
      clear hc hcell hrd hx hzc zc1 hz hcon d1;generalize pickD d (G.take k)=Tk at *
      go_wp2_with fail;with_reducible refine Hcon.out.mono ?_
      rintro e w6 ⟨⟨u,rfl,hu⟩,hb6⟩;obtain ⟨tp,htp⟩:∃ tp,tp=wr.heap.size:=⟨_,rfl⟩;have htb:w4.heap.size<=tp:=by have:=Hb.out.size;omega
      have hz2:tp<=w6.heap.size:=by have:=hb6.size;omega
      have hB2:BldG eI 2 88 w4.heap.size w4.heap.size tp w6 (.slice oo Tk.length oc) Tk:=by rw [htp];exact HB.out.below hb6 (zA _)
      have hb2':=Hb.out.trans (hb6.mono (by omega));clear hb6 d0;have hR9:=hu.mono (base':=tp) (by omega);obtain ⟨hs',xh,hval,hokx,hlen,hO,hfn⟩:=hB2.app hR9 htb hz2;obtain ⟨rao,rcap,hsh⟩:=hR9.shape;subst hsh;have hcells:(#[.slice rao x.length rcap]:Array Value)=(eS.cells xh).toArray:=by rw [show eS.cells xh=[xh.val] from rfl,hval]
      have HO:=hid hO;have Hfn:=hid hfn;have Hlen:=hid hlen;have Hcells:=hid hcells;have hl0:=HO.out.lt;have Hl0:=hid hl0;have Hb2':=hid hb2';have hszr:w4.heap.size<=w6.heap.size:=hb2'.size;clear hR9 hu hB2 hval hlen hO hfn hcells hl0 hb2';go_wp2_with (first | (at_builtin;refine yAB (E:=eS) rfl _ _ 78 rfl Tryz.underlying78 hi hz0 hz1 hz2c rfl (by decide) rfl rfl (HO.out.alloc _) (yAJ (E:=eS) (x:=xh) hokx Hcells.out) ?b1 ?b2 ?b3 ?_))
      case b1=>rw [Hlen.out];have:=Hxl.out;unfold maxLen;simp;omega
      case b2=>rw [Hlen.out];have:=Hxl.out;simp;omega
      case b3=>simp;omega
      intro v' w8 hO8 hg8;have hg8':=hg8.alloc;have HB8:=hid (Hfn.out w8 v' hO8 hg8');have Hb8:=hid (Hb2'.out.grown hg8'.1 hszr (fun q hq=>(Hl0.out q hq).1));clear hO8 hg8 hg8';go_wp2;go_roundw
      case rel=>exact ⟨k+1,by omega,by go_num,by rw [Htk.out];exact HB8,Hb8⟩
      case measure=>simp [intOf];omega
    . obtain rfl:k=m:=by omega
      have hM:=HB.out.toM (zA _);rw [zH (by have:=Hm.out;omega)] at hM;have HM:=hid hM;clear hM;have hF:=(FrD.own HM.out).mono Hb4.out.size;rw [HGe.out] at hF;have HF:=hid hF;have HbF:=hid (Hb4.out.trans (Hb.out.mono Hb4.out.size));clear hF;go_wp2;go_ret2;exact ⟨⟨_,rfl,fun _=>⟨_,rfl,HF.out⟩⟩,HbF.out⟩
 . have hc1:(R != 0)=true:=by simpa using hc0
   have HR0:=hid hc0;clear hK hc0;go_wp2;go_ret2;exact ⟨DkPost.no (r:=.slice none 0 0) rfl HR0.out,Hb1.out⟩
theorem sortC_cases (d:List (List Int)) (f t:Int):sortC d f t=0\/sortC d f t=1\/sortC d f t=2\/sortC d f t=8:=by
 unfold sortC;split
 . exact .inr (.inl rfl)
 . split
   . exact .inr (.inr (.inl rfl))
   . split
     . exact .inr (.inr (.inr rfl))
     . exact .inl rfl
theorem l09Ask_c {d:List (List Int)} {v:Value} {w:World} {A g:Nat} {f t:Int} {s:ByteArray} (hd:RdInt64SS A w v d) (hg:Box w g [.string s]) (hf:0<=f/\f<t/\t<=1000) (hs:(s.size:Int)=t - f) (hc:chS s=true) :
 Calls Tryz.prog 169 #[v,.agg #[.int .i64 f,.int .i64 t],.slice (some ⟨g,0,none⟩) 1 1] w fun e w'=>(∃ r,e=.returned (.tuple #[r,.int .i64 (sortC d f t)])/\(sortC d f t=0->Rds eT w'.heap.size w' r (keyT d f t)))/\Below w.heap.size w w':=by
 obtain ⟨vo,vc,rfl⟩:=hd.shape;obtain ⟨T,hT⟩:∃ T,T=w.alloc (.cells #[.int .i64 f,.int .i64 t] 73):=⟨_,rfl⟩;have hbT:Below w.heap.size w T:=by rw [hT];exact (zB _ _).alloc (zA _) _
 have hBT:Box T w.heap.size [.int .i64 f,.int .i64 t]:=by rw [hT];exact Box.new w [.int .i64 f,.int .i64 t] _
 have hdT:=RdInt64SS.onn hd hbT;have hky:=l07Keys_c (f:=f) (t:=t) hdT;have f0:=hBT.cell 0 _ rfl;have f1:=hBT.cell 1 _ rfl;have hcs:=sortC_cases d f t;obtain ⟨R,hR⟩:∃ R,sortC d f t=R:=⟨_,rfl⟩;rw [hR] at hky hcs |-;have Hky:=hid hky;have HT:=hid hT;have HbT:=hid hbT;have HBT:=hid hBT;have HG:=hid (hg.on hbT);have Hcs:=hid hcs;have htx:txC s f t=0:=by unfold txC;rw [if_pos hs,if_pos hc]
 have Htx:=hid (fun w=>by have h:=l09Text_c s f t w (by omega) hf;rw [htx] at h;exact h);clear hT hbT hBT hdT hky hR hd hg hcs htx hc;generalize d.length=n at *
 go_enter Tryz.func169,Tryz.ntmps169;go_upto_region 1 with fail;rw [<- HT.out];go_wp2_with fail;with_reducible refine Hky.out.mono ?_
 rintro e w1 ⟨⟨rk,rfl,hK⟩,hb1⟩;have HB1:=hid (HBT.out.on hb1);have HG1:=hid (HG.out.on hb1);have Hb1:=hid (HbT.out.trans (hb1.mono HbT.out.size));have HK:Hid (R=0->Rds eT w1.heap.size w1 rk (keyT d f t)):=hid (fun h=>(hK h).rds);clear hb1 f0 f1 hK;by_cases h12:R=1\/R=2
 . have h1:(R != 0)=true:=by rcases h12 with h | h <;> (rw [h];rfl)
   have h2:(R != 8)=true:=by rcases h12 with h | h <;> (rw [h];rfl)
   have H0:Hid (R ≠ 0):=hid (by omega);clear h12;go_wp2;go_ret2;exact ⟨⟨.slice none 0 0,rfl,fun h=>absurd h H0.out⟩,Hb1.out⟩
 . have h08:R=0\/R=8:=by have:=Hcs.out;omega
   have h1:(R != 0)=false\/(R != 8)=false:=by rcases h08 with h | h <;> (rw [h];first | exact .inl rfl | exact .inr rfl)
   have hgo:∀ (b:Bool),((R != 0) && b)=true->b=(R != 8)->False:=by
    intro b h e;rw [e] at h;rcases h1 with q | q <;> (rw [q] at h;simp at h)
   clear h12 hgo;rcases h08 with h | h
   . subst h
     clear h1;go_wp2;go_loopw [10,11] (fun kv iv wr=>∃ k:Nat,k<=1/\iv=.int .i64 k/\kv=.int .i64 0/\Hid (Below w1.heap.size w1 wr)) (fun _ i _=>1 - (intOf i).toNat)
     case atStart=>exact ⟨0,by omega,rfl,rfl,hid (zB _ _)⟩
     case round =>
      obtain ⟨k,hk,rfl,rfl,HB⟩:=hrel;by_cases hk1:k<1
      . obtain rfl:k=0:=by omega
        have f0:=cell_regrown ((HB1.out.on HB.out).cell 0 _ rfl);have f1:=cell_regrown ((HB1.out.on HB.out).cell 1 _ rfl);have f2:=cell_regrown ((HG1.out.on HB.out).cell 0 _ rfl);go_upto_region 8 with fail;refine wp_region_quiet_below (by kernel_rfl) (by kernel_rfl) ?_;repeat ((with_reducible refine wpQuiet_step (fun K hK=>?_));go_simp;first | ((with_reducible refine hK _ ?_);clear hK K) | (apply Exists.intro;refine ⟨fun _=>?_,hK _ ?_⟩;((first | (go_at_call 83;with_reducible exact yAI (Htx.out _))));clear hK K))
        refine wpQuiet_nil ?_;intro _ hw';obtain ⟨⟨dq,osq⟩,hw''⟩:=hw';subst hw'';have hbq:=below_regrown wr dq osq;generalize grow (redrawn wr dq) osq=wq at hbq |-;have HBq:=hid (HB.out.trans (hbq.mono HB.out.size));clear hbq f0 f1 f2;go_wp2;go_roundw
        case rel=>exact ⟨0+1,by omega,by go_num,rfl,HBq⟩
        case measure=>simp [intOf]
      . obtain rfl:k=1:=by omega
        have Hb2:=hid (Hb1.out.trans (HB.out.mono Hb1.out.size));have Hkf:Hid (Rds eT wr.heap.size wr rk (keyT d f t)):=hid (Rds.onn (HK.out (by first | trivial | rfl)) HB.out);go_wp2;go_ret2;exact ⟨⟨_,rfl,by first | exact Hkf.out | exact fun _=>Hkf.out⟩,Hb2.out⟩
   . subst h
     clear h1;go_wp2;go_loopw [10,11] (fun kv iv wr=>∃ k:Nat,k<=1/\iv=.int .i64 k/\kv=.int .i64 0/\Hid (Below w1.heap.size w1 wr)) (fun _ i _=>1 - (intOf i).toNat)
     case atStart=>exact ⟨0,by omega,rfl,rfl,hid (zB _ _)⟩
     case round =>
      obtain ⟨k,hk,rfl,rfl,HB⟩:=hrel;by_cases hk1:k<1
      . obtain rfl:k=0:=by omega
        have f0:=cell_regrown ((HB1.out.on HB.out).cell 0 _ rfl);have f1:=cell_regrown ((HB1.out.on HB.out).cell 1 _ rfl);have f2:=cell_regrown ((HG1.out.on HB.out).cell 0 _ rfl);go_upto_region 8 with fail;refine wp_region_quiet_below (by kernel_rfl) (by kernel_rfl) ?_;repeat ((with_reducible refine wpQuiet_step (fun K hK=>?_));go_simp;first | ((with_reducible refine hK _ ?_);clear hK K) | (apply Exists.intro;refine ⟨fun _=>?_,hK _ ?_⟩;((first | (go_at_call 83;with_reducible exact yAI (Htx.out _))));clear hK K))
        refine wpQuiet_nil ?_;intro _ hw';obtain ⟨⟨dq,osq⟩,hw''⟩:=hw';subst hw'';have hbq:=below_regrown wr dq osq;generalize grow (redrawn wr dq) osq=wq at hbq |-;have HBq:=hid (HB.out.trans (hbq.mono HB.out.size));clear hbq f0 f1 f2;go_wp2;go_roundw
        case rel=>exact ⟨0+1,by omega,by go_num,rfl,HBq⟩
        case measure=>simp [intOf]
      . obtain rfl:k=1:=by omega
        have Hb2:=hid (Hb1.out.trans (HB.out.mono Hb1.out.size));go_wp2;go_ret2;exact ⟨⟨_,rfl,by first | exact trivial | (intro h;exact absurd h (by decide))⟩,Hb2.out⟩
theorem out_text {f t:Int} {s:ByteArray} {c:List Int} (ho:okTx (partC c f t)=true) (hl:(partC c f t).length=s.size) (hc:chS s=true):outB f t s s c=decide (¬ toB (txI (partC c f t))=s):=by
 unfold outB;have h0:=cmpN_zero (a:=rks (partC c f t)) (b:=rks (cds s)) (by unfold rks;rw [List.length_map,List.length_map,cds_len,hl]);have hb:=cmpN_bd (rks (partC c f t)) (rks (cds s));have h1:rks (partC c f t)=rks (cds s) ↔ toB (txI (partC c f t))=s:=by
  rw [<- rkS_txt ho,<- rkS_cds hc];exact rkS_iff (chS_txt ho) hc
 by_cases h:toB (txI (partC c f t))=s
 . have e:=h0.2 (h1.2 h)
   rw [e,decide_eq_false (show ¬ ¬ _ from fun q=>q h)];rfl
 . have e:cmpN (rks (partC c f t)) (rks (cds s)) ≠ 0:=fun q=>h (h1.1 (h0.1 q))
   rw [decide_eq_true h];by_cases hq:cmpN (rks (partC c f t)) (rks (cds s))<0
   . rw [decide_eq_true hq];rfl
   . rw [decide_eq_false hq,decide_eq_true (show (0:Int)<cmpN (rks (partC c f t)) (rks (cds s)) by omega)];rfl
theorem sSelectEqual_c {d:List (List Int)} {v:Value} {w:World} {A:Nat} {f t:Int} {s:ByteArray} (hd:RdInt64SS A w v d) (hf:0<=f/\f<t/\t<=1000) (hs:(s.size:Int)=t - f) (hc:chS s=true) :
 Calls Tryz.prog 126 #[v,.agg #[.int .i64 f,.int .i64 t],.string s] w fun e w'=>DkPost (sortC d f t) (fun x=>x=d.filter (fun y=>!outB f t s s y)) w.heap.size e w'/\Below w.heap.size w w':=by
 obtain ⟨i0,hi,hz0,hz1,hz2c⟩:=info_parts Tryz.infoCard;obtain ⟨vo,vc,rfl⟩:=hd.shape;obtain ⟨T,hT⟩:∃ T,T=w.alloc (.cells #[.int .i64 f,.int .i64 t] 73):=⟨_,rfl⟩;have hbT:Below w.heap.size w T:=by rw [hT];exact (zB _ _).alloc (zA _) _
 have hBT:Box T w.heap.size [.int .i64 f,.int .i64 t]:=by rw [hT];exact Box.new w [.int .i64 f,.int .i64 t] _
 have hdT:=RdInt64SS.onn hd hbT;obtain ⟨T2,hT2⟩:∃ T2,T2=T.alloc (.cells #[.string s] 9):=⟨_,rfl⟩;have hb2:Below T.heap.size T T2:=by rw [hT2];exact (zB _ _).alloc (zA _) _
 have hg:Box T2 T.heap.size [.string s]:=by rw [hT2];exact Box.new T [.string s] _
 have hask:=l09Ask_c (f:=f) (t:=t) (RdInt64SS.onn hdT hb2) hg hf hs hc;have f0:=hBT.cell 0 _ rfl;have f1:=hBT.cell 1 _ rfl;obtain ⟨R,hR⟩:∃ R,sortC d f t=R:=⟨_,rfl⟩;rw [hR] at hask |-;have HR:=hid hR;have Hask:=hid hask;have HT:=hid hT;have HT2:=hid hT2;have HbT:=hid (hbT.trans (hb2.mono hbT.size));have HdT:=hid (RdInt64SS.onn hdT hb2);have Hs:=hid hs;have Hc:=hid hc;clear hT hT2 hbT hBT hb2 hg hdT hask hR hd hs hc;obtain ⟨n,hn⟩:∃ n,n=d.length:=⟨_,rfl⟩;rw [<- hn] at HdT Hask |-;have Hn:=hid hn;clear hn;go_enter Tryz.func126,Tryz.ntmps126;go_upto_region 1 with fail;rw [<- HT.out];go_wp2_with fail;rw [<- HT2.out];with_reducible refine Hask.out.mono ?_
 rintro e w4 ⟨⟨rk,rfl,hK⟩,hb4⟩;have hd4:=RdInt64SS.onn HdT.out hb4;have Hb4:=hid (HbT.out.trans (hb4.mono HbT.out.size));clear hb4 f0 f1;by_cases hc0:R=0
 . have hz:=sortC_zero (d:=d) (f:=f) (t:=t) (by rw [HR.out];exact hc0)
   have hKo:=hK hc0;subst hc0;have hlen:=(yAF hz.1).1;have hcols:=yAT hz.1 hz.2.1;have hka:=fun (k:Nat) (hk:k<d.length)=>key_at hcols (yAY hz.1) hz.2.2 hk;obtain ⟨ka,kc,hkv,hkc⟩:=RdT.at hKo;rw [yAZ,<- Hn.out] at hkv hkc;subst hkv;obtain ⟨vo',vc',hvs,ho⟩:=hd4.open;rw [<- Hn.out] at hvs ho;injection hvs with q1 q2 q3;subst q1;subst q3;clear q2;have Ho:=hid ho;have Hkc:=hid hkc;have Hka:=hid hka;have HRw:=hid (yAY hz.1).2;have Hcols:=hid hcols;have Hz:=hid hz;have hl100:n<=40:=by have:=Hn.out;omega
   have hB0:BldG eI 2 88 w4.heap.size w4.heap.size (w4.alloc (.cells #[] 88)).heap.size (w4.alloc (.cells #[] 88)) (.slice (some ⟨w4.heap.size,0,none⟩) 0 0) ((d.take 0).filter (fun y=>!outB f t s s y)):=BldG.empty (B:=w4.heap.size) rfl (Own.lit (E:=eS) (xs:=[]) (cs:=#[]) (zA _) rfl rfl (by decide) (fun x hx=>by cases hx)) (by simp);have HB0:=hid hB0;clear hB0 hK hKo hlen hcols hka hkc hz hd4 ho;go_wp2;go_loopw [10,11] (fun ov iv wr=>∃ k:Nat,k<=n/\iv=.int .i64 k/\Hid (BldG eI 2 88 w4.heap.size w4.heap.size wr.heap.size wr ov ((d.take k).filter (fun y=>!outB f t s s y)))/\Hid (Below w4.heap.size w4 wr)) (fun _ i _=>n - (intOf i).toNat)
   case atStart=>exact ⟨0,zK _,rfl,HB0,hid ((zB _ _).alloc (zA _) _)⟩
   case round =>
    obtain ⟨k,hk,rfl,HB,Hb⟩:=hrel;clear HB0;by_cases hkn:k<n
    . obtain ⟨b,off,rfl,hlt,hc⟩:=Ho.out (by omega)
      obtain ⟨x,ro,rc,hx,hcell,hrd⟩:=hc k (by omega);obtain ⟨ba,boff,rfl,klt,kcc⟩:=Hkc.out (by omega);obtain ⟨sk,ek,-,-,-,-⟩:=Hka.out k (by have:=Hn.out;omega);have e2:=keyT_at (f:=f) (t:=t) hx;rw [ek] at e2;have e2:=zD e2;have d0:=(Hb.out.cell (p:=⟨ba,boff+k,none⟩) klt.2).trans (kcc k sk ek);have hm:=zC hx;have hxl:=HRw.out x hm;have d1:=(Hb.out.cell (p:=⟨b,off+k,none⟩) hlt.2).trans hcell;have hrw:=Rds.onn hrd Hb.out;have hout:outB f t s s x=decide (¬ sk=s):=by
       rw [e2];exact out_text (hasD_at Hz.out.2.2 hm) (by rw [yAP Hcols.out.1.1 Hcols.out.1.2 (Hcols.out.2 x hm)];have:=Hs.out;omega) Hc.out
      have hfil:(d.take (k+1)).filter (fun y=>!outB f t s s y)=(d.take k).filter (fun y=>!outB f t s s y)++(if sk=s then [x] else []):=by
       rw [yAE hx,List.filter_append];congr 1;by_cases h:sk=s
       . rw [if_pos h,List.filter_cons_of_pos (by rw [hout,decide_eq_false (fun q=>q h)];rfl)];rfl
       . rw [if_neg h,List.filter_cons_of_neg (by rw [hout,decide_eq_true h];decide)];rfl
      have Hfil:=hid hfil;have Hxl:Hid (((d.take k).filter (fun y=>!outB f t s s y)).length<=100):=hid (by have:=List.length_filter_le (fun y=>!outB f t s s y) (d.take k);rw [zI] at this;omega);obtain ⟨oo,oc,hov⟩:=HB.out.shape;subst hov;clear hc hcell hrd hx kcc ek e2 hm hout hfil;generalize (d.take k).filter (fun y=>!outB f t s s y)=Tk at *
      by_cases hq:sk=s
      . subst hq
        have Hfil2:Hid ((d.take (k+1)).filter (fun y=>!outB f t sk sk y)=Tk++[x]):=hid (by rw [Hfil.out,if_pos rfl]);have hcon:=l02Own_c rfl d1 hrw (by omega);have Hcon:=hid hcon;clear hcon d1 hrw;go_wp2_with fail;with_reducible refine Hcon.out.mono ?_
        rintro e w6 ⟨⟨u,rfl,hu⟩,hb6⟩;obtain ⟨tp,htp⟩:∃ tp,tp=wr.heap.size:=⟨_,rfl⟩;have htb:w4.heap.size<=tp:=by have:=Hb.out.size;omega
        have hz2:tp<=w6.heap.size:=by have:=hb6.size;omega
        have hB2:BldG eI 2 88 w4.heap.size w4.heap.size tp w6 (.slice oo Tk.length oc) Tk:=by rw [htp];exact HB.out.below hb6 (zA _)
        have hb2':=Hb.out.trans (hb6.mono (by omega));clear hb6;have hR9:=hu.mono (base':=tp) (by omega);obtain ⟨hs',xh,hval,hokx,hlen,hO,hfn⟩:=hB2.app hR9 htb hz2;obtain ⟨rao,rcap,hsh⟩:=hR9.shape;subst hsh;have hcells:(#[.slice rao x.length rcap]:Array Value)=(eS.cells xh).toArray:=by rw [show eS.cells xh=[xh.val] from rfl,hval]
        have HO:=hid hO;have Hfn:=hid hfn;have Hlen:=hid hlen;have Hcells:=hid hcells;have hl0:=HO.out.lt;have Hl0:=hid hl0;have Hb2':=hid hb2';have hszr:w4.heap.size<=w6.heap.size:=hb2'.size;clear hR9 hu hB2 hval hlen hO hfn hcells hl0 hb2';go_wp2_with (first | (at_builtin;refine yAB (E:=eS) rfl _ _ 78 rfl Tryz.underlying78 hi hz0 hz1 hz2c rfl (by decide) rfl rfl (HO.out.alloc _) (yAJ (E:=eS) (x:=xh) hokx Hcells.out) ?b1 ?b2 ?b3 ?_))
        case b1=>rw [Hlen.out];have:=Hxl.out;unfold maxLen;simp;omega
        case b2=>rw [Hlen.out];have:=Hxl.out;simp;omega
        case b3=>simp;omega
        intro v' w8 hO8 hg8;have hg8':=hg8.alloc;have HB8:=hid (Hfn.out w8 v' hO8 hg8');have Hb8:=hid (Hb2'.out.grown hg8'.1 hszr (fun q hq=>(Hl0.out q hq).1));clear hO8 hg8 hg8';go_wp2;go_roundw
        case rel=>exact ⟨k+1,by omega,by go_num,by rw [Hfil2.out];exact HB8,Hb8⟩
        case measure=>simp [intOf];omega
      . have Hfil2:Hid ((d.take (k+1)).filter (fun y=>!outB f t s s y)=Tk):=hid (by rw [Hfil.out,if_neg hq,List.append_nil])
        have hq2:=toList_ne hq;clear hq hrw d1;go_wp2;go_roundw
        case rel=>exact ⟨k+1,by omega,by go_num,by rw [Hfil2.out];exact HB,Hb⟩
        case measure=>simp [intOf];omega
    . obtain rfl:k=n:=by omega
      have hM:=HB.out.toM (zA _);rw [zH (by have:=Hn.out;omega)] at hM;have HF:=hid ((FrD.own hM).mono Hb4.out.size);have HbF:=hid (Hb4.out.trans (Hb.out.mono Hb4.out.size));clear hM;go_wp2;go_ret2;exact ⟨⟨_,rfl,fun _=>⟨_,rfl,HF.out⟩⟩,HbF.out⟩
 . have hc1:(R != 0)=true:=by simpa using hc0
   have HR0:=hid hc0;clear hK hc0 hd4;go_wp2;go_ret2;exact ⟨DkPost.no (r:=.slice none 0 0) rfl HR0.out,Hb4.out⟩
theorem twoC_eq (a b:List (List Int)) (f t:Int):twoC a b f t=if deckB a=false\/deckB b=false then 1 else if ¬ fieldP f t (colsD a)\/¬ fieldP f t (colsD b) then 2 else if hasD a f t=false\/hasD b f t=false then 8 else 0:=by
 unfold twoC colC;have e1:([a,b].any badD=true) ↔ (deckB a=false\/deckB b=false):=by unfold badD;simp
 have e2:([a,b].any (badW f t)=true) ↔ (¬ fieldP f t (colsD a)\/¬ fieldP f t (colsD b)):=by unfold badW;simp only [List.any_cons,List.any_nil,Bool.or_false,Bool.or_eq_true,Bool.not_eq_true',decide_eq_false_iff_not]
 have e3:([a,b].any (badH f t)=true) ↔ (hasD a f t=false\/hasD b f t=false):=by unfold badH;simp
 by_cases h1:deckB a=false\/deckB b=false
 . rw [if_pos (e1.2 h1),if_pos h1]
 . rw [if_neg (fun h=>h1 (e1.1 h)),if_neg h1]
   by_cases h2:¬ fieldP f t (colsD a)\/¬ fieldP f t (colsD b)
   . rw [if_pos (e2.2 h2),if_pos h2]
   . rw [if_neg (fun h=>h2 (e2.1 h)),if_neg h2,if_neg (by simp),if_neg (by simp)]
     by_cases h3:hasD a f t=false\/hasD b f t=false
     . rw [if_pos (e3.2 h3),if_pos h3]
     . rw [if_neg (fun h=>h3 (e3.1 h)),if_neg h3]
theorem sortC_has {d:List (List Int)} {f t:Int} (hd:deckB d=true) (hf:fieldP f t (colsD d)):sortC d f t=if hasD d f t=false then 8 else 0:=by
 unfold sortC;rw [if_neg (by rw [hd];decide),if_neg (fun h=>h hf)]
theorem l09Two_c {a b:List (List Int)} {u v:Value} {w:World} {A B:Nat} {f t:Int} (ha:RdInt64SS A w u a) (hb:RdInt64SS B w v b) :
 Calls Tryz.prog 166 #[u,v,.agg #[.int .i64 f,.int .i64 t]] w fun e w'=>(∃ x y,e=.returned (.tuple #[x,y,.int .i64 (twoC a b f t)])/\(twoC a b f t=0->Rds eT w'.heap.size w' x (keyT a f t)/\Rds eT w'.heap.size w' y (keyT b f t)))/\Below w.heap.size w w':=by
 obtain ⟨ao,ac,rfl⟩:=ha.shape;obtain ⟨bo,bc,rfl⟩:=hb.shape;obtain ⟨T,hT⟩:∃ T,T=w.alloc (.cells #[.int .i64 f,.int .i64 t] 73):=⟨_,rfl⟩;have hbT:Below w.heap.size w T:=by rw [hT];exact (zB _ _).alloc (zA _) _
 have hBT:Box T w.heap.size [.int .i64 f,.int .i64 t]:=by rw [hT];exact Box.new w [.int .i64 f,.int .i64 t] _
 have haT:=RdInt64SS.onn ha hbT;have hbT2:=RdInt64SS.onn hb hbT;have hda:=l02Deck_c haT;have hdb:=fun (w:World) (hw:Below T.heap.size T w)=>l02Deck_c (w:=w) (RdInt64SS.onn hbT2 hw);obtain ⟨R,hR⟩:∃ R,R=twoC a b f t:=⟨_,rfl⟩;rw [<- hR];rw [twoC_eq] at hR;have HR:=hid hR;have HT:=hid hT;have HbT:=hid hbT;have HBT:=hid hBT;have HaT:=hid haT;have HbT2:=hid hbT2;obtain ⟨Va,hVa⟩:∃ V,V=deckB a:=⟨_,rfl⟩;obtain ⟨Vb,hVb⟩:∃ V,V=deckB b:=⟨_,rfl⟩;rw [<- hVa] at hda;rw [<- hVb] at hdb;have HVa:=hid hVa;have HVb:=hid hVb;have Hda:=hid hda;have Hdb:=hid hdb;clear hT hbT hBT ha hb haT hbT2 hda hdb hVa hVb hR;obtain ⟨n,hn⟩:∃ n,n=a.length:=⟨_,rfl⟩;obtain ⟨m,hm⟩:∃ m,m=b.length:=⟨_,rfl⟩;rw [<- hn] at HaT Hda |-;rw [<- hm] at HbT2 Hdb |-;clear hn hm;go_enter Tryz.func166,Tryz.ntmps166;go_upto_region 1 with fail;rw [<- HT.out];go_wp2_with fail;with_reducible refine Hda.out.mono ?_
 rintro e w1 ⟨rfl,m1,hm1⟩;have hb1:Below T.heap.size T w1:=by rw [hm1];exact (zB _ _).drewNy m1
 have Hdb1:=hid (Hdb.out w1 hb1);have HQ1:=hid (HBT.out.on hb1);have Ha1:=hid (RdInt64SS.onn HaT.out hb1);have Hb1:=hid (RdInt64SS.onn HbT2.out hb1);have HB1:=hid (HbT.out.trans (hb1.mono HbT.out.size));clear hb1 hm1;cases Va with
 | false =>
  have HE:Hid (R=1):=hid (by rw [HR.out,if_pos (.inl HVa.out.symm)]);go_wp2;go_ret3;exact ⟨⟨.slice none 0 0,.slice none 0 0,by rw [HE.out];rfl,fun h=>by rw [HE.out] at h;exact absurd h (by decide)⟩,HB1.out⟩
 | true =>
  go_wp2_with fail;with_reducible refine Hdb1.out.mono ?_
  rintro e w2 ⟨rfl,m2,hm2⟩;have hb2:Below w1.heap.size w1 w2:=by rw [hm2];exact (zB _ _).drewNy m2
  have hQ2:=HQ1.out.on hb2;have HQ2:=hid hQ2;have Ha2:=hid (RdInt64SS.onn Ha1.out hb2);have Hb2:=hid (RdInt64SS.onn Hb1.out hb2);have HB2:=hid (HB1.out.trans (hb2.mono HB1.out.size));clear hb2 hm2;cases Vb with
  | false =>
   have HE:Hid (R=1):=hid (by rw [HR.out,if_pos (.inr HVb.out.symm)]);clear hQ2;go_wp2;go_ret3;exact ⟨⟨.slice none 0 0,.slice none 0 0,by rw [HE.out];rfl,fun h=>by rw [HE.out] at h;exact absurd h (by decide)⟩,HB2.out⟩
  | true =>
   have HR1:Hid (R=if ¬ fieldP f t (colsD a)\/¬ fieldP f t (colsD b) then 2 else if hasD a f t=false\/hasD b f t=false then 8 else 0):=hid (by rw [HR.out,if_neg (fun h=>h.elim (fun h=>by rw [<- HVa.out] at h;cases h) (fun h=>by rw [<- HVb.out] at h;cases h))]);obtain ⟨Ca,hCa⟩:∃ C,C=colsD a:=⟨_,rfl⟩;obtain ⟨Cb,hCb⟩:∃ C,C=colsD b:=⟨_,rfl⟩;have hab:=colsD_bd HVa.out.symm;have hbb:=colsD_bd HVb.out.symm;rw [<- hCa] at hab;rw [<- hCb] at hbb;have f1:=cell_regrown (hQ2.cell 0 _ rfl);have f2:=cell_regrown (hQ2.cell 1 _ rfl);have hwa:=fun y os=>l07Width_c (w:=grow (redrawn w2 y) os) (RdInt64SS.below Ha2.out (below_regrown w2 y os) (zA _));have hwb:=fun y os=>l07Width_c (w:=grow (redrawn w2 y) os) (RdInt64SS.below Hb2.out (below_regrown w2 y os) (zA _));rw [<- hCa] at hwa;rw [<- hCb] at hwb;have hfa:=fun w=>yBR f t Ca w (by omega);have hfb:=fun w=>yBR f t Cb w (by omega);obtain ⟨Fa,hFa⟩:∃ F,F=decide (fieldP f t Ca):=⟨_,rfl⟩;obtain ⟨Fb,hFb⟩:∃ F,F=decide (fieldP f t Cb):=⟨_,rfl⟩;rw [<- hFa] at hfa;rw [<- hFb] at hfb;have HFa:Hid (Fa=decide (fieldP f t (colsD a))):=hid (by rw [hFa,hCa]);have HFb:Hid (Fb=decide (fieldP f t (colsD b))):=hid (by rw [hFb,hCb]);have Hwa:=hid hwa;have Hwb:=hid hwb;have Hfa:=hid hfa;have Hfb:=hid hfb;clear hCa hCb hab hbb hwa hwb hfa hfb hFa hFb hQ2;go_upto_region 3 with fail;cases Fa with
   | false =>
    have HE:Hid (R=2):=hid (by rw [HR1.out,if_pos (.inl (of_decide_eq_false HFa.out.symm))]);refine wp_region_quiet_below (by kernel_rfl) (by kernel_rfl) ?_;repeat ((with_reducible refine wpQuiet_step (fun K hK=>?_));go_simp;first | ((with_reducible refine hK _ ?_);clear hK K) | ((with_reducible rw [if_neg]);rotate_left;(intro hgd;cases hgd);(with_reducible refine hK _ ?_);clear hK K) | (apply Exists.intro;refine ⟨fun _=>?_,hK _ ?_⟩;((first | (go_at_call 160;first | with_reducible exact qb_same (Hwa.out _ _) | with_reducible exact qb_same (Hwb.out _ _)) | (go_at_call 82;first | with_reducible exact yAI (Hfa.out _) | with_reducible exact yAI (Hfb.out _))));clear hK K))
    refine wpQuiet_nil ?_;intro _ hw';obtain ⟨⟨dq,osq⟩,hw''⟩:=hw';subst hw'';have hbq:=below_regrown w2 dq osq;generalize grow (redrawn w2 dq) osq=wq at hbq |-;have HBq:=hid (HB2.out.trans (hbq.mono HB2.out.size));clear hbq f1 f2;go_wp2;go_ret3;exact ⟨⟨.slice none 0 0,.slice none 0 0,by rw [HE.out];rfl,fun h=>by rw [HE.out] at h;exact absurd h (by decide)⟩,HBq.out⟩
   | true =>
    refine wp_region_quiet_below (by kernel_rfl) (by kernel_rfl) ?_;repeat ((with_reducible refine wpQuiet_step (fun K hK=>?_));go_simp;first | ((with_reducible refine hK _ ?_);clear hK K) | ((with_reducible rw [if_neg]);rotate_left;(intro hgd;cases hgd);(with_reducible refine hK _ ?_);clear hK K) | (apply Exists.intro;refine ⟨fun _=>?_,hK _ ?_⟩;((first | (go_at_call 160;first | with_reducible exact qb_same (Hwa.out _ _) | with_reducible exact qb_same (Hwb.out _ _)) | (go_at_call 82;first | with_reducible exact yAI (Hfa.out _) | with_reducible exact yAI (Hfb.out _))));clear hK K))
    refine wpQuiet_nil ?_;intro _ hw';obtain ⟨⟨dq,osq⟩,hw''⟩:=hw';subst hw'';have hbq:=below_regrown w2 dq osq;generalize grow (redrawn w2 dq) osq=wq at hbq |-;obtain ⟨w3,hw3⟩:∃ x,x=wq:=⟨_,rfl⟩;subst hw3;have HQ3:=hid (HQ2.out.on hbq);have Ha3:=hid (RdInt64SS.onn Ha2.out hbq);have Hb3:=hid (RdInt64SS.onn Hb2.out hbq);have HB3:=hid (HB2.out.trans (hbq.mono HB2.out.size));clear hbq f1 f2;cases Fb with
    | false =>
     have HE:Hid (R=2):=hid (by rw [HR1.out,if_pos (.inr (of_decide_eq_false HFb.out.symm))]);go_wp2;go_ret3;exact ⟨⟨.slice none 0 0,.slice none 0 0,by rw [HE.out];rfl,fun h=>by rw [HE.out] at h;exact absurd h (by decide)⟩,HB3.out⟩
    | true =>
     have hfa:=of_decide_eq_true HFa.out.symm;have hfb:=of_decide_eq_true HFb.out.symm;have HR2:Hid (R=if hasD a f t=false\/hasD b f t=false then 8 else 0):=hid (by rw [HR1.out,if_neg (fun h=>h.elim (fun h=>h hfa) (fun h=>h hfb))]);have hka:=l07Keys_c (f:=f) (t:=t) Ha3.out;have hkb:=fun (w:World) (hw:Below w3.heap.size w3 w)=>l07Keys_c (w:=w) (f:=f) (t:=t) (RdInt64SS.onn Hb3.out hw);have hsa:=sortC_has HVa.out.symm hfa;have hsb:=sortC_has HVb.out.symm hfb;obtain ⟨Sa,hSa⟩:∃ S,S=sortC a f t:=⟨_,rfl⟩;obtain ⟨Sb,hSb⟩:∃ S,S=sortC b f t:=⟨_,rfl⟩;rw [<- hSa] at hka hsa;rw [<- hSb] at hkb hsb;obtain ⟨pa,hpa⟩:∃ p,p=hasD a f t:=⟨_,rfl⟩;obtain ⟨pb,hpb⟩:∃ p,p=hasD b f t:=⟨_,rfl⟩;rw [<- hpa] at hsa;rw [<- hpb] at hsb;have HSa:=hid hsa;have HSb:=hid hsb;have Hpa:=hid hpa;have Hpb:=hid hpb;have Hka:=hid hka;have Hkb:=hid hkb;have g0:=HQ3.out.cell 0 _ rfl;have g1:=HQ3.out.cell 1 _ rfl;clear hfa hfb hka hkb hpa hpb hSa hSb hsa hsb;go_wp2_with fail;with_reducible refine Hka.out.mono ?_
     rintro e w4 ⟨⟨ra,rfl,hra⟩,hb4⟩;have HQ4:=hid (HQ3.out.on hb4);have h0:=HQ4.out.cell 0 _ rfl;have h1:=HQ4.out.cell 1 _ rfl;have Hkb4:=hid (Hkb.out w4 hb4);have Hra:Hid (Sa=0->Rds eT w4.heap.size w4 ra (keyT a f t)):=hid (fun h=>(hra h).rds);have HB4:=hid (HB3.out.trans (hb4.mono HB3.out.size));clear hra hb4 g0 g1;go_wp2_with fail;with_reducible refine Hkb4.out.mono ?_
     rintro e w5 ⟨⟨rb,rfl,hrb⟩,hb5⟩;have HB5:=hid (HB4.out.trans (hb5.mono HB4.out.size));have Hrb:Hid (Sb=0->Rds eT w5.heap.size w5 rb (keyT b f t)):=hid (fun h=>(hrb h).rds);have Hra5:Hid (Sa=0->Rds eT w5.heap.size w5 ra (keyT a f t)):=hid (fun h=>Rds.onn (Hra.out h) hb5);clear hrb hb5 h0 h1;have fin:∀ (h:Sa=0/\Sb=0),R=0:=fun h=>by
      rw [HR2.out,if_neg];intro q;rcases q with q | q
      . have e:=HSa.out;rw [if_pos (by rw [Hpa.out];exact q)] at e;omega
      . have e:=HSb.out;rw [if_pos (by rw [Hpb.out];exact q)] at e;omega
     have bad:∀ (h:¬ (Sa=0/\Sb=0)),R=8:=fun h=>by
      rw [HR2.out,if_pos];by_cases q:hasD a f t=false
      . exact .inl q
      . refine .inr (Classical.byContradiction fun q2=>h ⟨?_,?_⟩)
        . rw [HSa.out,if_neg (by rw [Hpa.out];exact q)]
        . rw [HSb.out,if_neg (by rw [Hpb.out];exact q2)]
     have HFin:=hid fin;have HBad:=hid bad;clear fin bad;by_cases ha0:Sa=0
     . by_cases hb0:Sb=0
       . have HE:=hid (HFin.out ⟨ha0,hb0⟩)
         have HF:Hid (Rds eT w5.heap.size w5 ra (keyT a f t)/\Rds eT w5.heap.size w5 rb (keyT b f t)):=hid ⟨Hra5.out ha0,Hrb.out hb0⟩;subst ha0;subst hb0;go_wp2;go_ret3;exact ⟨⟨_,_,by rw [HE.out];rfl,fun _=>HF.out⟩,HB5.out⟩
       . have HE:=hid (HBad.out (fun h=>hb0 h.2))
         have h2:(Sb != 0)=true:=by simpa using hb0
         subst ha0;clear hb0;go_wp2;go_ret3;exact ⟨⟨.slice none 0 0,.slice none 0 0,by rw [HE.out];rfl,fun h=>by rw [HE.out] at h;exact absurd h (by decide)⟩,HB5.out⟩
     . have HE:=hid (HBad.out (fun h=>ha0 h.1))
       have h2:(Sa != 0)=true:=by simpa using ha0
       clear ha0;go_wp2;go_ret3;exact ⟨⟨.slice none 0 0,.slice none 0 0,by rw [HE.out];rfl,fun h=>by rw [HE.out] at h;exact absurd h (by decide)⟩,HB5.out⟩
theorem l09Has_c {K:List ByteArray} {v:Value} {w:World} {A:Nat} (s:ByteArray) (hk:Rds eT A w v K) (hl:K.length<=1000) :
 Calls Tryz.prog 204 #[v,.string s] w fun e w'=>e=.returned (.bool (K.any (fun x=>decide (x=s))))/\w=w':=by
 obtain ⟨ao,cap,rfl,ho⟩:=RdT.at hk;obtain ⟨n,hn⟩:∃ n,n=K.length:=⟨_,rfl⟩;obtain ⟨R,hR⟩:∃ R,R=K.any (fun x=>decide (x=s)):=⟨_,rfl⟩;rw [<- hR];rw [<- hn] at ho hl |-;have Ho:=hid ho;have Hn:=hid hn;have HR:=hid hR;clear hk ho hn hR;go_enter Tryz.func204,Tryz.ntmps204;go_wp2;go_loop [5] (fun iv=>∃ k:Nat,k<=n/\iv=.int .i64 k/\Hid ((K.take k).any (fun x=>decide (x=s))=false)) (fun i=>n - (intOf i).toNat)
 case atStart=>exact ⟨0,zK _,rfl,hid rfl⟩
 case round =>
  obtain ⟨k,hk,rfl,HA⟩:=hrel;by_cases hkn:k<n
  . obtain ⟨b,off,rfl,hlt,hc⟩:=Ho.out (by omega)
    have e:K[k]?=some (K[k]'(by have:=Hn.out;omega)):=zF _;obtain ⟨x,hx⟩:∃ x,x=K[k]'(by have:=Hn.out;omega):=⟨_,rfl⟩;rw [<- hx] at e;have d0:=hc k x e;have He:=hid e;clear hc e hx;by_cases hq:x=s
    . have HE:Hid (R=true):=hid (by rw [HR.out];exact any_yes He.out (decide_eq_true hq))
      have hq2:=toList_yes hq;clear hq;go_wp2;go_ret;exact ⟨yAD HE.out.symm,rfl⟩
    . have HA2:=hid (any_snoc He.out HA.out (p:=fun x=>decide (x=s)) (decide_eq_false hq))
      have hq2:=toList_ne hq;clear hq;go_wp2;go_round
      case rel=>exact ⟨k+1,by omega,by go_num,HA2⟩
      case measure=>simp [intOf];omega
  . obtain rfl:k=n:=by omega
    have HE:Hid (R=false):=hid (by rw [HR.out];exact any_full Hn.out HA.out);go_wp2;go_ret;exact ⟨yAD HE.out.symm,rfl⟩
theorem clo_HE {x y:List Int} {u v:Value} {W:World} {q1 q2:Nat} {f t:Int} (hQ:Box W q1 [v]) (hF:Box W q2 [.int .i64 f,.int .i64 t]) (hx:RdI W.heap.size W u x) (hy:RdI W.heap.size W v y) (h0:0<=f/\f<t) (htx:t<=(x.length:Int)) (hty:t<=(y.length:Int)) :
 Calls Tryz.prog 219 #[.agg #[u],.pointer (some ⟨q1,0,none⟩),.pointer (some ⟨q2,0,none⟩)] W fun e w'=>e=.returned (.bool (eqF f t y x))/\Below W.heap.size W w':=by
 obtain ⟨ao,cap,rfl,hin⟩:=RdI.open hx;obtain ⟨b,off,rfl,_⟩:=hin (by omega);obtain ⟨ao2,cap2,rfl,hin2⟩:=RdI.open hy;obtain ⟨b2,off2,rfl,_⟩:=hin2 (by omega);obtain ⟨T,hT⟩:∃ T,T=W.alloc (.cells #[.slice (some ⟨b,off,none⟩) x.length cap] 88):=⟨_,rfl⟩;have hbT:Below W.heap.size W T:=by rw [hT];exact (zB _ _).alloc (zA _) _
 have hBT:Box T W.heap.size [.slice (some ⟨b,off,none⟩) x.length cap]:=by rw [hT];exact Box.new W [.slice (some ⟨b,off,none⟩) x.length cap] _
 have c0:=hBT.cell 0 _ rfl;have c1:=(hQ.on hbT).cell 0 _ rfl;have c2:=(hF.on hbT).cell 0 _ rfl;have c3:=(hF.on hbT).cell 1 _ rfl;have hk:=yBX (w:=T) f t h0.1 h0.2 htx hty (Rds.onn hx hbT) (Rds.onn hy hbT);unfold eqF;obtain ⟨R,hR⟩:∃ R,cmpN (rks (partC x f t)) (rks (partC y f t))=R:=⟨_,rfl⟩;rw [hR] at hk |-;have Hk:=hid hk;have HT:=hid hT;have HbT:=hid hbT;clear hk hT hbT hBT hQ hF hx hy hin hin2 h0 hR;generalize x.length=n at *
 generalize y.length=m at *
 go_enter Tryz.func219,Tryz.ntmps219;go_upto_region 1 with fail;rw [<- HT.out];go_wp2_with fail;with_reducible refine Hk.out.mono ?_
 rintro e w1 ⟨rfl,hb1⟩;have Hb1:=hid (HbT.out.trans (hb1.mono HbT.out.size));clear hb1 c0 c1 c2 c3;go_wp2;go_ret;exact ⟨yAD (by first | rfl | simp),Hb1.out⟩
theorem indexHE {xss:List (List Int)} {v:Value} {w:World} {A:Nat} {p:List Int->Bool} {c1 c2:Nat} (ha:RdInt64SS A w v xss)
 (hclo:∀ (W:World) (u:Value) (y:List Int),y∈xss->Below w.heap.size w W->RdI W.heap.size W u y->Calls Tryz.prog 219 #[.agg #[u],.pointer (some ⟨c1,0,none⟩),.pointer (some ⟨c2,0,none⟩)] W fun e w'=>e=.returned (.bool (p y))/\Below W.heap.size W w') :
 Calls Tryz.prog 211 #[v,.func (.func 219) #[] #[.pointer (some ⟨c1,0,none⟩),.pointer (some ⟨c2,0,none⟩)]] w fun e w' =>
  (∃ r:Int,e=.returned (.int .i64 r)/\-1<=r/\((0<=r ↔ xss.any p=true)/\(0<=r->r.toNat<xss.length/\(xss.take r.toNat).any p=false/\∀ x,xss[r.toNat]?=some x->p x=true)))/\Below w.heap.size w w':=by
 have hle:=ha.le;obtain ⟨ao,cap,rfl,ho⟩:=ha.open;obtain ⟨n,hn⟩:∃ n,n=xss.length:=⟨_,rfl⟩;rw [<- hn];have Hn:=hid hn;have Ho:=hid ho;have Hclo:=hid hclo;have hle':n<=9223372036854775807:=by omega
 clear ho hn hle ha hclo;go_enter Tryz.func211,Tryz.ntmps211;go_wp2;go_loopw [8] (fun i wr=>∃ k:Nat,k<=n/\i=.int .i64 k/\Hid ((xss.take k).any p=false)/\Below w.heap.size w wr) (fun i _=>n - (intOf i).toNat)
 case atStart=>exact ⟨0,zK _,rfl,rfl,zB _ _⟩
 case round =>
  obtain ⟨k,hk,rfl,hp,hbb⟩:=hrel;by_cases hkn:k<n
  . obtain ⟨b,off,rfl,hlt,hc⟩:=Ho.out (by have:=Hn.out;omega)
    obtain ⟨y,ro,rc,hy,hcell,hrd⟩:=hc k (by have:=Hn.out;omega);have Hy:=hid hy;replace hcell:=(hbb.cell (p:=⟨b,off+k,none⟩) hlt.2).trans hcell;have hcon:=Hclo.out wr _ _ (zC hy) hbb (Rds.onn hrd hbb);have Hcon:=hid hcon;have Hbb:=hid hbb;clear hy hc hrd hcon hbb;go_wp2_with fail;with_reducible refine Hcon.out.mono ?_
    cases hq:p y with
    | true =>
     have Hq:=hid hq;clear hq;rintro e w1 ⟨rfl,hb1⟩;have Hb2:=hid (Hbb.out.trans (hb1.mono Hbb.out.size));clear hb1;go_wp2;go_ret;refine ⟨⟨_,rfl,by omega,?_,fun _=>?_⟩,Hb2.out⟩
     . have:xss.any p=true:=List.any_eq_true.2 ⟨y,zC Hy.out,Hq.out⟩
       simp [this]
     . rw [zR]
       exact ⟨hkn,hp.out,fun x hx=>by rw [Hy.out] at hx;cases hx;exact Hq.out⟩
    | false =>
     have Hq:=hid hq;clear hq;rintro e w1 ⟨rfl,hb1⟩;have Hb2:=hid (Hbb.out.trans (hb1.mono Hbb.out.size));clear hb1 hcell Hcon;go_wp2;go_roundw
     case rel=>exact ⟨k+1,by omega,by go_num,by show _=false;rw [yAE Hy.out,List.any_append,hp.out];simp [Hq.out],Hb2.out⟩
     case measure=>simp [intOf];omega
  . go_wp2
    go_ret;refine ⟨⟨_,rfl,by omega,?_,fun h=>by omega⟩,hbb⟩;have hq:=hp.out;rw [zH (by have:=Hn.out;omega)] at hq;simp [hq]
theorem containsHE {xss:List (List Int)} {v:Value} {w:World} {A:Nat} {p:List Int->Bool} {c1 c2:Nat} (ha:RdInt64SS A w v xss)
 (hclo:∀ (W:World) (u:Value) (y:List Int),y∈xss->Below w.heap.size w W->RdI W.heap.size W u y->Calls Tryz.prog 219 #[.agg #[u],.pointer (some ⟨c1,0,none⟩),.pointer (some ⟨c2,0,none⟩)] W fun e w'=>e=.returned (.bool (p y))/\Below W.heap.size W w') :
 Calls Tryz.prog 177 #[v,.func (.func 219) #[] #[.pointer (some ⟨c1,0,none⟩),.pointer (some ⟨c2,0,none⟩)]] w fun e w' =>
  e=.returned (.bool (xss.any p))/\Below w.heap.size w w':=by
 have Ha:=hid ha;have Hclo:=hid hclo;obtain ⟨ao,cap,rfl⟩:=ha.shape;clear ha hclo;go_enter Tryz.func177,Tryz.ntmps177;go_wp2_with fail;with_reducible refine (indexHE Ha.out Hclo.out).mono ?_
 rintro e w' ⟨⟨r,rfl,hr,hi,-⟩,hb⟩;have Hi:=hid hi;clear hi;go_wp2;go_ret;refine ⟨yAD ?_,hb⟩;rw [Bool.eq_iff_iff,decide_eq_true_iff];exact Hi.out
theorem hasEqual_c {o:List (List Int)} {y:List Int} {u v:Value} {w:World} {A B:Nat} {f t:Int} (ho:RdInt64SS A w v o) (hy:RdI B w u y) (hC:ColsOk o f t) (ht:t<=(y.length:Int)) :
 Calls Tryz.prog 191 #[v,.agg #[u],.agg #[.int .i64 f,.int .i64 t]] w fun e w'=>e=.returned (.bool (hasE o f t y))/\Below w.heap.size w w':=by
 obtain ⟨vo,vc,rfl⟩:=ho.shape;obtain ⟨ao,cap,rfl⟩:=hy.shape;obtain ⟨T,hT⟩:∃ T,T=(w.alloc (.cells #[.slice ao y.length cap] 88)).alloc (.cells #[.int .i64 f,.int .i64 t] 73):=⟨_,rfl⟩;have z1:(w.alloc (.cells #[.slice ao y.length cap] 88)).heap.size=w.heap.size+1:=by simp
 have hP:Box T w.heap.size [.slice ao y.length cap]:=by rw [hT];exact (Box.new w [.slice ao y.length cap] _).alloc _
 have hQ:Box T (w.heap.size+1) [.int .i64 f,.int .i64 t]:=by
  have h:=Box.new (w.alloc (.cells #[.slice ao y.length cap] 88)) [.int .i64 f,.int .i64 t] 73;rw [z1,<- hT] at h;exact h
 have hbT:Below w.heap.size w T:=by rw [hT];exact ((zB _ _).alloc (zA _) _).alloc (by rw [z1];omega) _
 have hcon:=containsHE (w:=T) (p:=eqF f t y) (c1:=w.heap.size) (c2:=w.heap.size+1) (RdInt64SS.onn ho hbT) (fun V u x hm hV hu=>clo_HE (hP.on hV) (hQ.on hV) hu (Rds.onn (Rds.onn hy hbT) hV) hC.1 (hC.2 x hm) ht);unfold hasE;have Hcon:=hid hcon;have HT:=hid hT;have HbT:=hid hbT;clear hcon hT hbT hP hQ ho hy hC z1 ht;generalize o.length=n at *
 generalize y.length=m at *
 go_enter Tryz.func191,Tryz.ntmps191;go_upto_region 1 with fail;rw [<- HT.out];go_wp2_with fail;with_reducible refine Hcon.out.mono ?_
 rintro e w1 ⟨rfl,hb1⟩;have Hb1:=hid (HbT.out.trans (hb1.mono HbT.out.size));clear hb1;go_wp2;go_ret;exact ⟨rfl,Hb1.out⟩
def outM (o:List (List Int)) (f t:Int) (eq:Bool) (y:List Int):Bool:=hasE o f t y != eq
theorem clo_MD {o:List (List Int)} {y:List Int} {u v:Value} {W:World} {q1 q2 q3:Nat} {f t:Int} {eq:Bool} (hO:Box W q1 [v]) (hF:Box W q2 [.int .i64 f,.int .i64 t]) (hE:Box W q3 [.bool eq]) (ho:RdInt64SS W.heap.size W v o) (hy:RdI W.heap.size W u y) (hC:ColsOk o f t) (ht:t<=(y.length:Int)) :
 Calls Tryz.prog 190 #[.agg #[u],.pointer (some ⟨q1,0,none⟩),.pointer (some ⟨q2,0,none⟩),.pointer (some ⟨q3,0,none⟩)] W fun e w'=>e=.returned (.bool (outM o f t eq y))/\Below W.heap.size W w':=by
 obtain ⟨vo,vc,rfl⟩:=ho.shape;obtain ⟨ao,cap,rfl⟩:=hy.shape;obtain ⟨T,hT⟩:∃ T,T=W.alloc (.cells #[.slice ao y.length cap] 88):=⟨_,rfl⟩;have hbT:Below W.heap.size W T:=by rw [hT];exact (zB _ _).alloc (zA _) _
 have hBT:Box T W.heap.size [.slice ao y.length cap]:=by rw [hT];exact Box.new W [.slice ao y.length cap] _
 have c0:=cell_regrown (hBT.cell 0 _ rfl);have c1:=cell_regrown ((hO.on hbT).cell 0 _ rfl);have c2:=cell_regrown ((hF.on hbT).cell 0 _ rfl);have c3:=cell_regrown ((hF.on hbT).cell 1 _ rfl);have c4:=cell_regrown ((hE.on hbT).cell 0 _ rfl);have hoT:=RdInt64SS.onn ho hbT;have hyT:=Rds.onn hy hbT;have hk:=fun x os=>hasEqual_c (w:=grow (redrawn T x) os) (f:=f) (t:=t) (RdInt64SS.below hoT (below_regrown T x os) (zA _)) (Rds.regrown hyT (zA _) x os) hC ht;unfold outM;obtain ⟨R,hR⟩:∃ R,hasE o f t y=R:=⟨_,rfl⟩;rw [hR] at hk |-;have Hk:=hid hk;have HT:=hid hT;have HbT:=hid hbT;clear hk hT hbT hBT hO hF hE ho hy hoT hyT hC hR;generalize o.length=n at *
 generalize y.length=m at *
 go_enter Tryz.func190,Tryz.ntmps190;go_upto_region 1 with fail;rw [<- HT.out];refine wp_region_quiet_below (by kernel_rfl) (by kernel_rfl) ?_;repeat ((with_reducible refine wpQuiet_step (fun K hK=>?_));go_simp;first | ((with_reducible refine hK _ ?_);clear hK K) | (apply Exists.intro;refine ⟨fun _=>?_,hK _ ?_⟩;((first | (go_at_call 191;with_reducible exact yAI (Hk.out _ _))));clear hK K))
 refine wpQuiet_nil ?_;intro _ hw';obtain ⟨⟨dq,osq⟩,hw''⟩:=hw';subst hw'';have hbq:=below_regrown T dq osq;generalize grow (redrawn T dq) osq=wq at hbq |-;have Hb1:=hid (HbT.out.trans (hbq.mono HbT.out.size));clear hbq c0 c1 c2 c3 c4;go_wp2;go_ret;exact ⟨yAD (by cases R <;> cases eq <;> rfl),Hb1.out⟩
theorem indexMD {xss:List (List Int)} {v:Value} {w:World} {A:Nat} {p:List Int->Bool} {c1 c2 c3:Nat} (ha:RdInt64SS A w v xss)
 (hclo:∀ (W:World) (u:Value) (y:List Int),y∈xss->Below w.heap.size w W->RdI W.heap.size W u y->Calls Tryz.prog 190 #[.agg #[u],.pointer (some ⟨c1,0,none⟩),.pointer (some ⟨c2,0,none⟩),.pointer (some ⟨c3,0,none⟩)] W fun e w'=>e=.returned (.bool (p y))/\Below W.heap.size W w') :
 Calls Tryz.prog 211 #[v,.func (.func 190) #[] #[.pointer (some ⟨c1,0,none⟩),.pointer (some ⟨c2,0,none⟩),.pointer (some ⟨c3,0,none⟩)]] w fun e w' =>
  (∃ r:Int,e=.returned (.int .i64 r)/\-1<=r/\((0<=r ↔ xss.any p=true)/\(0<=r->r.toNat<xss.length/\(xss.take r.toNat).any p=false/\∀ x,xss[r.toNat]?=some x->p x=true)))/\Below w.heap.size w w':=by
 have hle:=ha.le;obtain ⟨ao,cap,rfl,ho⟩:=ha.open;obtain ⟨n,hn⟩:∃ n,n=xss.length:=⟨_,rfl⟩;rw [<- hn];have Hn:=hid hn;have Ho:=hid ho;have Hclo:=hid hclo;have hle':n<=9223372036854775807:=by omega
 clear ho hn hle ha hclo;go_enter Tryz.func211,Tryz.ntmps211;go_wp2;go_loopw [8] (fun i wr=>∃ k:Nat,k<=n/\i=.int .i64 k/\Hid ((xss.take k).any p=false)/\Below w.heap.size w wr) (fun i _=>n - (intOf i).toNat)
 case atStart=>exact ⟨0,zK _,rfl,rfl,zB _ _⟩
 case round =>
  obtain ⟨k,hk,rfl,hp,hbb⟩:=hrel;by_cases hkn:k<n
  . obtain ⟨b,off,rfl,hlt,hc⟩:=Ho.out (by have:=Hn.out;omega)
    obtain ⟨y,ro,rc,hy,hcell,hrd⟩:=hc k (by have:=Hn.out;omega);have Hy:=hid hy;replace hcell:=(hbb.cell (p:=⟨b,off+k,none⟩) hlt.2).trans hcell;have hcon:=Hclo.out wr _ _ (zC hy) hbb (Rds.onn hrd hbb);have Hcon:=hid hcon;have Hbb:=hid hbb;clear hy hc hrd hcon hbb;go_wp2_with fail;with_reducible refine Hcon.out.mono ?_
    cases hq:p y with
    | true =>
     have Hq:=hid hq;clear hq;rintro e w1 ⟨rfl,hb1⟩;have Hb2:=hid (Hbb.out.trans (hb1.mono Hbb.out.size));clear hb1;go_wp2;go_ret;refine ⟨⟨_,rfl,by omega,?_,fun _=>?_⟩,Hb2.out⟩
     . have:xss.any p=true:=List.any_eq_true.2 ⟨y,zC Hy.out,Hq.out⟩
       simp [this]
     . rw [zR]
       exact ⟨hkn,hp.out,fun x hx=>by rw [Hy.out] at hx;cases hx;exact Hq.out⟩
    | false =>
     have Hq:=hid hq;clear hq;rintro e w1 ⟨rfl,hb1⟩;have Hb2:=hid (Hbb.out.trans (hb1.mono Hbb.out.size));clear hb1 hcell Hcon;go_wp2;go_roundw
     case rel=>exact ⟨k+1,by omega,by go_num,by show _=false;rw [yAE Hy.out,List.any_append,hp.out];simp [Hq.out],Hb2.out⟩
     case measure=>simp [intOf];omega
  . go_wp2
    go_ret;refine ⟨⟨_,rfl,by omega,?_,fun h=>by omega⟩,hbb⟩;have hq:=hp.out;rw [zH (by have:=Hn.out;omega)] at hq;simp [hq]
theorem deleteMD {d:List (List Int)} {v:Value} {w:World} {base:Nat} {p:List Int->Bool} {c1 c2 c3:Nat} (ho:OwnCardS base w v d) (hl:d.length<=1000) (hB:base<=w.heap.size)
 (hclo:∀ (W:World) (u:Value) (y:List Int),y∈d->Below base w W->RdI W.heap.size W u y->Calls Tryz.prog 190 #[.agg #[u],.pointer (some ⟨c1,0,none⟩),.pointer (some ⟨c2,0,none⟩),.pointer (some ⟨c3,0,none⟩)] W fun e w'=>e=.returned (.bool (p y))/\Below W.heap.size W w') :
 Calls Tryz.prog 189 #[v,.func (.func 190) #[] #[.pointer (some ⟨c1,0,none⟩),.pointer (some ⟨c2,0,none⟩),.pointer (some ⟨c3,0,none⟩)]] w fun e w'=>(∃ r,e=.returned r/\OwD base w' r (d.filter (fun y=>!p y)))/\Below base w w':=by
 obtain ⟨ao0,c0,rfl⟩:=OwnTM.shape ho;have hidx:=indexMD (w:=w) (p:=p) ho.rds (fun W u y hy hW hu=>hclo W u y hy (hW.mono hB) hu);obtain ⟨n,hn⟩:∃ n,n=d.length:=⟨_,rfl⟩;rw [<- hn] at hl ho hidx |-;have Hn:=hid hn;have Ho:=hid ho;have Hclo:=hid hclo;have Hidx:=hid hidx;clear hn ho hclo hidx;go_enter Tryz.func189,Tryz.ntmps189;go_wp2_with fail;with_reducible refine Hidx.out.mono ?_
 rintro e w1 ⟨⟨r,rfl,hr0,hri,hrk⟩,hb1⟩;by_cases hr:r=-1
 . have Hany:Hid (d.any p=false):=hid (by cases h:d.any p with | false=>rfl | true=>have:=hri.2 h;omega)
   have hd:OwD base w1 (.slice ao0 n c0) (d.filter (fun y=>!p y)):=by
    have h1:d.filter (fun y=>!p y)=d:=List.filter_eq_self.2 (fun y hy=>by have:=List.any_eq_false.1 Hany.out y hy;simpa using this);rw [h1];exact (OwD.own Ho.out).onB hb1
   have Hd:=hid hd;have Hb:=hid (hb1.mono hB);subst hr;clear hb1 hri hrk hd hr0;go_wp2;go_ret;exact ⟨⟨_,rfl,Hd.out⟩,Hb.out⟩
 . obtain ⟨k0,rfl⟩:∃ k0:Nat,r=(k0:Int):=⟨r.toNat,by omega⟩
   have h2:=hrk (by omega);rw [zR] at h2;obtain ⟨hk0,hpre,hat⟩:=h2;have hk0:k0<n:=by have:=Hn.out;omega
   have hx0:d[k0]?=some (d[k0]'(by have:=Hn.out;omega)):=zF (by have:=Hn.out;omega);have hp0:=hat _ hx0;obtain ⟨g,c9,hv,-,-,-⟩:=OwnTM.addr Ho.out (by have:=Hn.out;omega);rw [<- Hn.out] at hv;injection hv with e1 e2 e3;subst e1;subst e3;obtain ⟨hs,hO,hhl,hrows,hsep⟩:=OwnTM.orows Ho.out;have Hsep:=hid hsep;clear hsep;have hgb:base<=g:=(hO.lt g rfl).1;have hgw:g<w.heap.size:=(hO.lt g rfl).2;have HR:Hid (Rws (OwRow base w.heap.size) (fun k=>k=g\/k<base) w (hs.take k0) ((d.take k0).filter (fun y=>!p y))):=hid (by
    have h1:(d.take k0).filter (fun y=>!p y)=d.take k0:=List.filter_eq_self.2 (fun y hy=>by have:=List.any_eq_false.1 hpre y hy;simpa using this);rw [h1];refine ⟨by rw [zI,zI,hhl],fun i h x q1 q2=>?_⟩;rw [List.getElem?_take] at q1 q2;split at q1
    . rename_i hi
      rw [if_pos hi] at q2;exact hrows i h x q1 q2
    . cases q1)
   have HR0:Hid (Rws (OwRow base w.heap.size) (fun k=>k=g\/k<base) w (hs.take k0) ((d.take (k0+1)).filter (fun y=>!p y))):=hid (by
    rw [yAE hx0,List.filter_append,show [d[k0]'(by have:=Hn.out;omega)].filter (fun y=>!p y)=[] by simp [hp0],List.append_nil];exact HR.out)
   have HO1:Hid (Own eS 88 base w1 (.slice (some ⟨g,0,none⟩) n c0) hs):=hid (hO.below hb1 (zA _));have HA1:Hid (Agr (fun k=>k=g) w w1):=hid (Agr.on hb1);have Hhs:=hid (show n=hs.length by rw [hhl];exact Hn.out);have Hrows:=hid hrows;have Hgb:=hid hgb;have Hgw:=hid hgw;have hkn1:((k0:Int) == -1)=false:=beq_eq_false_iff_ne.2 (by omega);clear hat hx0 hp0 hO hhl hrows hb1 hri hrk hpre HR e2 hgb hgw;go_wp2;go_loopw [5,6,7] (fun iv jv _ wr=>∃ (i j:Nat) (hs':List SlV),i<j/\j<=n/\iv=.int .i64 i/\jv=.int .i64 j/\Hid (n=hs'.length/\(hs'.take i).Sublist (hs.take j))/\Hid (hs'.drop j=hs.drop j)/\Hid (Rws (OwRow base w.heap.size) (fun k=>k=g\/k<base) w (hs'.take i) ((d.take j).filter (fun y=>!p y)))/\Hid (Own eS 88 base wr (.slice (some ⟨g,0,none⟩) n c0) hs')/\Hid (Agr (fun k=>k=g) w wr)) (fun _ j _ _=>n - (intOf j).toNat)
   case atStart=>exact ⟨k0,k0+1,hs,by omega,by omega,rfl,by go_num,hid ⟨Hhs.out,List.take_sublist_take_left (by omega)⟩,hid rfl,HR0,HO1,HA1⟩
   case round =>
    obtain ⟨i,j,hs',hij,hjn,rfl,rfl,Hls,Hdr,HRs,HO,HA⟩:=hrel;have Hl':=hid Hls.out.1;have Hsu:=hid Hls.out.2;clear Hls;clear HO1 HA1 HR0;by_cases hj:j<n
    . obtain ⟨x,hx⟩:∃ x,d[j]?=some x:=⟨_,zF (by have:=Hn.out;omega)⟩
      obtain ⟨h,hh⟩:∃ h,hs[j]?=some h:=⟨_,zF (by have:=Hhs.out;omega)⟩;have hh':hs'[j]?=some h:=by
       have e:=congrArg (fun l=>l[0]?) Hdr.out;simp only [List.getElem?_drop,Nat.add_zero] at e;rw [e];exact hh
      have hfr:=Hrows.out j h x hh hx;have hrow:RdI wr.heap.size wr h.val x:=OwRow.rd (hfr.step HA.out (fun k h _=>.inl h) (S'':=fun _=>False) (fun k h _=>h.elim)).now;obtain ⟨ro,rc,hhv⟩:=hrow.shape;have hcj:wr.cell? ⟨g,j,none⟩=some (.slice ro x.length rc):=by
       have h9:=Own.cellS HO.out Hl'.out hh';rw [h9,hhv]
      obtain ⟨hci,hfi⟩:=Own.cellE (E:=eS) HO.out Hl'.out (k:=i) (j:=0) (by omega) (by decide);simp only [show eS.sz=1 from rfl,Nat.mul_one,Nat.add_zero] at hci hfi;rw [hhv] at hrow;obtain ⟨W,hW⟩:∃ W,W=wr.alloc (.cells #[.slice ro x.length rc] 88):=⟨_,rfl⟩;have hbW:Below wr.heap.size wr W:=by rw [hW];exact (zB _ _).alloc (zA _) _
      have hX:Box W wr.heap.size [.slice ro x.length rc]:=by rw [hW];exact Box.new wr [.slice ro x.length rc] _
      have hAW:=HA.out.trans (Agr.on (S:=fun k=>k=g) hbW) (fun k h _=>h);have hcon:=Hclo.out W _ x (zC hx) (hAW.below (fun k h=>by have:=Hgb.out;omega) hB) (Rds.onn hrow hbW);have HOW:=hid (HO.out.below hbW (zA _));have HAW:=hid hAW;have Hcon:=hid hcon;have HX:=hid hX;have HW:=hid hW;have Hhv:=hid hhv;have Hfr:=hid hfr;have Hx:=hid hx;have Hh':=hid hh';have Hh:=hid hh;have hzr:=HA.out.size;have hbx:g ≠ wr.heap.size:=by have:=Hgw.out;omega
      have x0:=hX.cell 0 _ rfl;clear hcon hW hbW hX hAW hhv hfr hrow hx hh hh' HA HO;obtain ⟨N,hN⟩:∃ N,x.length=N:=⟨_,rfl⟩;rw [hN] at HW hcj HX Hcon Hhv x0;clear hN;go_upto_region 8 with fail;rw [<- HW.out];cases hq:p x with
      | false =>
       rw [hq] at Hcon;have Hq:=hid hq;clear hq;go_wp2_with fail;with_reducible refine Hcon.out.mono ?_
       rintro e w2 ⟨rfl,hb2⟩;have hO2:=HOW.out.below hb2 (zA _);obtain ⟨⟨u9,hc2⟩,hf2⟩:=Own.cellE (E:=eS) hO2 Hl'.out (k:=i) (j:=0) (by omega) (by decide);have hk2:hs'[i]?=some (hs'[i]'(by have:=Hl'.out;omega)):=zF (by have:=Hl'.out;omega);have hst:=Own.store1 (E:=eS) (by decide) hO2 Hl'.out (x:=hs'[i]'(by have:=Hl'.out;omega)) (y:=h) (v:=.slice ro N rc) hk2 (j:=0) (by decide) (by rw [<- Hhv.out];rfl) trivial;simp only [show eS.sz=1 from rfl,Nat.mul_one,Nat.add_zero] at hst hc2 hf2;have hx2:=HX.out.on hb2;have x2:=hx2.cell 0 _ rfl;have HO3:=hid hst.1;have HA3:=hid ((HAW.out.trans (Agr.on (S:=fun k=>k=g) hb2) (fun k h _=>h)).trans (Agr.of_grown1 (S:=fun k=>k=g) hst.2 rfl) (fun k h _=>h));clear hO2 hst hb2 hx2 hcj x0 hci hfi hk2;go_wp2;go_roundw
       case rel =>
        refine ⟨i+1,j+1,hs'.set i h,by omega,by omega,by go_num,by go_num,hid ⟨by rw [List.length_set];exact Hl'.out,?_⟩,hid ?_,hid ?_,HO3,HA3⟩
        . have e1:(hs'.set i h).take (i+1)=hs'.take i++[h]:=by
           have hil:i<hs'.length:=by have:=Hl'.out;omega
           rw [List.take_add_one,List.take_set_of_le (zA i),List.getElem?_set_self hil];rfl
          rw [e1,yAE Hh.out];exact Hsu.out.append (List.Sublist.refl _)
        . rw [List.drop_set_of_lt (by omega)]
          have e:=congrArg (List.drop 1) Hdr.out;simpa [List.drop_drop] using e
        . have e1:(hs'.set i h).take (i+1)=hs'.take i++[h]:=by
           have hil:i<hs'.length:=by have:=Hl'.out;omega
           rw [List.take_add_one,List.take_set_of_le (zA i),List.getElem?_set_self hil];rfl
          have e2:(d.take (j+1)).filter (fun y=>!p y)=(d.take j).filter (fun y=>!p y)++[x]:=by
           rw [yAE Hx.out,List.filter_append,show [x].filter (fun y=>!p y)=[x] by simp [Hq.out]]
          rw [e1,e2];exact HRs.out.snoc Hfr.out
       case measure=>simp [intOf];omega
      | true =>
       rw [hq] at Hcon;have Hq:=hid hq;clear hq;go_wp2_with fail;with_reducible refine Hcon.out.mono ?_
       rintro e w2 ⟨rfl,hb2⟩;have HO3:=hid (HOW.out.below hb2 (zA _));have HA3:=hid (HAW.out.trans (Agr.on (S:=fun k=>k=g) hb2) (fun k h _=>h));clear hb2 hcj x0 hci hfi;go_wp2;go_roundw
       case rel =>
        refine ⟨i,j+1,hs',by omega,by omega,rfl,by go_num,hid ⟨Hl'.out,Hsu.out.trans (List.take_sublist_take_left (by omega))⟩,hid ?_,hid ?_,HO3,HA3⟩
        . have e:=congrArg (List.drop 1) Hdr.out
          simpa [List.drop_drop] using e
        . have e2:(d.take (j+1)).filter (fun y=>!p y)=(d.take j).filter (fun y=>!p y):=by
           rw [yAE Hx.out,List.filter_append,show [x].filter (fun y=>!p y)=[] by simp [Hq.out],List.append_nil]
          rw [e2];exact HRs.out
       case measure=>simp [intOf];omega
    . obtain rfl:j=n:=by omega
      have hltz:¬ (j:Int)<(j:Int):=by omega
      obtain ⟨hs9,h91,h92,h93,h94⟩:=ownS_clear (j - i) i wr hs' HO.out Hl'.out (by omega);have hcz:c0=c0:=rfl;have hcap:=(HO.out.rds).cap.1;have hcl:∀ ty,(Builtin.clear_ #[78] ty #[.slice (some ⟨g,i,none⟩) (j - i) (c0 - i)]).run Tryz.prog wr=.ok (.tuple #[]) (wr.setCells g i (List.replicate (j - i) (.slice none 0 0))) :=
       fun ty=>run_clear_card wr _ _ ty _ _ Tryz.underlying78 (fun w=>zeroS_run w) rfl rfl g i _ _ (by omega)
        (fun t ht=>by have h:=(Own.cellE (E:=eS) HO.out Hl'.out (k:=i+t) (j:=0) (by omega) (by decide)).1;simp only [show eS.sz=1 from rfl,Nat.mul_one,Nat.add_zero] at h;obtain ⟨u,hu⟩:=h;rw [hu];rfl)
        (fun t ht=>by have h:=(Own.cellE (E:=eS) HO.out Hl'.out (k:=i+t) (j:=0) (by omega) (by decide)).2;simp only [show eS.sz=1 from rfl,Nat.mul_one,Nat.add_zero] at h;exact h)
      have hAf:=HA.out.trans h94 (fun k h _=>h);have HF:Hid (OwD base (wr.setCells g i (List.replicate (j - i) (.slice none 0 0))) (.slice (some ⟨g,0,none⟩) i c0) (d.filter (fun y=>!p y))):=hid (by
       have hR:=HRs.out;rw [show d.take j=d from zH (by have:=Hn.out;omega),<- h93] at hR;exact OwD.of_rows h91 h92.symm (by omega) hR hAf hAf.size (by rw [h93];exact Hsep.out.sub (Hsu.out.trans (List.take_sublist _ _))))
      have HB9:Hid (Below base w (wr.setCells g i (List.replicate (j - i) (.slice none 0 0)))):=hid (hAf.below (fun k h=>by have:=Hgb.out;omega) hB);have hij2:(i:Int)<=(j:Int):=by omega
      have hic:(i:Int)<=(c0:Int):=by omega
      have hjc:(j:Int)<=(c0:Int):=by omega
      generalize wr.setCells g i (List.replicate (j - i) (.slice none 0 0))=W9 at hcl HF HB9;clear h91 h92 h93 h94 hAf hcz;go_wp2;go_ret;exact ⟨⟨_,rfl,HF.out⟩,HB9.out⟩
theorem matched_c {d o:List (List Int)} {u v:Value} {w:World} {A B q:Nat} {f t:Int} (eq:Bool) (hF:Box w q [.int .i64 f,.int .i64 t]) (hd:RdInt64SS A w u d) (ho:RdInt64SS B w v o) (hr:RowsOk d) (hCd:ColsOk d f t) (hCo:ColsOk o f t) :
 Calls Tryz.prog 188 #[u,v,.bool eq,.pointer (some ⟨q,0,none⟩)] w fun e w'=>(∃ r,e=.returned r/\OwD w.heap.size w' r (d.filter (fun y=>!outM o f t eq y)))/\Below w.heap.size w w':=by
 obtain ⟨uo,uc,rfl⟩:=hd.shape;obtain ⟨vo,vc,rfl⟩:=ho.shape;obtain ⟨T,hT⟩:∃ T,T=(w.alloc (.cells #[.slice vo o.length vc] 78)).alloc (.cells #[.bool eq] 4):=⟨_,rfl⟩;have z1:(w.alloc (.cells #[.slice vo o.length vc] 78)).heap.size=w.heap.size+1:=by simp
 have hP:Box T w.heap.size [.slice vo o.length vc]:=by rw [hT];exact (Box.new w [.slice vo o.length vc] _).alloc _
 have hQ:Box T (w.heap.size+1) [.bool eq]:=by
  have h:=Box.new (w.alloc (.cells #[.slice vo o.length vc] 78)) [.bool eq] 4;rw [z1,<- hT] at h;exact h
 have hbT:Below w.heap.size w T:=by rw [hT];exact ((zB _ _).alloc (zA _) _).alloc (by rw [z1];omega) _
 have hnd:=newDeck_c (RdInt64SS.onn hd hbT) hr;have Hnd:=hid hnd;have HP:=hid hP;have HQ:=hid hQ;have HF:=hid (hF.on hbT);have Ho:=hid (RdInt64SS.onn ho hbT);have HCd:=hid hCd;have HCo:=hid hCo;have HT:=hid hT;have HbT:=hid hbT;have hl:d.length<=1000:=by have:=hr.1;omega
 clear hnd hP hQ hF ho hd hCd hCo hT hbT z1 hr;obtain ⟨n,hn⟩:∃ n,n=d.length:=⟨_,rfl⟩;obtain ⟨m,hm⟩:∃ m,m=o.length:=⟨_,rfl⟩;rw [<- hn] at Hnd hl |-;rw [<- hm] at HP Ho HT |-;have Hn:=hid hn;have Hm:=hid hm;clear hn hm;go_enter Tryz.func188,Tryz.ntmps188;go_upto_region 1 with fail;rw [<- HT.out];go_wp2_with fail;with_reducible refine Hnd.out.mono ?_
 rintro e w2 ⟨⟨r,rfl,hO⟩,hb2⟩;have hP2:=HP.out.on hb2;have hQ2:=HQ.out.on hb2;have hF2:=HF.out.on hb2;have ho2:=RdInt64SS.onn Ho.out hb2;have p1:=HP.out.lt;have p2:=HQ.out.lt;have p3:=HF.out.lt;have hdel:=deleteMD (w:=w2) (base:=T.heap.size) (p:=outM o f t eq) (c1:=w.heap.size) (c2:=q) (c3:=w.heap.size+1) hO (by have:=Hn.out;omega) hb2.size (fun V u y hy hV hu =>
  clo_MD (hP2.below hV p1) (hF2.below hV p3) (hQ2.below hV p2) (RdInt64SS.mono (RdInt64SS.below (RdInt64SS.below Ho.out hb2 (zA _)) hV (zA _)) (zO hb2.size hV.size)) hu HCo.out (HCd.out.2 y hy))
 have Hdel:=hid hdel;have hz1:=HbT.out.size;have Hb2:=hid (HbT.out.trans (hb2.mono hz1));clear hO hb2 hP2 hQ2 hF2 ho2 p1 p2 p3 hdel;go_wp2_with fail;with_reducible refine Hdel.out.mono ?_
 rintro e w3 ⟨⟨r3,rfl,hF3⟩,hb3⟩;have HFr:=hid (hF3.mono hz1);have Hb3:=hid (Hb2.out.trans (hb3.mono hz1));clear hF3 hb3;go_wp2;go_ret;exact ⟨⟨_,rfl,HFr.out⟩,Hb3.out⟩
theorem fil_true (a b:List (List Int)) (f t:Int):a.filter (fun y=>!outM b f t true y)=a.filter (hasE b f t):=by
 refine List.filter_congr fun y _=>?_;unfold outM;cases hasE b f t y <;> rfl
theorem fil_false (a b:List (List Int)) (f t:Int):a.filter (fun y=>!outM b f t false y)=a.filter (fun y=>!hasE b f t y):=by
 refine List.filter_congr fun y _=>?_;unfold outM;cases hasE b f t y <;> rfl
def MtPost (R:Int) (d1 d3:List (List Int)) (n:Nat) (e:Ending) (w':World):Prop :=
 ∃ r,e=.returned (.tuple #[r,.int .i64 R])/\(R=0->∃ g r1 r2 r3 r4,r=.slice (some ⟨g,0,none⟩) 4 4/\Box w' g [r1,r2,r3,r4]/\FrD n w' r1 d1/\FrD n w' r3 d3)
theorem MtPost.no {R:Int} {d1 d3:List (List Int)} {n:Nat} {e:Ending} {w':World} {r:Value} (h:e=.returned (.tuple #[r,.int .i64 R])) (hR:R ≠ 0):MtPost R d1 d3 n e w':=⟨r,h,fun q=>absurd q hR⟩
theorem MtPost.yes {R:Int} {d1 d3:List (List Int)} {n:Nat} {w:World} {e:TypeId} {r1 c1 r3 c3:Value} (h1:FrD n w r1 d1) (h3:FrD n w r3 d3) (hn:n<=w.heap.size) :
 MtPost R d1 d3 n (.returned (.tuple #[.slice (some ⟨w.heap.size,0,none⟩) 4 4,.int .i64 R])) (w.alloc (.cells #[r1,c1,r3,c3] e)) :=
 have hb:Below w.heap.size w (w.alloc (.cells #[r1,c1,r3,c3] e)):=(zB _ _).alloc (zA _) _
 ⟨_,rfl,fun _=>⟨_,r1,c1,r3,c3,rfl,Box.new w [r1,c1,r3,c3] e,h1.onB hb,h3.onB hb⟩⟩
def MtPostO (R:Int) (d1 d3:List (List Int)) (n:Nat) (e:Ending) (w':World):Prop :=
 ∃ r,e=.returned (.tuple #[r,.int .i64 R])/\(R=0->∃ g r1 r2 r3 r4,r=.slice (some ⟨g,0,none⟩) 4 4/\Box w' g [r1,r2,r3,r4]/\OwD n w' r1 d1/\OwD n w' r3 d3)
theorem MtPostO.no {R:Int} {d1 d3:List (List Int)} {n:Nat} {e:Ending} {w':World} {r:Value} (h:e=.returned (.tuple #[r,.int .i64 R])) (hR:R ≠ 0):MtPostO R d1 d3 n e w':=⟨r,h,fun q=>absurd q hR⟩
theorem MtPostO.yes {R:Int} {d1 d3:List (List Int)} {n:Nat} {w:World} {e:TypeId} {r1 c1 r3 c3:Value} (h1:OwD n w r1 d1) (h3:OwD n w r3 d3) (hn:n<=w.heap.size) :
 MtPostO R d1 d3 n (.returned (.tuple #[.slice (some ⟨w.heap.size,0,none⟩) 4 4,.int .i64 R])) (w.alloc (.cells #[r1,c1,r3,c3] e)) :=
 have hb:Below w.heap.size w (w.alloc (.cells #[r1,c1,r3,c3] e)):=(zB _ _).alloc (zA _) _
 ⟨_,rfl,fun _=>⟨_,r1,c1,r3,c3,rfl,Box.new w [r1,c1,r3,c3] e,h1.onB hb,h3.onB hb⟩⟩
theorem MatchDecks_c {a b:List (List Int)} {u v:Value} {w:World} {A B:Nat} {f t:Int} (ha:RdInt64SS A w u a) (hb:RdInt64SS B w v b) :
 Calls Tryz.prog 146 #[u,v,.agg #[.int .i64 f,.int .i64 t]] w fun e w'=>MtPostO (matC a b f t) (a.filter (hasE b f t)) (a.filter (fun y=>!hasE b f t y)) w.heap.size e w'/\Below w.heap.size w w':=by
 obtain ⟨i0,hi,hz0,hz1,hz2c⟩:=info_parts Tryz.infoCard;obtain ⟨ao,ac,rfl⟩:=ha.shape;obtain ⟨bo,bc,rfl⟩:=hb.shape;obtain ⟨T,hT⟩:∃ T,T=w.alloc (.cells #[.int .i64 f,.int .i64 t] 73):=⟨_,rfl⟩;have hbT:Below w.heap.size w T:=by rw [hT];exact (zB _ _).alloc (zA _) _
 have hBT:Box T w.heap.size [.int .i64 f,.int .i64 t]:=by rw [hT];exact Box.new w [.int .i64 f,.int .i64 t] _
 have haT:=RdInt64SS.onn ha hbT;have hbT2:=RdInt64SS.onn hb hbT;obtain ⟨T2,hT2⟩:∃ T2,T2=T.alloc (.cells #[.slice ao a.length ac,.slice bo b.length bc] 78):=⟨_,rfl⟩;have hbb:Below T.heap.size T T2:=by rw [hT2];exact (zB _ _).alloc (zA _) _
 have hds:RdDs T2.heap.size T2 (.slice (some ⟨T.heap.size,0,none⟩) 2 2) [a,b]:=by
  rw [hT2];refine RdDs.lit (n:=2) (ds:=[a,b]) (hs:=[⟨ao,a.length,ac⟩,⟨bo,b.length,bc⟩]) rfl rfl rfl (by omega) _ (fun i h x e1 e2=>?_);match i,e1,e2 with
  | 0,e1,e2=>cases e1;cases e2;exact haT
  | 1,e1,e2=>cases e1;cases e2;exact hbT2
 have hcc:=collateCode_c (f:=f) (t:=t) (ts:=[]) hds (Rds.nil eT 0 T2) (by simp) (by simp) (by simp);obtain ⟨C,hC⟩:∃ C,C=colC [a,b] f t []:=⟨_,rfl⟩;rw [<- hC] at hcc;have HC:=hid hC;have Hcc:=hid hcc;have hB2:=hBT.on hbb;have f0:=hBT.cell 0 _ rfl;have f1:=hBT.cell 1 _ rfl;have Hb2:=hid (hbT.trans (hbb.mono hbT.size));have HB2:=hid hB2;have Ha2:=hid (RdInt64SS.onn haT hbb);have HbD2:=hid (RdInt64SS.onn hbT2 hbb);have HT:=hid hT;have HT2:=hid hT2;clear hT hbT hBT haT hbT2 hT2 hbb hds hcc hB2 hC ha hb;obtain ⟨R,hR⟩:∃ R,matC a b f t=R:=⟨_,rfl⟩;rw [hR];have HR:=hid hR;clear hR;obtain ⟨n,hn⟩:∃ n,n=a.length:=⟨_,rfl⟩;obtain ⟨m,hm⟩:∃ m,m=b.length:=⟨_,rfl⟩;rw [<- hn] at Ha2 HT2 |-;rw [<- hm] at HbD2 HT2 |-;have Hn:=hid hn;have Hm:=hid hm;clear hn hm;go_enter Tryz.func146,Tryz.ntmps146;go_upto_region 1 with fail;rw [<- HT.out];go_wp2_with fail;rw [<- HT2.out];with_reducible refine Hcc.out.mono ?_
 rintro e w1 ⟨rfl,hb1⟩;have hB1:=HB2.out.on hb1;have ha1:=RdInt64SS.onn Ha2.out hb1;have hd1:=RdInt64SS.onn HbD2.out hb1;have g0:=hB1.cell 0 _ rfl;have g1:=hB1.cell 1 _ rfl;have HB1:=hid hB1;have Ha1:=hid ha1;have Hd1:=hid hd1;have Hb1:=hid (Hb2.out.trans (hb1.mono Hb2.out.size));clear hb1 hB1 ha1 hd1 f0 f1;by_cases hc0:C=0
 . have hz:=twoC_zero (a:=a) (b:=b) (f:=f) (t:=t) (by unfold twoC;rw [<- HC.out];exact hc0)
   have HZ:=hid hz;have HR2:Hid (R=if ¬ (ascB a f t=true/\ascB b f t=true) then 6 else 0):=hid (by rw [<- HR.out];unfold matC;rw [if_neg (by unfold twoC;rw [<- HC.out];exact fun h=>h hc0)]);subst hc0;have hla:=(yAF hz.1.1).1;have hlb:=(yAF hz.2.1).1;rw [<- Hn.out] at hla;rw [<- Hm.out] at hlb;clear hz;have Ha4:=Ha1;have Hd4:=Hd1;have HB4:=HB1;have Hb4:=Hb1;obtain ⟨w4,hw4⟩:∃ x,x=w1:=⟨_,rfl⟩;subst hw4;obtain ⟨p,hp⟩:∃ p,p=decide (¬ (ascB a f t=true/\ascB b f t=true)):=⟨_,rfl⟩;have Hp:=hid hp;clear hp;go_upto_region 4 with fail;go_cut [19] (fun c wx=>c=.bool p/\Hid (Below w4.heap.size w4 wx))
   case first =>
    have h1:=isAscending_c Ha4.out (yAT HZ.out.1.1 HZ.out.1.2.1) (by have:=Hn.out;omega);cases hxa:ascB a f t with
    | false =>
     rw [hxa] at h1;have H1:=hid h1;have hp0:Hid (p=true):=hid (by rw [Hp.out];exact decide_eq_true (fun h=>by rw [hxa] at h;cases h.1));clear h1 hxa;go_wp2_with fail;with_reducible refine H1.out.mono ?_
     rintro e w5 ⟨rfl,hb5⟩;have Hb5:=hid hb5;clear hb5;go_wp2_with fail;go_meet;exact ⟨by rw [hp0.out],Hb5⟩
    | true =>
     rw [hxa] at h1;have H1:=hid h1;have Hxa:=hid hxa;clear h1 hxa;go_wp2_with fail;with_reducible refine H1.out.mono ?_
     rintro e w5 ⟨rfl,hb5⟩;have hB5:=HB4.out.on hb5;have k0:=hB5.cell 0 _ rfl;have k1:=hB5.cell 1 _ rfl;have h2:=isAscending_c (RdInt64SS.onn Hd4.out hb5) (yAT HZ.out.2.1 HZ.out.2.2.1) (by have:=Hm.out;omega);obtain ⟨y,hy⟩:∃ y,y=ascB b f t:=⟨_,rfl⟩;rw [<- hy] at h2;have Hy:=hid hy;have H2:=hid h2;have Hb5:=hid hb5;clear h2 hb5 hB5 hy g0 g1;go_wp2_with fail;with_reducible refine H2.out.mono ?_
     rintro e w6 ⟨rfl,hb6⟩;have Hb6:Hid (Below w4.heap.size w4 w6):=hid (Hb5.out.trans (hb6.mono Hb5.out.size));clear hb6;go_wp2_with fail;go_meet;refine ⟨?_,Hb6⟩;rw [Hp.out,Hxa.out,<- Hy.out];cases y <;> rfl
   case rest =>
    obtain ⟨rfl,Hc⟩:=hcut;obtain ⟨w6,hw6⟩:∃ x,x=wc:=⟨_,rfl⟩;subst hw6;have hB6:=HB4.out.on Hc.out;have g0:=hB6.cell 0 _ rfl;have g1:=hB6.cell 1 _ rfl;have Ha6:=hid (RdInt64SS.onn Ha4.out Hc.out);have Hd6:=hid (RdInt64SS.onn Hd4.out Hc.out);have HB6:=hid hB6;have Hb6:=hid (Hb4.out.trans (Hc.out.mono Hb4.out.size));clear hB6 Hc;cases p with
    | true =>
     have HE:Hid (R=6):=hid (by rw [HR2.out,if_pos (of_decide_eq_true Hp.out.symm)]);go_wp2;go_ret2;exact ⟨MtPostO.no (r:=.slice none 0 0) (by rw [HE.out];rfl) (by rw [HE.out];decide),Hb6.out⟩
    | false =>
     have HE:Hid (R=0):=hid (by rw [HR2.out,if_neg (of_decide_eq_false Hp.out.symm)]);have HCa:=hid (yAT HZ.out.1.1 HZ.out.1.2.1);have HCb:=hid (yAT HZ.out.2.1 HZ.out.2.2.1);have Hra:=hid (yAY HZ.out.1.1);have Hrb:=hid (yAY HZ.out.2.1);have h1:=matched_c true HB6.out Ha6.out Hd6.out Hra.out HCa.out HCb.out;have H1:=hid h1;clear h1 g0 g1;go_wp2_with fail;with_reducible refine H1.out.mono ?_
     rintro e wa ⟨⟨ra,rfl,hFa⟩,hba⟩;have h2:=matched_c true (HB6.out.on hba) (RdInt64SS.onn Hd6.out hba) (RdInt64SS.onn Ha6.out hba) Hrb.out HCb.out HCa.out;have H2:=hid h2;have HFa:=hid hFa;have Hba:=hid hba;clear h2 hFa hba;go_wp2_with fail;with_reducible refine H2.out.mono ?_
     rintro e wb ⟨⟨rb,rfl,hFb⟩,hbb⟩;have HFb:=hid hFb;have HFa2:=hid (HFa.out.onB hbb);have Hbb:=hid (Hba.out.trans (hbb.mono Hba.out.size));clear hFb hbb;have h3:=matched_c false (HB6.out.on Hbb.out) (RdInt64SS.onn Ha6.out Hbb.out) (RdInt64SS.onn Hd6.out Hbb.out) Hra.out HCa.out HCb.out;have H3:=hid h3;clear h3;go_wp2_with fail;with_reducible refine H3.out.mono ?_
     rintro e wx ⟨⟨rx,rfl,hFx⟩,hbx⟩;have HFx:=hid (hFx.mono (zO Hb6.out.size Hbb.out.size));have HFa3:=hid ((HFa2.out.onB hbx).mono Hb6.out.size);have HFb3:=hid (HFb.out.onB hbx);have Hbx:=hid (Hbb.out.trans (hbx.mono Hbb.out.size));clear hFx hbx;have h4:=matched_c false (HB6.out.on Hbx.out) (RdInt64SS.onn Hd6.out Hbx.out) (RdInt64SS.onn Ha6.out Hbx.out) Hrb.out HCb.out HCa.out;have H4:=hid h4;clear h4;go_wp2_with fail;with_reducible refine H4.out.mono ?_
     rintro e wy ⟨⟨ry,rfl,hFy⟩,hby⟩;have hFa5:=HFa3.out.onB hby;have hFx5:=HFx.out.onB hby;rw [fil_true] at hFa5;rw [fil_false] at hFx5;obtain ⟨o1,k1,rfl⟩:=hFa5.shape;obtain ⟨o2,k2,rfl⟩:=HFb3.out.shape;obtain ⟨o3,k3,rfl⟩:=hFx5.shape;obtain ⟨o4,k4,rfl⟩:=hFy.shape;have Hfin:=hid (MtPostO.yes (w:=wy) (R:=R) (e:=78) (c1:=.slice o2 (b.filter (fun y=>!outM a f t true y)).length k2) (c3:=.slice o4 (b.filter (fun y=>!outM a f t false y)).length k4) hFa5 hFx5 (zO (Hb6.out.trans (Hbx.out.mono Hb6.out.size)).size hby.size));have Hby:=hid ((Hb6.out.trans (Hbx.out.mono Hb6.out.size)).trans (hby.mono (zO Hb6.out.size Hbx.out.size)));have HbA:Hid (Below w.heap.size w (wy.alloc (.cells #[.slice o1 (a.filter (hasE b f t)).length k1,.slice o2 (b.filter (fun y=>!outM a f t true y)).length k2,.slice o3 (a.filter (fun y=>!hasE b f t y)).length k3,.slice o4 (b.filter (fun y=>!outM a f t false y)).length k4] 78))):=hid (Hby.out.alloc Hby.out.size _);clear hFy hby hFa5 hFx5;go_wp2;go_ret2;refine ⟨?_,HbA.out⟩;have h9:=Hfin.out;rw [HE.out] at h9 |-;exact h9
 . have HE:Hid (R=C):=hid (by rw [<- HR.out];unfold matC;rw [if_pos (by unfold twoC;rw [<- HC.out];exact hc0)];unfold twoC;exact HC.out.symm)
   have HE0:Hid (R ≠ 0):=hid (by rw [HE.out];exact hc0);have hc1:(C != 0)=true:=by simpa using hc0
   go_wp2;go_ret2;exact ⟨MtPostO.no (r:=.slice none 0 0) (by rw [HE.out];rfl) HE0.out,Hb1.out⟩
theorem asc_ltK {d:List (List Int)} {f t:Int} (hC:ColsOk d f t) (h:ascB d f t=true):∀ (j i:Nat),i<j->j<d.length->ltK d f t (i:Int) (j:Int):=by
 have hs:∀ m:Nat,m+1<d.length->ltK d f t (m:Int) ((m+1:Nat):Int):=by
  intro m hm;have h1:=(selI_nil (stpP d f t) d.length).1 (of_decide_eq_true h) (m+1) hm;rw [stp_succ] at h1;have h2:=of_decide_eq_false h1;unfold cmpK at h2;unfold ltK;rw [zR,zR];rcases cmpN_pos (by rw [key_len hC hm,key_len hC (show m<d.length by omega)]) h2 with e | e
  . exact .inr ⟨e.symm,by omega⟩
  . exact .inl e
 intro j;induction j with
 | zero=>intro i hi;omega
 | succ j ih =>
  intro i hi hj;rcases Nat.lt_or_ge i j with h1 | h1
  . exact ltK_trans (ih i h1 (by omega)) (hs j hj)
  . rw [show i=j by omega];exact hs j hj
theorem keyC_left {a b:List (List Int)} {f t:Int} {i:Nat} (hi:i<a.length):keyC (a++b) f t i=keyC a f t i:=by
 unfold keyC;rw [List.getD_eq_getElem?_getD,List.getD_eq_getElem?_getD,zL hi]
theorem keyC_right {a b:List (List Int)} {f t:Int} {k:Nat}:keyC (a++b) f t (a.length+k)=keyC b f t k:=by
 unfold keyC;rw [List.getD_eq_getElem?_getD,List.getD_eq_getElem?_getD,zJ (by omega),show a.length+k - a.length=k by omega]
theorem ltK_left {a b:List (List Int)} {f t:Int} {i j:Nat} (hi:i<a.length) (hj:j<a.length) (h:ltK a f t (i:Int) (j:Int)):ltK (a++b) f t (i:Int) (j:Int):=by
 unfold ltK at h |-;rw [zR,zR] at h |-;rw [keyC_left hi,keyC_left hj];exact h
theorem ltK_right {a b:List (List Int)} {f t:Int} {i j:Nat} (h:ltK b f t (i:Int) (j:Int)):ltK (a++b) f t ((a.length+i:Nat):Int) ((a.length+j:Nat):Int):=by
 unfold ltK at h |-;rw [zR,zR] at h |-;rw [keyC_right,keyC_right];rcases h with h | ⟨e,h⟩
 . exact .inl h
 . exact .inr ⟨e,by omega⟩
structure MI (a b:List (List Int)) (f t:Int) (i k:Nat) (Z:List Int):Prop where
 perm:Z.Perm (rangeN i++(rangeN k).map (fun z=>(a.length:Int)+z))
 sort:Z.Pairwise (ltK (a++b) f t)
 la:∀ z∈Z,∀ i':Nat,i<=i'->i'<a.length->ltK (a++b) f t z (i':Int)
 lb:∀ z∈Z,∀ k':Nat,k<=k'->k'<b.length->ltK (a++b) f t z ((a.length+k':Nat):Int)
section
variable {a b:List (List Int)} {f t:Int} {i k:Nat} {Z:List Int}
theorem MI.zero:MI a b f t 0 0 []:=⟨List.Perm.refl _,List.Pairwise.nil,fun z h=>(by cases h),fun z h=>(by cases h)⟩
theorem MI.putB (h:MI a b f t i k Z) (hb:∀ (j i:Nat),i<j->j<b.length->ltK b f t (i:Int) (j:Int)) (hk:k<b.length) (hi:∀ i':Nat,i<=i'->i'<a.length->ltK (a++b) f t ((a.length+k:Nat):Int) (i':Int)) :
 MI a b f t i (k+1) (Z++[((a.length+k:Nat):Int)]):=by
 refine ⟨?_,?_,fun z hz i' h1 h2=>?_,fun z hz k' h1 h2=>?_⟩
 . rw [rangeN_succ,List.map_append,<- zN]
   refine (List.Perm.append_right _ h.perm).trans (List.Perm.of_eq ?_);rfl
 . rw [List.pairwise_append]
   refine ⟨h.sort,by simp,fun z hz x hx=>?_⟩;rw [List.mem_singleton] at hx;rw [hx];exact h.lb z hz k (zA _) hk
 . rcases List.mem_append.1 hz with hz | hz
   . exact h.la z hz i' h1 h2
   . rw [List.mem_singleton] at hz
     rw [hz];exact hi i' h1 h2
 . rcases List.mem_append.1 hz with hz | hz
   . exact h.lb z hz k' (by omega) h2
   . rw [List.mem_singleton] at hz
     rw [hz];exact ltK_right (hb k' k (by omega) h2)
theorem MI.putA (h:MI a b f t i k Z) (ha:∀ (j i:Nat),i<j->j<a.length->ltK a f t (i:Int) (j:Int)) (hi:i<a.length) (hk:∀ k':Nat,k<=k'->k'<b.length->ltK (a++b) f t (i:Int) ((a.length+k':Nat):Int)) :
 MI a b f t (i+1) k (Z++[(i:Int)]):=by
 refine ⟨?_,?_,fun z hz i' h1 h2=>?_,fun z hz k' h1 h2=>?_⟩
 . rw [rangeN_succ]
   refine (List.Perm.append_right _ h.perm).trans ?_;rw [zN,zN];exact List.Perm.append_left _ List.perm_append_comm
 . rw [List.pairwise_append]
   refine ⟨h.sort,by simp,fun z hz x hx=>?_⟩;rw [List.mem_singleton] at hx;rw [hx];exact h.la z hz i (zA _) hi
 . rcases List.mem_append.1 hz with hz | hz
   . exact h.la z hz i' (by omega) h2
   . rw [List.mem_singleton] at hz
     rw [hz];exact ltK_left hi h2 (ha i' i (by omega) h2)
 . rcases List.mem_append.1 hz with hz | hz
   . exact h.lb z hz k' h1 h2
   . rw [List.mem_singleton] at hz
     rw [hz];exact hk k' h1 h2
theorem pickD_snoc {d:List (List Int)} {Z:List Int} {z:Nat} {x:List Int} (h:d[z]?=some x):pickD d (Z++[(z:Int)])=pickD d Z++[x]:=by
 unfold pickD;rw [List.map_append];simp [List.getD_eq_getElem?_getD,h]
theorem MI.fin (hb:∀ (j i:Nat),i<j->j<b.length->ltK b f t (i:Int) (j:Int)):∀ (r k:Nat) (Z:List Int),k+r=b.length->MI a b f t a.length k Z->∃ Z',MI a b f t a.length b.length Z'/\pickD (a++b) Z'=pickD (a++b) Z++b.drop k
 | 0,k,Z,hk,h=>⟨Z,by rw [<- hk];exact h,by rw [List.drop_of_length_le (by omega),List.append_nil]⟩
 | r+1,k,Z,hk,h=>by
  have hkb:k<b.length:=by omega
  obtain ⟨Z',h1,h2⟩:=MI.fin hb r (k+1) _ (by omega) (h.putB hb hkb (fun i' h1 h2=>by omega));refine ⟨Z',h1,?_⟩;have hx:(a++b)[a.length+k]?=some (b[k]'hkb):=by rw [zJ (by omega),show a.length+k - a.length=k by omega];exact zF hkb
  rw [h2,pickD_snoc hx,List.drop_eq_getElem_cons hkb,zN];rfl
theorem rangeN_add (n m:Nat):rangeN n++(rangeN m).map (fun z=>(n:Int)+z)=rangeN (n+m):=by
 induction m with
 | zero=>simp [rangeN]
 | succ m ih=>rw [rangeN_succ,List.map_append,<- zN,ih,<- Nat.add_assoc,rangeN_succ];simp
theorem MI.ord (h:MI a b f t a.length b.length Z):IsOrd (a++b) f t Z:=⟨by rw [zE,<- rangeN_add];exact h.perm,h.sort⟩
theorem ltK_ba (hC:ColsOk (a++b) f t) (hi:i<a.length) (hk:k<b.length) (h:cmpN (rks (keyC b f t k)) (rks (keyC a f t i))<0):ltK (a++b) f t ((a.length+k:Nat):Int) (i:Int):=by
 unfold ltK;rw [zR,zR,keyC_right,keyC_left hi];refine .inl (cmpN_neg ?_ h);have h1:=key_len hC (k:=a.length+k) (by rw [zE];omega);have h2:=key_len hC (k:=i) (by rw [zE];omega);rw [keyC_right] at h1;rw [keyC_left hi] at h2;rw [h1,h2]
theorem ltK_ab (hC:ColsOk (a++b) f t) (hi:i<a.length) (hk:k<b.length) (h:¬ cmpN (rks (keyC b f t k)) (rks (keyC a f t i))<0):ltK (a++b) f t (i:Int) ((a.length+k:Nat):Int):=by
 unfold ltK;rw [zR,zR,keyC_right,keyC_left hi];have h1:=key_len hC (k:=a.length+k) (by rw [zE];omega);have h2:=key_len hC (k:=i) (by rw [zE];omega);rw [keyC_right] at h1;rw [keyC_left hi] at h2;rcases cmpN_pos (by rw [h1,h2]) h with e | e
 . exact .inr ⟨e.symm,by omega⟩
 . exact .inl e
theorem ltK_ab' (hC:ColsOk (a++b) f t) (hb:∀ (j i:Nat),i<j->j<b.length->ltK b f t (i:Int) (j:Int)) (hi:i<a.length) (h:k<b.length->¬ cmpN (rks (keyC b f t k)) (rks (keyC a f t i))<0):∀ k':Nat,k<=k'->k'<b.length->ltK (a++b) f t (i:Int) ((a.length+k':Nat):Int):=by
 intro k' h1 h2;have h3:=ltK_ab hC hi (show k<b.length by omega) (h (by omega));rcases Nat.lt_or_ge k k' with h4 | h4
 . exact ltK_trans h3 (ltK_right (hb k' k h4 h2))
 . rw [show k'=k by omega];exact h3
theorem ltK_ba' (hC:ColsOk (a++b) f t) (ha:∀ (j i:Nat),i<j->j<a.length->ltK a f t (i:Int) (j:Int)) (hi:i<a.length) (hk:k<b.length) (h:cmpN (rks (keyC b f t k)) (rks (keyC a f t i))<0):∀ i':Nat,i<=i'->i'<a.length->ltK (a++b) f t ((a.length+k:Nat):Int) (i':Int):=by
 intro i' h1 h2;have h3:=ltK_ba hC hi hk h;rcases Nat.lt_or_ge i i' with h4 | h4
 . exact ltK_trans h3 (ltK_left hi h2 (ha i' i h4 h2))
 . rw [show i'=i by omega];exact h3
end
theorem pickD_len' (d:List (List Int)) (Z:List Int):(pickD d Z).length=Z.length:=by unfold pickD;simp
theorem OwnTM.frowsA {e:TypeId} {base tp:Nat} {w:World} {d:List (List Int)} {v:Value} (h:OwnTM e base tp w v d) :
 ∃ hs:List SlV,Own eS e base w v hs/\hs.length=d.length/\∀ (i:Nat) (h:SlV) (x:List Int),hs[i]?=some h->d[i]?=some x->FrS RdRow (fun k=>v.ownBlock=some k\/k<base) w h.val x:=by
 obtain ⟨hs,h1,h2,h3,h4,h5⟩:=h;refine ⟨hs,h1.1,h2,fun i hh x e1 e2 w' hA=>?_⟩;have h6:=h3 i hh x e1 e2;have h7:=h6.agr hA (fun k hk hS=>by
  rcases hS with hS | hS
  . exact h4 i hh e1 k hS hk
  . have:=(h6.1.lt k hk).1;omega)
 exact h7.1.rds
theorem merge_fr {base n:Nat} {w1 w2 w3:World} {u v r:Value} {hs ks:List SlV} {d1 d2:List (List Int)} (ho:Own eS 88 base w1 u hs) (hl1:hs.length=d1.length) (h1:∀ (i:Nat) (h:SlV) (x:List Int),hs[i]?=some h->d1[i]?=some x->FrS RdRow (fun k=>u.ownBlock=some k\/k<base) w1 h.val x)
 (hb:Below w1.heap.size w1 w2) (hn:w1.heap.size<=n) (hbn:base<=w1.heap.size) (hl2:ks.length=d2.length) (h2:∀ (i:Nat) (h:SlV) (x:List Int),ks[i]?=some h->d2[i]?=some x->FrS RdRow (fun k=>v.ownBlock=some k\/k<n) w2 h.val x)
 (h3:Own eS 88 base w3 r (hs++ks)) (hg:Grew w2 w3 u r):FrD base w3 r (d1++d2):=by
 have hA1:Agr (fun _=>False) w1 w2:=⟨hb.os,hb.tape,hb.output,hb.size,fun k hk _=>hb.block k hk⟩;have hA2:Agr (fun k=>u.ownBlock=some k) w2 w3:=Agr.of_grown hg.1 (fun k hk _=>hk);have rows:∀ (i:Nat) (h:SlV) (x:List Int),(hs++ks)[i]?=some h->(d1++d2)[i]?=some x->FrS RdRow (fun k=>k<base) w3 h.val x:=by
  intro i h x e1 e2;rcases Nat.lt_or_ge i hs.length with hi | hi
  . rw [zL hi] at e1
    rw [zL (by rw [<- hl1];exact hi)] at e2;exact ((h1 i h x e1 e2).step hA1 (fun k h _=>h.elim) (fun k h _=>h) (S'':=fun k=>u.ownBlock=some k\/k<base)).step hA2 (fun k h _=>.inl h) (fun k h _=>.inr h)
  . rw [zJ hi] at e1
    rw [zJ (by rw [<- hl1];exact hi),<- hl1] at e2;exact (h2 _ h x e1 e2).step hA2 (fun k h _=>.inr (by have:=(ho.lt k h).2;omega)) (fun k h _=>.inr (by have h9:k<base:=h;omega))
 intro w' hA;have ho':=OwnT.agr (Own.top h3) hA (fun k hk (hS:k<base)=>by have:=(h3.lt k hk).1;omega);exact ⟨hs++ks,ho'.1.rds,by rw [zE,zE,hl1,hl2],fun i h x e1 e2=>rows i h x e1 e2 w' hA⟩
theorem l09Merge_c {a b:List (List Int)} {u v ka kb:Value} {w:World} {A B C D:Nat} {f t:Int} (ha:RdInt64SS A w u a) (hb:RdInt64SS B w v b) (hka:Rds eT C w ka (keyT a f t)) (hkb:Rds eT D w kb (keyT b f t)) (h2:TwoOk a b f t) (has:ascB a f t=true/\ascB b f t=true) (hlen:a.length+b.length<=40) :
 Calls Tryz.prog 168 #[u,v,ka,kb] w fun e w'=>(∃ r,e=.returned r/\FrD w.heap.size w' r (pickD (a++b) (ordD (a++b) f t)))/\Below w.heap.size w w':=by
 obtain ⟨i0,hi,hz0,hz1,hz2c⟩:=info_parts Tryz.infoCard;obtain ⟨ao,ac,rfl,hao⟩:=ha.tight.open;obtain ⟨bo,bc,rfl,hbo⟩:=hb.tight.open;obtain ⟨xo,xc,rfl,hxo⟩:=RdT.at hka.tight;obtain ⟨yo,yc,rfl,hyo⟩:=RdT.at hkb.tight;have hcapb:=(show ∀ {ao:Option Addr} {n cap:Nat},RdInt64SS w.heap.size w (.slice ao n cap) b->n<=cap/\(0<n->cap<=9223372036854775807) from fun h=>by obtain ⟨hs,h1,h2,-⟩:=h;exact ⟨h1.cap.1,h1.cap.2.2⟩) hb.tight;rw [yAZ] at hxo hyo |-;rw [yAZ];have hCo:=cols_two h2;have hkka:=fun (k:Nat) (hk:k<a.length)=>key_at (yAT h2.1.1 h2.1.2.1) (yAY h2.1.1) h2.1.2.2 hk;have hkkb:=fun (k:Nat) (hk:k<b.length)=>key_at (yAT h2.2.1 h2.2.2.1) (yAY h2.2.1) h2.2.2.2 hk;have hasa:=asc_ltK (yAT h2.1.1 h2.1.2.1) has.1;have hasb:=asc_ltK (yAT h2.2.1 h2.2.2.1) has.2;have hB0:BldG eI 2 88 w.heap.size w.heap.size (w.alloc (.cells #[] 88)).heap.size (w.alloc (.cells #[] 88)) (.slice (some ⟨w.heap.size,0,none⟩) 0 0) (pickD (a++b) []):=BldG.empty (B:=w.heap.size) rfl (Own.lit (E:=eS) (xs:=[]) (cs:=#[]) (zA _) rfl rfl (by decide) (fun x hx=>by cases hx)) (by simp);have HB0:=hid hB0;have Hao:=hid hao;have Hbo:=hid hbo;have Hxo:=hid hxo;have Hyo:=hid hyo;have Hka:=hid hkka;have Hkb:=hid hkkb;have Hasa:=hid hasa;have Hasb:=hid hasb;have HCo:=hid hCo;have H2:=hid h2;have Hbt:=hid hb.tight;obtain ⟨n,hn⟩:∃ n,n=a.length:=⟨_,rfl⟩;obtain ⟨m,hm⟩:∃ m,m=b.length:=⟨_,rfl⟩;rw [<- hn] at Hao Hxo Hka hlen |-;rw [<- hm] at Hbo Hyo Hkb hlen Hbt hcapb |-;have Hn:=hid hn;have Hm:=hid hm;have Hcapb:=hid hcapb;clear ha hb hka hkb h2 has hao hbo hxo hyo hkka hkkb hasa hasb hCo hB0 hn hm hcapb;go_enter Tryz.func168,Tryz.ntmps168;go_wp2;go_loopw [9,10,11] (fun ov kv iv wr=>∃ (i k:Nat) (Z:List Int),i<=n/\k<=m/\iv=.int .i64 i/\kv=.int .i64 k/\Hid (BldG eI 2 88 w.heap.size w.heap.size wr.heap.size wr ov (pickD (a++b) Z))/\Hid (MI a b f t i k Z)/\Hid (Below w.heap.size w wr)) (fun _ _ i _=>n - (intOf i).toNat)
 case atStart=>exact ⟨0,0,[],zK _,zK _,rfl,rfl,HB0,hid MI.zero,hid ((zB _ _).alloc (zA _) _)⟩
 case round =>
  obtain ⟨i,k0,Z0,hin2,hk0,rfl,rfl,HBi,HMIi,Hbi⟩:=hrel;clear HB0;by_cases hin:i<n
  . obtain ⟨xb,xoff,rfl,xlt,xcc⟩:=Hxo.out (by omega)
    obtain ⟨sx,ex,rx,-,zx,yx⟩:=Hka.out i hin;have hxc:=xcc i sx ex;have Hsx:Hid (rkS sx=rks (keyC a f t i)/\sx.size=t.toNat - f.toNat):=hid ⟨rx,zx⟩;have j1:(i:Int)<(n:Int):=by omega
    clear xcc ex rx zx yx;go_wp2;go_loopw [9,10] (fun ov kv wr=>∃ (k:Nat) (Z:List Int),k<=m/\kv=.int .i64 k/\Hid (BldG eI 2 88 w.heap.size w.heap.size wr.heap.size wr ov (pickD (a++b) Z))/\Hid (MI a b f t i k Z)/\Hid (Below w.heap.size w wr)) (fun _ k _=>m - (intOf k).toNat)
    case atStart=>exact ⟨k0,Z0,hk0,rfl,HBi,HMIi,Hbi⟩
    case round =>
     clear HMIi Hbi;obtain ⟨k,Z,hk,rfl,HB,HMI,Hb⟩:=hrel;clear HBi;have hZl:Z.length=i+k:=by rw [HMI.out.perm.length_eq,zE,List.length_map,yBB,yBB]
     obtain ⟨q,hq⟩:∃ q:Bool,(q=true ↔ k<m/\cmpN (rks (keyC b f t k)) (rks (keyC a f t i))<0):=bool_of _;have Hq:=hid hq;have Hzl:Hid (Z.length<=100):=hid (by omega);have hov:=HB.out.shape;obtain ⟨oo,oc,hov⟩:=hov;subst hov;clear hq hZl;have hPl:(pickD (a++b) Z).length<=100:=by rw [pickD_len'];exact Hzl.out
     have Hxl:=hid hPl;obtain ⟨Tk,hTk⟩:∃ T,T=pickD (a++b) Z:=⟨_,rfl⟩;rw [<- hTk] at HB Hxl |-;have HTk:=hid hTk;clear hPl hTk;go_upto_region 6 with fail;go_cut [34] (fun c wx=>c=.bool q/\Hid (Below wr.heap.size wr wx))
     case first =>
      by_cases hkm:k<m
      . obtain ⟨yb,yoff,rfl,ylt,ycc⟩:=Hyo.out (by omega)
        obtain ⟨sy,ey,ry,-,zy,yy⟩:=Hkb.out k hkm;have e1:=cell_regrown ((Hb.out.cell (p:=⟨xb,xoff+i,none⟩) xlt.2).trans hxc);have e2:=cell_regrown ((Hb.out.cell (p:=⟨yb,yoff+k,none⟩) ylt.2).trans (ycc k sy ey));have hcmp:=fun w=>l03Compare_c (s:=sy) (u:=sx) w (by rw [zy,Hsx.out.2]) yy;rw [ry,Hsx.out.1] at hcmp;obtain ⟨R,hR⟩:∃ R,R=cmpN (rks (keyC b f t k)) (rks (keyC a f t i)):=⟨_,rfl⟩;rw [<- hR] at hcmp;have Hcmp:=hid hcmp;have HE:Hid (q=decide (R<0)):=hid (by rw [Bool.eq_iff_iff,decide_eq_true_iff,Hq.out,hR];exact ⟨fun h=>h.2,fun h=>⟨hkm,h⟩⟩);have i1:(k:Int)<(m:Int):=by omega
        clear hcmp hR ycc ey ry zy yy;refine wp_region_quiet_below (by kernel_rfl) (by kernel_rfl) ?_;repeat ((with_reducible refine wpQuiet_step (fun K hK=>?_));go_simp;first | ((with_reducible refine hK _ ?_);clear hK K) | ((with_reducible rw [if_neg]);rotate_left;(intro hgd;cases hgd);(with_reducible refine hK _ ?_);clear hK K) | (apply Exists.intro;refine ⟨fun _=>?_,hK _ ?_⟩;((first | (go_at_call 203;with_reducible exact qb_same (Hcmp.out _))));clear hK K))
        refine wpQuiet_nil ?_;intro _ hw';obtain ⟨⟨dq,osq⟩,hw''⟩:=hw';subst hw'';have hbq:=below_regrown wr dq osq;generalize grow (redrawn wr dq) osq=wq at hbq |-;have HBq:=hid hbq;clear hbq e1 e2;go_wp2_with fail;go_meet;exact ⟨by rw [HE.out],HBq⟩
      . have HE:Hid (q=false):=hid (Bool.eq_false_iff.2 (fun h=>hkm (Hq.out.1 h).1))
        have i1:¬ (k:Int)<(m:Int):=by omega
        refine wp_region_quiet_below (by kernel_rfl) (by kernel_rfl) ?_;repeat ((with_reducible refine wpQuiet_step (fun K hK=>?_));go_simp;first | ((with_reducible refine hK _ ?_);clear hK K) | ((with_reducible rw [if_neg]);rotate_left;(intro hgd;cases hgd);(with_reducible refine hK _ ?_);clear hK K) | (apply Exists.intro;refine ⟨fun _=>?_,hK _ ?_⟩;((fail));clear hK K))
        refine wpQuiet_nil ?_;intro _ hw';obtain ⟨⟨dq,osq⟩,hw''⟩:=hw';subst hw'';have hbq:=below_regrown wr dq osq;generalize grow (redrawn wr dq) osq=wq at hbq |-;have HBq:=hid hbq;clear hbq;go_wp2_with fail;go_meet;exact ⟨by rw [HE.out],HBq⟩
     case rest =>
      obtain ⟨rfl,Hbc⟩:=hcut;obtain ⟨wx,hwx⟩:∃ x,x=wc:=⟨_,rfl⟩;subst hwx;have HBc:=hid ((HB.out.below Hbc.out (zA _)).mono Hbc.out.size);have Hbb:=hid (Hb.out.trans (Hbc.out.mono Hb.out.size));clear HB Hb Hbc;have HB:=HBc;have Hb:=Hbb;clear HBc Hbb;cases q with
      | true =>
       have hq1:=Hq.out.1 rfl;obtain ⟨hkm,hcm⟩:=hq1;have Hcm:=hid hcm;obtain ⟨bb,boff,rfl,blt,bcc⟩:=Hbo.out (by omega);obtain ⟨x,ro,rc,hx,hcell,hrd⟩:=bcc k (by omega);have hxl:x.length<=20:=(yBY ((yAF H2.out.2.1).2 x (zC hx)).1).2;have d1:=(Hb.out.cell (p:=⟨bb,boff+k,none⟩) blt.2).trans hcell;have hrw:=Rds.onn hrd Hb.out;have Hpk:Hid (pickD (a++b) (Z++[((a.length+k:Nat):Int)])=Tk++[x]):=hid (by rw [HTk.out];exact pickD_snoc (by rw [zJ (by omega),show a.length+k - a.length=k by omega];exact hx));have HM2:=hid (HMI.out.putB Hasb.out (by have:=Hm.out;omega) (ltK_ba' HCo.out Hasa.out (by have:=Hn.out;omega) (by have:=Hm.out;omega) Hcm.out));have i1:(k:Int)<(m:Int):=by omega
       clear hcm bcc hcell hrd hx;have hcon:=l02Own_c rfl d1 hrw (by omega);have Hcon:=hid hcon;clear hcon d1 hrw;go_wp2_with fail;with_reducible refine Hcon.out.mono ?_
       rintro e w6 ⟨⟨u,rfl,hu⟩,hb6⟩;obtain ⟨tp,htp⟩:∃ tp,tp=wx.heap.size:=⟨_,rfl⟩;have htb:w.heap.size<=tp:=by have:=Hb.out.size;omega
       have hz2:tp<=w6.heap.size:=by have:=hb6.size;omega
       have hB2:BldG eI 2 88 w.heap.size w.heap.size tp w6 (.slice oo Tk.length oc) Tk:=by rw [htp];exact HB.out.below hb6 (zA _)
       have hb2':=Hb.out.trans (hb6.mono (by omega));clear hb6;have hR9:=hu.mono (base':=tp) (by omega);obtain ⟨hs',xh,hval,hokx,hlen,hO,hfn⟩:=hB2.app hR9 htb hz2;obtain ⟨rao,rcap,hsh⟩:=hR9.shape;subst hsh;have hcells:(#[.slice rao x.length rcap]:Array Value)=(eS.cells xh).toArray:=by rw [show eS.cells xh=[xh.val] from rfl,hval]
       have HO:=hid hO;have Hfn:=hid hfn;have Hlen:=hid hlen;have Hcells:=hid hcells;have hl0:=HO.out.lt;have Hl0:=hid hl0;have Hb2':=hid hb2';have hszr:w.heap.size<=w6.heap.size:=hb2'.size;clear hR9 hu hB2 hval hlen hO hfn hcells hl0 hb2';go_wp2_with (first | (at_builtin;refine yAB (E:=eS) rfl _ _ 78 rfl Tryz.underlying78 hi hz0 hz1 hz2c rfl (by decide) rfl rfl (HO.out.alloc _) (yAJ (E:=eS) (x:=xh) hokx Hcells.out) ?b1 ?b2 ?b3 ?_))
       case b1=>rw [Hlen.out];have:=Hxl.out;unfold maxLen;simp;omega
       case b2=>rw [Hlen.out];have:=Hxl.out;simp;omega
       case b3=>simp;omega
       intro v' w8 hO8 hg8;have hg8':=hg8.alloc;have HB8:=hid (Hfn.out w8 v' hO8 hg8');have Hb8:=hid (Hb2'.out.grown hg8'.1 hszr (fun q hq=>(Hl0.out q hq).1));clear hO8 hg8 hg8';go_wp2;go_roundw
       case rel=>exact ⟨k+1,_,by omega,by go_num,by rw [Hpk.out];exact HB8,HM2,Hb8⟩
       case measure=>simp [intOf];omega
      | false =>
       have hnq:k<b.length->¬ cmpN (rks (keyC b f t k)) (rks (keyC a f t i))<0:=fun h1 h2=>absurd (Hq.out.2 ⟨by have:=Hm.out;omega,h2⟩) (by decide);have HM2:=hid (HMI.out.putA Hasa.out (by have:=Hn.out;omega) (ltK_ab' HCo.out Hasb.out (by have:=Hn.out;omega) hnq));obtain ⟨ab,aoff,rfl,alt,acc⟩:=Hao.out (by omega);obtain ⟨x,ro,rc,hx,hcell,hrd⟩:=acc i (by omega);have hxl:x.length<=20:=(yBY ((yAF H2.out.1.1).2 x (zC hx)).1).2;have d1:=(Hb.out.cell (p:=⟨ab,aoff+i,none⟩) alt.2).trans hcell;have hrw:=Rds.onn hrd Hb.out;have Hpk:Hid (pickD (a++b) (Z++[(i:Int)])=Tk++[x]):=hid (by rw [HTk.out];exact pickD_snoc (by rw [zL (by have:=Hn.out;omega)];exact hx));clear hnq acc hcell hrd hx;have hcon:=l02Own_c rfl d1 hrw (by omega);have Hcon:=hid hcon;clear hcon d1 hrw;go_wp2_with fail;with_reducible refine Hcon.out.mono ?_
       rintro e w6 ⟨⟨u,rfl,hu⟩,hb6⟩;obtain ⟨tp,htp⟩:∃ tp,tp=wx.heap.size:=⟨_,rfl⟩;have htb:w.heap.size<=tp:=by have:=Hb.out.size;omega
       have hz2:tp<=w6.heap.size:=by have:=hb6.size;omega
       have hB2:BldG eI 2 88 w.heap.size w.heap.size tp w6 (.slice oo Tk.length oc) Tk:=by rw [htp];exact HB.out.below hb6 (zA _)
       have hb2':=Hb.out.trans (hb6.mono (by omega));clear hb6;have hR9:=hu.mono (base':=tp) (by omega);obtain ⟨hs',xh,hval,hokx,hlen,hO,hfn⟩:=hB2.app hR9 htb hz2;obtain ⟨rao,rcap,hsh⟩:=hR9.shape;subst hsh;have hcells:(#[.slice rao x.length rcap]:Array Value)=(eS.cells xh).toArray:=by rw [show eS.cells xh=[xh.val] from rfl,hval]
       have HO:=hid hO;have Hfn:=hid hfn;have Hlen:=hid hlen;have Hcells:=hid hcells;have hl0:=HO.out.lt;have Hl0:=hid hl0;have Hb2':=hid hb2';have hszr:w.heap.size<=w6.heap.size:=hb2'.size;clear hR9 hu hB2 hval hlen hO hfn hcells hl0 hb2';go_wp2_with (first | (at_builtin;refine yAB (E:=eS) rfl _ _ 78 rfl Tryz.underlying78 hi hz0 hz1 hz2c rfl (by decide) rfl rfl (HO.out.alloc _) (yAJ (E:=eS) (x:=xh) hokx Hcells.out) ?b1 ?b2 ?b3 ?_))
       case b1=>rw [Hlen.out];have:=Hxl.out;unfold maxLen;simp;omega
       case b2=>rw [Hlen.out];have:=Hxl.out;simp;omega
       case b3=>simp;omega
       intro v' w8 hO8 hg8;have hg8':=hg8.alloc;have HB8:=hid (Hfn.out w8 v' hO8 hg8');have Hb8:=hid (Hb2'.out.grown hg8'.1 hszr (fun q hq=>(Hl0.out q hq).1));clear hO8 hg8 hg8';go_wp2;go_roundw
       case rel=>exact ⟨i+1,k,_,by omega,hk,by go_num,rfl,by rw [Hpk.out];exact HB8,HM2,Hb8⟩
       case measure=>simp [intOf];omega
  . obtain rfl:i=n:=by omega
    obtain ⟨oo,oc,hov⟩:=HBi.out.shape;subst hov;obtain ⟨Tk,hTk⟩:∃ T,T=pickD (a++b) Z0:=⟨_,rfl⟩;rw [<- hTk] at HBi |-;have hM:=HBi.out.toM (zA _);obtain ⟨hs,hO,hhl,hrows⟩:=OwnTM.frowsA hM;have hMI:MI a b f t a.length k0 Z0:=by rw [<- Hn.out];exact HMIi.out
    obtain ⟨Z',hm1,hm2⟩:=hMI.fin Hasb.out (b.length - k0) k0 Z0 (by have:=Hm.out;omega);have HFD:Hid (Tk++b.drop k0=pickD (a++b) (ordD (a++b) f t)):=hid (by rw [<- hm1.ord.eq,hm2,hTk]);have hZl:Z0.length=i+k0:=by rw [HMIi.out.perm.length_eq,zE,List.length_map,yBB,yBB]
    have hTl:Tk.length<=100:=by rw [hTk,pickD_len'];omega
    have HO:=hid hO;have Hhl:=hid hhl;have Hrows:=hid hrows;have HTl:=hid hTl;have Hbx:=hid (RdInt64SS.onn Hbt.out Hbi.out);have hrows2:RowsOk (b.drop k0):=by
     have h:=yAY H2.out.2.1;exact ⟨by have:=h.1;rw [zQ];omega,fun c hc=>h.2 c (List.mem_of_mem_drop hc)⟩
    have Hrow2:=hid hrows2;have hcap1:=Hcapb.out.1;have Hbs:=hid Hbi.out.size;clear hM hO hhl hrows hMI hm1 hm2 hTk hZl hTl hrows2 HMIi HBi;by_cases hkm:k0<m
    . obtain ⟨bb,boff,rfl,-,-⟩:=Hbo.out (by omega)
      have hsub:=RdInt64SS.sub (lo:=k0) (hi:=m) Hbx.out (by rw [<- Hm.out];exact zA _) hkm Hcapb.out.1 (Hcapb.out.2 (by omega));rw [zH (by rw [<- Hm.out];exact zA _)] at hsub;have Hsub:=hid hsub;have e1:¬ bc=k0:=by omega
      have e2:k0<=m:=by omega
      clear hsub;have hcp:=l02Copy_c Hsub.out Hrow2.out;have Hcp:=hid hcp;clear hcp;go_wp2_with fail;with_reducible refine Hcp.out.mono ?_
      rintro e w5 ⟨⟨r5,rfl,hr5⟩,hb5⟩;obtain ⟨ks,hO2,hkl,hrw2⟩:=OwnTM.frowsA hr5;obtain ⟨r5o,r5c,hr5s⟩:=hO2.shape;subst hr5s;have hO5:=HO.out.below hb5 (zA _);have HO5:=hid hO5;have Hk2:=hid hO2.rds;have Hkl:Hid (ks.length<=100):=hid (by rw [hkl];exact Hrow2.out.1);have hmf:=fun (w3:World) (r:Value) (h3:Own eS 88 w.heap.size w3 r (hs++ks)) (hg:Grew w5 w3 (.slice oo Tk.length oc) r)=>merge_fr HO.out Hhl.out Hrows.out hb5 (zA _) Hbs.out hkl hrw2 h3 hg;have Hmf:=hid hmf;have Hb5:=hid (Hbi.out.trans (hb5.mono Hbs.out));have hsz5:w.heap.size<=w5.heap.size:=Hb5.out.size;clear hr5 hO2 hkl hrw2 hO5 hmf hb5;go_wp2_with (first | (at_builtin;refine yAB (E:=eS) rfl _ _ 78 rfl Tryz.underlying78 hi hz0 hz1 hz2c rfl (by decide) rfl rfl HO5.out Hk2.out ?b1 ?b2 ?b3 ?_))
      case b1=>have:=HTl.out;have:=Hhl.out;have:=Hkl.out;unfold maxLen;omega
      case b2=>have:=HTl.out;have:=Hhl.out;have:=Hkl.out;omega
      case b3=>omega
      intro v9 w9 hO9 hg9;have hF:=Hmf.out w9 v9 hO9 hg9;rw [HFD.out] at hF;have HF:=hid hF;have HB9:=hid (Hb5.out.grown hg9.1 hsz5 (fun q hq=>(HO5.out.lt q hq).1));clear hF hO9 hg9;go_wp2;go_ret;exact ⟨⟨_,rfl,HF.out⟩,HB9.out⟩
    . obtain rfl:k0=m:=by omega
      have hdn:b.drop k0=[]:=List.drop_of_length_le (by rw [<- Hm.out];exact zA _);by_cases h0:k0=0
      . have hH:=Hbx.out
        have hcs:bo=none->bc=0:=fun hn=>by
         obtain ⟨hs,h1,-⟩:=hH;rcases Rds.cases h1 with ⟨-,ao9,cap9,hv,h9⟩ | ⟨b9,o9,cap9,hv,-⟩
         . injection hv with q1 q2 q3
           rw [q3];exact h9 (by rw [<- q1];exact hn)
         . injection hv with q1 q2 q3
           rw [hn] at q1;cases q1
        have hd0:b.drop 0=b:=rfl;subst h0;cases bo with
        | none =>
         have hz:=hcs rfl;subst hz;have Hsub:Hid (RdInt64SS wr.heap.size wr (.slice none 0 0) (b.drop 0)):=hid hH;clear hH hcs hdn hd0;have hcp:=l02Copy_c Hsub.out Hrow2.out;have Hcp:=hid hcp;clear hcp;go_wp2_with fail;with_reducible refine Hcp.out.mono ?_
         rintro e w5 ⟨⟨r5,rfl,hr5⟩,hb5⟩;obtain ⟨ks,hO2,hkl,hrw2⟩:=OwnTM.frowsA hr5;obtain ⟨r5o,r5c,hr5s⟩:=hO2.shape;subst hr5s;have hO5:=HO.out.below hb5 (zA _);have HO5:=hid hO5;have Hk2:=hid hO2.rds;have Hkl:Hid (ks.length<=100):=hid (by rw [hkl];exact Hrow2.out.1);have hmf:=fun (w3:World) (r:Value) (h3:Own eS 88 w.heap.size w3 r (hs++ks)) (hg:Grew w5 w3 (.slice oo Tk.length oc) r)=>merge_fr HO.out Hhl.out Hrows.out hb5 (zA _) Hbs.out hkl hrw2 h3 hg;have Hmf:=hid hmf;have Hb5:=hid (Hbi.out.trans (hb5.mono Hbs.out));have hsz5:w.heap.size<=w5.heap.size:=Hb5.out.size;clear hr5 hO2 hkl hrw2 hO5 hmf hb5;go_wp2_with (first | (at_builtin;refine yAB (E:=eS) rfl _ _ 78 rfl Tryz.underlying78 hi hz0 hz1 hz2c rfl (by decide) rfl rfl HO5.out Hk2.out ?b1 ?b2 ?b3 ?_))
         case b1=>have:=HTl.out;have:=Hhl.out;have:=Hkl.out;unfold maxLen;omega
         case b2=>have:=HTl.out;have:=Hhl.out;have:=Hkl.out;omega
         case b3=>omega
         intro v9 w9 hO9 hg9;have hF:=Hmf.out w9 v9 hO9 hg9;rw [HFD.out] at hF;have HF:=hid hF;have HB9:=hid (Hb5.out.grown hg9.1 hsz5 (fun q hq=>(HO5.out.lt q hq).1));clear hF hO9 hg9;go_wp2;go_ret;exact ⟨⟨_,rfl,HF.out⟩,HB9.out⟩
        | some adr =>
         by_cases hcap:bc=0
         . subst hcap
           have Hsub:Hid (RdInt64SS wr.heap.size wr (.slice (some adr) 0 0) (b.drop 0)):=hid hH;clear hH hcs hdn hd0;have hcp:=l02Copy_c Hsub.out Hrow2.out;have Hcp:=hid hcp;clear hcp;go_wp2_with fail;with_reducible refine Hcp.out.mono ?_
           rintro e w5 ⟨⟨r5,rfl,hr5⟩,hb5⟩;obtain ⟨ks,hO2,hkl,hrw2⟩:=OwnTM.frowsA hr5;obtain ⟨r5o,r5c,hr5s⟩:=hO2.shape;subst hr5s;have hO5:=HO.out.below hb5 (zA _);have HO5:=hid hO5;have Hk2:=hid hO2.rds;have Hkl:Hid (ks.length<=100):=hid (by rw [hkl];exact Hrow2.out.1);have hmf:=fun (w3:World) (r:Value) (h3:Own eS 88 w.heap.size w3 r (hs++ks)) (hg:Grew w5 w3 (.slice oo Tk.length oc) r)=>merge_fr HO.out Hhl.out Hrows.out hb5 (zA _) Hbs.out hkl hrw2 h3 hg;have Hmf:=hid hmf;have Hb5:=hid (Hbi.out.trans (hb5.mono Hbs.out));have hsz5:w.heap.size<=w5.heap.size:=Hb5.out.size;clear hr5 hO2 hkl hrw2 hO5 hmf hb5;go_wp2_with (first | (at_builtin;refine yAB (E:=eS) rfl _ _ 78 rfl Tryz.underlying78 hi hz0 hz1 hz2c rfl (by decide) rfl rfl HO5.out Hk2.out ?b1 ?b2 ?b3 ?_))
           case b1=>have:=HTl.out;have:=Hhl.out;have:=Hkl.out;unfold maxLen;omega
           case b2=>have:=HTl.out;have:=Hhl.out;have:=Hkl.out;omega
           case b3=>omega
           intro v9 w9 hO9 hg9;have hF:=Hmf.out w9 v9 hO9 hg9;rw [HFD.out] at hF;have HF:=hid hF;have HB9:=hid (Hb5.out.grown hg9.1 hsz5 (fun q hq=>(HO5.out.lt q hq).1));clear hF hO9 hg9;go_wp2;go_ret;exact ⟨⟨_,rfl,HF.out⟩,HB9.out⟩
         . have Hsub:Hid (RdInt64SS wr.heap.size wr (.slice (some adr) 0 bc) (b.drop 0)):=hid hH
           clear hH hcs hdn hd0;have hcp:=l02Copy_c Hsub.out Hrow2.out;have Hcp:=hid hcp;clear hcp;go_wp2_with fail;with_reducible refine Hcp.out.mono ?_
           rintro e w5 ⟨⟨r5,rfl,hr5⟩,hb5⟩;obtain ⟨ks,hO2,hkl,hrw2⟩:=OwnTM.frowsA hr5;obtain ⟨r5o,r5c,hr5s⟩:=hO2.shape;subst hr5s;have hO5:=HO.out.below hb5 (zA _);have HO5:=hid hO5;have Hk2:=hid hO2.rds;have Hkl:Hid (ks.length<=100):=hid (by rw [hkl];exact Hrow2.out.1);have hmf:=fun (w3:World) (r:Value) (h3:Own eS 88 w.heap.size w3 r (hs++ks)) (hg:Grew w5 w3 (.slice oo Tk.length oc) r)=>merge_fr HO.out Hhl.out Hrows.out hb5 (zA _) Hbs.out hkl hrw2 h3 hg;have Hmf:=hid hmf;have Hb5:=hid (Hbi.out.trans (hb5.mono Hbs.out));have hsz5:w.heap.size<=w5.heap.size:=Hb5.out.size;clear hr5 hO2 hkl hrw2 hO5 hmf hb5;go_wp2_with (first | (at_builtin;refine yAB (E:=eS) rfl _ _ 78 rfl Tryz.underlying78 hi hz0 hz1 hz2c rfl (by decide) rfl rfl HO5.out Hk2.out ?b1 ?b2 ?b3 ?_))
           case b1=>have:=HTl.out;have:=Hhl.out;have:=Hkl.out;unfold maxLen;omega
           case b2=>have:=HTl.out;have:=Hhl.out;have:=Hkl.out;omega
           case b3=>omega
           intro v9 w9 hO9 hg9;have hF:=Hmf.out w9 v9 hO9 hg9;rw [HFD.out] at hF;have HF:=hid hF;have HB9:=hid (Hb5.out.grown hg9.1 hsz5 (fun q hq=>(HO5.out.lt q hq).1));clear hF hO9 hg9;go_wp2;go_ret;exact ⟨⟨_,rfl,HF.out⟩,HB9.out⟩
      . obtain ⟨bb,boff,rfl,-,-⟩:=Hbo.out (by omega)
        by_cases hcap:bc=k0
        . have Hsub:Hid (RdInt64SS wr.heap.size wr (.slice (some ⟨bb,boff,none⟩) 0 0) (b.drop k0)):=hid (by rw [hdn];exact ⟨[],Rds.empty _ _ _ _ _,rfl,fun i h x e=>by simp at e⟩)
          clear hdn;subst hcap;have hcp:=l02Copy_c Hsub.out Hrow2.out;have Hcp:=hid hcp;clear hcp;go_wp2_with fail;with_reducible refine Hcp.out.mono ?_
          rintro e w5 ⟨⟨r5,rfl,hr5⟩,hb5⟩;obtain ⟨ks,hO2,hkl,hrw2⟩:=OwnTM.frowsA hr5;obtain ⟨r5o,r5c,hr5s⟩:=hO2.shape;subst hr5s;have hO5:=HO.out.below hb5 (zA _);have HO5:=hid hO5;have Hk2:=hid hO2.rds;have Hkl:Hid (ks.length<=100):=hid (by rw [hkl];exact Hrow2.out.1);have hmf:=fun (w3:World) (r:Value) (h3:Own eS 88 w.heap.size w3 r (hs++ks)) (hg:Grew w5 w3 (.slice oo Tk.length oc) r)=>merge_fr HO.out Hhl.out Hrows.out hb5 (zA _) Hbs.out hkl hrw2 h3 hg;have Hmf:=hid hmf;have Hb5:=hid (Hbi.out.trans (hb5.mono Hbs.out));have hsz5:w.heap.size<=w5.heap.size:=Hb5.out.size;clear hr5 hO2 hkl hrw2 hO5 hmf hb5;go_wp2_with (first | (at_builtin;refine yAB (E:=eS) rfl _ _ 78 rfl Tryz.underlying78 hi hz0 hz1 hz2c rfl (by decide) rfl rfl HO5.out Hk2.out ?b1 ?b2 ?b3 ?_))
          case b1=>have:=HTl.out;have:=Hhl.out;have:=Hkl.out;unfold maxLen;omega
          case b2=>have:=HTl.out;have:=Hhl.out;have:=Hkl.out;omega
          case b3=>omega
          intro v9 w9 hO9 hg9;have hF:=Hmf.out w9 v9 hO9 hg9;rw [HFD.out] at hF;have HF:=hid hF;have HB9:=hid (Hb5.out.grown hg9.1 hsz5 (fun q hq=>(HO5.out.lt q hq).1));clear hF hO9 hg9;go_wp2;go_ret;exact ⟨⟨_,rfl,HF.out⟩,HB9.out⟩
        . have Hsub:Hid (RdInt64SS wr.heap.size wr (.slice (some ⟨bb,boff+k0,none⟩) 0 (bc - k0)) (b.drop k0)):=hid (by rw [hdn];exact ⟨[],Rds.empty _ _ _ _ _,rfl,fun i h x e=>by simp at e⟩)
          clear hdn;have hcp:=l02Copy_c Hsub.out Hrow2.out;have Hcp:=hid hcp;clear hcp;go_wp2_with fail;with_reducible refine Hcp.out.mono ?_
          rintro e w5 ⟨⟨r5,rfl,hr5⟩,hb5⟩;obtain ⟨ks,hO2,hkl,hrw2⟩:=OwnTM.frowsA hr5;obtain ⟨r5o,r5c,hr5s⟩:=hO2.shape;subst hr5s;have hO5:=HO.out.below hb5 (zA _);have HO5:=hid hO5;have Hk2:=hid hO2.rds;have Hkl:Hid (ks.length<=100):=hid (by rw [hkl];exact Hrow2.out.1);have hmf:=fun (w3:World) (r:Value) (h3:Own eS 88 w.heap.size w3 r (hs++ks)) (hg:Grew w5 w3 (.slice oo Tk.length oc) r)=>merge_fr HO.out Hhl.out Hrows.out hb5 (zA _) Hbs.out hkl hrw2 h3 hg;have Hmf:=hid hmf;have Hb5:=hid (Hbi.out.trans (hb5.mono Hbs.out));have hsz5:w.heap.size<=w5.heap.size:=Hb5.out.size;clear hr5 hO2 hkl hrw2 hO5 hmf hb5;go_wp2_with (first | (at_builtin;refine yAB (E:=eS) rfl _ _ 78 rfl Tryz.underlying78 hi hz0 hz1 hz2c rfl (by decide) rfl rfl HO5.out Hk2.out ?b1 ?b2 ?b3 ?_))
          case b1=>have:=HTl.out;have:=Hhl.out;have:=Hkl.out;unfold maxLen;omega
          case b2=>have:=HTl.out;have:=Hhl.out;have:=Hkl.out;omega
          case b3=>omega
          intro v9 w9 hO9 hg9;have hF:=Hmf.out w9 v9 hO9 hg9;rw [HFD.out] at hF;have HF:=hid hF;have HB9:=hid (Hb5.out.grown hg9.1 hsz5 (fun q hq=>(HO5.out.lt q hq).1));clear hF hO9 hg9;go_wp2;go_ret;exact ⟨⟨_,rfl,HF.out⟩,HB9.out⟩
end Go.Proofs.YthdaghfhlfjclaaGreat
