/- Lemmas on the way to the law FnTop. No condition. -/
import Derived.Test.YtmindpfmgnnieaaGreatDoorTP19
import Derived.Test.YtmindpfmgnnieaaGreatDoorTP29
import Derived.Test.YtmindpfmgnnieaaGreatDoorTP25
namespace Go.Proofs.YtmindpfmgnnieaaGreatDoor
set_option maxHeartbeats 1000000
set_option linter.unusedSimpArgs false
open Lib (hid)
open Go.ChangeShapes Go.WideShapes Go.ChangeAt Go.RowKit
set_option linter.unusedVariables false
set_option maxRecDepth 100000
def GoodC (c:Int):Prop:=noCh (codeI c)=false/\0<=codeI c/\codeI c<=4095
theorem str_in (S:ByteArray) (hg:∀ (j:Nat) (h:j<S.size),GoodC (S[j].toNat:Int)) {n k:Nat} (hn:S.size=n) (hk:k<n):∃ c:Int,((0<=c/\c<=255)/\GoodC c)/\∀ w,(Instr.index 9 (.string S) (.int .i64 (k:Int))).run Tryz.prog w=.ok (.int .u8 c) w:=by
 refine ⟨((S[k]'(by omega)).toNat:Int),⟨?_,hg k (by omega)⟩,fun w=>?_⟩
 . have:=(S[k]'(by omega)).toNat_lt;omega
 . rw [run_index_string w 9 S .i64 (k:Int) Tryz.underlying9,dif_pos ⟨by omega,by omega⟩]
   rfl
theorem good_all (S:ByteArray) (h:S.data.toList.all (fun c=>decide (noCh (codeI (c.toNat:Int))=false/\0<=codeI (c.toNat:Int)/\codeI (c.toNat:Int)<=4095))=true):∀ (j:Nat) (hj:j<S.size),GoodC (S[j].toNat:Int):=fun j hj=>by
 have h1:=List.all_eq_true.1 h (S[j]) (by
  have h2:S[j]=S.data[j]:=rfl;rw [h2];exact Array.getElem_mem_toList _)
 show noCh (codeI (S[j].toNat:Int))=false/\0<=codeI (S[j].toNat:Int)/\codeI (S[j].toNat:Int)<=4095
 exact of_decide_eq_true h1
theorem good_chars:∀ (j:Nat) (hj:j<charsB.size),GoodC (charsB[j].toNat:Int):=good_all charsB (by decide +kernel)
theorem good_few:∀ (j:Nat) (hj:j<(⟨#[65,66,48,49,32,74,90]⟩:ByteArray).size),GoodC ((⟨#[65,66,48,49,32,74,90]⟩:ByteArray)[j].toNat:Int):=good_all _ (by decide +kernel)
theorem good_toB {xs:List Int} (hb:bytesI (toB xs)=xs) (hg:∀ x∈xs,GoodC x):∀ (j:Nat) (hj:j<(toB xs).size),GoodC ((toB xs)[j].toNat:Int):=fun j hj=>by
 refine hg _ ?_;have h1:((toB xs)[j].toNat:Int)∈bytesI (toB xs):=by
  unfold bytesI;exact List.mem_map.2 ⟨(toB xs)[j],by
   have h2:(toB xs)[j]=(toB xs).data[j]:=rfl;rw [h2];exact Array.getElem_mem_toList _,rfl⟩
 rw [hb] at h1;exact h1
theorem l03DrawText_c {w:World} {b N:Nat} (n:Nat) (hs:Src w b N) (hN:N<=1000000) (hn:n<=20) :
 Calls Tryz.prog 59 #[.pointer (some ⟨b,0,none⟩),.int .i64 (n:Int)] w fun e w'=>(∃ s:ByteArray,e=.returned (.string s)/\s.size=n/\∀ (j:Nat) (h:j<s.size),GoodC (s[j].toNat:Int))/\Src w' b (N+4 * n)/\w.grownBy w' (some b):=by
 obtain ⟨i0,hi,hz0,hz1,hz2⟩:=info_parts Tryz.infoU8t;have hbl:=hs.lt;obtain ⟨W,hW⟩:∃ W,W=w.alloc (.cells #[] 5):=⟨_,rfl⟩;have HR0:Hid (Own eB 5 w.heap.size W (.slice (some ⟨w.heap.size,0,none⟩) 0 0) ([]:List Int)):=hid (by rw [hW];exact Own.lit (E:=eB) (xs:=[]) (cs:=#[]) (zA _) rfl rfl (by decide) (fun x hx=>by cases hx));have HS0:Hid (Src W b N/\w.grownBy W (some b)):=hid (by rw [hW];exact ⟨hs.alloc _,World.grownBy_alloc _ _ _⟩);have HW:=hid hW;obtain ⟨S,hS⟩:∃ S,S=charsB:=⟨_,rfl⟩;have hsz:S.size=40:=by rw [hS];decide +kernel
 have Hsz:=hid hsz;have ho:=l03Order_c w;have hgc:=good_chars;rw [<- hS] at ho hgc;have Hgc:=hid hgc;have Ho:=hid ho;clear hW hs hS ho hgc;go_enter Tryz.func59,Tryz.ntmps59;go_wp2_with fail;with_reducible refine Ho.out.mono ?_
 rintro e w1 ⟨rfl,rfl⟩;go_upto_region 3 with fail;rw [<- HW.out];clear HW;go_wp2;go_loopw [6,7] (fun ov i wr=>∃ (k:Nat) (xs:List Int),k<=n/\i=.int .i64 k/\Hid (xs.length=k/\∀ x∈xs,GoodC x)/\Own eB 5 w.heap.size wr ov xs/\Src wr b (N+4 * k)/\w.grownBy wr (some b)) (fun _ i _=>n - (intOf i).toNat)
 case atStart=>exact ⟨0,[],zK _,rfl,hid ⟨rfl,fun x hx=>by cases hx⟩,HR0.out,HS0.out.1,HS0.out.2⟩
 case round =>
  obtain ⟨k,xs,hk,rfl,Hl,hR,hsr,hg⟩:=hrel;clear HR0 HS0;obtain ⟨ro,rc,hro⟩:=hR.shape;rw [Hl.out.1] at hro;subst hro;by_cases hkn:k<n
  . have hki:(k:Int)<(n:Int):=by omega
    go_wp2_with fail;with_reducible refine (one_any 3 hsr (by omega) (by omega)).mono ?_
    rintro e w1 ⟨⟨q,rfl⟩,hs1,hg1,-⟩;have hR1:=hR.keptS hg1 hbl;have hg1':=yAA hg hg1;clear hR hsr hg hg1;cases q with
    | true =>
     go_wp2_with fail;with_reducible refine (yAO 40 hs1 (by omega) (by omega)).mono ?_
     rintro e w2 ⟨⟨r,rfl,hr0,hr1,_⟩,hs2,hg2,-⟩;have hr2:=hr1 (by omega);obtain ⟨j,rfl⟩:=zG hr0;obtain ⟨c,⟨hc,hcg⟩,hix⟩:=str_in S Hgc.out Hsz.out (k:=j) (by omega);have Hcg:=hid hcg;have hR2:=hR1.keptS hg2 hbl;have HR:=hid hR2;have HS:=hid hs2;have HG:=hid (yAA hg1' hg2);have Hc:Hid (eB.ok c):=hid hc;have Hb2:Hid (w.heap.size<=w2.heap.size):=hid (by have:=hg1'.size;have:=hg2.size;omega);clear hs1 hg1' hR1 hg2 hR2 hs2 hc hcg hr1 hr2 hr0;go_wp2_with (first | (at_builtin;refine yAB (E:=eB) rfl _ _ 22 rfl Tryz.underlying22 hi hz0 hz1 hz2 rfl (by decide) rfl rfl (HR.out.alloc _) (yAH (E:=eB) (x:=c) Hc.out rfl) ?b1 ?b2 ?b3 ?_))
     case b1=>rw [Hl.out.1];unfold maxLen;(try simp) <;> omega
     case b2=>rw [Hl.out.1];(try simp) <;> omega
     case b3=>have:=Hb2.out;(try simp) <;> omega
     intro s2 w3 hR3 hg;have hg3:=hg.alloc.1;have hne:∀ q,(Value.slice ro k rc).ownBlock=some q->w.heap.size<=q:=fun q hq=>(HR.out.lt q hq).1;have HR3:=hid hR3;have HS3:=hid (HS.out.kept hg3 (fun q hq=>by have:=hne q hq;omega));have HG3:=hid (yAW HG.out hg3 hne);clear hR3 hg hg3 hne HR HS HG;go_wp2;go_roundw
     case rel=>exact ⟨k+1,_,by omega,by go_num,hid ⟨by rw [zE,Hl.out.1];rfl,fun x hx=>(List.mem_append.1 hx).elim (Hl.out.2 x) (fun h=>by rw [List.mem_singleton.1 h];exact Hcg.out)⟩,HR3.out,HS3.out.mono (by omega),HG3.out⟩
     case measure=>simp [intOf];omega
    | false =>
     go_wp2_with fail;with_reducible refine (yAO 7 hs1 (by omega) (by omega)).mono ?_
     rintro e w2 ⟨⟨r,rfl,hr0,hr1,_⟩,hs2,hg2,-⟩;have hr2:=hr1 (by omega);obtain ⟨j,rfl⟩:=zG hr0;obtain ⟨c,⟨hc,hcg⟩,hix⟩:=str_in ⟨#[65,66,48,49,32,74,90]⟩ good_few (n:=7) rfl (k:=j) (by omega);have Hcg:=hid hcg;have hR2:=hR1.keptS hg2 hbl;have HR:=hid hR2;have HS:=hid hs2;have HG:=hid (yAA hg1' hg2);have Hc:Hid (eB.ok c):=hid hc;have Hb2:Hid (w.heap.size<=w2.heap.size):=hid (by have:=hg1'.size;have:=hg2.size;omega);clear hs1 hg1' hR1 hg2 hR2 hs2 hc hcg hr1 hr2 hr0;go_wp2_with (first | (at_builtin;refine yAB (E:=eB) rfl _ _ 22 rfl Tryz.underlying22 hi hz0 hz1 hz2 rfl (by decide) rfl rfl (HR.out.alloc _) (yAH (E:=eB) (x:=c) Hc.out rfl) ?b1 ?b2 ?b3 ?_))
     case b1=>rw [Hl.out.1];unfold maxLen;(try simp) <;> omega
     case b2=>rw [Hl.out.1];(try simp) <;> omega
     case b3=>have:=Hb2.out;(try simp) <;> omega
     intro s2 w3 hR3 hg;have hg3:=hg.alloc.1;have hne:∀ q,(Value.slice ro k rc).ownBlock=some q->w.heap.size<=q:=fun q hq=>(HR.out.lt q hq).1;have HR3:=hid hR3;have HS3:=hid (HS.out.kept hg3 (fun q hq=>by have:=hne q hq;omega));have HG3:=hid (yAW HG.out hg3 hne);clear hR3 hg hg3 hne HR HS HG;go_wp2;go_roundw
     case rel=>exact ⟨k+1,_,by omega,by go_num,hid ⟨by rw [zE,Hl.out.1];rfl,fun x hx=>(List.mem_append.1 hx).elim (Hl.out.2 x) (fun h=>by rw [List.mem_singleton.1 h];exact Hcg.out)⟩,HR3.out,HS3.out.mono (by omega),HG3.out⟩
     case measure=>simp [intOf];omega
  . obtain rfl:k=n:=by omega
    have hbd:∀ x∈xs,0<=x/\x<=255:=hR.2;have hbt:=bytesI_toB hbd;have Hsz9:Hid ((toB xs).size=k):=hid (by rw [toB_size,Hl.out.1]);have Hg9:=hid (good_toB hbt Hl.out.2);rw [<- hbt] at hR;have hcv:=conv_own hR;have HS:=hid hsr;have HG:=hid hg;clear hR hbt hbd hsr hg;go_wp2;go_ret;exact ⟨⟨_,rfl,Hsz9.out,Hg9.out⟩,HS.out,HG.out⟩
end Go.Proofs.YtmindpfmgnnieaaGreatDoor
