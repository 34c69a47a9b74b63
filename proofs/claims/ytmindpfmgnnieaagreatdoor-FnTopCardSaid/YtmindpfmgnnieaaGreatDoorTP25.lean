/- Lemmas on the way to the law FnTop. No condition. -/
import Derived.Test.YtmindpfmgnnieaaGreatDoorTP19
import Derived.Test.YtmindpfmgnnieaaGreatDoorTP14
import Derived.Test.YtmindpfmgnnieaaGreatDoorTP22
namespace Go.Proofs.YtmindpfmgnnieaaGreatDoor
set_option maxHeartbeats 1000000
set_option linter.unusedSimpArgs false
open Lib (hid)
open Go.ChangeShapes Go.WideShapes Go.ChangeAt Go.RowKit
set_option linter.unusedVariables false
set_option maxRecDepth 100000
def StrIn (P:ByteArray->Prop) (W:World) (nb n:Nat):Prop:=nb<W.heap.size/\∀ k,k<n->∃ s:ByteArray,W.cell? ⟨nb,k,none⟩=some (.string s)/\P s
theorem StrIn.grown {P:ByteArray->Prop} {W W':World} {nb n:Nat} {row:Option Nat} (h:StrIn P W nb n) (hg:W.grownBy W' row) (hne:some nb ≠ row):StrIn P W' nb n :=
 ⟨zM h.1 hg.size,fun k hk=>by
  obtain ⟨s,h1,h2⟩:=h.2 k hk;exact ⟨s,(World.cell?_of_block (w:=W) (a:=⟨nb,k,none⟩) (hg.block nb h.1 hne)).trans h1,h2⟩⟩
theorem StrIn.new {P:ByteArray->Prop} {w:World} {cs:Array Value} {T:TypeId} {n:Nat} (h:∀ k,k<n->∃ s:ByteArray,cs[k]?=some (.string s)/\P s):StrIn P (w.alloc (.cells cs T)) w.heap.size n :=
 ⟨by simp,fun k hk=>by
  obtain ⟨s,h1,h2⟩:=h k hk;exact ⟨s,by rw [cell_of_row _ w.heap.size k _ _ _ (heap_alloc_new w _)];exact h1,h2⟩⟩
theorem text_in (P:ByteArray->Prop) {w:World} {b N nb n:Nat} (hs:Src w b N) (hN:N<=1000000) (hst:StrIn P w nb n) (hne:nb ≠ b) (hn:1<=n/\n<=100) :
 Calls Tryz.prog 85 #[.pointer (some ⟨b,0,none⟩),.slice (some ⟨nb,0,none⟩) n n] w fun e w'=>(∃ s:ByteArray,e=.returned (.string s)/\P s)/\Src w' b (N+2)/\w.grownBy w' (some b):=by
 go_enter Tryz.func85,Tryz.ntmps85;go_wp2_with fail;refine (yAO (n:Int) hs (by omega) (by omega)).mono ?_;rintro e w1 ⟨⟨r,rfl,hr0,hr1,_⟩,hs1,hg1,hz1⟩;have hr2:=hr1 (by omega);obtain ⟨k,rfl⟩:=zG hr0;obtain ⟨s,hcs,hss⟩:=(hst.grown hg1 (fun h=>hne (zD h))).2 k (by omega);have Hs1:=hid hs1;have Hg1:=hid hg1;have Hss:=hid hss;clear hr1 hz1 hs1 hg1 hst hss;go_wp2;go_ret;exact ⟨⟨_,rfl,Hss.out⟩,Hs1.out.mono (by omega),Hg1.out⟩
theorem BldG.keepS {α:Type} {E:Elt α} {er e:TypeId} {base rb tp b:Nat} {w w':World} {v:Value} {xss:List (List α)} (h:BldG E er e base rb tp w v xss) (hg:w.grownBy w' (some b)) (h1:b<base) (h2:b<rb):BldG E er e base rb tp w' v xss :=
 h.keep hg (by
  obtain ⟨hs,ho,_⟩:=h;cases hb:v.ownBlock with
  | none=>exact .inl rfl
  | some k=>right;intro hh;have:=(ho.1.lt k hb).1;have:=zD hh;omega) (fun k hk=>.inl (by have:=zD hk;omega))
theorem yAT {w w':World} (h:Below w.heap.size w w') (row:Option Nat):w.grownBy w' row:=⟨h.os,h.tape,h.output,h.size,fun k hk _=>h.block k hk⟩
theorem codeI_bds:∀ n:Fin 256,-1<=codeI (n.val:Int)/\codeI (n.val:Int)<=4095:=by decide +kernel
theorem codeI_ok {c:Int} (h:0<=c/\c<=255):eI.ok (codeI c):=by
 have h1:=codeI_bds ⟨c.toNat,by omega⟩;have e:((c.toNat:Nat):Int)=c:=by omega
 simp only [e] at h1;show -9223372036854775808<=codeI c/\codeI c<=9223372036854775807
 omega
theorem Rds.drew1 {α:Type} {E:Elt α} {B:Nat} {w:World} {v:Value} {xs:List α} (h:Rds E B w v xs):Rds E B w.drew v xs:=h
theorem l03Card_v (s:ByteArray) (w:World) (hs:s.size<=1000) :
 Calls Tryz.prog 58 #[.string s] w fun e w'=>(∃ u xs,e=.returned (.agg #[u])/\OwnInt64S w.heap.size w' u xs/\xs.length=s.size/\∀ x∈xs,∃ (j:Nat) (h:j<s.size),x=codeI (s[j].toNat:Int))/\Below w.heap.size w w':=by
 obtain ⟨i0,hi,hz0,hz1,hz2⟩:=info_parts Tryz.infoInt64;obtain ⟨W,hW⟩:∃ W,W=(w.alloc (.cells #[.slice none 0 0] 69)).alloc (.cells #[.slice none 0 0] 69):=⟨_,rfl⟩;have hR0:Box W w.heap.size [.slice none 0 0]:=by rw [hW];exact (Box.new w [.slice none 0 0] _).alloc _
 have hD0:Box W (w.heap.size+1) [.slice none 0 0]:=by
  rw [hW];have h:=Box.new (w.alloc (.cells #[.slice none 0 0] 69)) [.slice none 0 0] 69;rw [show (w.alloc (.cells #[.slice none 0 0] 69)).heap.size=w.heap.size+1 from by simp] at h;exact h
 have hb0:Below w.heap.size w W:=by rw [hW];exact ((zB _ _).alloc (zA _) _).alloc (by simp) _
 have HR0:=hid hR0;have HD0:=hid hD0;have Hb0:=hid hb0;have HW:=hid hW;clear hR0 hD0 hb0 hW;go_enter Tryz.func58,Tryz.ntmps58;go_wp2;rw [<- HW.out];go_loopw [4] (fun i wr=>∃ (k:Nat) (u:Value) (xs:List Int),k<=s.size/\i=.int .i64 k/\Hid (xs.length=k)/\Hid (∀ x∈xs,∃ (j:Nat) (h:j<s.size),x=codeI (s[j].toNat:Int))/\OwnInt64S (w.heap.size+2) wr u xs/\Box wr w.heap.size [.slice none 0 0]/\Box wr (w.heap.size+1) [u]/\Below w.heap.size w wr) (fun i _=>s.size - (intOf i).toNat)
 case atStart=>exact ⟨0,_,[],zK _,rfl,rfl,hid (fun x hx=>by cases hx),Own.nil _ _ _ _,HR0.out,HD0.out,Hb0.out⟩
 case round =>
  obtain ⟨k,u,xs,hk,rfl,Hl,HV,hown,hR,hD,hb⟩:=hrel;clear HR0 HD0 Hb0;obtain ⟨ao,cap,hu⟩:=hown.shape;rw [Hl.out] at hu;subst hu;have hsz:w.heap.size+1<wr.heap.size:=hD.lt;have d1:=hD.cell 0 _ rfl;have d2:=hD.free 0;by_cases hkn:k<s.size
  . have hbd:0<=(s[k].toNat:Int)/\(s[k].toNat:Int)<=255:=by have:=s[k].toNat_lt;omega
    have hok:=codeI_ok hbd;have Hbd:=hid hbd;have Hown:=hid hown;have HR:=hid hR;have HD:=hid hD;have Hb:=hid hb;clear hbd hown hb hR hD;go_wp2;go_region_law (first
     | (refine step_appS (E:=eI) rfl _ _ 48 (by rfl) Tryz.underlying48 hi hz0 hz1 hz2 rfl (by decide) (by rfl) (by rfl) (Own.drew (Hown.out.alloc _)) (Rds.drew1 (rds_one' (E:=eI) (x:=codeI (s[k].toNat:Int)) (H:=wr.heap.size) rfl hok rfl)) (by rw [Hl.out];unfold maxLen;simp;omega) (by rw [Hl.out];simp;omega) (by simp;omega) ?_;intro v3 w3 hO3 hg3;obtain ⟨ao3,cap3,hv3⟩:=hO3.shape;rw [show (xs++[codeI (s[k].toNat:Int)]).length=k+1 from (by rw [zE,Hl.out];rfl)] at hv3;subst hv3;have hg4:wr.grownBy w3 (Value.slice ao k cap).ownBlock:=(by first | exact hg3.alloc.1 | exact yAA (World.grownBy_alloc wr _ _) (yAA (grownBy_drew _ _) hg3.1));have hne3:∀ q,(Value.slice ao k cap).ownBlock=some q->w.heap.size+2<=q:=(fun q hq=>(Hown.out.lt q hq).1);have hR3:=Box.keptB HR.out hg4 (fun e=>by have:=hne3 _ e;omega);have hD3:=Box.keptB HD.out hg4 (fun e=>by have:=hne3 _ e;omega);have f3:=hD3.free 0;have c3:=hD3.cell 0 _ rfl;have HO3:=hid hO3;have HR3:=hid hR3;have HD3:=hid hD3;have Hb3:Hid (Below w.heap.size w w3):=hid (Hb.out.grown hg4 (by omega) (fun q hq=>by have:=hne3 q hq;omega));clear hR3 hD3 hO3 hg3 hg4 hne3)
     | (go_simp;go_at_call 105;with_reducible refine (l03Code_c _ _ Hbd.out).mono ?_;rintro e w1 ⟨rfl,rfl⟩))
    all_goals
     go_wp2;go_roundw
     case rel=>exact ⟨k+1,_,_,by omega,by go_num,hid (by rw [zE,Hl.out];rfl),hid (fun x hx=>(List.mem_append.1 hx).elim (HV.out x) (fun h=>⟨k,hkn,by simpa using h⟩)),HO3.out.kept (yAS _ _ _) (by first | exact .inr (fun e=>by have h:=(HO3.out.lt _ e).1;simp only at h;omega)),HR3.out.other (by show w.heap.size+1 ≠ w.heap.size;omega) _,HD3.out.set1 (j:=0) (by simp) _,Hb3.out.setCell (by show w.heap.size<=w.heap.size+1;omega) _⟩
     case measure=>simp [intOf];omega
  . obtain rfl:k=s.size:=by omega
    have r1:=hR.cell 0 _ rfl;have r2:=hR.free 0;have Hown:=hid hown;have HR:=hid hR;have Hb:=hid hb;clear hown hb hR hD;go_wp2;refine bodyPost_ret (v:=.agg #[.slice ao s.size cap]) (by simp [results,Tryz.results58,go_sem,r1]) rfl ⟨⟨_,xs,rfl,?_,Hl.out,HV.out⟩,Hb.out.setCell (zA _) _⟩;exact (Hown.out.kept (yAS _ _ _) (.inr (fun e=>by have h:=(Hown.out.lt _ e).1;simp only at h;omega))).mono (by omega)
theorem bit_bds:∀ n:Fin 10,0<=(4 * 2 ^ n.val:Int)/\(4 * 2 ^ n.val:Int)<=4095:=by decide +kernel
theorem bit_ok {n:Int} (h:0<=n/\n<=9):eI.ok (4 * 2 ^ n.toNat):=by
 have h1:=bit_bds ⟨n.toNat,by omega⟩;show -9223372036854775808<=(4 * 2 ^ n.toNat:Int)/\(4 * 2 ^ n.toNat:Int)<=9223372036854775807
 simp only at h1;omega
theorem zerosI {e:TypeId} {base m cap g:Nat} {w:World} (h:w.ownsRow base e 1 (.slice (some ⟨g,0,none⟩) m cap) m (madeCells #[.int .i64 0] m).toList):Own eI e base w (.slice (some ⟨g,0,none⟩) m cap) (List.replicate m 0):=by
 rw [toList_madeCells_one] at h;refine Own.ofInts ?_ ?_
 . rw [List.map_replicate,List.length_replicate];exact h
 . intro x hx
   have:=List.eq_of_mem_replicate hx;subst this;show -9223372036854775808<=(0:Int)/\(0:Int)<=9223372036854775807
   omega
end Go.Proofs.YtmindpfmgnnieaaGreatDoor
