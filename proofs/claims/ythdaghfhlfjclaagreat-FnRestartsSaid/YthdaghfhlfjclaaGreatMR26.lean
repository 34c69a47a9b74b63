/- Lemmas on the way to the law FnRestarts. No condition. -/
import Derived.Test.YthdaghfhlfjclaaGreatMR23
import Derived.Test.YthdaghfhlfjclaaGreatMR24
import Derived.Test.YthdaghfhlfjclaaGreatMR14
import Derived.Test.YthdaghfhlfjclaaGreatMR18
import Derived.Test.YthdaghfhlfjclaaGreatMR15
namespace Go.Proofs.YthdaghfhlfjclaaGreat
set_option maxHeartbeats 2000000
set_option linter.unusedSimpArgs false
open Lib (hid)
open Go.ChangeShapes Go.WideShapes Go.ChangeAt Go.RowKit
set_option linter.unusedVariables false
set_option maxRecDepth 100000
def Drawn2 (base:Nat) (e:Ending) (w':World):Prop:=∃ (u:Value) (xs:List Int) (q:Bool),e=.returned (.tuple #[u,.bool q])/\OwnInt64S base w' u xs/\xs.length=2/\∀ x∈xs,0<=x/\x<=4095
def digC (x:Int):Prop:=x=0\/∃ k:Fin 10,x=4 * 2 ^ k.val
theorem dig_or_all:∀ k:Fin 10,0<=bits BinOp.or IntKind.i64 (4 * 2 ^ k.val) 2/\bits BinOp.or IntKind.i64 (4 * 2 ^ k.val) 2<=4095:=by decide +kernel
theorem digC_bd {x:Int} (h:digC x):0<=x/\x<=4095:=by
 rcases h with rfl | ⟨k,rfl⟩
 . omega
 . exact bit_bds k
theorem digC_or {x:Int} (h:digC x):0<=bits BinOp.or IntKind.i64 x 2/\bits BinOp.or IntKind.i64 x 2<=4095:=by
 rcases h with rfl | ⟨k,rfl⟩
 . decide
 . exact dig_or_all k
theorem l03Put2p_v (n:Int) (w:World) (hn:0<=n/\n<1000) :
 Calls Tryz.prog 193 #[.int .i64 n,.int .i64 2] w fun e w'=>Drawn2 w.heap.size e w'/\Below w.heap.size w w':=by
 obtain ⟨i0,hi,hz0,hz1,hz2⟩:=info_parts Tryz.infoInt64;have hn0:¬ n<0:=by omega
 go_enter Tryz.func193,Tryz.ntmps193;go_wp2_with (first | (at_make;refine wpList_make_full _ rfl _ _ 29 rfl w.heap.size 2 i0 (.int .i64 0) 1 Tryz.underlying29 hi hz0 hz1 _ _ _ _ 2 rfl rfl rfl rfl (by first | omega | (rw [hz2];omega)) (by unfold maxLen;omega) (zA _) ?_));intro w1 hown hgr;have hF0:OwnInt64S w.heap.size w1 (.slice (some ⟨w.heap.size,0,none⟩) 2 2) (List.replicate 2 0):=zerosI hown;have hb1:Below w.heap.size w w1:=(zB _ _).grown hgr (zA _) (fun k hk=>by cases hk);have HF0:=hid hF0;have Hb1:=hid hb1;clear hown hgr hF0 hb1;go_wp2;go_loopw [7,8] (fun xv kv wr=>∃ (x k:Int) (xs:List Int),(0<=x/\x<1000)/\(-1<=k/\k<=1)/\xv=.int .i64 x/\kv=.int .i64 k/\Hid (2=xs.length/\∀ y∈xs,digC y)/\OwnInt64S w.heap.size wr (.slice (some ⟨w.heap.size,0,none⟩) 2 2) xs/\Below w.heap.size w wr) (fun _ k _=>(intOf k+1).toNat)
 case atStart=>exact ⟨n,1,_,by omega,by omega,by first | rfl | go_num,rfl,hid ⟨rfl,fun y hy=>.inl (List.eq_of_mem_replicate hy)⟩,HF0.out,Hb1.out⟩
 case round =>
  obtain ⟨x,k,xs,hx,hk,rfl,rfl,Hl,hF,hb⟩:=hrel;clear HF0 Hb1;by_cases hk0:0<=k
  . obtain ⟨kk,rfl⟩:=zG hk0
    have hm0:0<=x % 10/\x % 10<=9:=by omega
    have hok:=bit_ok hm0;have hst:=Own.storeI (x:=4 * 2 ^ (x % 10).toNat) hF Hl.out.1 (k:=kk) (by omega) hok;obtain ⟨⟨y0,hc0⟩,hfz,hF2,hg2⟩:=hst;have hb2:=hb.setCell (p:=⟨w.heap.size,kk,none⟩) (zA _) (.int .i64 (4 * 2 ^ (x % 10).toNat));have Hm0:=hid hm0;have HF2:=hid hF2;have Hb2:=hid hb2;have hd0:0<=x / 10/\x / 10<1000:=by omega
    have HD:Hid (2=(xs.set kk (4 * 2 ^ (x % 10).toNat)).length/\∀ y∈xs.set kk (4 * 2 ^ (x % 10).toNat),digC y):=hid ⟨by rw [List.length_set];exact Hl.out.1,fun y hy=>by
     rcases List.mem_or_eq_of_mem_set hy with h | h
     . exact Hl.out.2 y h
     . exact .inr ⟨⟨(x % 10).toNat,by have:=Hm0.out;omega⟩,h⟩⟩
    clear hF hb hF2 hg2 hb2 hok;go_wp2_with fail;with_reducible refine (l02Bit_c _ _ Hm0.out).mono ?_
    rintro e w1 ⟨rfl,rfl⟩;go_wp2;go_roundw
    case rel=>exact ⟨x / 10,(kk:Int) - 1,_,hd0,by omega,rfl,by first | rfl | go_num,HD,HF2.out,Hb2.out⟩
    case measure=>simp [intOf] <;> omega
  . have HF:=hid hF
    have Hb:=hid hb;clear hF hb;go_wp2;go_ret2;exact ⟨⟨_,xs,_,rfl,HF.out,Hl.out.1.symm,fun y hy=>digC_bd (Hl.out.2 y hy)⟩,Hb.out⟩
theorem l03Put2n_v (n:Int) (w:World) (hn:-1000<n/\n<0) :
 Calls Tryz.prog 193 #[.int .i64 n,.int .i64 2] w fun e w'=>Drawn2 w.heap.size e w'/\Below w.heap.size w w':=by
 obtain ⟨i0,hi,hz0,hz1,hz2⟩:=info_parts Tryz.infoInt64;have hn0:n<0:=by omega
 have hwn:IntKind.i64.wrap (-n)=-n:=IntWalk.i64_in _ (by omega);go_enter Tryz.func193,Tryz.ntmps193;go_wp2_with (first | (at_make;refine wpList_make_full _ rfl _ _ 29 rfl w.heap.size 2 i0 (.int .i64 0) 1 Tryz.underlying29 hi hz0 hz1 _ _ _ _ 2 rfl rfl rfl rfl (by first | omega | (rw [hz2];omega)) (by unfold maxLen;omega) (zA _) ?_));intro w1 hown hgr;have hF0:OwnInt64S w.heap.size w1 (.slice (some ⟨w.heap.size,0,none⟩) 2 2) (List.replicate 2 0):=zerosI hown;have hb1:Below w.heap.size w w1:=(zB _ _).grown hgr (zA _) (fun k hk=>by cases hk);have HF0:=hid hF0;have Hb1:=hid hb1;clear hown hgr hF0 hb1;go_wp2;go_loopw [7,8] (fun xv kv wr=>∃ (x k:Int) (xs:List Int),(0<=x/\x<1000)/\(-1<=k/\k<=1)/\xv=.int .i64 x/\kv=.int .i64 k/\Hid (2=xs.length/\∀ y∈xs,digC y)/\OwnInt64S w.heap.size wr (.slice (some ⟨w.heap.size,0,none⟩) 2 2) xs/\Below w.heap.size w wr) (fun _ k _=>(intOf k+1).toNat)
 case atStart=>exact ⟨-n,1,_,by omega,by omega,by first | rfl | go_num,rfl,hid ⟨rfl,fun y hy=>.inl (List.eq_of_mem_replicate hy)⟩,HF0.out,Hb1.out⟩
 case round =>
  obtain ⟨x,k,xs,hx,hk,rfl,rfl,Hl,hF,hb⟩:=hrel;clear HF0 Hb1;by_cases hk0:0<=k
  . obtain ⟨kk,rfl⟩:=zG hk0
    have hm0:0<=x % 10/\x % 10<=9:=by omega
    have hok:=bit_ok hm0;have hst:=Own.storeI (x:=4 * 2 ^ (x % 10).toNat) hF Hl.out.1 (k:=kk) (by omega) hok;obtain ⟨⟨y0,hc0⟩,hfz,hF2,hg2⟩:=hst;have hb2:=hb.setCell (p:=⟨w.heap.size,kk,none⟩) (zA _) (.int .i64 (4 * 2 ^ (x % 10).toNat));have Hm0:=hid hm0;have HF2:=hid hF2;have Hb2:=hid hb2;have hd0:0<=x / 10/\x / 10<1000:=by omega
    have HD:Hid (2=(xs.set kk (4 * 2 ^ (x % 10).toNat)).length/\∀ y∈xs.set kk (4 * 2 ^ (x % 10).toNat),digC y):=hid ⟨by rw [List.length_set];exact Hl.out.1,fun y hy=>by
     rcases List.mem_or_eq_of_mem_set hy with h | h
     . exact Hl.out.2 y h
     . exact .inr ⟨⟨(x % 10).toNat,by have:=Hm0.out;omega⟩,h⟩⟩
    clear hF hb hF2 hg2 hb2 hok;go_wp2_with fail;with_reducible refine (l02Bit_c _ _ Hm0.out).mono ?_
    rintro e w1 ⟨rfl,rfl⟩;go_wp2;go_roundw
    case rel=>exact ⟨x / 10,(kk:Int) - 1,_,hd0,by omega,rfl,by first | rfl | go_num,HD,HF2.out,Hb2.out⟩
    case measure=>simp [intOf] <;> omega
  . have HF:=hid hF
    have Hb:=hid hb;clear hF hb;obtain ⟨a,b,rfl⟩:∃ a b,xs=[a,b]:=by
     have h:=Hl.out.1;match xs,h with
     | [a,b],_=>exact ⟨a,b,rfl⟩
    have hb9:=digC_bd (Hl.out.2 b (by simp));have ho9:=digC_or (Hl.out.2 b (by simp));have ha9:=digC_bd (Hl.out.2 a (by simp));have c1:=Own.atI HF.out (show 2=[a,b].length from rfl) (i:=1) (x:=b) rfl;have hst:=Own.storeI (x:=bits BinOp.or IntKind.i64 b 2) HF.out (show 2=[a,b].length from rfl) (k:=1) (by omega) (okSm (by omega));obtain ⟨-,hfz,hF2,hg2⟩:=hst;have Hb2:=hid (Hb.out.setCell (p:=⟨w.heap.size,1,none⟩) (zA _) (.int .i64 (bits BinOp.or IntKind.i64 b 2)));have HF2:=hid hF2;have Ho:=hid (And.intro ha9 ho9);have c2:=c1.1;clear c1 hF2 hg2 hb9 ho9 ha9;go_wp2;go_ret2;exact ⟨⟨_,[a,bits BinOp.or IntKind.i64 b 2],_,rfl,HF2.out,rfl,fun y hy=>by
     simp only [List.mem_cons,List.not_mem_nil,or_false] at hy;rcases hy with rfl | rfl
     . exact Ho.out.1
     . exact Ho.out.2⟩,Hb2.out⟩
theorem codes_all {s t:ByteArray} (h:s=t) (hc:t.data.toList.all (fun c=>decide (0<=codeI (c.toNat:Int)/\codeI (c.toNat:Int)<=4095))=true):∀ (j:Nat) (hj:j<s.size),0<=codeI (s[j].toNat:Int)/\codeI (s[j].toNat:Int)<=4095:=by
 subst h;intro j hj;exact of_decide_eq_true (List.all_eq_true.1 hc _ (by show s.data[j]'hj∈s.data.toList;simp))
theorem l03Put2_v (n:Int) (w:World) (hn:-1000<n/\n<1000) :
 Calls Tryz.prog 193 #[.int .i64 n,.int .i64 2] w fun e w'=>Drawn2 w.heap.size e w'/\Below w.heap.size w w':=by
 by_cases h:0<=n
 . exact l03Put2p_v n w ⟨h,hn.2⟩
 . exact l03Put2n_v n w ⟨hn.1,by omega⟩
structure KInv (w W:World) (b N R D g c:Nat) (xs:List Int):Prop where
 src:Src W b N
 gr:w.grownBy W (some b)
 hR:Box W R [.slice none 0 0]
 hD:Box W D [.slice (some ⟨g,0,none⟩) 5 c]
 row:OwnInt64S w.heap.size W (.slice (some ⟨g,0,none⟩) 5 c) xs
 len:5=xs.length
 ok:∀ x∈xs,0<=x/\x<=4095
 bb:b<w.heap.size
 bR:w.heap.size<=R
 bD:w.heap.size<=D
 ne:g ≠ R/\g ≠ D/\R ≠ D
section
variable {w W W':World} {b N M R D g c:Nat} {xs:List Int}
theorem KInv.kept (h:KInv w W b N R D g c xs) (hs:Src W' b M) (hg:W.grownBy W' (some b)):KInv w W' b M R D g c xs:=by
 have h1:=h.bR;have h2:=h.bD;have h3:=h.bb;exact ⟨hs,yAA h.gr hg,h.hR.keptB hg (fun e=>by have:=zD e;omega),h.hD.keptB hg (fun e=>by have:=zD e;omega),h.row.keptS hg h.bb,h.len,h.ok,h.bb,h.bR,h.bD,h.ne⟩
theorem KInv.on (h:KInv w W b N R D g c xs) (hb:Below W.heap.size W W'):KInv w W' b N R D g c xs:=h.kept (h.src.kept (yAU hb none) (fun k hk=>by cases hk)) (yAU hb _)
theorem KInv.drew (h:KInv w W b N R D g c xs):KInv w W.drew b N R D g c xs:=h.on ((zB _ _).drew1)
theorem KInv.set {j:Nat} {y:Int} (h:KInv w W b N R D g c xs) (hj:j<5) (hy:0<=y/\y<=4095) :
 (∃ z,W.cell? ⟨g,j,none⟩=some z)/\W.frozen? ⟨g,j,none⟩=false/\KInv w (W.setCell ⟨g,j,none⟩ (.int .i64 y)) b N R D g c (xs.set j y):=by
 obtain ⟨⟨y0,hc0⟩,hfz,hO2,hg2⟩:=Own.storeI (x:=y) h.row h.len (k:=j) hj (okSm (by omega));have hgb:=(h.row.lt g rfl).1;have h3:=h.bb;refine ⟨⟨_,hc0⟩,hfz,h.src.kept hg2 (fun k hk=>by have:=zD hk;omega),yAS h.gr hg2 (fun k hk=>by have:=zD hk;omega),h.hR.keptB hg2 (fun e=>h.ne.1 (zD e)),h.hD.keptB hg2 (fun e=>h.ne.2.1 (zD e)),hO2,by rw [List.length_set];exact h.len,fun x hx=>?_,h.bb,h.bR,h.bD,h.ne⟩;rcases List.mem_or_eq_of_mem_set hx with h | h
 . rename_i h';exact h'.ok x h
 . rw [h];exact hy
def Col2 (W:World) (base g:Nat) (v:Value) (ys:List Int):Prop:=∃ p c,v=.slice (some ⟨p,0,none⟩) 2 c/\OwnInt64S base W v ys/\ys.length=2/\(∀ y∈ys,0<=y/\y<=4095)/\p ≠ g
theorem Col2.at {base:Nat} {v:Value} {ys:List Int} (h:Col2 W base g v ys):∃ p c,v=.slice (some ⟨p,0,none⟩) 2 c/\p ≠ g/\∀ k,k<2->∃ y,W.cell? ⟨p,k,none⟩=some (.int .i64 y)/\0<=y/\y<=4095:=by
 obtain ⟨p,c,rfl,ho,hl,hy,hp⟩:=h;refine ⟨p,c,rfl,hp,fun k hk=>?_⟩;obtain ⟨y,e⟩:∃ y,ys[k]?=some y:=⟨_,zF (by omega)⟩;exact ⟨y,(Own.atI ho hl.symm e).1,hy y (zC e)⟩
theorem Col2.grown {base:Nat} {v:Value} {ys:List Int} {row:Option Nat} (h:Col2 W base g v ys) (hg:W.grownBy W' row) (hr:∀ k,row=some k->k=g\/k<base):Col2 W' base g v ys:=by
 obtain ⟨p,c,rfl,ho,hl,hy,hp⟩:=h;refine ⟨p,c,rfl,ho.kept hg (.inr (fun e=>?_)),hl,hy,hp⟩;have h1:=(ho.lt p rfl).1;rcases hr p e.symm with h | h
 . exact hp h
 . omega
end
theorem l13Card_any {w:World} {b N:Nat} (hs:Src w b N) (hN:N<=100000) :
 Calls Tryz.prog 149 #[.pointer (some ⟨b,0,none⟩)] w fun e w'=>(∃ u xs,e=.returned (.agg #[u])/\OwnInt64S w.heap.size w' u xs/\xs.length=5/\∀ x∈xs,0<=x/\x<=4095)/\Src w' b (N+10)/\w.grownBy w' (some b):=by
 have hbl:=hs.lt;go_enter Tryz.func149,Tryz.ntmps149;go_upto_region 1 with fail;obtain ⟨W0,hW0⟩:∃ W0,W0=w.alloc (.cells #[.slice none 0 0] 88):=⟨_,rfl⟩;have hs0:Src W0 b N:=by rw [hW0];exact hs.alloc _
 have hR0:Box W0 w.heap.size [.slice none 0 0]:=by rw [hW0];exact Box.new w [.slice none 0 0] _
 have hg0:w.grownBy W0 (some b):=by rw [hW0];exact World.grownBy_alloc _ _ _
 rw [<- hW0];clear hW0;obtain ⟨R,hR⟩:∃ R,R=w.heap.size:=⟨_,rfl⟩;rw [<- hR] at hR0;rw [show (Value.pointer (some ⟨w.heap.size,0,none⟩))=.pointer (some ⟨R,0,none⟩) from by rw [hR]];have HR:=hid hR;clear hs hR;go_cut [3] (fun v wx=>∃ D g c xs,v=.pointer (some ⟨D,0,none⟩)/\KInv w wx b (N+2) R D g c xs)
 case first =>
  go_wp2_with fail;with_reducible refine (yAK 3 hs0 (by omega) (by omega)).mono ?_
  rintro e w1 ⟨⟨r,rfl,hr0,hr1,_⟩,hs1,hg1,-⟩;have hr2:=hr1 (by omega);have hr3:r=0\/r=1\/r=2:=by omega
  have hR1:=hR0.keptB hg1 (fun e=>by have:=zD e;have:=HR.out;omega);have hg1':=yAA hg0 hg1;clear hr1 hr0 hr2 hR0 hg0 hg1 hs0;rcases hr3 with rfl | rfl | rfl;all_goals
   go_wp2_with fail;generalize hS:(ByteArray.extract (ByteArray.extract ⟨#[65,66,49]⟩ _ 3) 0 1++(⟨#[48,48,48,48]⟩:ByteArray))=S;have hS5:S.size=5:=by rw [<- hS];rfl
   have hSc:∀ (j:Nat) (hj:j<S.size),0<=codeI (S[j].toNat:Int)/\codeI (S[j].toNat:Int)<=4095:=codes_all hS.symm (by decide +kernel);clear hS;with_reducible refine (l03Card_v S w1 (by omega)).mono ?_
   rintro e w2 ⟨⟨u,xs,rfl,ho,hl,hx⟩,hb2⟩;obtain ⟨g,c,hv,hg5,-⟩:=ho.addr (by omega);rw [hl,hS5] at hv;subst hv;have hgs:=ho.lt g rfl;have hsz1:=hR1.lt;have hz1:=hg1'.size;have K0:KInv w (w2.alloc (.cells #[.slice (some ⟨g,0,none⟩) 5 c] 88)) b (N+2) R w2.heap.size g c xs:=by
    have hs2:=hs1.kept (yAU hb2 none) (fun k hk=>by cases hk);have hg2:=yAA hg1' (yAU hb2 (some b));refine ⟨hs2.alloc _,yAA hg2 (World.grownBy_alloc _ _ _),(hR1.on hb2).alloc _,Box.new w2 [.slice (some ⟨g,0,none⟩) 5 c] _,(ho.alloc _).mono hz1,by rw [hl,hS5],fun x hxm=>?_,hbl,by have:=HR.out;omega,by have:=hb2.size;omega,by omega,by omega,by have:=hb2.size;omega⟩;obtain ⟨j,hj,e⟩:=hx x hxm;rw [e];exact hSc j hj
   have HK:=hid K0;clear K0 ho hl hx hb2 hs1 hg1' hgs hS5 hSc;go_wp2_with fail;go_meet;exact ⟨_,_,_,_,rfl,HK.out⟩
 case rest =>
  obtain ⟨D,g,c,xs,rfl,K1⟩:=hcut;clear hs0 hR0 hg0;go_wp2_with fail;with_reducible refine (yAK 100 K1.src (by omega) (by omega)).mono ?_
  rintro e w3 ⟨⟨n,rfl,hn0,hn1,_⟩,hs3,hg3,-⟩;have hn2:=hn1 (by omega);have K3:=K1.kept hs3 hg3;clear K1 hs3 hg3 hn1;go_wp2_with fail;with_reducible refine (l03Put2_v n _ (by omega)).mono ?_
  rintro e w4 ⟨⟨u,ys,q,rfl,ho,hl,hy⟩,hb4⟩;have C4:Col2 w4 w.heap.size g u ys:=by
   obtain ⟨p,c',hv,h5,-⟩:=ho.addr (by omega);rw [hl] at hv;subst hv;have:=(K3.row.lt g rfl).2;exact ⟨p,c',rfl,ho.mono K3.gr.size,hl,hy,by omega⟩
  have K4:=K3.on hb4;clear K3 ho hl hy hb4;go_wp2_with fail;with_reducible refine (yAK 130 K4.src (by omega) (by omega)).mono ?_
  rintro e w5 ⟨⟨m,rfl,hm0,hm1,_⟩,hs5,hg5,-⟩;have hm2:=hm1 (by omega);have K5:=K4.kept hs5 hg5;have C5:=C4.grown hg5 (fun k hk=>.inr (by have:=zD hk;omega));clear K4 C4 hs5 hg5 hm1;go_wp2_with fail;with_reducible refine (l03Put2_v (m - 30) _ (by omega)).mono ?_
  rintro e w6 ⟨⟨u2,zs,q2,rfl,ho,hl,hy⟩,hb6⟩;have D6:Col2 w6 w.heap.size g u2 zs:=by
   obtain ⟨p,c',hv,h5,-⟩:=ho.addr (by omega);rw [hl] at hv;subst hv;have:=(K5.row.lt g rfl).2;exact ⟨p,c',rfl,ho.mono K5.gr.size,hl,hy,by omega⟩
  have K6:=K5.on hb6;have C6:=C5.grown (yAU hb6 none) (fun k hk=>by cases hk);have HK:=hid K6;have HC:=hid C6;have HD:=hid D6;clear K5 C5 ho hl hy hb6 K6 C6 D6;obtain ⟨p,pc,e1,-⟩:=HC.out;subst e1;obtain ⟨p2,pc2,e2,-⟩:=HD.out;subst e2;go_wp2;go_loopw [8] (fun i wr=>∃ (k:Nat) (xs:List Int),k<=2/\i=.int .i64 k/\KInv w wr b (N+8) R D g c xs/\Col2 wr w.heap.size g (.slice (some ⟨p,0,none⟩) 2 pc) ys/\Col2 wr w.heap.size g (.slice (some ⟨p2,0,none⟩) 2 pc2) zs) (fun i _=>2 - (intOf i).toNat)
  case atStart=>exact ⟨0,xs,by omega,rfl,⟨HK.out.src.mono (by omega),HK.out.gr,HK.out.hR,HK.out.hD,HK.out.row,HK.out.len,HK.out.ok,HK.out.bb,HK.out.bR,HK.out.bD,HK.out.ne⟩,HC.out,HD.out⟩
  case round =>
   obtain ⟨k,xs,hk,rfl,K,C,D2⟩:=hrel;clear HK HC HD;by_cases hk2:k<2
   . obtain ⟨p',c',e1,hp,hat⟩:=C.at
     cases e1;obtain ⟨p2',c2',e2,hp2,hat2⟩:=D2.at
     cases e2;obtain ⟨y,hy,hy0⟩:=hat k hk2;obtain ⟨z,hz,hz0⟩:=hat2 k hk2;have d0:=K.hD.cell 0 _ rfl;have K9:=K.drew;have C9:Col2 wr.drew w.heap.size g (.slice (some ⟨p,0,none⟩) 2 pc) ys:=C.grown (yAV _ none) (fun k hk=>by cases hk);have D9:Col2 wr.drew w.heap.size g (.slice (some ⟨p2,0,none⟩) 2 pc2) zs:=D2.grown (yAV _ none) (fun k hk=>by cases hk);clear K C D2 hat hat2;obtain ⟨j,hj⟩:∃ j,j=1+k:=⟨_,rfl⟩;have hwr:IntKind.i64.wrap (1+(k:Int))=(j:Int):=by rw [IntWalk.i64_in _ (by omega)];omega
     have hj5:j<5:=by omega
     have hji:(j:Int)<5:=by omega
     clear hj;go_upto_region 7 with fail;go_still_tail 9,(by kernel_rfl);change wpList _ _ _ _ _ wr.drew;generalize wr.drew=w7 at K9 C9 D9 |-;obtain ⟨⟨q1,c1⟩,f1,K1⟩:=K9.set hj5 hy0;have hg1:w7.grownBy (w7.setCell ⟨g,j,none⟩ (.int .i64 y)) (some g):=yAR _ _ _;have C1:=C9.grown hg1 (fun k hk=>.inl (zD hk).symm);have D1:=D9.grown hg1 (fun k hk=>.inl (zD hk).symm);clear K9 C9 D9 hg1 hy hz d0;go_upto_region 8 with fail;clear hwr hji c1 f1;generalize w7.setCell ⟨g,j,none⟩ (.int .i64 y)=w8 at K1 C1 D1 |-;generalize xs.set j y=xs1 at K1;obtain ⟨i,hi⟩:∃ i,i=3+k:=⟨_,rfl⟩;have hwr:IntKind.i64.wrap (3+(k:Int))=(i:Int):=by rw [IntWalk.i64_in _ (by omega)];omega
     have hi5:i<5:=by omega
     have hii:(i:Int)<5:=by omega
     clear hi;obtain ⟨p2',c2',e2,-,hat2⟩:=D1.at
     cases e2;obtain ⟨z,hz,hz0⟩:=hat2 k hk2;have d0:=K1.hD.cell 0 _ rfl;have K9:=K1.drew;have C9:Col2 w8.drew w.heap.size g (.slice (some ⟨p,0,none⟩) 2 pc) ys:=C1.grown (yAV _ none) (fun k hk=>by cases hk);have D9:Col2 w8.drew w.heap.size g (.slice (some ⟨p2,0,none⟩) 2 pc2) zs:=D1.grown (yAV _ none) (fun k hk=>by cases hk);clear K1 C1 D1 hat2;go_still_tail 9,(by kernel_rfl);change wpList _ _ _ _ _ w8.drew;generalize w8.drew=w9 at K9 C9 D9 |-;obtain ⟨⟨q1,c1⟩,f1,K1⟩:=K9.set hi5 hz0;have hg1:w9.grownBy (w9.setCell ⟨g,i,none⟩ (.int .i64 z)) (some g):=yAR _ _ _;have HK:=hid K1;have HC:=hid (C9.grown hg1 (fun k hk=>.inl (zD hk).symm));have HD:=hid (D9.grown hg1 (fun k hk=>.inl (zD hk).symm));clear K9 C9 D9 hg1 hz d0 K1;go_wp2;go_roundw
     case rel=>exact ⟨k+1,_,by omega,by go_num,HK.out,HC.out,HD.out⟩
     case measure=>simp [intOf];omega
   . have r0:=K.hR.cell 0 _ rfl
     have s0:=K.hR.free 0;have d0:=K.hD.cell 0 _ rfl;have hF:FinP w wr b (N+8):=⟨K.src,K.gr⟩;have hF2:=hid (hF.set (R:=R) (j:=0) (v:=.slice (some ⟨g,0,none⟩) 5 c) K.bb K.bR);have HO:=hid (K.row.kept (yAR wr ⟨R,0,none⟩ (.slice (some ⟨g,0,none⟩) 5 c)) (.inr (fun e=>K.ne.1 (zD e))));have HX:Hid (xs.length=5/\∀ x∈xs,0<=x/\x<=4095):=hid ⟨K.len.symm,K.ok⟩;clear K C D2 hF;go_wp2;exact bodyPost_ret (v:=.agg #[.slice (some ⟨g,0,none⟩) 5 c]) (by simp [results,Tryz.results149,go_sem,r0]) rfl ⟨⟨_,xs,rfl,HO.out,HX.out.1,HX.out.2⟩,hF2.out.more (by omega)⟩
def Deck5 (d:List (List Int)):Prop:=d.length<=6/\∀ c∈d,c.length=5/\∀ x∈c,0<=x/\x<=4095
theorem Deck5.ok {d:List (List Int)} (h:Deck5 d):deckB d=true:=by
 unfold deckB;rw [Bool.and_eq_true,List.all_eq_true];refine ⟨fun c hc=>?_,decide_eq_true (by have:=h.1;omega)⟩;have h0:(d.headD []).length=5:=by
  cases d with
  | nil=>cases hc
  | cons y ys=>exact (h.2 y (by simp)).1
 obtain ⟨h1,h2⟩:=h.2 c hc;unfold okAt cardB;rw [h0,h1];simp only [decide_true,Bool.and_true,Bool.and_eq_true,Bool.not_eq_true'];refine ⟨decide_eq_true (by omega),?_⟩;rw [List.any_eq_false];intro x hx;unfold badHole;rw [decide_eq_true (h2 x hx)];simp
theorem l13Deck_any {w:World} {b N:Nat} (hs:Src w b N) (hN:N<=10000) :
 Calls Tryz.prog 105 #[.pointer (some ⟨b,0,none⟩),.int .i64 6] w fun e w'=>(∃ u d,e=.returned u/\OwnCardS w.heap.size w' u d/\Deck5 d)/\Src w' b (N+200)/\w.grownBy w' (some b):=by
 obtain ⟨i0,hi,hz0,hz1,hz2⟩:=info_parts Tryz.infoCard;have hbl:=hs.lt;have hlit:Own eS 88 w.heap.size (w.alloc (.cells #[] 88)) (.slice (some ⟨w.heap.size,0,none⟩) 0 0) []:=Own.lit (E:=eS) (xs:=[]) (cs:=#[]) (zA _) rfl rfl (by decide) (fun x hx=>by cases hx);go_enter Tryz.func105,Tryz.ntmps105;go_wp2_with fail;refine (yAK 7 (hs.alloc _) (by omega) (by omega)).mono ?_;rintro e w4 ⟨⟨p,rfl,hp0,hp1,_⟩,hs4,hg4,hz4⟩;have hp2:=hp1 (by omega);have hB4:BldG eI 2 88 w.heap.size w.heap.size w4.heap.size w4 (.slice (some ⟨w.heap.size,0,none⟩) 0 0) ([]:List (List Int)):=BldG.empty (B:=w.heap.size) rfl (hlit.keptS hg4 hbl) (by rw [hz4];simp);have hg4':=yAA (World.grownBy_alloc _ _ _) hg4;clear hp1 hz4 hg4 hlit hs;go_wp2;go_loopw [5,6] (fun v k wr=>∃ (kk:Int) (xss:List (List Int)),0<=kk/\kk+xss.length<=6/\k=.int .i64 kk/\BldG eI 2 88 w.heap.size w.heap.size wr.heap.size wr v xss/\Hid (∀ c∈xss,c.length=5/\∀ x∈c,0<=x/\x<=4095)/\Src wr b (N+2+20 * xss.length)/\w.grownBy wr (some b)) (fun _ k _=>(intOf k).toNat)
 case atStart=>exact ⟨p,[],by omega,by simp;omega,rfl,hB4,hid (fun c hc=>by cases hc),hs4.mono (by (try simp) <;> omega),hg4'⟩
 case round =>
  obtain ⟨kk,xss,hk0,hkj,rfl,hB,HV,hsr,hgr⟩:=hrel;clear hB4 hs4 hg4';have hsz:w.heap.size<=wr.heap.size:=hgr.size;by_cases hk:0<kk
  . obtain ⟨vo,vc,hv⟩:=hB.shape
    subst hv;go_wp2_with fail;refine (l13Card_any hsr (by omega)).mono ?_;rintro e w5 ⟨⟨u,xs,rfl,hR,hlx,hxv⟩,hs5,hg5⟩;have hB5:=hB.keepS hg5 hbl hbl;have hgr5:=yAA hgr hg5;have hsz5:=hg5.size;obtain ⟨hs',xh,hval,hokx,hlen,hO,hfn⟩:=hB5.app hR (by omega) hsz5;obtain ⟨rao,rcap,hsh⟩:=hR.shape;subst hsh;have hcells:(#[.slice rao xs.length rcap]:Array Value)=(eS.cells xh).toArray:=by rw [<- hval];rfl
    have HO:=hid hO;have Hfn:=hid hfn;have Hlen:=hid hlen;have Hcells:=hid hcells;have hl0:=HO.out.lt;have Hl0:=hid hl0;have Hxl:Hid (xss.length<=6):=hid (by omega);have hszr:w.heap.size<=w5.heap.size:=hgr5.size;have HV5:Hid (∀ c∈xss++[xs],c.length=5/\∀ x∈c,0<=x/\x<=4095):=hid (fun c hc=>(List.mem_append.1 hc).elim (HV.out c) (fun h=>by rw [List.mem_singleton.1 h];exact ⟨hlx,hxv⟩));clear hR hB hB5 hval hlen hO hfn hcells hl0 hlx hxv hg5 hsr hgr hsz5;go_wp2_with (first | (at_builtin;refine yAB (E:=eS) rfl _ _ 78 rfl Tryz.underlying78 hi hz0 hz1 hz2 rfl (by decide) rfl rfl (HO.out.alloc _) (yAJ (E:=eS) (x:=xh) hokx Hcells.out) ?b1 ?b2 ?b3 ?_))
    case b1=>rw [Hlen.out];have:=Hxl.out;unfold maxLen;simp;omega
    case b2=>rw [Hlen.out];have:=Hxl.out;simp;omega
    case b3=>simp;omega
    intro v' w6 hO6 hg6;have hg6':=hg6.alloc;have hB6:=Hfn.out w6 v' hO6 hg6';have hs6:=hs5.kept hg6'.1 (fun q hq=>by have:=(Hl0.out q hq).1;omega);have hgr6:=yAS hgr5 hg6'.1 (fun q hq=>(Hl0.out q hq).1);have HB6:=hid hB6;clear hO6 hg6 hg6' hB6 hs5 hgr5;go_wp2;go_roundw
    case rel=>exact ⟨kk - 1,_,by omega,by simp;omega,by go_num,HB6.out,HV5,hs6.mono (by simp;omega),hgr6⟩
    case measure=>simp [intOf];omega
  . have hM:=hB.toM (zA _)
    have hl2:xss.length<=6:=by omega
    clear hB;go_wp2;go_ret;exact ⟨⟨_,rfl,xss,hM,hl2,HV.out⟩,hsr.mono (by omega),hgr⟩
end Go.Proofs.YthdaghfhlfjclaaGreat
