/- Lemmas on the way to the law FnTop. No condition. -/
import Derived.Test.YtmindpfmgnnieaaGreatDoorTP39
import Derived.Test.YtmindpfmgnnieaaGreatDoorTP9
namespace Go.Proofs.YtmindpfmgnnieaaGreatDoor
set_option linter.unusedSimpArgs false
open Lib (hid)
open Go.ChangeShapes Go.WideShapes Go.ChangeAt Go.RowKit
set_option linter.unusedVariables false
set_option maxRecDepth 100000
theorem a2At_c {w:World} {A:Nat} {v:Value} {xs:List Int} (ha:Rds eB A w v xs) (k:Nat) {n:Int} (hn:1<=n/\n<=1000) :
 Calls Tryz.prog 25 #[v,.int .i64 k,.int .i64 n] w fun e w'=>(∃ r:Nat,e=.returned (.int .i64 r)/\(r:Int)<n)/\w'=w:=by
 have hle:=ha.le;obtain ⟨l,hl⟩:∃ l,l=xs.length:=⟨_,rfl⟩;by_cases hk:k<l
 . rcases Rds.cases ha with ⟨rfl,ao,cap,rfl,_⟩ | ⟨b,off,cap,rfl,hlt,hc⟩
   . rw [hl] at hk;cases hk
   . obtain ⟨h1,h2⟩:=hc k xs[k] (by simp [<- hl,hk])
     have hb1:0<=xs[k]/\xs[k]<=255:=h1;have d0:w.cell? ⟨b,off+k,none⟩=some (.int .u8 xs[k]):=by
      have h:=h2 0 (by decide);rw [show off+(k * eB.sz+0)=off+k from by show off+(k * 1+0)=_;omega] at h;exact h
     generalize xs[k]'(by omega)=x at d0 hb1;rw [<- hl];have hm:=Int.emod_nonneg x (show n ≠ 0 by omega);have hm2:=Int.emod_lt_of_pos x (show 0<n by omega);have hki:(k:Int)<(l:Int):=by omega
     have hl9:l<=9223372036854775807:=by omega
     clear hc h1 h2 ha hl hle;go_enter Tryz.func25,Tryz.ntmps25;go_wp2;go_ret;exact ⟨⟨(x % n).toNat,yAJ (by omega),by omega⟩,rfl⟩
 . rcases ha.shape with ⟨ao,cap,rfl⟩
   rw [<- hl];have hki:(l:Int)<=(k:Int):=by omega
   have hk2:l<=k:=by omega
   have hl9:l<=9223372036854775807:=by omega
   clear ha hl hle hk;go_enter Tryz.func25,Tryz.ntmps25;go_wp2;go_ret;exact ⟨⟨0,rfl,by omega⟩,rfl⟩
def widA (n:Nat) (d:List (List Int)):Nat:=if d=[] then 1 else n
theorem a2Width_c {d:List (List Int)} {v:Value} {w:World} {A n:Nat} (hd:RdInt64SS A w v d) (hC:DeckC n d) (hn:1<=n/\n<=3) :
 Calls Tryz.prog 24 #[v] w fun e w'=>e=.returned (.int .i64 (widA n d:Nat))/\w'=w:=by
 obtain ⟨ao,ac,rfl,ho⟩:=hd.open;obtain ⟨m,hm⟩:∃ m,m=d.length:=⟨_,rfl⟩;rw [<- hm] at ho |-;by_cases h0:m=0
 . have e1:widA n d=1:=by unfold widA;rw [if_pos (List.eq_nil_of_length_eq_zero (by omega))]
   rw [e1];subst h0;clear hd ho hC hm e1;go_enter Tryz.func24,Tryz.ntmps24;go_wp2;go_ret;exact ⟨rfl,rfl⟩
 . obtain ⟨b,off,rfl,hlt,hc⟩:=ho (by omega)
   obtain ⟨x,ro,rc,hx,d0,hrd⟩:=hc 0 (by omega);have e1:widA n d=n:=by unfold widA;rw [if_neg (fun e=>by rw [e] at hm;exact h0 (by rw [hm];rfl))]
   have e2:=(hC.2 x (zC hx)).1;rw [e1];rw [e2,Nat.add_zero] at d0;have h1:¬ (m:Int)=0:=by omega
   have h2:0<m:=by omega
   clear hd ho hC hm e1 e2 hc hx hrd;go_enter Tryz.func24,Tryz.ntmps24;go_wp2;go_ret;exact ⟨rfl,rfl⟩
theorem a2Field_c {d:List (List Int)} {v u:Value} {xs:List Int} {w:World} {A B n:Nat} (hd:RdInt64SS A w v d) (hC:DeckC n d) (hn:1<=n/\n<=3) (ha:Rds eB B w u xs) :
 Calls Tryz.prog 6 #[v,u] w fun e w'=>(∃ f m:Nat,e=.returned (.agg #[.int .i64 f,.int .i64 (f+m)])/\1<=m/\f+m<=widA n d)/\Below w.heap.size w w':=by
 obtain ⟨W,hW⟩:∃ W,W=w.alloc (.cells #[.int .i64 0,.int .i64 0] 27):=⟨_,rfl⟩;have hbW:Below w.heap.size w W:=by rw [hW];exact (zB _ _).alloc (zA _) _
 have hX:Box W w.heap.size [.int .i64 0,.int .i64 0]:=by rw [hW];exact Box.new w [.int .i64 0,.int .i64 0] _
 have hwd:1<=widA n d/\widA n d<=3:=by unfold widA;split <;> omega
 have Hwid:=hid (a2Width_c (RdInt64SS.onn hd hbW) hC hn);have haW:=Rds.onn ha hbW;have hat:=fun (k:Nat) (n:Int) (hn:1<=n/\n<=1000)=>a2At_c haW k hn;have Hat:=hid hat;obtain ⟨vo,vc,rfl⟩:=hd.shape;obtain ⟨uo,uc,rfl⟩:=ha.shape;have HW:=hid hW;have HbW:=hid hbW;have HX:=hid hX;generalize widA n d=wd at *
 generalize d.length=dl at *
 generalize xs.length=xl at *
 have ha0:=Hat.out 0 (wd:Int) (by omega);rw [show ((0:Nat):Int)=0 from rfl] at ha0;have Ha0:=hid ha0;clear hd ha hat haW hbW hX hW hC ha0;go_enter Tryz.func6,Tryz.ntmps6;go_upto_region 1 with fail;rw [<- HW.out];clear HW;go_wp2_with fail;with_reducible refine Hwid.out.mono ?_
 rintro e w1 ⟨rfl,rfl⟩;go_wp2_with fail;with_reducible refine Ha0.out.mono ?_
 rintro e w2 ⟨⟨f,rfl,hf⟩,rfl⟩;have hf2:f<wd:=by omega
 have ha1:=Hat.out 1 ((wd:Int) - f) (by omega);rw [show ((1:Nat):Int)=1 from rfl] at ha1;have Ha1:=hid ha1;clear ha1;have x0:=HX.out.cell 0 _ rfl;have x1:=HX.out.cell 1 _ rfl;have g0:=HX.out.free 0;have g1:=HX.out.free 1;go_wp2_with fail;with_reducible refine Ha1.out.mono ?_
 rintro e w3 ⟨⟨k,rfl,hk⟩,rfl⟩;go_wp2;refine bodyPost_ret (v:=.agg #[.int .i64 f,.int .i64 (f+1+k)]) (by simp [results,Tryz.results6,go_sem,x0,x1]) rfl ⟨⟨f,k+1,by rw [show (f:Int)+1+k=f+((k+1:Nat):Int) by omega],by omega,by omega⟩,?_⟩;exact (HbW.out.setCell (zA _) _).setCell (zA _) _
end Go.Proofs.YtmindpfmgnnieaaGreatDoor
