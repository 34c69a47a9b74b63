/- Lemmas on the way to the law FnRestarts. No condition. -/
import Derived.Test.YthdaghfhlfjclaaGreatMR9
import Derived.Test.YthdaghfhlfjclaaGreatMR6
namespace Go.Proofs.YthdaghfhlfjclaaGreat
set_option linter.unusedSimpArgs false
open Lib (hid)
open Go.ChangeShapes Go.WideShapes Go.ChangeAt Go.RowKit
theorem eB_all (xs:List Int):eB.all xs=xs.map (Value.int .u8):=by
 show xs.flatMap (fun x=>[Value.int .u8 x])=_
 induction xs with
 | nil=>rfl
 | cons x xs ih=>simp [List.flatMap_cons,ih]
theorem _root_.Go.RowKit.Below.drewNx {B:Nat} {a w:World} (h:Below B a w) (m:Nat):Below B a (w.drewN m):=⟨h.os,h.tape,h.output,h.size,h.block⟩
section
variable {H:Type} {enc:TypeId × Value->H} {P:Program}
theorem open_rdB {w:World} {r:Reach} {b0:Nat} {t e:TypeId} {v:Value} {d:DataW H} {ps:List MemPlace}
 (ht:P.underlying t=some (.slice e)) (he:P.underlying e=some (.int .u8)) (hc:P.cellsOf e=1)
 (hok:Value.okWide P w r b0 t v) (h:DataW.Trod enc P w 0 (fun _=>true) true t v d ps) :
 ∃ xs,Rds eB w.heap.size w v xs/\(d=.nil/\xs=[]\/∃ el sp,d=.slice el sp/\el.length=xs.length):=by
 obtain ⟨a,len,cap,rfl⟩:=okWide_slice ht hok;obtain ⟨fuel,hf⟩:=h;rcases open_ints ht he hc hf with ⟨hcs,hx⟩ | ⟨a',len',cap',zs,hcs,_,hl,hm,hz,hx,hcell,hwf⟩
 . have hcs':Value.slice a len cap=.slice none 0 0:=by simpa [Value.cells] using hcs
   injection hcs' with h1 h2 h3;subst h1;subst h2;subst h3;simp only [Prod.mk.injEq] at hx;exact ⟨[],Rds.nil _ _ _,.inl ⟨hx.1,rfl⟩⟩
 . have hcs':Value.slice a len cap=.slice (some a') len' cap':=by simpa [Value.cells] using hcs
   injection hcs' with h1 h2 h3;subst h1;subst h2;subst h3;simp only [if_true] at hz;simp only [Prod.mk.injEq] at hx;have hlen:(zs.take len).length=len:=by rw [zI];omega
   have hmx:len<=9223372036854775807:=by unfold maxLen at hm;omega
   refine ⟨zs.take len,⟨⟨?_,by rw [hlen];exact hmx,?_⟩,fun x hx'=>?_⟩,.inr ⟨_,_,hx.1,by simp [lits]⟩⟩
   . exact eB.all_length _
   . rw [hlen,eB_all]
     cases len with
     | zero=>exact .inl ⟨rfl,_,_,rfl,fun h=>by cases h⟩
     | succ n =>
      obtain ⟨b,off,spot⟩:=a';have h0:=hcell 0 (by omega);have hspot:spot=none:=by
       cases spot with
       | none=>rfl
       | some s =>
        simp only [Addr.add,if_true,World.cell?] at h0;split at h0 <;> simp at h0
      subst hspot;refine .inr ⟨b,off,cap,rfl,⟨hl,by unfold maxLen at hm;omega⟩,World.block_lt_of_cell? w _ h0,World.block_lt_of_cell? w _ h0,fun i hi=>?_⟩;have hi':i<n+1:=by simpa [eB] using hi
      have hi2:i<zs.length:=by omega
      have:=hcell i hi2;rw [Addr.add_lit] at this;rw [this];simp [hi',hi2]
   . have:=hwf x (List.mem_of_mem_take hx')
     simp [Lit.wf,IntKind.min,IntKind.max,IntKind.signed,IntKind.bits] at this;exact this
end
theorem f6big_any {w:World} {A:Nat} {v:Value} {cs:List Int} (ha:Rds eB A w v cs):Calls Tryz.prog 25 #[v] w fun e w'=>e=.returned (.bool (decide ((4096:Int)<cs.length)))/\w=w':=by
 have hle:=ha.le;obtain ⟨ao,cap,rfl⟩:=ha.shape;obtain ⟨n,hn⟩:∃ n,n=cs.length:=⟨_,rfl⟩;rw [<- hn] at hle |-;clear ha hn;go_enter Tryz.func25,Tryz.ntmps25;go_wp2;go_ret;exact ⟨rfl,rfl⟩
theorem f6ints_any {w:World} {A B:Nat} {u v:Value} {xs ys:List Int} (ha:RdI A w u xs) (hb:RdI B w v ys):Calls Tryz.prog 33 #[u,v] w fun e w'=>e=.returned (.bool (decide (xs=ys)))/\∃ m,w'=w.drewN m:=by
 have hle:=ha.le;obtain ⟨ao,cap,rfl,hoa⟩:=ha.open;obtain ⟨bo,bcap,rfl,hob⟩:=hb.open;obtain ⟨n,hn⟩:∃ n,n=xs.length:=⟨_,rfl⟩;obtain ⟨m,hm⟩:∃ m,m=ys.length:=⟨_,rfl⟩;rw [<- hn] at hle;rw [<- hn,<- hm];have Hn:=hid hn;have Hm:=hid hm;have Ha:=hid hoa;have Hb:=hid hob;clear ha hb hoa hob hn hm;by_cases hnm:n=m
 . subst hnm
   go_enter Tryz.func33,Tryz.ntmps33;go_wp2;go_loopw [5] (fun i wr=>∃ k:Nat,k<=n/\i=.int .i64 k/\Hid (xs.take k=ys.take k)/\∃ m,wr=w.drewN m) (fun i _=>n - (intOf i).toNat)
   case atStart=>exact ⟨0,zK _,rfl,rfl,0,rfl⟩
   case round =>
    obtain ⟨k,hk,rfl,hp,m,rfl⟩:=hrel;by_cases hkn:k<n
    . obtain ⟨b,off,rfl,hlt,hc⟩:=Ha.out (by have:=Hn.out;omega)
      obtain ⟨x,hx,hcx,bx⟩:=hc k (by have:=Hn.out;omega);obtain ⟨b2,off2,rfl,hlt2,hc2⟩:=Hb.out (by have:=Hm.out;omega);obtain ⟨y,hy,hcy,by2⟩:=hc2 k (by have:=Hm.out;omega);have Hx:=hid hx;have Hy:=hid hy;have hz1:k=0->w.cell? ⟨b,off,none⟩=some (.int .i64 x):=fun e=>by subst e;simpa using hcx
      have hz2:k=0->w.cell? ⟨b2,off2,none⟩=some (.int .i64 y):=fun e=>by subst e;simpa using hcy
      clear hx hy hc hc2;by_cases hxy:x=y
      . subst hxy
        have hne:(x != x)=false:=by simp
        rcases k with _ | k
        . have h1:=hz1 rfl
          have h2:=hz2 rfl;clear hz1 hz2 hcx hcy;go_wp2;go_quiet (fail);go_wp2;go_roundw
          case rel=>exact ⟨1,by omega,by go_num,by have h1:=yAE Hx.out;have h2:=yAE Hy.out;simp only [Nat.zero_add] at h1 h2;show xs.take 1=ys.take 1;rw [h1,h2];simp,_,rfl⟩
          case measure=>simp [intOf];omega
        . clear hz1 hz2
          go_wp2;go_quiet (fail);go_wp2;go_roundw
          case rel=>exact ⟨k+2,by omega,by go_num,by show xs.take (k+1+1)=ys.take (k+1+1);rw [yAE Hx.out,yAE Hy.out,hp.out],_,rfl⟩
          case measure=>simp [intOf];omega
      . have hne:(x != y)=true:=by simpa using hxy
        have hno:¬ xs=ys:=fun e=>hxy (by have h1:=Hx.out;have h2:=Hy.out;rw [e,h2] at h1;exact (zD h1).symm);have Hno:=hid hno;clear hno hxy;rcases k with _ | k
        . have h1:=hz1 rfl
          have h2:=hz2 rfl;clear hz1 hz2 hcx hcy;go_wp2;go_quiet (fail);go_wp2;go_ret;exact ⟨yAD (by simpa using Hno.out),_,World.drewN_drewN _ _ _⟩
        . clear hz1 hz2
          go_wp2;go_quiet (fail);go_wp2;go_ret;exact ⟨yAD (by simpa using Hno.out),_,World.drewN_drewN _ _ _⟩
    . go_wp2
      go_ret;obtain rfl:k=n:=by omega
      have h1:=hp.out;rw [zH (by have:=Hn.out;omega),zH (by have:=Hm.out;omega)] at h1;exact ⟨yAD (by simpa using h1),_,rfl⟩
 . have hne:¬ xs=ys:=fun e=>hnm (by have h1:=Hn.out;have h2:=Hm.out;rw [e] at h1;omega)
   have Hne:=hid hne;clear hne;go_enter Tryz.func33,Tryz.ntmps33;go_wp2;go_ret;exact ⟨yAD (by simpa using Hne.out),0,rfl⟩
theorem f6ints_c {w:World} {A B:Nat} {u v:Value} {xs ys:List Int} (ha:RdI A w u xs) (hb:RdI B w v ys):Calls Tryz.prog 33 #[u,v] w fun e w'=>e=.returned (.bool (decide (xs=ys)))/\Below w.heap.size w w' :=
 (f6ints_any ha hb).mono fun e w' ⟨h1,m,h2⟩=>⟨h1,by rw [h2];exact (zB _ _).drewNx m⟩
end Go.Proofs.YthdaghfhlfjclaaGreat
