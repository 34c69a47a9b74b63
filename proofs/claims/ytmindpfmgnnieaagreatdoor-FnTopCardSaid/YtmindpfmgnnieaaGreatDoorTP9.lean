/- Lemmas on the way to the law FnTop. No condition. -/
import Derived.Test.YtmindpfmgnnieaaGreatDoorTP8
import Derived.Test.YtmindpfmgnnieaaGreatDoorTP5
namespace Go.Proofs.YtmindpfmgnnieaaGreatDoor
set_option linter.unusedSimpArgs false
open Go.ChangeShapes Go.WideShapes Go.ChangeAt Go.RowKit
theorem eB_all (xs:List Int):eB.all xs=xs.map (Value.int .u8):=by
 show xs.flatMap (fun x=>[Value.int .u8 x])=_
 induction xs with
 | nil=>rfl
 | cons x xs ih=>simp [List.flatMap_cons,ih]
section
variable {H:Type} {enc:TypeId × Value->H} {P:Program}
theorem open_rdB {w:World} {r:Reach} {b0:Nat} {t e:TypeId} {v:Value} {d:DataW H} {ps:List MemPlace}
 (ht:P.underlying t=some (.slice e)) (he:P.underlying e=some (.int .u8)) (hc:P.cellsOf e=1)
 (hok:Value.okWide P w r b0 t v) (h:DataW.Trod enc P w 0 (fun _=>true) true t v d ps) :
 ∃ xs,Rds eB w.heap.size w v xs/\(d=.nil/\xs=[]\/∃ el sp,d=.slice el sp/\el.length=xs.length):=by
 obtain ⟨a,len,cap,rfl⟩:=okWide_slice ht hok;obtain ⟨fuel,hf⟩:=h;rcases open_ints ht he hc hf with ⟨hcs,hx⟩ | ⟨a',len',cap',zs,hcs,_,hl,hm,hz,hx,hcell,hwf⟩
 . have hcs':Value.slice a len cap=.slice none 0 0:=by simpa [Value.cells] using hcs
   injection hcs' with h1 h2 h3;subst h1;subst h2;subst h3;simp only [Prod.mk.injEq] at hx;exact ⟨[],Rds.nil _ _ _,.inl ⟨hx.1,rfl⟩⟩
 . have hcs':Value.slice a len cap=.slice (some a') len' cap':=by simpa [Value.cells] using hcs
   injection hcs' with h1 h2 h3;subst h1;subst h2;subst h3;simp only [if_true] at hz;simp only [Prod.mk.injEq] at hx;have hlen:(zs.take len).length=len:=by rw [zI];omega
   have hmx:len<=9223372036854775807:=by unfold maxLen at hm;omega
   refine ⟨zs.take len,⟨⟨?_,by rw [hlen];exact hmx,?_⟩,fun x hx'=>?_⟩,.inr ⟨_,_,hx.1,by simp [lits]⟩⟩
   . exact eB.all_length _
   . rw [hlen,eB_all]
     cases len with
     | zero=>exact .inl ⟨rfl,_,_,rfl,fun h=>by cases h⟩
     | succ n =>
      obtain ⟨b,off,spot⟩:=a';have h0:=hcell 0 (by omega);have hspot:spot=none:=by
       cases spot with
       | none=>rfl
       | some s =>
        simp only [Addr.add,if_true,World.cell?] at h0;split at h0 <;> simp at h0
      subst hspot;refine .inr ⟨b,off,cap,rfl,⟨hl,by unfold maxLen at hm;omega⟩,World.block_lt_of_cell? w _ h0,World.block_lt_of_cell? w _ h0,fun i hi=>?_⟩;have hi':i<n+1:=by simpa [eB] using hi
      have hi2:i<zs.length:=by omega
      have:=hcell i hi2;rw [Addr.add_lit] at this;rw [this];simp [hi',hi2]
   . have:=hwf x (List.mem_of_mem_take hx')
     simp [Lit.wf,IntKind.min,IntKind.max,IntKind.signed,IntKind.bits] at this;exact this
end
set_option linter.unusedVariables false
set_option maxRecDepth 100000
theorem a2Long_any {w:World} {A B:Nat} {u v:Value} {xs ys:List Int} (ha:Rds eB A w u xs) (hb:Rds eB B w v ys) :
 Calls Tryz.prog 4 #[u,v] w fun e w'=>e=.returned (.bool (decide ((3000:Int)<xs.length\/(3000:Int)<ys.length)))/\w=w':=by
 have hle:=ha.le;have hle2:=hb.le;obtain ⟨ao,cap,rfl⟩:=ha.shape;obtain ⟨bo,bcap,rfl⟩:=hb.shape;obtain ⟨n,hn⟩:∃ n,n=xs.length:=⟨_,rfl⟩;obtain ⟨m,hm⟩:∃ m,m=ys.length:=⟨_,rfl⟩;rw [<- hn] at hle |-;rw [<- hm] at hle2 |-;clear ha hb hn hm;by_cases h:(3000:Int)<(n:Int)
 . have e:decide ((3000:Int)<(n:Int)\/(3000:Int)<(m:Int))=true:=decide_eq_true (.inl h)
   rw [e];clear e;go_enter Tryz.func4,Tryz.ntmps4;go_wp2;go_ret;exact ⟨by first | rfl | simp [h],rfl⟩
 . have e:decide ((3000:Int)<(n:Int)\/(3000:Int)<(m:Int))=decide ((3000:Int)<(m:Int)):=by simp [h]
   rw [e];clear e;have hf:decide ((3000:Int)<(n:Int))=false:=decide_eq_false h;go_enter Tryz.func4,Tryz.ntmps4;go_wp2;go_ret;exact ⟨by first | rfl | simp [h],rfl⟩
end Go.Proofs.YtmindpfmgnnieaaGreatDoor
