/- Lemmas on the way to the law FnRestarts. No condition. -/
import Derived.Test.YthdaghfhlfjclaaGreatMR32
import Derived.Test.YthdaghfhlfjclaaGreatMR3
import Derived.Test.YthdaghfhlfjclaaGreatMR29
import Derived.Test.YthdaghfhlfjclaaGreatMR17
import Derived.ArgAppend
import Derived.Test.YthdaghfhlfjclaaGreatMR26
import Derived.Test.YthdaghfhlfjclaaGreatMR33
import Derived.Test.YthdaghfhlfjclaaGreatMR34
import Derived.Test.YthdaghfhlfjclaaGreatMR22
import Derived.StillTailTactics
namespace Go.Proofs.YthdaghfhlfjclaaGreat
set_option maxHeartbeats 4000000
set_option linter.unusedSimpArgs false
open Lib (hid)
open Go.ChangeShapes Go.WideShapes Go.ChangeAt Go.RowKit Go.Sort
set_option linter.unusedVariables false
set_option maxRecDepth 100000
def RdTz (w:World) (v:Value) (x:List TotalT):Prop:=RdTs w.heap.size w v x
def OffN (base:Nat) (X:Nat->Prop) (w:World) (u v:Value) (o:OffT):Prop :=
 ∃ hs ks,Own eS 78 base w u hs/\Own eS 110 base w v ks /\
  RwsG RdD (fun k=>X k\/u.ownBlock=some k\/v.ownBlock=some k) w hs o.trays/\RwsG RdTz (fun k=>X k\/u.ownBlock=some k\/v.ownBlock=some k) w ks o.totals /\
  ∀ q,u.ownBlock=some q->v.ownBlock ≠ some q
section
variable {base:Nat} {X X':Nat->Prop} {w w' w1:World} {u v u' v':Value} {o:OffT}
theorem OffN.shape (h:OffN base X w u v o):(∃ a c,u=.slice a o.trays.length c)/\∃ a c,v=.slice a o.totals.length c:=by
 obtain ⟨hs,ks,h1,h2,h3,h4,-⟩:=h;rw [<- h3.1,<- h4.1];exact ⟨h1.shape,h2.shape⟩
theorem OffN.rd (h:OffN base X w u v o):RdOff w.heap.size w u v o:=by
 obtain ⟨hs,ks,h1,h2,h3,h4,-⟩:=h;exact ⟨RdL.of_own (R:=fun B w v (x:List (List Int))=>RdInt64SS B w v x) h1 h3,RdL.of_own (R:=RdTs) h2 h4⟩
theorem OffN.agr {S':Nat->Prop} (h:OffN base X w u v o) (hA:Agr S' w w') (h1:∀ k,S' k->k<w.heap.size->X k/\u.ownBlock ≠ some k/\v.ownBlock ≠ some k) (h2:∀ k,X' k->k<w.heap.size->X k):OffN base X' w' u v o:=by
 obtain ⟨hs,ks,a1,a2,a3,a4,a5⟩:=h;have b1:=(OwnT.agr (Own.top a1) hA (fun k hk hS=>(h1 k hS (a1.lt k hk).2).2.1 hk)).1;have b2:=(OwnT.agr (Own.top a2) hA (fun k hk hS=>(h1 k hS (a2.lt k hk).2).2.2 hk)).1;exact ⟨hs,ks,b1,b2,a3.step hA (fun k hS hk=>.inl (h1 k hS hk).1) (fun k hS hk=>hS.elim (fun e=>.inl (h2 k e hk)) .inr),a4.step hA (fun k hS hk=>.inl (h1 k hS hk).1) (fun k hS hk=>hS.elim (fun e=>.inl (h2 k e hk)) .inr),a5⟩
theorem OffN.on (h:OffN base X w u v o) (hb:Below w.heap.size w w'):OffN base X w' u v o :=
 h.agr (S':=fun _=>False) ⟨hb.os,hb.tape,hb.output,hb.size,fun k hk _=>hb.block k hk⟩ (fun k h=>h.elim) (fun k h _=>h)
theorem OffN.more (h:OffN base X w u v o) (h2:∀ k,X' k->k<w.heap.size->X k):OffN base X' w u v o :=
 h.agr (S':=fun _=>False) (Agr.refl _ _) (fun k h=>h.elim) h2
theorem OffN.fr {n:Nat} (h:OffN base X w u v o) (hn:n<=base) (hX:∀ k,k<n->X k) (hA:Agr (fun k=>k<n) w w'):RdOff w'.heap.size w' u v o :=
 (h.agr (X':=X) hA (fun k hk _=>⟨hX k hk,fun e=>by obtain ⟨hs,ks,a1,-⟩:=h;have:=(a1.lt k e).1;omega,fun e=>by obtain ⟨hs,ks,-,a2,-⟩:=h;have:=(a2.lt k e).1;omega⟩) (fun k h _=>h)).rd
theorem OffN.appT (h:OffN base X w u v o) (hX:∀ k,X k->k<w.heap.size):∃ hs,Own eS 78 base w u hs/\hs.length=o.trays.length /\
 ∀ (w1:World) (hx:SlV) (x:List (List Int)),Below w.heap.size w w1->FrS RdD (fun k=>k<w.heap.size) w1 hx.val x->∀ w' u',Own eS 78 base w' u' (hs++[hx])->Grew w1 w' u u'->OffN base X w' u' v ⟨o.trays++[x],o.totals⟩:=by
 obtain ⟨hs,ks,a1,a2,a3,a4,a5⟩:=h;refine ⟨hs,a1,a3.1,fun w1 hx x hb hfr w' u' ho hg=>?_⟩;have hA1:Agr (fun _=>False) w w1:=⟨hb.os,hb.tape,hb.output,hb.size,fun k hk _=>hb.block k hk⟩;have c2:=a2.below hb (zA _);have hu:∀ k,u.ownBlock=some k->k<w.heap.size:=fun k hk=>(a1.lt k hk).2;have hv:∀ k,v.ownBlock=some k->k<w.heap.size:=fun k hk=>(a2.lt k hk).2;have hA2:Agr (fun k=>u.ownBlock=some k) w1 w':=Agr.of_grown hg.1 (fun k hk _=>hk);have hA:Agr (fun k=>u.ownBlock=some k) w w':=⟨hA2.os.trans hA1.os,hA2.tape.trans hA1.tape,hA2.output.trans hA1.output,zO hA1.size hA2.size,fun k hk hn=>(hA2.block k (zM hk hA1.size) hn).trans (hA1.block k hk (fun e=>e))⟩;have hown:∀ k,u'.ownBlock=some k->u.ownBlock=some k\/w1.heap.size<=k:=fun k hk=>by
  rcases hg.2 with e | ⟨q,e,hq⟩
  . exact .inl (by rw [<- e];exact hk)
  . rw [e] at hk;cases hk;exact .inr hq
 have hs2:∀ k,(X k\/u'.ownBlock=some k\/v.ownBlock=some k)->k<w.heap.size->(X k\/u.ownBlock=some k\/v.ownBlock=some k):=fun k hk hlt=>hk.elim .inl (fun h=>h.elim (fun h=>(hown k h).elim (fun h=>.inr (.inl h)) (fun h=>by have:=hb.size;omega)) (fun h=>.inr (.inr h)));have d2:=(OwnT.agr (Own.top c2) hA2 (fun k hk hS=>a5 k hS hk)).1;refine ⟨hs++[hx],ks,ho,d2,(a3.step hA (fun k h _=>.inr (.inl h)) hs2).snoc ?_,a4.step hA (fun k h _=>.inr (.inl h)) hs2,fun q hq hvq=>?_⟩
 . refine hfr.step hA2 (fun k hk _=>hu k hk) (fun k hk hlt=>?_)
   rcases hk with hk | hk | hk
   . exact hX k hk
   . rcases hown k hk with h | h
     . exact hu k h
     . omega
   . exact hv k hk
 . rcases hown q hq with h | h
   . exact a5 q h hvq
   . have:=hv q hvq
     have:=hb.size;omega
theorem OffN.appL (h:OffN base X w u v o) (hX:∀ k,X k->k<w.heap.size):∃ ks,Own eS 110 base w v ks/\ks.length=o.totals.length /\
 ∀ (w1:World) (hx:SlV) (x:List TotalT),Below w.heap.size w w1->FrS RdTz (fun k=>k<w.heap.size) w1 hx.val x->∀ w' v',Own eS 110 base w' v' (ks++[hx])->Grew w1 w' v v'->OffN base X w' u v' ⟨o.trays,o.totals++[x]⟩:=by
 obtain ⟨hs,ks,a1,a2,a3,a4,a5⟩:=h;refine ⟨ks,a2,a4.1,fun w1 hx x hb hfr w' v' ho hg=>?_⟩;have hA1:Agr (fun _=>False) w w1:=⟨hb.os,hb.tape,hb.output,hb.size,fun k hk _=>hb.block k hk⟩;have c1:=a1.below hb (zA _);have hu:∀ k,u.ownBlock=some k->k<w.heap.size:=fun k hk=>(a1.lt k hk).2;have hv:∀ k,v.ownBlock=some k->k<w.heap.size:=fun k hk=>(a2.lt k hk).2;have hA2:Agr (fun k=>v.ownBlock=some k) w1 w':=Agr.of_grown hg.1 (fun k hk _=>hk);have hA:Agr (fun k=>v.ownBlock=some k) w w':=⟨hA2.os.trans hA1.os,hA2.tape.trans hA1.tape,hA2.output.trans hA1.output,zO hA1.size hA2.size,fun k hk hn=>(hA2.block k (zM hk hA1.size) hn).trans (hA1.block k hk (fun e=>e))⟩;have hown:∀ k,v'.ownBlock=some k->v.ownBlock=some k\/w1.heap.size<=k:=fun k hk=>by
  rcases hg.2 with e | ⟨q,e,hq⟩
  . exact .inl (by rw [<- e];exact hk)
  . rw [e] at hk;cases hk;exact .inr hq
 have hs2:∀ k,(X k\/u.ownBlock=some k\/v'.ownBlock=some k)->k<w.heap.size->(X k\/u.ownBlock=some k\/v.ownBlock=some k):=fun k hk hlt=>hk.elim .inl (fun h=>h.elim (fun h=>.inr (.inl h)) (fun h=>(hown k h).elim (fun h=>.inr (.inr h)) (fun h=>by have:=hb.size;omega)));have d1:=(OwnT.agr (Own.top c1) hA2 (fun k hk hS=>a5 k hk hS)).1;refine ⟨hs,ks++[hx],d1,ho,a3.step hA (fun k h _=>.inr (.inr h)) hs2,(a4.step hA (fun k h _=>.inr (.inr h)) hs2).snoc ?_,fun q hq hvq=>?_⟩
 . refine hfr.step hA2 (fun k hk _=>hv k hk) (fun k hk hlt=>?_)
   rcases hk with hk | hk | hk
   . exact hX k hk
   . exact hu k hk
   . rcases hown k hk with h | h
     . exact hv k h
     . omega
 . rcases hown q hvq with h | h
   . exact a5 q hq h
   . have:=hu q hq
     have:=hb.size;omega
theorem OffN.setT (h:OffN base X w u v o) (hX:∀ k,X k->k<w.heap.size) {g n c i:Nat} (hu:u=.slice (some ⟨g,0,none⟩) n c) (hi:i<o.trays.length) {hx:SlV} {x:List (List Int)} (hb:Below w.heap.size w w1) (hfr:FrS RdD (fun k=>k<w.heap.size) w1 hx.val x) :
 (∃ y,w1.cell? ⟨g,i,none⟩=some y)/\w1.frozen? ⟨g,i,none⟩=false/\OffN base X (w1.setCell ⟨g,i,none⟩ hx.val) u v ⟨o.trays.set i x,o.totals⟩:=by
 obtain ⟨hs,ks,a1,a2,a3,a4,a5⟩:=h;subst hu;have hn:n=hs.length:=(Own.rds a1).cap.2.1;have c1:=a1.below hb (zA _);have c2:=a2.below hb (zA _);have hil:i<n:=by rw [hn,a3.1];exact hi
 obtain ⟨e1,e2⟩:=Own.cellE (E:=eS) c1 hn (k:=i) (j:=0) hil (by decide);have hk2:hs[i]?=some (hs[i]'(by omega)):=zF (by omega);have hst:=Own.store1 (E:=eS) (by decide) c1 hn (x:=hs[i]'(by omega)) (y:=hx) (v:=hx.val) hk2 (j:=0) (by decide) rfl trivial;simp only [show eS.sz=1 from rfl,Nat.mul_one,Nat.add_zero] at hst e1 e2;have hA2:Agr (fun k=>k=g) w1 (w1.setCell ⟨g,i,none⟩ hx.val):=Agr.of_grown1 hst.2 rfl;have hA:Agr (fun k=>k=g) w (w1.setCell ⟨g,i,none⟩ hx.val):=⟨hA2.os.trans hb.os,hA2.tape.trans hb.tape,hA2.output.trans hb.output,zO hb.size hA2.size,fun k hk hn=>(hA2.block k (zM hk hb.size) hn).trans (hb.block k hk)⟩;have hg:(Value.slice (some ⟨g,0,none⟩) n c).ownBlock=some g:=rfl;have hgv:v.ownBlock ≠ some g:=a5 g hg;have hin:∀ k,k=g->k<w.heap.size->(X k\/(Value.slice (some ⟨g,0,none⟩) n c).ownBlock=some k\/v.ownBlock=some k):=fun k hk _=>.inr (.inl (by rw [hk];rfl));have d2:=(OwnT.agr (Own.top c2) hA2 (fun k hk hS=>hgv (by rw [<- hS];exact hk))).1;refine ⟨e1,e2,hs.set i hx,ks,hst.1,d2,(a3.step hA hin (fun k h _=>h)).set ?_ i,a4.step hA hin (fun k h _=>h),a5⟩;refine hfr.step hA2 (fun k hk _=>by rw [hk];exact (a1.lt g rfl).2) (fun k hk hlt=>?_);rcases hk with hk | hk | hk
 . exact hX k hk
 . exact (a1.lt k hk).2
 . exact (a2.lt k hk).2
end
theorem run_copyS {α:Type} {E:Elt α} {P:Program} {w:World} {base g:Nat} {t ty e:TypeId} {i:TypeInfo} {z:Value} {bytes B:Nat} (ht:P.underlying t=some (.slice e)) (hi:P.info? e=some i) (hz:i.zero=some z)
 (hsize:i.size=E.sz) (hby:i.bytes=bytes) (hzs:z.cells.size=E.sz) (hsz:0<E.sz) {u:Value} {ys:List α} (hown:Own E e base w (.slice (some ⟨g,0,none⟩) 0 0) []) (hu:Rds E B w u ys)
 (h63:ys.length<=maxLen) (hbytes:ys.length * bytes<=140737488355328) (hbase:base<=w.heap.size) :
 ∃ v' w',(Builtin.append_ #[t,t] ty #[.slice (some ⟨g,0,none⟩) 0 0,u]).run P w=.ok v' w'/\Own E e base w' v' ys/\Below w.heap.size w w':=by
 have hok:∀ x∈ys,E.ok x:=hu.2;by_cases h0:ys.length=0
 . obtain rfl:ys=[]:=List.eq_nil_of_length_eq_zero h0
   rcases hu.1.2.2 with ⟨-,ao,cap,rfl,hcap⟩ | ⟨b,off,cap,rfl,hcp,hlt,hlt',hc⟩
   . cases ao with
     | none =>
      obtain rfl:=hcap rfl;exact ⟨_,w,run_append_owned_none (P:=P) w base t ty e i E.sz ht hi _ 0 (E.all []) hown.1,hown,zB _ _⟩
     | some a =>
      have h:=run_append_room_cells (P:=P) (w:=w) t ty e i ht hi g 0 0 0 a 0 cap [] (by simp) (by simp) (by simp) (by omega) (by simp) (by simp);exact ⟨_,w,h,hown,zB _ _⟩
   . have h:=run_append_room_cells (P:=P) (w:=w) t ty e i ht hi g 0 0 0 ⟨b,off,none⟩ 0 cap [] (by simp) (by simp) (by simp) (by omega) (by simp) (by simp)
     exact ⟨_,w,h,hown,zB _ _⟩
 . rcases hu.1.2.2 with ⟨h1,-⟩ | ⟨b,off,cap,rfl,hcp,hlt,hlt',hc⟩
   . exact absurd h1 h0
   . obtain ⟨v',w',h1,h2,h3⟩:=run_append_arg_grows (P:=P) (w:=w) t ty e i z E.sz bytes ht hi hz hsize hby hzs hsz ⟨g,0,none⟩ 0 0 [] (by simp) (by simp) ⟨b,off,none⟩ ys.length cap (E.all ys) (E.all_length _)
      (fun j x hx=>by
       have hj:j<ys.length * E.sz:=by have:=(zS.1 hx).1;rwa [E.all_length] at this
       rw [Addr.add_lit,hc j hj];exact hx) (by omega) (by omega) (by rw [Nat.zero_add];exact hbytes)
     rw [Nat.zero_add,List.nil_append] at h2;have hO:Own E e w.heap.size w' v' ys:=⟨h2,hok⟩;exact ⟨v',w',h1,hO.mono hbase,(zB _ _).grown h3 (zA _) (fun k hk=>by cases hk)⟩
theorem yBJ {S:Nat->Prop} {w w':World} {g:Nat} {cs:List Value} (h:Box w g cs) (hA:Agr S w w') (hS:¬ S g):Box w' g cs :=
 ⟨zM h.lt hA.size,fun j v hj=>hA.cell (h.cell j v hj) hS,fun j=>by
  have h1:=h.free j;unfold World.frozen? at h1 |-;rw [hA.block g h.lt hS];exact h1⟩
theorem relAt_copyS {P:Program} {α:Type} {E:Elt α} {o:Oper} {a:Act} {w:World} {K:Value->World->Prop} (s x:Operand) (t:TypeId)
 (ho:o.op=.call { callee:=.builtin .append,args:=#[s,x],argTypes:=#[t,t] })
 {base g:Nat} {e:TypeId} {i:TypeInfo} {z:Value} {bytes B:Nat} (ht:P.underlying t=some (.slice e)) (hi:P.info? e=some i) (hz:i.zero=some z)
 (hsize:i.size=E.sz) (hby:i.bytes=bytes) (hzs:z.cells.size=E.sz) (hsz:0<E.sz) {u:Value} {ys:List α} (hs:a.eval s=.slice (some ⟨g,0,none⟩) 0 0) (hx:a.eval x=u) (hown:Own E e base w (.slice (some ⟨g,0,none⟩) 0 0) []) (hu:Rds E B w u ys)
 (h63:ys.length<=maxLen) (hbytes:ys.length * bytes<=140737488355328) (hbase:base<=w.heap.size)
 (h:∀ v' w',Own E e base w' v' ys->Below w.heap.size w w'->K v' w'):relAt P o a w K:=by
 obtain ⟨v',w',hr,h2,h3⟩:=run_copyS (P:=P) (ty:=o.type) ht hi hz hsize hby hzs hsz hown hu h63 hbytes hbase;unfold relAt execOp;simp only [ho,resolve,invoke,builtin,Sem.run_bind,Sem.run_pure,Result.andThen_ok,List.map_toArray,List.map_cons,List.map_nil,hs,hx,hr];simp only [relUpon];exact h v' w' h2 h3
section
variable {w0 w w1 w':World} {X0:Nat} {po:List Value} {cu cv u v u' v':Value} {o:OffT}
end
theorem numOk_of {d:List (List Int)} {x y:Int} (hD:deckB d=true) (h:fieldP x y (colsD d)) (h12:y - x<=12):NumOk d x y :=
 ⟨yAT hD h,h12,fun c hc m hm=>card_masks ((yAF hD).2 c hc).1 m hm⟩
theorem strD_mem {d:List (List Int)} {G:List Int} {i:Nat} {c:List Int} (h:c∈strD d G i):c∈d:=by
 unfold strD at h;exact List.mem_of_mem_take (List.mem_of_mem_drop h)
theorem strD_num {d:List (List Int)} {G:List Int} {i:Nat} {x y:Int} (h:NumOk d x y):NumOk (strD d G i) x y:=by
 unfold strD;exact (h.take _).drop _
theorem strD_len (d:List (List Int)) (G:List Int) (i:Nat):(strD d G i).length<=d.length:=by
 unfold strD;rw [zQ,zI];omega
theorem strD_any {d:List (List Int)} {G:List Int} {i:Nat} {p:List Int->Bool} (h:d.any p=false):(strD d G i).any p=false:=by
 rw [List.any_eq_false];exact fun c hc=>List.any_eq_false.1 h c (strD_mem hc)
def TotA (v:Value) (w w0 w5:World) (b0:Nat) (L:List TotalT):Prop :=
 Own eTotal 150 w0.heap.size w v L/\Below w0.heap.size w0 w/\Agr (fun k=>k=b0) w5 w/\∀ q,v.ownBlock=some q->q=b0\/w5.heap.size<=q
theorem totD_len (d:List (List Int)) (f t sf st:Int):(totD d f t sf st).length=(selI (grpP d f t) d.length).length:=by unfold totD;simp
theorem totD_at {d:List (List Int)} {f t sf st:Int} {G:List Int} (hG:G=selI (grpP d f t) d.length) {i:Nat} (hi:i<G.length):(totD d f t sf st)[i]?=some (totOf d G f t sf st i):=by
 unfold totD;rw [<- hG,List.getElem?_map,List.getElem?_range hi];rfl
theorem totalsOf_o {d:List (List Int)} {v:Value} {w0:World} {A:Nat} {f t sf st:Int} (hd:RdInt64SS A w0 v d) (hD:deckB d=true) (hf:fieldP f t (colsD d)) (hs:fieldP sf st (colsD d)) (h12:st - sf<=12) :
 Calls Tryz.prog 94 #[v,.agg #[.int .i64 f,.int .i64 t],.agg #[.int .i64 sf,.int .i64 st]] w0 fun e w'=>(∃ r,e=.returned (.tuple #[r,.int .i64 (totC d f t sf st)])/\(totC d f t sf st=0->Own eTotal 150 w0.heap.size w' r (totD d f t sf st)))/\Below w0.heap.size w0 w':=by
 obtain ⟨i0,hi,hz0,hz1,hz2⟩:=info_parts Tryz.infoTotal;obtain ⟨vo,vc,rfl⟩:=hd.shape;obtain ⟨T,hT⟩:∃ T,T=(w0.alloc (.cells #[.int .i64 f,.int .i64 t] 73)).alloc (.cells #[.int .i64 sf,.int .i64 st] 73):=⟨_,rfl⟩;have z1:(w0.alloc (.cells #[.int .i64 f,.int .i64 t] 73)).heap.size=w0.heap.size+1:=by simp
 have hP:Box T w0.heap.size [.int .i64 f,.int .i64 t]:=by rw [hT];exact (Box.new w0 [.int .i64 f,.int .i64 t] _).alloc _
 have hQ:Box T (w0.heap.size+1) [.int .i64 sf,.int .i64 st]:=by
  have h:=Box.new (w0.alloc (.cells #[.int .i64 f,.int .i64 t] 73)) [.int .i64 sf,.int .i64 st] 73;rw [z1,<- hT] at h;exact h
 have hbT:Below w0.heap.size w0 T:=by rw [hT];exact ((zB _ _).alloc (zA _) _).alloc (by rw [z1];omega) _
 obtain ⟨T2,hT2⟩:∃ T2,T2=T.alloc (.cells #[.int .i64 sf,.int .i64 st] 73):=⟨_,rfl⟩;have hb2:Below T.heap.size T T2:=by rw [hT2];exact (zB _ _).alloc (zA _) _
 have hG2:Box T2 T.heap.size [.int .i64 sf,.int .i64 st]:=by rw [hT2];exact Box.new T [.int .i64 sf,.int .i64 st] _
 have hbA:=hbT.trans (hb2.mono hbT.size);have hN:=numOk_of hD hs h12;have hl:=(yAF hD).1;have hso:=sumsOf_c hG2 (RdInt64SS.onn hd hbA) hN (by omega);have c0:=hQ.cell 0 _ rfl;have c1:=hQ.cell 1 _ rfl;have HP2:=hid (hP.on hb2);have HQ2:=hid (hQ.on hb2);have HT:=hid hT;have HT2:=hid hT2;have HbA:=hid hbA;have HN:=hid hN;have HC:=hid (yAT hD hf);have Hd0:=hid hd.tight;have HD:=hid hD;obtain ⟨p,hp⟩:∃ p,p=d.any (noNum sf st):=⟨_,rfl⟩;rw [<- hp] at hso;have Hp:=hid hp;have Hso:=hid hso;obtain ⟨R,hR⟩:∃ R,R=totC d f t sf st:=⟨_,rfl⟩;rw [<- hR];have HR:=hid hR;obtain ⟨TL,hTL0⟩:∃ TL,TL=totD d f t sf st:=⟨_,rfl⟩;rw [<- hTL0];have HTL0:=hid hTL0;clear hTL0;obtain ⟨n,hn⟩:∃ n,n=d.length:=⟨_,rfl⟩;rw [<- hn] at hl Hso Hd0 |-;have Hn:=hid hn;clear hd hD hf hs hT z1 hP hQ hbT hT2 hb2 hG2 hbA hN hso hp hR hn;go_enter Tryz.func94,Tryz.ntmps94;go_upto_region 1 with fail;rw [<- HT.out];go_wp2_with fail;rw [<- HT2.out];with_reducible refine Hso.out.mono ?_
 rintro e w1 ⟨⟨r1,rfl,-⟩,hb1⟩;have hP1:=HP2.out.on hb1;have HP1:=hid hP1;have HQ1:=hid (HQ2.out.on hb1);have Hb1:=hid (HbA.out.trans (hb1.mono HbA.out.size));have g0:=hP1.cell 0 _ rfl;have g1:=hP1.cell 1 _ rfl;clear hb1 hP1 c0 c1;cases p with
 | true =>
  have HE:Hid (R=8):=hid (by rw [HR.out];unfold totC;rw [if_pos (.inl Hp.out.symm)]);go_wp2;go_ret2;exact ⟨⟨.slice none 0 0,by rw [HE.out];rfl,fun h=>by rw [HE.out] at h;exact absurd h (by decide)⟩,Hb1.out⟩
 | false =>
  have hch:=haveField_c (RdInt64SS.onn Hd0.out Hb1.out) HC.out;obtain ⟨q,hq⟩:∃ q,q=hasD d f t:=⟨_,rfl⟩;rw [<- hq] at hch;have Hq:=hid hq;have Hch:=hid hch;clear hq hch;go_wp2_with fail;with_reducible refine Hch.out.mono ?_
  rintro e w2 ⟨rfl,hb2⟩;have hP2:=HP1.out.on hb2;have HP2:=hid hP2;have HQ2:=hid (HQ1.out.on hb2);have Hb2:=hid (Hb1.out.trans (hb2.mono Hb1.out.size));clear hb2 g0 g1;cases q with
  | false =>
   have HE:Hid (R=8):=hid (by rw [HR.out];unfold totC;rw [if_pos (.inr Hq.out.symm)]);clear hP2;go_wp2;go_ret2;exact ⟨⟨.slice none 0 0,by rw [HE.out];rfl,fun h=>by rw [HE.out] at h;exact absurd h (by decide)⟩,Hb2.out⟩
  | true =>
   have HE:Hid (R=0):=hid (by rw [HR.out];unfold totC;rw [if_neg (fun h=>h.elim (fun h=>by rw [<- Hp.out] at h;cases h) (fun h=>by rw [<- Hq.out] at h;cases h))]);obtain ⟨b0,hb0⟩:∃ b,b=w2.heap.size:=⟨_,rfl⟩;obtain ⟨W,hW⟩:∃ W,W=w2.alloc (.cells #[] 150):=⟨_,rfl⟩;have hbW:Below w2.heap.size w2 W:=by rw [hW];exact (zB _ _).alloc (zA _) _
   have hWz:W.heap.size=b0+1:=by rw [hW,hb0];simp
   have hO0:Own eTotal 150 w0.heap.size W (.slice (some ⟨b0,0,none⟩) 0 0) ((totD d f t sf st).take 0):=by
    rw [hW,hb0];exact Own.lit (E:=eTotal) (xs:=[]) (cs:=#[]) Hb2.out.size rfl rfl (by decide) (fun x hx=>by cases hx)
   have hdW:FrS RdD (fun k=>k=b0) W (.slice vo n vc) d:=by
    have h0:FrS RdD (fun k=>w0.heap.size<=k) w0 (.slice vo n vc) d:=fun w' hA=>(RdInt64SS.below Hd0.out (hA.below (fun k h=>h) (zA _)) (zA _)).mono hA.size;exact h0.step (Agr.on (S:=fun k=>w0.heap.size<=k) (Hb2.out.trans (hbW.mono Hb2.out.size))) (fun k h _=>h) (fun k h _=>by have h9:k=b0:=h;have:=Hb2.out.size;show w0.heap.size<=k;omega)
   have hgr:=groups_c hdW (fun k h=>by have h9:k=b0:=h;omega) HC.out (by have:=Hn.out;omega);have k0:=(hP2.alloc (.cells #[] 150)).cell 0 _ rfl;have k1:=(hP2.alloc (.cells #[] 150)).cell 1 _ rfl;have HPW:=hid (hP2.on hbW);have HQW:=hid (HQ2.out.on hbW);have Hgr:=hid hgr;have HO0:=hid hO0;have HW:=hid hW;have HWz:=hid hWz;have HbW:=hid (Hb2.out.trans (hbW.mono Hb2.out.size));clear hbW hWz hO0 hdW hgr hP2 hW;go_wp2_with fail;rw [<- HW.out];with_reducible refine Hgr.out.mono ?_
   rintro e w5 ⟨⟨r,rfl,hG⟩,hb5⟩;rw [<- hb0];obtain ⟨G,hGe⟩:∃ G,G=selI (grpP d f t) d.length:=⟨_,rfl⟩;obtain ⟨m,hm⟩:∃ m,m=G.length:=⟨_,rfl⟩;have hTL:=HTL0.out;rw [<- hTL] at HO0;obtain ⟨zo,zc,hzo⟩:=RdL.shape (show RdL (fun B w v (x:List (List Int))=>RdInt64SS B w v x) w5.heap.size w5 r (grsD d f t) from hG.now);have hgl:(grsD d f t).length=m:=by rw [grsD_len,<- hGe];exact hm.symm
   rw [hgl] at hzo;subst hzo;have hmn:m<=n:=by rw [hm,hGe,Hn.out];exact yBE _ _
   have HA0:Hid (TotA (.slice (some ⟨b0,0,none⟩) 0 0) w5 w0 w5 b0 (TL.take 0)):=hid ⟨HO0.out.below hb5 (zA _),HbW.out.trans (hb5.mono HbW.out.size),Agr.refl _ _,fun q hq=>.inl (zD hq).symm⟩;have HP5:=hid (HPW.out.on hb5);have HQ5:=hid (HQW.out.on hb5);have HG:=hid hG;have Hm:=hid hm;have HGe:=hid hGe;have HTL:=hid hTL;have hbb:w0.heap.size+2<=b0:=by have h1:=HQ1.out.lt;have h2:=HQ2.out.lt;omega
   have hbz:b0<w5.heap.size:=by have h1:=hb5.size;have h2:=HWz.out;omega
   have Hgl:=hid hgl;clear hG hb5 HO0 k0 k1 hm hGe hTL hb0 hgl;go_wp2;go_loopw [10,35] (fun ov iv wr=>∃ (k:Nat) (oo:Option Addr) (oc:Nat),k<=m/\iv=.int .i64 k/\ov=.slice oo k oc/\Hid (TotA (.slice oo k oc) wr w0 w5 b0 (TL.take k))) (fun _ i _=>m - (intOf i).toNat)
   case atStart=>exact ⟨0,_,_,zK _,rfl,rfl,HA0⟩
   case round =>
    obtain ⟨k,oo,oc,hk,rfl,rfl,HA⟩:=hrel;clear HA0;by_cases hkm:k<m
    . obtain ⟨lo,hi2,q1,q2,q3,q4,q5,-,-⟩:=grp_places (i:=k) HGe.out (by have:=Hm.out;omega)
      have hse:=strD_eq (d:=d) q2 q3;obtain ⟨ho,hbl,hag,hown⟩:=HA.out;have hgw:RdGs wr (.slice zo m zc) (grsD d f t):=HG.out wr hag;obtain ⟨zo',zc',hzs,hzop⟩:=RdL.open yBH hgw;rw [Hgl.out] at hzs hzop;injection hzs with u1 u2 u3;subst u1;subst u3;clear u2;obtain ⟨zb,zoff,rfl,zlt,zcc⟩:=hzop (by omega);obtain ⟨x,ro,rc,hx,hcell,hrd⟩:=zcc k hkm;rw [grsD_at HGe.out (by have:=Hm.out;omega)] at hx;obtain rfl:=zD hx;have hxl:(strD d G k).length=hi2 - lo:=by rw [hse,zQ,zI];omega
      obtain ⟨ro',rc',hvs,hin⟩:=RdInt64SS.open hrd;injection hvs with u1 u2 u3;subst u1;subst u3;clear u2;obtain ⟨gb,go,rfl,glt,gcc⟩:=hin (by omega);obtain ⟨c,cao,ccap,hcx,hccell,hcrd⟩:=gcc 0 (by omega);rw [Nat.add_zero] at hccell;have hcd:d[lo]?=some c:=by rw [hse,List.getElem?_drop,Nat.add_zero,List.getElem?_take,if_pos q4] at hcx;exact hcx
      have hcm:=zC hcd;have hcols:=HC.out.2 c hcm;have hc01:=HC.out.1;obtain ⟨cao',ccap',hcs,hcin⟩:=RdI.open hcrd;injection hcs with u1 u2 u3;subst u1;subst u3;clear u2;obtain ⟨cb,co,rfl,_⟩:=hcin (by omega);have hcl:=yBY ((yAF HD.out).2 c hcm).1;have hok:okTx (partC c f t)=true:=hasD_at Hq.out.symm hcm
      -- the sums of the group
      obtain ⟨V,hV⟩:∃ V,V=wr.alloc (.cells #[.int .i64 sf,.int .i64 st] 73):=⟨_,rfl⟩;have hbV:Below wr.heap.size wr V:=by rw [hV];exact (zB _ _).alloc (zA _) _
      have hX:Box V wr.heap.size [.int .i64 sf,.int .i64 st]:=by rw [hV];exact Box.new wr [.int .i64 sf,.int .i64 st] _
      have hso:=sumsOf_c hX (RdInt64SS.onn hrd hbV) (strD_num HN.out) (by have:=strD_len d G k;have:=Hn.out;omega);rw [strD_any Hp.out.symm] at hso;have hPr:=HP5.out;have hag':=hag;have hpp:∀ {g:Nat} {cs:List Value},Box w5 g cs->g<b0->Box wr g cs:=fun {g cs} hb hlt=>yBJ hb hag' (fun e=>by omega);have hPw:=hpp HP5.out (by omega);have hQw:=hpp HQ5.out (by omega);have j0:=hQw.cell 0 _ rfl;have j1:=hQw.cell 1 _ rfl;have hnext:TL.take (k+1)=TL.take k++[⟨toB (txI (partC c f t)),sumC sf st (strD d G k)⟩]:=by
       have e:TL[k]?=some ⟨toB (txI (partC c f t)),sumC sf st (strD d G k)⟩:=by
        rw [HTL.out,totD_at HGe.out (by have:=Hm.out;omega)];unfold totOf;rw [q3,zR,List.getD_eq_getElem?_getD,hcd];rfl
       exact yAE e
      obtain ⟨nm,hnm⟩:∃ nm,nm=toB (txI (partC c f t)):=⟨_,rfl⟩;obtain ⟨sm,hsm⟩:∃ sm,sm=sumC sf st (strD d G k):=⟨_,rfl⟩;rw [<- hsm] at hso hnext;rw [<- hnm] at hnext;have hsmb:=sumC_bd (strD_num (G:=G) (i:=k) HN.out).part;rw [<- hsm] at hsmb;have hnms:nm.size<=1000:=by rw [hnm,toB_size];unfold txI;rw [List.length_map,yAP hc01.1 hc01.2 hcols];omega
      have hsl:=strD_len d G k;have Hok:Hid (okTotal ⟨nm,sm⟩):=hid ⟨by show nm.size<=_;omega,by have:=Hn.out;show -9223372036854775808<=sm/\sm<=9223372036854775807;omega⟩;have hft:=fun (w:World) (hw:Below wr.heap.size wr w)=>fieldText_c (w:=w) f t hc01.1 hc01.2 hcols (by omega) (Rds.onn hcrd hw) hok;rw [<- hnm] at hft;have Hft:=hid hft;have Hso:=hid hso;have HV:=hid hV;have HbV:=hid hbV;have HPw:=hid hPw;have Hnext:=hid hnext;have hg0:=hccell;have Hgc:=hid hg0;have hgl2:0<hi2 - lo:=by omega
      have hlk:(TL.take k).length=k:=by
       have e:TL.length=m:=by rw [HTL.out,totD_len,<- HGe.out];exact Hm.out.symm
       rw [zI,e];omega
      have Hlk:=hid hlk;rw [hxl] at Hso hcell;clear q1 q2 q3 hse ho hbl hag hown hgw hzop zcc hrd hx hxl hin gcc hcrd hcx hccell hcd hcm hcin hV hbV hX hso hPr hag' hpp hPw hQw hnext hnm hsm hsmb hft hg0 hok hlk hsl zlt glt hcols hc01 hcl;obtain ⟨gl,hgl⟩:∃ gl,gl=hi2 - lo:=⟨_,rfl⟩;rw [<- hgl] at Hso hcell hgl2;clear hgl;obtain ⟨cl,hcl⟩:∃ cl,cl=c.length:=⟨_,rfl⟩;rw [<- hcl] at Hft Hgc;clear hcl;go_wp2_with fail;rw [<- HV.out];with_reducible refine Hso.out.mono ?_
      rintro e W9 ⟨⟨rs,rfl,hrs⟩,hb9⟩;replace hrs:=hrs (by first | trivial | rfl);obtain ⟨sb,sc,hrsv,-,-⟩:=Own.addr hrs (by simp);have hrsv:rs=.slice (some ⟨sb,0,none⟩) 1 sc:=hrsv;subst hrsv;have hbW9:Below wr.heap.size wr W9:=HbV.out.trans (hb9.mono HbV.out.size);have s0:W9.cell? ⟨sb,0,none⟩=some (.int .i64 sm):=by
       have h:=(RdI.open hrs.rds);obtain ⟨a1,a2,a3,a4⟩:=h;injection a3 with a5 a6 a7;obtain ⟨b1,b2,b3,b4,b5⟩:=a4 (by simp);rw [b3] at a5;injection a5 with a5;injection a5 with a8 a9;obtain ⟨y,y1,y2,-⟩:=b5 0 (by simp);cases y1;rw [<- a8,<- a9] at y2;simpa using y2
      have hPW9:=HPw.out.on hbW9;have p0:=hPW9.cell 0 _ rfl;have p1:=hPW9.cell 1 _ rfl;have g0:=(hbW9.cell (p:=⟨gb,go,none⟩) (World.block_lt_of_cell? _ _ Hgc.out)).trans Hgc.out;obtain ⟨ho,hbl,hag,hown⟩:=HA.out;have HO:=hid (ho.below hbW9 (zA _));have Hl:Hid ((TL.take k).length<=100):=hid (by rw [Hlk.out];omega);have Hsz:Hid (w0.heap.size<=W9.heap.size):=hid (zO hbl.size hbW9.size);have Hft9:Hid (∀ (w:World),Below W9.heap.size W9 w->Calls Tryz.prog 141 #[.agg #[.slice (some ⟨cb,co,none⟩) cl ccap],.agg #[.int .i64 f,.int .i64 t]] w fun e' w'=>e'=.returned (.string nm)/\Below w.heap.size w w'):=hid (fun w hw=>Hft.out w (hbW9.trans (hw.mono hbW9.size)));have Hfin:Hid (∀ (wx:World) (v9:Value) (w9:World),Below W9.heap.size W9 wx->Own eTotal 150 w0.heap.size w9 v9 (TL.take k++[⟨nm,sm⟩])->Grew wx w9 (.slice oo k oc) v9->TotA v9 w9 w0 w5 b0 (TL.take (k+1))):=hid (fun wx v9 w9 hwx h1 h2=>by
       have hwr:=hbW9.trans (hwx.mono hbW9.size);have ho2:=ho.below hwr (zA _);have hb2:=hbl.trans (hwr.mono hbl.size);have ha2:=hag.trans (Agr.on (S:=fun k=>k=b0) hwr) (fun k h _=>h);rw [Hnext.out];refine ⟨h1,hb2.grown h2.1 hb2.size (fun q hq=>(ho.lt q hq).1),ha2.trans (Agr.of_grown h2.1 (S:=fun k=>k=b0\/w5.heap.size<=k) (fun q hq _=>hown q hq)) (fun q hq hlt=>hq.elim id (fun h=>by omega)),?_⟩;intro q hq;rcases h2.2 with h6 | ⟨q2,h6,h7⟩
       . exact hown q (by rw [<- h6];exact hq)
       . rw [h6] at hq;cases hq
         have:=ha2.size;exact .inr (by omega))
      clear hrs hb9 hbW9 hPW9 ho hbl hag hown Hft j0 j1;have Hft:=Hft9;clear Hft9;go_upto_region 9 with fail;refine yBL (W:=W9) (.slice oo k oc) 11 12 (fun i=>match i with | 0=>true | 1=>true | 2=>true | 6=>true | 7=>true | _=>false) (fun i v w=>match i with | 0=>v=.slice oo k oc | 1=>v=.slice (some ⟨gb,go,none⟩) gl rc | 2=>v=.pointer (some ⟨gb,go,none⟩) | 3=>v=.agg #[.slice (some ⟨cb,co,none⟩) cl ccap] | 4=>v=.agg #[.int .i64 f,.int .i64 t] | 5=>v=.string nm | 6=>v=.slice (some ⟨sb,0,none⟩) 1 sc | 7=>v=.pointer (some ⟨sb,0,none⟩) | 8=>v=.int .i64 sm | 9=>v=.agg #[.string nm,.int .i64 sm] | 10=>Rds eTotal w.heap.size w v [⟨nm,sm⟩] | _=>True) (fun v w=>TotA v w w0 w5 b0 (TL.take (k+1))) (fun x v w=>v=x/\TotA x w w0 w5 b0 (TL.take (k+1))) (by kernel_rfl) (by kernel_rfl) (by kernel_rfl) (by kernel_rfl) (by kernel_rfl) ?_ ?_ ?_ ?_
      . intro i v w w' h hb
        iterate 13 (obtain _ | i:=i;· first | exact h | exact Rds.onn h hb)
        exact h
      . intro i v w w' hp h
        iterate 13 (obtain _ | i:=i;· first | exact h | exact absurd hp (by decide))
        exact h
      . intro vs hvs
        match vs,hvs with
        | [v0,v1,v2,v3,v4,v5,v6,v7,v8,v9,v10,v11,v12],_ =>
         refine ⟨?_,?_,?_,?_,?_,?_,?_,?_,?_,?_,?_,?_,?_,trivial⟩
         . refine yAM ?_ ?_ ?_ ?_;exact (by decide);exact (by decide);kernel_rfl
           intro wr h0 hd;replace h0:v12=.slice oo k oc:=h0 (by kernel_rfl);subst h0;clear hd;unfold relAt;simp only [putAll];go_simp;simp only [relUpon];trivial
         . refine yAM ?_ ?_ ?_ ?_;exact (by decide);exact (by decide);kernel_rfl
           intro wr h0 hd;clear h0;clear hd;unfold relAt;simp only [putAll];go_simp;simp only [relUpon];trivial
         . refine yAM ?_ ?_ ?_ ?_;exact (by decide);exact (by decide);kernel_rfl
           intro wr h0 hd;clear h0;have d1:v1=.slice (some ⟨gb,go,none⟩) gl rc:=yAC 1 (by kernel_rfl) hd rfl;subst d1;clear hd;unfold relAt;simp only [putAll];go_simp;simp only [relUpon];trivial
         . refine yAL ?_ ?_ ?_ ?_;exact (by decide);exact (by decide);kernel_rfl
           intro wr h0 hC hd;clear h0;have d2:v2=.pointer (some ⟨gb,go,none⟩):=yAC 2 (by kernel_rfl) hd;subst d2;clear hd;have e:=(hC.cell (p:=⟨gb,go,none⟩) (World.block_lt_of_cell? _ _ g0)).trans g0;unfold relAt;simp only [putAll];go_simp;simp only [relUpon];exact ⟨zB _ _,by first | rfl | trivial⟩
         . refine yAL ?_ ?_ ?_ ?_;exact (by decide);exact (by decide);kernel_rfl
           intro wr h0 hC hd;clear h0;clear hd;have e0:=(hC.cell (p:=⟨w0.heap.size,0,none⟩) (World.block_lt_of_cell? _ _ p0)).trans p0;have e1:=(hC.cell (p:=⟨w0.heap.size,1,none⟩) (World.block_lt_of_cell? _ _ p1)).trans p1;unfold relAt;simp only [putAll];go_simp;simp only [relUpon];exact ⟨zB _ _,by first | rfl | trivial⟩
         . refine yAL ?_ ?_ ?_ ?_;exact (by decide);exact (by decide);kernel_rfl
           intro wr h0 hC hd;clear h0;have d3:v3=.agg #[.slice (some ⟨cb,co,none⟩) cl ccap]:=yAC 3 (by kernel_rfl) hd;subst d3;have d4:v4=.agg #[.int .i64 f,.int .i64 t]:=yAC 4 (by kernel_rfl) hd;subst d4;clear hd;unfold relAt;simp only [putAll];go_simp;simp only [relUpon];with_reducible refine (Hft.out wr hC).mono ?_
           rintro e w9 ⟨rfl,hb9⟩;exact ⟨_,rfl,hb9,rfl⟩
         . refine yAM ?_ ?_ ?_ ?_;exact (by decide);exact (by decide);kernel_rfl
           intro wr h0 hd;clear h0;clear hd;unfold relAt;simp only [putAll];go_simp;simp only [relUpon];trivial
         . refine yAM ?_ ?_ ?_ ?_;exact (by decide);exact (by decide);kernel_rfl
           intro wr h0 hd;clear h0;have d6:v6=.slice (some ⟨sb,0,none⟩) 1 sc:=yAC 6 (by kernel_rfl) hd rfl;subst d6;clear hd;unfold relAt;simp only [putAll];go_simp;simp only [relUpon];trivial
         . refine yAL ?_ ?_ ?_ ?_;exact (by decide);exact (by decide);kernel_rfl
           intro wr h0 hC hd;clear h0;have d7:v7=.pointer (some ⟨sb,0,none⟩):=yAC 7 (by kernel_rfl) hd;subst d7;clear hd;have e:=(hC.cell (p:=⟨sb,0,none⟩) (World.block_lt_of_cell? _ _ s0)).trans s0;unfold relAt;simp only [putAll];go_simp;simp only [relUpon];exact ⟨zB _ _,by first | rfl | trivial⟩
         . refine yAL ?_ ?_ ?_ ?_;exact (by decide);exact (by decide);kernel_rfl
           intro wr h0 hC hd;clear h0;have d5:v5=.string nm:=yAC 5 (by kernel_rfl) hd;subst d5;have d8:v8=.int .i64 sm:=yAC 8 (by kernel_rfl) hd;subst d8;clear hd;unfold relAt;simp only [putAll];go_simp;simp only [relUpon];exact ⟨zB _ _,by first | rfl | trivial⟩
         . refine yAL ?_ ?_ ?_ ?_;exact (by decide);exact (by decide);kernel_rfl
           intro wr h0 hC hd;clear h0;have d9:v9=.agg #[.string nm,.int .i64 sm]:=yAC 9 (by kernel_rfl) hd;subst d9;clear hd;unfold relAt;simp only [putAll];go_simp;simp only [relUpon];exact ⟨(zB _ _).alloc (zA _) _,(yAJ (E:=eTotal) (x:=⟨nm,sm⟩) Hok.out rfl).mono (by simp)⟩
         . refine appStep_p ?_ ?_;kernel_rfl
           intro wr h0 hC hd;clear h0;have d0:v0=.slice oo k oc:=yAC 0 (by kernel_rfl) hd;subst d0;have d10:Rds eTotal wr.heap.size wr v10 [⟨nm,sm⟩]:=yAC 10 (by kernel_rfl) hd;clear hd;simp only [putAll];refine relAt_appS (E:=eTotal) _ _ 110 rfl Tryz.underlying110 hi hz0 hz1 hz2 rfl (by decide) (by kernel_rfl) (by kernel_rfl) (HO.out.below hC (zA _)) d10 ?b1 ?b2 ?b3 ?b4
           case b1=>have:=Hl.out;unfold maxLen;simp;omega
           case b2=>have:=Hl.out;simp;omega
           case b3=>have:=hC.size;have:=Hsz.out;omega
           case b4=>exact fun v9 w9 ho9 hg9=>Hfin.out wr v9 w9 hC ho9 hg9
         . refine appStep_s ?_ ?_ ?_;exact (by decide);kernel_rfl
           intro wr h0 hA hd;replace hA:TotA v11 wr w0 w5 b0 (TL.take (k+1)):=hA;clear h0;clear hd;simp only [putAll] at hA |-;unfold relAt;go_simp;simp only [relUpon];first | exact ⟨rfl,hA⟩ | exact ⟨trivial,hA⟩ | exact hA
      . intro vs wq hvs hZ hI
        match vs,hvs,hZ,hI with
        | [v0,v1,v2,v3,v4,v5,v6,v7,v8,v9,v10,v11,v12],_,hZ,hI =>
         replace hZ:v12=v11/\TotA v11 wq w0 w5 b0 (TL.take (k+1)):=hZ;have d0:v0=.slice oo k oc:=hI 0 (by decide) rfl;subst d0;have d1:v1=.slice (some ⟨gb,go,none⟩) gl rc:=hI 1 (by decide) rfl;subst d1;have d2:v2=.pointer (some ⟨gb,go,none⟩):=hI 2 (by decide) rfl;subst d2;have d6:v6=.slice (some ⟨sb,0,none⟩) 1 sc:=hI 6 (by decide) rfl;subst d6;have d7:v7=.pointer (some ⟨sb,0,none⟩):=hI 7 (by decide) rfl;subst d7;clear hI;simp only [putAll];go_simp;obtain ⟨hzv,hZ⟩:=hZ;subst hzv;obtain ⟨ao9,c9,hv9⟩:=hZ.1.shape;rw [show (TL.take (k+1)).length=k+1 from by rw [Hnext.out,zE,Hlk.out];rfl] at hv9;subst hv9;have HZ:=hid hZ;clear hZ;go_wp2;go_roundw
         case rel=>exact ⟨k+1,_,_,by omega,by go_num,rfl,HZ⟩
         case measure=>simp [intOf];omega
    . obtain rfl:k=m:=by omega
      obtain ⟨ho,hbl,hag,hown⟩:=HA.out;have hTlen:TL.length=k:=by rw [HTL.out,totD_len,<- HGe.out];exact Hm.out.symm
      rw [zH (by omega)] at ho;have hF:Own eTotal 150 w0.heap.size wr (.slice oo k oc) TL:=ho;have HF:=hid hF;have HB:=hid hbl;clear hF hbl hag hown ho hTlen;go_wp2;go_ret2;exact ⟨⟨_,by rw [HE.out];rfl,fun _=>HF.out⟩,HB.out⟩
theorem deck_of {d d':List (List Int)} (h:∀ c∈d',c∈d) (hl:d'.length<=40) (hd:deckB d=true):deckB d'=true/\(d'=[]\/(d ≠ []/\colsD d'=colsD d)):=by
 have hp:=(yAF hd).2;cases d' with
 | nil=>exact ⟨rfl,.inl rfl⟩
 | cons c r =>
  have h1:=hp c (h c (List.mem_cons_self ..));refine ⟨?_,.inr ⟨fun e=>?_,?_⟩⟩
  . unfold deckB
    rw [Bool.and_eq_true,decide_eq_true_eq,List.all_eq_true];refine ⟨fun y hy=>?_,hl⟩;have h2:=hp y (h y hy);unfold okAt;rw [Bool.and_eq_true,decide_eq_true_eq];exact ⟨h2.1,by show y.length=c.length;rw [h2.2,h1.2]⟩
  . have:=h c (List.mem_cons_self ..)
    rw [e] at this;cases this
  . have h0:d ≠ []:=fun e=>by have:=h c (List.mem_cons_self ..);rw [e] at this;cases this
    unfold colsD;rw [if_neg (by simp),if_neg h0];show ((c.length:Nat):Int)=_
    rw [h1.2]
theorem ordD_rng (d:List (List Int)) (f t:Int):(∀ z∈ordD d f t,∃ k:Nat,k<d.length/\z=(k:Int))/\(ordD d f t).length<=d.length:=by
 unfold ordD;split
 . rename_i h
   have h1:=h.choose_spec.1;refine ⟨fun z hz=>rangeN_rng d.length z (h1.mem_iff.1 hz),?_⟩;rw [h1.length_eq,yBB];exact zA _
 . exact ⟨fun z hz=>absurd hz (by simp),zK _⟩
theorem pickD_mem {d:List (List Int)} {Z:List Int} (h:∀ z∈Z,∃ k:Nat,k<d.length/\z=(k:Int)):∀ c∈pickD d Z,c∈d:=by
 intro c hc;unfold pickD at hc;obtain ⟨z,hz,rfl⟩:=List.mem_map.1 hc;obtain ⟨k,hk,rfl⟩:=h z hz;rw [zR,List.getD_eq_getElem?_getD,zF hk];exact List.getElem_mem hk
theorem pickD_len (d:List (List Int)) (Z:List Int):(pickD d Z).length=Z.length:=by unfold pickD;simp
theorem firD_mem {d:List (List Int)} {f t:Int}:(∀ c∈firD d f t,c∈d)/\(firD d f t).length<=d.length:=by
 unfold firD;refine ⟨pickD_mem (fun z hz=>?_),by rw [pickD_len];exact yBE _ _⟩;obtain ⟨k,h1,h2,-⟩:=selI_rng _ _ z hz;exact ⟨k,h1,h2⟩
theorem colO_of {C:Int}:∀ {ts:List (List (List Int))},(∀ d∈ts,d=[]\/colsD d=C)->(∀ d∈ts,d=[])\/colO ts=C
 | [],_=>.inl (fun d hd=>by cases hd)
 | [] :: ts,h=>by
  rcases colO_of (fun d hd=>h d (List.mem_cons_of_mem _ hd)) with e | e
  . exact .inl (fun d hd=>by rcases List.mem_cons.1 hd with rfl | hd;exact rfl;exact e d hd)
  . exact .inr e
 | (c :: r) :: ts,h=>by
  rcases h (c :: r) (List.mem_cons_self ..) with e | e
  . cases e
  . exact .inr (by rw [<- e];rfl)
theorem offB_mk {o:OffT} {C:Int} (h6:o.trays.length=6) (h20:o.totals.length<=20) (h:∀ d∈o.trays,deckB d=true/\(d=[]\/colsD d=C)):offB o=true:=by
 unfold offB;rw [decide_eq_true h6,decide_eq_true h20,Bool.true_and,Bool.true_and,List.all_eq_true];intro d hd;have h1:=h d hd;rw [Bool.and_eq_true];refine ⟨h1.1,?_⟩;rw [Bool.or_eq_true,decide_eq_true_iff,decide_eq_true_iff];rcases colO_of (fun d hd=>(h d hd).2) with e | e
 . exact .inl (e d hd)
 . rcases h1.2 with e2 | e2
   . exact .inl e2
   . exact .inr (by rw [e2,e])
theorem merge_ok {a b:List (List Int)} {f t:Int} (h:merC a b f t=0):TwoOk a b f t/\a.length+b.length<=40/\(a ≠ []->b ≠ []->colsD a=colsD b):=by
 unfold merC at h;by_cases h1:twoC a b f t ≠ 0
 . rw [if_pos h1] at h;exact absurd h h1
 . rw [if_neg h1] at h
   by_cases h2:(0<a.length/\0<b.length)/\colsD a ≠ colsD b
   . rw [if_pos h2] at h;cases h
   . rw [if_neg h2] at h
     by_cases h3:¬ (ascB a f t=true/\ascB b f t=true)
     . rw [if_pos h3] at h;cases h
     . rw [if_neg h3] at h
       by_cases h4:40<a.length+b.length
       . rw [if_pos h4] at h;cases h
       . refine ⟨twoC_zero (by simpa using h1),by omega,fun ha hb=>Classical.byContradiction fun hc=>h2 ⟨⟨List.length_pos_iff.2 ha,List.length_pos_iff.2 hb⟩,hc⟩⟩
theorem deck_app {a b:List (List Int)} (ha:deckB a=true) (hb:deckB b=true) (hl:a.length+b.length<=40) (hc:a ≠ []->b ≠ []->colsD a=colsD b):deckB (a++b)=true/\(a++b=[]\/(a ≠ []/\colsD (a++b)=colsD a)\/(b ≠ []/\colsD (a++b)=colsD b)):=by
 cases a with
 | nil =>
  refine ⟨hb,?_⟩;by_cases h0:b=[]
  . exact .inl (by rw [h0];rfl)
  . exact .inr (.inr ⟨h0,rfl⟩)
 | cons c r =>
  refine ⟨?_,.inr (.inl ⟨by simp,rfl⟩)⟩;unfold deckB;rw [Bool.and_eq_true,decide_eq_true_eq,List.all_eq_true];refine ⟨fun y hy=>?_,by rw [zE];exact hl⟩;unfold okAt;rw [Bool.and_eq_true,decide_eq_true_eq];show cardB y=true/\y.length=c.length
  rcases List.mem_append.1 hy with h | h
  . exact (yAF ha).2 y h
  . have h1:=(yAF hb).2 y h
    have h0:b ≠ []:=fun e=>by rw [e] at h;cases h
    have h2:=hc (by simp) h0;unfold colsD at h2;rw [if_neg (by simp),if_neg h0] at h2;exact ⟨h1.1,by rw [h1.2];show _=c.length;have h3:((c.length:Nat):Int)=(b.headD []).length:=h2;omega⟩
theorem dk_ok {o:OffT} {x:StepT} {C:Int} (h6:o.trays.length=6) (h:∀ d∈o.trays,deckB d=true/\(d=[]\/colsD d=C)) (hA:trayP x.ta) (hB:trayP x.tb) (hc:dkC o x=0):deckB (dkD o x)=true/\(dkD o x=[]\/colsD (dkD o x)=C):=by
 have ha:=h _ (zC (trD_at h6 hA));have hb:=h _ (zC (trD_at h6 hB));have hal:=(yAF ha.1).1;have sub:∀ d',(∀ c∈d',c∈trD o x.ta)->d'.length<=(trD o x.ta).length->deckB d'=true/\(d'=[]\/colsD d'=C):=by
  intro d' h1 h2;have h3:=deck_of h1 (by omega) ha.1;refine ⟨h3.1,?_⟩;rcases h3.2 with e | ⟨e1,e2⟩
  . exact .inl e
  . rcases ha.2 with e3 | e3
    . exact absurd e3 e1
    . exact .inr (by rw [e2,e3])
 unfold dkC at hc;unfold dkD;by_cases k1:x.kd=1
 . rw [if_pos k1]
   exact sub _ (pickD_mem (ordD_rng _ _ _).1) (by rw [pickD_len];exact (ordD_rng _ _ _).2)
 . rw [if_neg k1] at hc |-
   by_cases k2:x.kd=2
   . rw [if_pos k2] at hc |-
     obtain ⟨m1,m2,m3⟩:=merge_ok hc;have h3:=deck_app ha.1 hb.1 m2 m3;have h4:=deck_of (d':=pickD (trD o x.ta++trD o x.tb) (ordD (trD o x.ta++trD o x.tb) x.ff x.ft)) (pickD_mem (ordD_rng _ _ _).1) (by rw [pickD_len];have:=(ordD_rng (trD o x.ta++trD o x.tb) x.ff x.ft).2;rw [zE] at this;omega) h3.1;refine ⟨h4.1,?_⟩;rcases h4.2 with e | ⟨e1,e2⟩
     . exact .inl e
     . rcases h3.2 with e3 | ⟨e3,e4⟩ | ⟨e3,e4⟩
       . exact absurd e3 e1
       . rcases ha.2 with e5 | e5
         . exact absurd e5 e3
         . exact .inr (by rw [e2,e4,e5])
       . rcases hb.2 with e5 | e5
         . exact absurd e5 e3
         . exact .inr (by rw [e2,e4,e5])
   . rw [if_neg k2] at hc |-
     by_cases k5:x.kd=5
     . rw [if_pos k5]
       exact sub _ (fun c hc=>(List.mem_filter.1 hc).1) (List.length_filter_le _ _)
     . rw [if_neg k5] at hc |-
       by_cases k6:x.kd=6
       . rw [if_pos k6]
         exact sub _ firD_mem.1 firD_mem.2
       . rw [if_neg k6] at hc |-
         by_cases k3:x.kd=3
         . rw [if_pos k3]
           exact sub _ (fun c hc=>(List.mem_filter.1 hc).1) (List.length_filter_le _ _)
         . rw [if_neg k3]
           exact sub _ (fun c hc=>(List.mem_filter.1 hc).1) (List.length_filter_le _ _)
theorem stp_st {o:OffT} {x:StepT} (hc:stpC o x=0):StOk x (colO o.trays):=by
 unfold stpC at hc;cases hs:stB x (colO o.trays) with
 | false=>rw [if_pos hs] at hc;cases hc
 | true=>exact of_decide_eq_true hs
theorem stp_ok {o:OffT} {x:StepT} (hv:offB o=true) (hc:stpC o x=0):offB (stpD o x)=true:=by
 have hp:=yBF hv;have hs:=stp_st hc;unfold stpC at hc;rw [if_neg (by rw [show stB x (colO o.trays)=true from decide_eq_true hs];decide)] at hc;unfold stpD;by_cases h7:x.kd=7
 . rw [if_pos h7] at hc |-
   by_cases h20:o.totals.length=20
   . rw [if_pos h20] at hc;cases hc
   . exact offB_mk (C:=colO o.trays) hp.1 (by show (o.totals++[_]).length<=20;rw [zE];simp;omega) hp.2.2
 . rw [if_neg h7] at hc |-
   have hd:=dk_ok hp.1 hp.2.2 hs.ta hs.tb hc;refine offB_mk (C:=colO o.trays) (by show (o.trays.set _ _).length=6;rw [List.length_set];exact hp.1) hp.2.1 (fun d hdm=>?_);rcases List.mem_or_eq_of_mem_set hdm with h | h
   . exact hp.2.2 d h
   . rw [h];exact hd
def LensOk (o:OffT):Prop:=∀ l∈o.totals,l.length<=2097152
theorem stp_lens {o:OffT} {x:StepT} (hv:offB o=true) (hl:LensOk o) (hc:stpC o x=0):LensOk (stpD o x):=by
 have hp:=yBF hv;have hs:=stp_st hc;unfold stpD;by_cases h7:x.kd=7
 . rw [if_pos h7]
   intro l hm;rcases List.mem_append.1 hm with h | h
   . exact hl l h
   . have e:l=totD (trD o x.ta) x.ff x.ft x.sf x.st:=by simpa using h
     have h1:=yBE (grpP (trD o x.ta) x.ff x.ft) (trD o x.ta).length;have h2:=(yAF (hp.2.2 _ (zC (trD_at hp.1 hs.ta))).1).1;rw [e,totD_len];omega
 . rw [if_neg h7];exact hl
theorem copy_of {o:OffT} (hv:offB o=true) (hl:LensOk o):o.trays.length<=1000/\(∀ d∈o.trays,RowsOk d)/\o.totals.length<=1000:=by
 have hp:=yBF hv;exact ⟨by rw [hp.1];omega,fun d hd=>yAY (hp.2.2 d hd).1,by omega⟩
structure NewQ (w0 w:World) (R D:Nat) (cu u:Value) (o:OffT):Prop where
 off:OffN w0.heap.size (fun k=>k<w0.heap.size\/k=R\/k=D) w u (.slice none 0 0) o
 hR:Box w R [.slice none 0 0,.slice none 0 0]
 hD:Box w D [cu,.slice none 0 0]
 bel:Below w0.heap.size w0 w
 bR:w0.heap.size<=R
 bD:w0.heap.size<=D
 ne:R ≠ D
 own:∀ q,u.ownBlock=some q->q ≠ R/\q ≠ D
section
variable {w0 w w1 w':World} {R D:Nat} {cu u u':Value} {o:OffT}
theorem NewQ.hX (h:NewQ w0 w R D cu u o):∀ k,(k<w0.heap.size\/k=R\/k=D)->k<w.heap.size:=fun k hk=>by
 have h1:=h.hR.lt;have h2:=h.hD.lt;have h3:=h.bel.size;omega
theorem NewQ.appT (h:NewQ w0 w R D cu u o):∃ hs,Own eS 78 w0.heap.size w u hs/\hs.length=o.trays.length /\
 ∀ (w1:World) (hx:SlV) (x:List (List Int)),Below w.heap.size w w1->FrS RdD (fun k=>k<w.heap.size) w1 hx.val x->∀ w' u',Own eS 78 w0.heap.size w' u' (hs++[hx])->Grew w1 w' u u'->NewQ w0 w' R D cu u' ⟨o.trays++[x],o.totals⟩:=by
 obtain ⟨hs,a1,a2,a3⟩:=h.off.appT h.hX;refine ⟨hs,a1,a2,fun w1 hx x hb hfr w' u' ho hg=>?_⟩;have hA:Agr (fun k=>u.ownBlock=some k) w1 w':=Agr.of_grown hg.1 (fun k hk _=>hk);have hR:=h.hR.lt;have hD:=h.hD.lt;have hs9:=hb.size;refine ⟨a3 w1 hx x hb hfr w' u' ho hg,yBJ (h.hR.on hb) hA (fun e=>(h.own R e).1 rfl),yBJ (h.hD.on hb) hA (fun e=>(h.own D e).2 rfl),
  (h.bel.trans (hb.mono h.bel.size)).trans (hA.below (fun k hk=>(a1.lt k hk).1) (zO h.bel.size hs9)),h.bR,h.bD,h.ne,fun q hq=>?_⟩
 rcases hg.2 with e | ⟨k,e,hk⟩
 . exact h.own q (by rw [<- e];exact hq)
 . rw [e] at hq;cases hq;exact ⟨by omega,by omega⟩
theorem NewQ.put (h:NewQ w0 w R D cu u o) (y:Value):NewQ w0 (w.setCell ⟨D,0,none⟩ y) R D y u o:=by
 have hA:Agr (fun k=>k=D) w (w.setCell ⟨D,0,none⟩ y):=Agr.set w _ _ rfl;have hb:=h.hD.set1 (j:=0) (by simp) y;exact ⟨h.off.agr hA (fun k hk _=>⟨.inr (.inr hk),fun e=>(h.own k e).2 hk,fun e=>by cases e⟩) (fun k h _=>h),h.hR.other (fun e=>h.ne e.symm) _,hb,h.bel.setCell h.bD _,h.bR,h.bD,h.ne,h.own⟩
theorem NewQ.fin (h:NewQ w0 w R D cu u o) (x y:Value):OffN w0.heap.size (fun k=>k<w0.heap.size) ((w.setCell ⟨R,0,none⟩ x).setCell ⟨R,1,none⟩ y) u (.slice none 0 0) o/\Below w0.heap.size w0 ((w.setCell ⟨R,0,none⟩ x).setCell ⟨R,1,none⟩ y):=by
 have hA:Agr (fun k=>k=R) w ((w.setCell ⟨R,0,none⟩ x).setCell ⟨R,1,none⟩ y):=(Agr.set (S:=fun k=>k=R) w ⟨R,0,none⟩ x rfl).trans (Agr.set (S:=fun k=>k=R) _ ⟨R,1,none⟩ y rfl) (fun i h _=>h);exact ⟨h.off.agr hA (fun k hk _=>⟨.inr (.inl hk),fun e=>(h.own k e).1 hk,fun e=>by cases e⟩) (fun k h _=>.inl h),(h.bel.setCell h.bR _).setCell h.bR _⟩
end
theorem fr_empty (w:World) (B:Nat):FrS RdD (fun k=>k<w.heap.size) ((w.alloc (.cells #[] 88)).alloc (.cells #[.slice (some ⟨w.heap.size,0,none⟩) 0 0] 78)) (SlV.val ⟨some ⟨w.heap.size,0,none⟩,0,0⟩) []:=by
 have h1:Own eS 88 w.heap.size (w.alloc (.cells #[] 88)) (.slice (some ⟨w.heap.size,0,none⟩) 0 0) []:=Own.lit (E:=eS) (xs:=[]) (cs:=#[]) (zA _) rfl rfl (by decide) (fun x hx=>by cases hx);have h2:OwnCardS w.heap.size (w.alloc (.cells #[] 88)) (.slice (some ⟨w.heap.size,0,none⟩) 0 0) [] :=
  BldG.toM (BldG.empty (E:=eI) (er:=2) (rb:=w.heap.size) (B:=w.heap.size) rfl h1 (by simp)) (zA _)
 exact FrD.onB (FrD.own h2) ((zB _ _).alloc (zA _) _)
theorem l15New_any {d:List (List Int)} {v:Value} {w:World} {A:Nat} (hd:RdInt64SS A w v d) (hr:Deck5 d) :
 Calls Tryz.prog 104 #[v] w fun e w'=>(∃ ao c,e=.returned (.agg #[.slice ao 6 c,.slice none 0 0])/\OffN w.heap.size (fun k=>k<w.heap.size) w' (.slice ao 6 c) (.slice none 0 0) ⟨[d,[],[],[],[],[]],[]⟩)/\Below w.heap.size w w':=by
 obtain ⟨i0,hi,hz0,hz1,hz2⟩:=info_parts Tryz.infoDk;have hro:RowsOk d:=⟨by have:=hr.1;omega,fun c hc=>by have:=(hr.2 c hc).1;omega⟩;obtain ⟨vo,vc,hv⟩:=RdInt64SS.shape hd;subst hv;have hdr:=hid hd;have hlen:=hr.1;obtain ⟨n,hn⟩:∃ n,n=d.length:=⟨_,rfl⟩;rw [<- hn] at hdr hlen |-;have Hn:=hid hn;clear hd hr hn;go_enter Tryz.func104,Tryz.ntmps104;have hT0:=(zB w.heap.size w).alloc (zA _) (.cells #[.slice none 0 0,.slice none 0 0] 35);have hR0:=Box.new w [.slice none 0 0,.slice none 0 0] 35;go_wp2_with fail;with_reducible refine Calls.mono (show Calls Tryz.prog 80 #[.slice vo n vc] _ _ from l02Copy_c (d:=d) (RdInt64SS.onn hdr.out ((zB _ _).alloc (zA _) _)) hro) ?_
 rintro e w2 ⟨⟨r,rfl,hO⟩,hb2⟩;have hfr:=FrD.own hO;obtain ⟨ro,rc,hrv⟩:=FrD.shape hfr;rw [<- Hn.out] at hrv;subst hrv;obtain ⟨R,hR⟩:∃ R,R=w.heap.size:=⟨_,rfl⟩;have hH:w.heap.size+1<=w2.heap.size:=by have:=hb2.size;simpa using this
 obtain ⟨D,hD⟩:∃ D,D=w2.heap.size+1:=⟨_,rfl⟩;obtain ⟨W,hW⟩:∃ W,W=(w2.alloc (.cells #[.slice ro n rc] 78)).alloc (.cells #[.slice (some ⟨w2.heap.size,0,none⟩) 1 1,.slice none 0 0] 35):=⟨_,rfl⟩;have hQ:NewQ w W R D (.slice (some ⟨w2.heap.size,0,none⟩) 1 1) (.slice (some ⟨w2.heap.size,0,none⟩) 1 1) ⟨[d],[]⟩:=by
  have h0:OffN w.heap.size (fun k=>k<w.heap.size\/k=R) (w.alloc (.cells #[.slice none 0 0,.slice none 0 0] 35)) (.slice none 0 0) (.slice none 0 0) ⟨[],[]⟩:=⟨[],[],Own.nil _ _ _ _,Own.nil _ _ _ _,RwsG.nil _ _ _,RwsG.nil _ _ _,fun q hq=>by cases hq⟩;obtain ⟨hs,a1,a2,a3⟩:=h0.appT (fun k hk=>by simp;omega);obtain rfl:hs=[]:=List.eq_nil_of_length_eq_zero (by simpa using a2);have h1:=a3 w2 ⟨ro,n,rc⟩ d hb2 hfr (w2.alloc (.cells #[.slice ro n rc] 78)) (.slice (some ⟨w2.heap.size,0,none⟩) 1 1)
   (Own.lit (E:=eS) (xs:=[⟨ro,n,rc⟩]) (cs:=#[.slice ro n rc]) (by omega) rfl rfl (by decide) (fun x hx=>trivial)) ⟨World.grownBy_alloc _ _ _,.inr ⟨_,rfl,zA _⟩⟩
  have h2:=h1.more (X':=fun k=>k<w.heap.size\/k=R\/k=D) (fun k hk hl=>by simp at hl;omega);have hbW:Below (w2.alloc (.cells #[.slice ro n rc] 78)).heap.size (w2.alloc (.cells #[.slice ro n rc] 78)) W:=by rw [hW];exact (zB _ _).alloc (zA _) _
  have hb2W:Below w2.heap.size w2 W:=by rw [hW];exact ((zB _ _).alloc (zA _) _).alloc (by simp) _
  refine ⟨h2.on hbW,by rw [hR];exact (hR0.on hb2).on hb2W,?_,hT0.trans ((hb2.trans (hb2W.mono hb2.size)).mono (by simp)),by omega,by omega,by omega,fun q hq=>?_⟩
  . have h:=Box.new (w2.alloc (.cells #[.slice ro n rc] 78)) [.slice (some ⟨w2.heap.size,0,none⟩) 1 1,.slice none 0 0] 35
    rw [show (w2.alloc (.cells #[.slice ro n rc] 78)).heap.size=D from by rw [hD];simp] at h;rw [hW];exact h
  . have h9:w2.heap.size=q:=zD hq
    omega
 have HW:=hid hW;have HD:=hid hD;have HR:=hid hR;clear hT0 hR0 hb2 hO hfr hW hD hR hH;go_upto_region 2 with fail;rw [<- HW.out,<- HD.out,<- HR.out];generalize w2.heap.size=H at hQ |-;have HQ:=hid hQ;clear hQ HW HD HR;go_wp2;go_loopw [4] (fun iv wr=>∃ (k:Nat) (ao:Option Addr) (c:Nat),(1<=k/\k<=6)/\iv=.int .i64 k/\NewQ w wr R D (.slice ao k c) (.slice ao k c) ⟨d :: List.replicate (k - 1) [],[]⟩) (fun i _=>6 - (intOf i).toNat)
 case atStart=>exact ⟨1,_,_,by omega,by first | rfl | go_num,HQ.out⟩
 case round =>
  obtain ⟨k,ao,c,hk,rfl,hq⟩:=hrel;clear HQ;by_cases hk6:k<6
  . obtain ⟨hs,hO,hl,hfin⟩:=hq.appT
    have hl2:hs.length=k:=by rw [hl];simp;omega
    have d0:=hq.hD.cell 0 _ rfl;have hszw:w.heap.size<=wr.heap.size:=hq.bel.size;have HO:=hid hO;have Hl:=hid hl2;have Hfin:=hid hfin;have hki:(k:Int)<6:=by omega
    clear hO hl hl2 hfin hq;go_wp2_with (first | (at_builtin;refine yAB (E:=eS) rfl _ _ 32 rfl Tryz.underlying32 hi hz0 hz1 hz2 rfl (by decide) rfl rfl ((HO.out.alloc _).alloc _) (rds_one' (E:=eS) (x:=⟨some ⟨wr.heap.size,0,none⟩,0,0⟩) (H:=wr.heap.size+1) (by simp) trivial rfl) ?b1 ?b2 ?b3 ?_))
    case b1=>rw [Hl.out];unfold maxLen;(try simp) <;> omega
    case b2=>rw [Hl.out];(try simp) <;> omega
    case b3=>(try simp) <;> omega
    intro v6 w6 hO6 hg6;have h6:=Hfin.out _ ⟨some ⟨wr.heap.size,0,none⟩,0,0⟩ [] (((zB _ _).alloc (zA _) _).alloc (by simp) _) (fr_empty wr 0) w6 v6 hO6 hg6;obtain ⟨ao6,c6,hv6⟩:=hO6.shape;rw [zE,Hl.out] at hv6;subst hv6;have e0:=h6.hD.cell 0 _ rfl;have e1:=h6.hD.free 0;have H6:=hid h6;clear h6 hO6 hg6 d0;go_wp2;go_roundw
    case rel =>
     refine ⟨k+1,ao6,c6,by omega,by go_num,?_⟩;have h:=H6.out.put (.slice ao6 (k+1) c6);have e:(d :: List.replicate (k - 1) [])++[[]]=d :: List.replicate (k+1 - 1) ([]:List Int |> List):=by
      have:k+1 - 1=(k - 1)+1:=by omega
      rw [this,List.replicate_succ'];rfl
     rw [<- e];exact h
    case measure=>simp [intOf];omega
  . obtain rfl:k=6:=by omega
    have d0:=hq.hD.cell 0 _ rfl;have d1:=hq.hD.cell 1 _ rfl;have r0:=hq.hR.cell 0 _ rfl;have r1:=hq.hR.cell 1 _ rfl;have s0:=hq.hR.free 0;have s1:=hq.hR.free 1;have HF:=hid (hq.fin (.slice ao 6 c) (.slice none 0 0));clear hq;go_wp2;exact bodyPost_ret (v:=.agg #[.slice ao 6 c,.slice none 0 0]) (by simp [results,Tryz.results104,go_sem,r0,r1]) rfl ⟨⟨_,_,rfl,HF.out.1⟩,HF.out.2⟩
structure TwoT where
 trays:List (List Int)
 totals:List (List Int)
def TwoN (base:Nat) (X:Nat->Prop) (w:World) (u v:Value) (o:TwoT):Prop :=
 ∃ hs ks,Own eS 88 base w u hs/\Own eS 88 base w v ks /\
  RwsG RdRow (fun k=>X k\/u.ownBlock=some k\/v.ownBlock=some k) w hs o.trays/\RwsG RdRow (fun k=>X k\/u.ownBlock=some k\/v.ownBlock=some k) w ks o.totals /\
  ∀ q,u.ownBlock=some q->v.ownBlock ≠ some q
section
variable {base:Nat} {X X':Nat->Prop} {w w' w1:World} {u v u' v':Value} {o:TwoT}
theorem TwoN.shape (h:TwoN base X w u v o):(∃ a c,u=.slice a o.trays.length c)/\∃ a c,v=.slice a o.totals.length c:=by
 obtain ⟨hs,ks,h1,h2,h3,h4,-⟩:=h;rw [<- h3.1,<- h4.1];exact ⟨h1.shape,h2.shape⟩
theorem TwoN.agr {S':Nat->Prop} (h:TwoN base X w u v o) (hA:Agr S' w w') (h1:∀ k,S' k->k<w.heap.size->X k/\u.ownBlock ≠ some k/\v.ownBlock ≠ some k) (h2:∀ k,X' k->k<w.heap.size->X k):TwoN base X' w' u v o:=by
 obtain ⟨hs,ks,a1,a2,a3,a4,a5⟩:=h;have b1:=(OwnT.agr (Own.top a1) hA (fun k hk hS=>(h1 k hS (a1.lt k hk).2).2.1 hk)).1;have b2:=(OwnT.agr (Own.top a2) hA (fun k hk hS=>(h1 k hS (a2.lt k hk).2).2.2 hk)).1;exact ⟨hs,ks,b1,b2,a3.step hA (fun k hS hk=>.inl (h1 k hS hk).1) (fun k hS hk=>hS.elim (fun e=>.inl (h2 k e hk)) .inr),a4.step hA (fun k hS hk=>.inl (h1 k hS hk).1) (fun k hS hk=>hS.elim (fun e=>.inl (h2 k e hk)) .inr),a5⟩
theorem TwoN.appT (h:TwoN base X w u v o) (hX:∀ k,X k->k<w.heap.size):∃ hs,Own eS 88 base w u hs/\hs.length=o.trays.length /\
 ∀ (w1:World) (hx:SlV) (x:List Int),Below w.heap.size w w1->FrS RdRow (fun k=>k<w.heap.size) w1 hx.val x->∀ w' u',Own eS 88 base w' u' (hs++[hx])->Grew w1 w' u u'->TwoN base X w' u' v ⟨o.trays++[x],o.totals⟩:=by
 obtain ⟨hs,ks,a1,a2,a3,a4,a5⟩:=h;refine ⟨hs,a1,a3.1,fun w1 hx x hb hfr w' u' ho hg=>?_⟩;have hA1:Agr (fun _=>False) w w1:=⟨hb.os,hb.tape,hb.output,hb.size,fun k hk _=>hb.block k hk⟩;have c2:=a2.below hb (zA _);have hu:∀ k,u.ownBlock=some k->k<w.heap.size:=fun k hk=>(a1.lt k hk).2;have hv:∀ k,v.ownBlock=some k->k<w.heap.size:=fun k hk=>(a2.lt k hk).2;have hA2:Agr (fun k=>u.ownBlock=some k) w1 w':=Agr.of_grown hg.1 (fun k hk _=>hk);have hA:Agr (fun k=>u.ownBlock=some k) w w':=⟨hA2.os.trans hA1.os,hA2.tape.trans hA1.tape,hA2.output.trans hA1.output,zO hA1.size hA2.size,fun k hk hn=>(hA2.block k (zM hk hA1.size) hn).trans (hA1.block k hk (fun e=>e))⟩;have hown:∀ k,u'.ownBlock=some k->u.ownBlock=some k\/w1.heap.size<=k:=fun k hk=>by
  rcases hg.2 with e | ⟨q,e,hq⟩
  . exact .inl (by rw [<- e];exact hk)
  . rw [e] at hk;cases hk;exact .inr hq
 have hs2:∀ k,(X k\/u'.ownBlock=some k\/v.ownBlock=some k)->k<w.heap.size->(X k\/u.ownBlock=some k\/v.ownBlock=some k):=fun k hk hlt=>hk.elim .inl (fun h=>h.elim (fun h=>(hown k h).elim (fun h=>.inr (.inl h)) (fun h=>by have:=hb.size;omega)) (fun h=>.inr (.inr h)));have d2:=(OwnT.agr (Own.top c2) hA2 (fun k hk hS=>a5 k hS hk)).1;refine ⟨hs++[hx],ks,ho,d2,(a3.step hA (fun k h _=>.inr (.inl h)) hs2).snoc ?_,a4.step hA (fun k h _=>.inr (.inl h)) hs2,fun q hq hvq=>?_⟩
 . refine hfr.step hA2 (fun k hk _=>hu k hk) (fun k hk hlt=>?_)
   rcases hk with hk | hk | hk
   . exact hX k hk
   . rcases hown k hk with h | h
     . exact hu k h
     . omega
   . exact hv k hk
 . rcases hown q hq with h | h
   . exact a5 q h hvq
   . have:=hv q hvq
     have:=hb.size;omega
theorem TwoN.appL (h:TwoN base X w u v o) (hX:∀ k,X k->k<w.heap.size):∃ ks,Own eS 88 base w v ks/\ks.length=o.totals.length /\
 ∀ (w1:World) (hx:SlV) (x:List Int),Below w.heap.size w w1->FrS RdRow (fun k=>k<w.heap.size) w1 hx.val x->∀ w' v',Own eS 88 base w' v' (ks++[hx])->Grew w1 w' v v'->TwoN base X w' u v' ⟨o.trays,o.totals++[x]⟩:=by
 obtain ⟨hs,ks,a1,a2,a3,a4,a5⟩:=h;refine ⟨ks,a2,a4.1,fun w1 hx x hb hfr w' v' ho hg=>?_⟩;have hA1:Agr (fun _=>False) w w1:=⟨hb.os,hb.tape,hb.output,hb.size,fun k hk _=>hb.block k hk⟩;have c1:=a1.below hb (zA _);have hu:∀ k,u.ownBlock=some k->k<w.heap.size:=fun k hk=>(a1.lt k hk).2;have hv:∀ k,v.ownBlock=some k->k<w.heap.size:=fun k hk=>(a2.lt k hk).2;have hA2:Agr (fun k=>v.ownBlock=some k) w1 w':=Agr.of_grown hg.1 (fun k hk _=>hk);have hA:Agr (fun k=>v.ownBlock=some k) w w':=⟨hA2.os.trans hA1.os,hA2.tape.trans hA1.tape,hA2.output.trans hA1.output,zO hA1.size hA2.size,fun k hk hn=>(hA2.block k (zM hk hA1.size) hn).trans (hA1.block k hk (fun e=>e))⟩;have hown:∀ k,v'.ownBlock=some k->v.ownBlock=some k\/w1.heap.size<=k:=fun k hk=>by
  rcases hg.2 with e | ⟨q,e,hq⟩
  . exact .inl (by rw [<- e];exact hk)
  . rw [e] at hk;cases hk;exact .inr hq
 have hs2:∀ k,(X k\/u.ownBlock=some k\/v'.ownBlock=some k)->k<w.heap.size->(X k\/u.ownBlock=some k\/v.ownBlock=some k):=fun k hk hlt=>hk.elim .inl (fun h=>h.elim (fun h=>.inr (.inl h)) (fun h=>(hown k h).elim (fun h=>.inr (.inr h)) (fun h=>by have:=hb.size;omega)));have d1:=(OwnT.agr (Own.top c1) hA2 (fun k hk hS=>a5 k hk hS)).1;refine ⟨hs,ks++[hx],d1,ho,a3.step hA (fun k h _=>.inr (.inr h)) hs2,(a4.step hA (fun k h _=>.inr (.inr h)) hs2).snoc ?_,fun q hq hvq=>?_⟩
 . refine hfr.step hA2 (fun k hk _=>hv k hk) (fun k hk hlt=>?_)
   rcases hk with hk | hk | hk
   . exact hX k hk
   . exact hu k hk
   . rcases hown k hk with h | h
     . exact hv k h
     . omega
 . rcases hown q hvq with h | h
   . exact a5 q hq h
   . have:=hu q hq
     have:=hb.size;omega
end
theorem FrRow.own {n:Nat} {w:World} {v:Value} {x:List Int} (h:OwnInt64S n w v x):FrS RdRow (fun k=>k<n) w v x:=fun w' hA =>
 (OwnT.agr (Own.top h) hA (fun q hq (hS:q<n)=>by have:=(h.lt q hq).1;omega)).1.rds
theorem TwoN.fr {base n:Nat} {X:Nat->Prop} {w:World} {u v:Value} {o:TwoT} (h:TwoN base X w u v o) (hn:n<=base) (hX:∀ k,k<n->X k):FrD n w u o.trays/\FrD n w v o.totals:=by
 have key:∀ w',Agr (fun k=>k<n) w w'->TwoN base X w' u v o:=fun w' hA =>
  h.agr (X':=X) hA (fun k hk _=>⟨hX k hk,fun e=>by obtain ⟨hs,ks,a1,-⟩:=h;have:=(a1.lt k e).1;omega,fun e=>by obtain ⟨hs,ks,-,a2,-⟩:=h;have:=(a2.lt k e).1;omega⟩) (fun k h _=>h)
 constructor
 . intro w' hA
   obtain ⟨hs,ks,h1,h2,h3,h4,-⟩:=key w' hA;exact ⟨hs,h1.rds,h3.1,fun i x y e1 e2=>(h3.2 i x y e1 e2).now⟩
 . intro w' hA
   obtain ⟨hs,ks,h1,h2,h3,h4,-⟩:=key w' hA;exact ⟨ks,h2.rds,h4.1,fun i x y e1 e2=>(h4.2 i x y e1 e2).now⟩
theorem has_text {a b:List (List Int)} {f t:Int} (h:TwoOk a b f t) {c:List Int} (hc:c∈a):hasE b f t c=(keyT b f t).any (fun x=>decide (x=toB (txI (partC c f t)))):=by
 unfold hasE keyT;rw [List.any_map];have h1:∀ y∈b,eqF f t c y=decide (toB (txI (partC y f t))=toB (txI (partC c f t))):=fun y hy=>by
  unfold eqF;have hoy:=hasD_at h.2.2.2 hy;have hoc:=hasD_at h.1.2.2 hc;have cy:=(yAT h.2.1 h.2.2.1).2 y hy;have cc:=(yAT h.1.1 h.1.2.1).2 c hc;have c0:=(yAT h.1.1 h.1.2.1).1;refine decide_eq_decide.2 ?_;rw [cmpN_zero (by unfold rks;rw [List.length_map,List.length_map,yAP c0.1 c0.2 cy,yAP c0.1 c0.2 cc]),<- rkS_txt hoy,<- rkS_txt hoc];exact rkS_iff (chS_txt hoy) (chS_txt hoc)
 rw [Bool.eq_iff_iff,List.any_eq_true,List.any_eq_true];exact ⟨fun ⟨y,hy,e⟩=>⟨y,hy,by rw [Function.comp,<- h1 y hy];exact e⟩,fun ⟨y,hy,e⟩=>⟨y,hy,by rw [h1 y hy];exact e⟩⟩
theorem l09Match_c {a b:List (List Int)} {u ka kb:Value} {w:World} {A B C:Nat} {f t:Int} (ha:RdInt64SS A w u a) (hka:Rds eT B w ka (keyT a f t)) (hkb:Rds eT C w kb (keyT b f t)) (h2:TwoOk a b f t) :
 Calls Tryz.prog 170 #[u,ka,kb] w fun e w'=>(∃ r1 r2,e=.returned (.tuple #[r1,r2])/\FrD w.heap.size w' r1 (a.filter (hasE b f t))/\FrD w.heap.size w' r2 (a.filter (fun y=>!hasE b f t y)))/\Below w.heap.size w w':=by
 obtain ⟨i0,hi,hz0,hz1,hz2c⟩:=info_parts Tryz.infoCard;obtain ⟨ao,ac,rfl,ho⟩:=ha.tight.open;obtain ⟨ko,kc,rfl,hko⟩:=RdT.at hka.tight;rw [yAZ] at hko |-;have hkb2:=hkb.tight;have hlb:=(yAF h2.2.1).1;have hla:=(yAF h2.1.1).1;have hS0:TwoN w.heap.size (fun k=>k<w.heap.size) ((w.alloc (.cells #[] 88)).alloc (.cells #[] 88)) (.slice (some ⟨w.heap.size,0,none⟩) 0 0) (.slice (some ⟨w.heap.size+1,0,none⟩) 0 0) ⟨[],[]⟩:=by
  have y1:(w.alloc (.cells #[] 88)).heap.size=w.heap.size+1:=by simp
  have b2:Below (w.alloc (.cells #[] 88)).heap.size (w.alloc (.cells #[] 88)) ((w.alloc (.cells #[] 88)).alloc (.cells #[] 88)):=(zB _ _).alloc (zA _) _;have o1:Own eS 88 w.heap.size (w.alloc (.cells #[] 88)) (.slice (some ⟨w.heap.size,0,none⟩) 0 0) []:=Own.lit (E:=eS) (xs:=[]) (cs:=#[]) (zA _) rfl rfl (by decide) (fun x hx=>by cases hx);have o2:Own eS 88 w.heap.size ((w.alloc (.cells #[] 88)).alloc (.cells #[] 88)) (.slice (some ⟨w.heap.size+1,0,none⟩) 0 0) []:=by
   have h:=Own.lit (E:=eS) (e:=88) (base:=w.heap.size) (w:=w.alloc (.cells #[] 88)) (xs:=[]) (cs:=#[]) (n:=0) (by rw [y1];omega) rfl rfl (by decide) (fun x hx=>by cases hx);rw [y1] at h;exact h
  refine ⟨[],[],o1.below b2 (zA _),o2,RwsG.nil _ _ _,RwsG.nil _ _ _,fun q hq hq2=>?_⟩;have e1:w.heap.size=q:=zD hq;have e2:w.heap.size+1=q:=zD hq2;omega
 have hB0:Below w.heap.size w ((w.alloc (.cells #[] 88)).alloc (.cells #[] 88)):=((zB _ _).alloc (zA _) _).alloc (by simp) _;have HS0:=hid hS0;have HB0:=hid hB0;have Hkb:=hid hkb2;have H2:=hid h2;obtain ⟨bo,bc,hbs⟩:=hkb.shape;subst hbs;obtain ⟨n,hn⟩:∃ n,n=a.length:=⟨_,rfl⟩;rw [<- hn] at ho hko hla |-;have Ho:=hid ho;have Hko:=hid hko;have Hn:=hid hn;rw [yAZ] at Hkb |-;have Hlb:=hid hlb;clear ha hka hkb hkb2 h2 ho hko hS0 hB0 hn hlb;obtain ⟨m,hm⟩:∃ m,m=b.length:=⟨_,rfl⟩;rw [<- hm] at Hkb Hlb |-;have Hm:=hid hm;clear hm;go_enter Tryz.func170,Tryz.ntmps170;go_wp2;go_loopw [8,9,10] (fun yv nv iv wr=>∃ (k:Nat) (y1 n1:Option Addr) (y2 n2:Nat) (YT NT:List (List Int)),k<=n/\iv=.int .i64 k/\yv=.slice y1 YT.length y2/\nv=.slice n1 NT.length n2/\Hid (TwoN w.heap.size (fun k=>k<w.heap.size) wr (.slice y1 YT.length y2) (.slice n1 NT.length n2) ⟨YT,NT⟩)/\Hid (YT=(a.take k).filter (hasE b f t))/\Hid (NT=(a.take k).filter (fun y=>!hasE b f t y))/\Hid (Below w.heap.size w wr)) (fun _ _ i _=>n - (intOf i).toNat)
 case atStart=>exact ⟨0,_,_,_,_,[],[],zK _,rfl,rfl,rfl,HS0,hid rfl,hid rfl,HB0⟩
 case round =>
  obtain ⟨k,y1,n1,y2,n2,YT,NT,hk,rfl,rfl,rfl,HS,HY,HN,Hb⟩:=hrel;clear HS0 HB0;by_cases hkn:k<n
  . obtain ⟨b0,off,rfl,hlt,hc⟩:=Ho.out (by omega)
    obtain ⟨x,ro,rc,hx,hcell,hrd⟩:=hc k (by omega);obtain ⟨kb0,koff,rfl,klt,kcc⟩:=Hko.out (by omega);have e2:=keyT_at (f:=f) (t:=t) hx;obtain ⟨sk,hsk⟩:∃ s,s=toB (txI (partC x f t)):=⟨_,rfl⟩;rw [<- hsk] at e2;have d0:=(Hb.out.cell (p:=⟨kb0,koff+k,none⟩) klt.2).trans (kcc k sk e2);have hm:=zC hx;have hxl:x.length<=20:=(yBY ((yAF H2.out.1.1).2 x hm).1).2;have d1:=(Hb.out.cell (p:=⟨b0,off+k,none⟩) hlt.2).trans hcell;have hrw:=Rds.onn hrd Hb.out;have hht:=has_text H2.out hm;rw [<- hsk] at hht;have hhas:=fun (w':World) (hw:Below w.heap.size w w')=>l09Has_c (w:=w') sk (Rds.onn Hkb.out hw) (by rw [yAZ,<- Hm.out];have:=Hlb.out;omega);rw [<- hht] at hhas;obtain ⟨P,hP⟩:∃ P,P=hasE b f t x:=⟨_,rfl⟩;rw [<- hP] at hhas;have hfy:(a.take (k+1)).filter (hasE b f t)=YT++(if P=true then [x] else []):=by
     rw [yAE hx,List.filter_append,<- HY.out];congr 1;by_cases q:P=true
     . rw [if_pos q,List.filter_cons_of_pos (by rw [<- hP];exact q)];rfl
     . rw [if_neg q,List.filter_cons_of_neg (by rw [<- hP];exact q)];rfl
    have hfn:(a.take (k+1)).filter (fun y=>!hasE b f t y)=NT++(if P=true then [] else [x]):=by
     rw [yAE hx,List.filter_append,<- HN.out];congr 1;by_cases q:P=true
     . rw [if_pos q,List.filter_cons_of_neg (by rw [<- hP,q];decide)];rfl
     . rw [if_neg q,List.filter_cons_of_pos (by rw [<- hP];simpa using q)];rfl
    have hyl:YT.length<=k:=by rw [HY.out];have:=List.length_filter_le (hasE b f t) (a.take k);rw [zI] at this;omega
    have hnl:NT.length<=k:=by rw [HN.out];have:=List.length_filter_le (fun y=>!hasE b f t y) (a.take k);rw [zI] at this;omega
    have Hfy:=hid hfy;have Hfn:=hid hfn;have Hlen:Hid (YT.length<=100/\NT.length<=100):=hid ⟨by omega,by omega⟩;have HXw:Hid (∀ q,q<w.heap.size->q<wr.heap.size):=hid (fun q hq=>by have:=Hb.out.size;omega);have Hhas:=hid (hhas wr Hb.out);clear hc hcell hrd hx kcc e2 hm hht hhas hP hfy hfn hyl hnl hsk;cases P with
    | true =>
     have Hfy2:Hid ((a.take (k+1)).filter (hasE b f t)=YT++[x]):=hid (by rw [Hfy.out,if_pos rfl]);have Hfn2:Hid ((a.take (k+1)).filter (fun y=>!hasE b f t y)=NT):=hid (by rw [Hfn.out,if_pos rfl,List.append_nil]);go_wp2_with fail;with_reducible refine Hhas.out.mono ?_
     rintro e w5 ⟨rfl,rfl⟩;clear d0;obtain ⟨hs1,hO,hhl,hfin⟩:=HS.out.appT HXw.out;have HO:=hid hO;have Hfin:=hid hfin;have Hhl:Hid (hs1.length<=100):=hid (by rw [hhl];have:=Hlen.out;simp only at *;omega);have hcon:=l02Own_c rfl d1 hrw (by omega);have Hcon:=hid hcon;clear hcon d1 hrw hO hfin hhl;go_wp2_with fail;with_reducible refine Hcon.out.mono ?_
     rintro e w6 ⟨⟨u9,rfl,hu⟩,hb6⟩;obtain ⟨rao,rcap,hsh⟩:=hu.shape;subst hsh;have HO6:=hid (HO.out.below hb6 (zA _));have Hu:=hid hu;have Hb6:=hid hb6;have hszr:w.heap.size<=w6.heap.size:=by have:=Hb.out.size;have:=hb6.size;omega
     clear hu hb6;obtain ⟨xl,hxl9⟩:∃ l,l=x.length:=⟨_,rfl⟩;rw [<- hxl9] at Hu |-;clear hxl9;go_wp2_with (first | (at_builtin;refine yAB (E:=eS) rfl _ _ 78 rfl Tryz.underlying78 hi hz0 hz1 hz2c rfl (by decide) rfl rfl (HO6.out.alloc _) (yAJ (E:=eS) (x:=⟨rao,xl,rcap⟩) trivial rfl) ?b1 ?b2 ?b3 ?_))
     case b1=>have:=Hhl.out;unfold maxLen;simp;omega
     case b2=>have:=Hhl.out;simp;omega
     case b3=>simp;omega
     intro v' w8 hO8 hg8;have hal:Below w6.heap.size w6 (w6.alloc (.cells #[.slice rao xl rcap] 88)):=(zB _ _).alloc (zA _) _;have hS8:=Hfin.out _ ⟨rao,xl,rcap⟩ x (Hb6.out.trans (hal.mono Hb6.out.size)) (FrS.on (FrRow.own Hu.out) hal) w8 v' hO8 hg8;have hb8:Below w.heap.size w w8:=(Hb.out.trans ((Hb6.out.trans (hal.mono Hb6.out.size)).mono Hb.out.size)).trans (by
      have h:=Agr.of_grown hg8.1 (S:=fun k=>w.heap.size<=k) (fun k hk _=>(HO.out.lt k hk).1);exact h.below (fun k h=>h) (by have:=hal.size;omega))
     obtain ⟨⟨s1,s2,hs9⟩,-⟩:=hS8.shape;have hs9:v'=.slice s1 (YT++[x]).length s2:=hs9;subst hs9;have HS8:=hid hS8;have Hb8:=hid hb8;clear hO8 hg8 hal hS8 hb8;go_wp2;go_roundw
     case rel=>exact ⟨k+1,_,_,_,_,YT++[x],NT,by omega,by go_num,rfl,rfl,HS8,hid Hfy2.out.symm,hid Hfn2.out.symm,Hb8⟩
     case measure=>simp [intOf];omega
    | false =>
     have Hfy2:Hid ((a.take (k+1)).filter (hasE b f t)=YT):=hid (by rw [Hfy.out,if_neg (by decide),List.append_nil]);have Hfn2:Hid ((a.take (k+1)).filter (fun y=>!hasE b f t y)=NT++[x]):=hid (by rw [Hfn.out,if_neg (by decide)]);go_wp2_with fail;with_reducible refine Hhas.out.mono ?_
     rintro e w5 ⟨rfl,rfl⟩;clear d0;obtain ⟨hs1,hO,hhl,hfin⟩:=HS.out.appL HXw.out;have HO:=hid hO;have Hfin:=hid hfin;have Hhl:Hid (hs1.length<=100):=hid (by rw [hhl];have:=Hlen.out;simp only at *;omega);have hcon:=l02Own_c rfl d1 hrw (by omega);have Hcon:=hid hcon;clear hcon d1 hrw hO hfin hhl;go_wp2_with fail;with_reducible refine Hcon.out.mono ?_
     rintro e w6 ⟨⟨u9,rfl,hu⟩,hb6⟩;obtain ⟨rao,rcap,hsh⟩:=hu.shape;subst hsh;have HO6:=hid (HO.out.below hb6 (zA _));have Hu:=hid hu;have Hb6:=hid hb6;have hszr:w.heap.size<=w6.heap.size:=by have:=Hb.out.size;have:=hb6.size;omega
     clear hu hb6;obtain ⟨xl,hxl9⟩:∃ l,l=x.length:=⟨_,rfl⟩;rw [<- hxl9] at Hu |-;clear hxl9;go_wp2_with (first | (at_builtin;refine yAB (E:=eS) rfl _ _ 78 rfl Tryz.underlying78 hi hz0 hz1 hz2c rfl (by decide) rfl rfl (HO6.out.alloc _) (yAJ (E:=eS) (x:=⟨rao,xl,rcap⟩) trivial rfl) ?b1 ?b2 ?b3 ?_))
     case b1=>have:=Hhl.out;unfold maxLen;simp;omega
     case b2=>have:=Hhl.out;simp;omega
     case b3=>simp;omega
     intro v' w8 hO8 hg8;have hal:Below w6.heap.size w6 (w6.alloc (.cells #[.slice rao xl rcap] 88)):=(zB _ _).alloc (zA _) _;have hS8:=Hfin.out _ ⟨rao,xl,rcap⟩ x (Hb6.out.trans (hal.mono Hb6.out.size)) (FrS.on (FrRow.own Hu.out) hal) w8 v' hO8 hg8;have hb8:Below w.heap.size w w8:=(Hb.out.trans ((Hb6.out.trans (hal.mono Hb6.out.size)).mono Hb.out.size)).trans (by
      have h:=Agr.of_grown hg8.1 (S:=fun k=>w.heap.size<=k) (fun k hk _=>(HO.out.lt k hk).1);exact h.below (fun k h=>h) (by have:=hal.size;omega))
     obtain ⟨-,s1,s2,hs9⟩:=hS8.shape;have hs9:v'=.slice s1 (NT++[x]).length s2:=hs9;subst hs9;have HS8:=hid hS8;have Hb8:=hid hb8;clear hO8 hg8 hal hS8 hb8;go_wp2;go_roundw
     case rel=>exact ⟨k+1,_,_,_,_,YT,NT++[x],by omega,by go_num,rfl,rfl,HS8,hid Hfy2.out.symm,hid Hfn2.out.symm,Hb8⟩
     case measure=>simp [intOf];omega
  . obtain rfl:k=n:=by omega
    have hF:=HS.out.fr (n:=w.heap.size) (zA _) (fun q hq=>hq);have hT:a.take k=a:=zH (by have:=Hn.out;omega);have e1:=HY.out;have e2:=HN.out;rw [hT] at e1 e2;have hF:FrD w.heap.size wr (.slice y1 YT.length y2) (a.filter (hasE b f t))/\FrD w.heap.size wr (.slice n1 NT.length n2) (a.filter (fun y=>!hasE b f t y)):=by rw [<- e1,<- e2];exact hF
    have HF:=hid hF;clear hF hT e1 e2;go_wp2;go_ret2;exact ⟨⟨_,_,rfl,HF.out.1,HF.out.2⟩,Hb.out⟩
theorem sMatchDecks_c {a b:List (List Int)} {u v:Value} {w:World} {A B:Nat} {f t:Int} (ha:RdInt64SS A w u a) (hb:RdInt64SS B w v b) :
 Calls Tryz.prog 128 #[u,v,.agg #[.int .i64 f,.int .i64 t]] w fun e w'=>MtPost (matC a b f t) (a.filter (hasE b f t)) (a.filter (fun y=>!hasE b f t y)) w.heap.size e w'/\Below w.heap.size w w':=by
 obtain ⟨i0,hi,hz0,hz1,hz2c⟩:=info_parts Tryz.infoCard;obtain ⟨ao,ac,rfl⟩:=ha.shape;obtain ⟨bo,bc,rfl⟩:=hb.shape;obtain ⟨T,hT⟩:∃ T,T=w.alloc (.cells #[.int .i64 f,.int .i64 t] 73):=⟨_,rfl⟩;have hbT:Below w.heap.size w T:=by rw [hT];exact (zB _ _).alloc (zA _) _
 have hBT:Box T w.heap.size [.int .i64 f,.int .i64 t]:=by rw [hT];exact Box.new w [.int .i64 f,.int .i64 t] _
 have haT:=RdInt64SS.onn ha hbT;have hbT2:=RdInt64SS.onn hb hbT;have htw:=l09Two_c (f:=f) (t:=t) haT hbT2;obtain ⟨C,hC⟩:∃ C,C=twoC a b f t:=⟨_,rfl⟩;rw [<- hC] at htw;have HC:=hid hC;have Htw:=hid htw;have f0:=hBT.cell 0 _ rfl;have f1:=hBT.cell 1 _ rfl;have HT:=hid hT;have HbT:=hid hbT;have HaT:=hid haT;have HbT2:=hid hbT2;clear hT hbT hBT haT hbT2 htw hC ha hb;obtain ⟨R,hR⟩:∃ R,matC a b f t=R:=⟨_,rfl⟩;rw [hR];have HR:=hid hR;clear hR;obtain ⟨n,hn⟩:∃ n,n=a.length:=⟨_,rfl⟩;obtain ⟨m,hm⟩:∃ m,m=b.length:=⟨_,rfl⟩;rw [<- hn] at HaT Htw |-;rw [<- hm] at HbT2 Htw |-;have Hn:=hid hn;have Hm:=hid hm;clear hn hm;go_enter Tryz.func128,Tryz.ntmps128;go_upto_region 1 with fail;rw [<- HT.out];go_wp2_with fail;with_reducible refine Htw.out.mono ?_
 rintro e w1 ⟨⟨rx,ry,rfl,hxy⟩,hb1⟩;have Ha1:=hid (RdInt64SS.onn HaT.out hb1);have Hd1:=hid (RdInt64SS.onn HbT2.out hb1);have Hb1:=hid (HbT.out.trans (hb1.mono HbT.out.size));clear hb1 f0 f1;by_cases hc0:C=0
 . have hz:=twoC_zero (a:=a) (b:=b) (f:=f) (t:=t) (by rw [<- HC.out];exact hc0)
   have hxy:=hxy hc0;have HZ:=hid hz;have HX:=hid hxy.1;have HY:=hid hxy.2;obtain ⟨xo,xc,hxs⟩:=hxy.1.shape;obtain ⟨yo,yc,hys⟩:=hxy.2.shape;rw [yAZ,<- Hn.out] at hxs;rw [yAZ,<- Hm.out] at hys;subst hxs;subst hys;have HR2:Hid (R=if ¬ (ascB a f t=true/\ascB b f t=true) then 6 else 0):=hid (by rw [<- HR.out];unfold matC;rw [if_neg (by rw [<- HC.out];exact fun h=>h hc0)]);subst hc0;have hsx:=l07Step_c HX.out (yAT hz.1.1 hz.1.2.1) (yAY hz.1.1) hz.1.2.2;have Hsx:=hid hsx;clear hz hxy hsx;go_wp2_with fail;with_reducible refine Hsx.out.mono ?_
   rintro e w2 ⟨⟨R1,rfl,h1a,h1⟩,hb2⟩;have HX2:=hid (Rds.onn HX.out hb2);have hY2:=Rds.onn HY.out hb2;have HY2:=hid hY2;have Ha2:=hid (RdInt64SS.onn Ha1.out hb2);have Hd2:=hid (RdInt64SS.onn Hd1.out hb2);have Hb2:=hid (Hb1.out.trans (hb2.mono Hb1.out.size));clear hb2;by_cases hs1:0<=R1
   . have HE:Hid (R=6):=hid (by rw [HR2.out,if_pos];intro h;rw [h1.1 hs1] at h;cases h.1)
     clear h1 hY2;go_wp2;go_ret2;exact ⟨MtPost.no (r:=.slice none 0 0) (by rw [HE.out];rfl) (by rw [HE.out];decide),Hb2.out⟩
   . have Hasc1:Hid (ascB a f t=true):=hid (by cases h:ascB a f t with | true=>rfl | false=>exact absurd (h1.2 h) hs1)
     have hsy:=l07Step_c hY2 (yAT HZ.out.2.1 HZ.out.2.2.1) (yAY HZ.out.2.1) HZ.out.2.2.2;have Hsy:=hid hsy;clear hsy hY2 h1;go_wp2_with fail;with_reducible refine Hsy.out.mono ?_
     rintro e w3 ⟨⟨R2,rfl,h2a,h2⟩,hb3⟩;have HX3:=hid (Rds.onn HX2.out hb3);have HY3:=hid (Rds.onn HY2.out hb3);have Ha3:=hid (RdInt64SS.onn Ha2.out hb3);have Hd3:=hid (RdInt64SS.onn Hd2.out hb3);have Hb3:=hid (Hb2.out.trans (hb3.mono Hb2.out.size));clear hb3;by_cases hs2:0<=R2
     . have HE:Hid (R=6):=hid (by rw [HR2.out,if_pos];intro h;rw [h2.1 hs2] at h;cases h.2)
       clear h2;go_wp2;go_ret2;exact ⟨MtPost.no (r:=.slice none 0 0) (by rw [HE.out];rfl) (by rw [HE.out];decide),Hb3.out⟩
     . have Hasc2:Hid (ascB b f t=true):=hid (by cases h:ascB b f t with | true=>rfl | false=>exact absurd (h2.2 h) hs2)
       have HE:Hid (R=0):=hid (by rw [HR2.out,if_neg (fun h=>h ⟨Hasc1.out,Hasc2.out⟩)]);clear h2;have hm1:=l09Match_c Ha3.out HX3.out HY3.out HZ.out;have Hm1:=hid hm1;clear hm1;go_wp2_with fail;with_reducible refine Hm1.out.mono ?_
       rintro e w4 ⟨⟨q1,q3,rfl,hF1,hF3⟩,hb4⟩;have hm2:=l09Match_c (RdInt64SS.onn Hd3.out hb4) (Rds.onn HY3.out hb4) (Rds.onn HX3.out hb4) ⟨HZ.out.2,HZ.out.1⟩;have Hm2:=hid hm2;have HF1:=hid hF1;have HF3:=hid hF3;have Hb4:=hid (Hb3.out.trans (hb4.mono Hb3.out.size));clear hm2 hF1 hF3 hb4;go_wp2_with fail;with_reducible refine Hm2.out.mono ?_
       rintro e w5 ⟨⟨q2,q4,rfl,hF2,hF4⟩,hb5⟩;have hG1:=(HF1.out.onB hb5).mono Hb3.out.size;have hG3:=(HF3.out.onB hb5).mono Hb3.out.size;have hb5':=Hb4.out.trans (hb5.mono Hb4.out.size);obtain ⟨o1,k1,rfl⟩:=hG1.shape;obtain ⟨o3,k3,rfl⟩:=hG3.shape;obtain ⟨o2,k2,rfl⟩:=hF2.shape;obtain ⟨o4,k4,rfl⟩:=hF4.shape;have Hfin:=hid (MtPost.yes (w:=w5) (R:=R) (e:=78) (c1:=.slice o2 (b.filter (hasE a f t)).length k2) (c3:=.slice o4 (b.filter (fun y=>!hasE a f t y)).length k4) hG1 hG3 hb5'.size);have HbA:Hid (Below w.heap.size w (w5.alloc (.cells #[.slice o1 (a.filter (hasE b f t)).length k1,.slice o2 (b.filter (hasE a f t)).length k2,.slice o3 (a.filter (fun y=>!hasE b f t y)).length k3,.slice o4 (b.filter (fun y=>!hasE a f t y)).length k4] 78))):=hid (hb5'.alloc hb5'.size _);clear hG1 hG3 hF2 hF4 hb5 hb5';go_wp2;go_ret2;refine ⟨?_,HbA.out⟩;have h9:=Hfin.out;rw [HE.out] at h9 |-;exact h9
 . have HE:Hid (R=C):=hid (by rw [<- HR.out];unfold matC;rw [if_pos (by rw [<- HC.out];exact hc0)];exact HC.out.symm)
   have HE0:Hid (R ≠ 0):=hid (by rw [HE.out];exact hc0);have hc1:(C != 0)=true:=by simpa using hc0
   clear hxy hc0;go_wp2;go_ret2;exact ⟨MtPost.no (r:=.slice none 0 0) (by rw [HE.out];rfl) HE0.out,Hb1.out⟩
def dkR (o:OffT) (x:StepT):Int :=
 if x.kd=1 then sortC (trD o x.ta) x.ff x.ft else if x.kd=2 then merC (trD o x.ta) (trD o x.tb) x.ff x.ft else if x.kd=5 then sortC (trD o x.ta) x.ff x.ft else if x.kd=6 then sortC (trD o x.ta) x.ff x.ft else matC (trD o x.ta) (trD o x.tb) x.ff x.ft
theorem sortC_iff {d:List (List Int)} {f t:Int}:sortC d f t=0 ↔ deckB d=true/\fieldP f t (colsD d)/\hasD d f t=true:=by
 unfold sortC;by_cases h1:deckB d=false
 . rw [if_pos h1];exact ⟨fun h=>(by cases h),fun h=>(by rw [h1] at h;cases h.1)⟩
 . rw [if_neg h1]
   by_cases h2:¬ fieldP f t (colsD d)
   . rw [if_pos h2];exact ⟨fun h=>(by cases h),fun h=>absurd h.2.1 h2⟩
   . rw [if_neg h2]
     by_cases h3:hasD d f t=false
     . rw [if_pos h3];exact ⟨fun h=>(by cases h),fun h=>(by rw [h3] at h;cases h.2.2)⟩
     . rw [if_neg h3]
       exact ⟨fun _=>⟨by simpa using h1,by simpa using h2,by simpa using h3⟩,fun _=>rfl⟩
theorem colC_one {d:List (List Int)} {f t:Int} {ts:List ByteArray} (ht:∀ s∈ts,(s.size:Int)=t - f/\chS s=true):colC [d] f t ts=0 ↔ sortC d f t=0:=by
 rw [sortC_iff];constructor
 . intro h
   exact (colC_zero h).1 d (List.mem_cons_self ..)
 . rintro ⟨h1,h2,h3⟩
   have a1:[d].any badD=false:=by simp [badD,h1]
   have a2:[d].any (badW f t)=false:=by simp [badW,h2]
   have a3:ts.any (badL f t)=false:=by
    rw [List.any_eq_false];intro s hs;have:=(ht s hs).1;simp [badL];omega
   have a4:ts.any badC=false:=by
    rw [List.any_eq_false];intro s hs;have:=(ht s hs).2;simp [badC,this]
   have a5:[d].any (badH f t)=false:=by simp [badH,h3]
   unfold colC;rw [a1,a2,a3,a4,a5];rfl
theorem dkR_zero {o:OffT} {x:StepT} (h5:x.kd=5->chS x.tx=true/\(x.tx.size:Int)=x.ft - x.ff):dkC o x=0 ↔ dkR o x=0:=by
 unfold dkC dkR;by_cases h1:x.kd=1
 . rw [if_pos h1,if_pos h1]
 rw [if_neg h1,if_neg h1];by_cases h2:x.kd=2
 . rw [if_pos h2,if_pos h2]
 rw [if_neg h2,if_neg h2];by_cases h3:x.kd=5
 . rw [if_pos h3,if_pos h3]
   unfold selC;refine colC_one fun s hs=>?_;have e:s=x.tx:=by simpa using hs
   rw [e];exact ⟨(h5 h3).2,(h5 h3).1⟩
 rw [if_neg h3,if_neg h3];by_cases h4:x.kd=6
 . rw [if_pos h4,if_pos h4]
   unfold firC;exact colC_one fun s hs=>by cases hs
 rw [if_neg h4,if_neg h4]
theorem l15Make_c {o:OffT} {x:StepT} {u v:Value} {w0:World} {B P X off:Nat} (ho:RdOff B w0 u v o) (hP:Box w0 P [u,v]) (hS:StAt w0 X off x) (h6:o.trays.length=6) (hA:trayP x.ta) (hB:trayP x.tb) (hK:1<=x.kd/\x.kd<=6) (hF:0<=x.ff/\x.ff<x.ft/\x.ft<=1000) (h5:x.kd=5->chS x.tx=true/\(x.tx.size:Int)=x.ft - x.ff) :
 Calls Tryz.prog 85 #[.pointer (some ⟨P,0,none⟩),.pointer (some ⟨X,off,none⟩)] w0 fun e w'=>DkPost (dkR o x) (fun d=>d=dkD o x) w0.heap.size e w'/\Below w0.heap.size w0 w':=by
 obtain ⟨uo,uc,rfl⟩:=RdL.shape ho.1;obtain ⟨vo,vc,rfl⟩:=RdL.shape ho.2;obtain ⟨p,hp⟩:=zG hA.1;obtain ⟨q,hq⟩:=zG hB.1;have hp6:p<6:=by have:=hA.2;omega
 have hq6:q<6:=by have:=hB.2;omega
 have ta:=trD_at h6 hA;have tb:=trD_at h6 hB;obtain ⟨a,ha⟩:∃ a,a=trD o x.ta:=⟨_,rfl⟩;obtain ⟨b,hb⟩:∃ b,b=trD o x.tb:=⟨_,rfl⟩;obtain ⟨C,hC⟩:∃ C,C=dkR o x:=⟨_,rfl⟩;obtain ⟨D,hD⟩:∃ D,D=dkD o x:=⟨_,rfl⟩;rw [<- hC,<- hD];unfold dkR at hC;unfold dkD at hD;rw [<- ha,<- hb] at hC hD;rw [<- ha] at ta;rw [<- hb] at tb;clear ha hb;obtain ⟨kd,ta9,tb9,tc9,f,t,sf,st,s⟩:=x;obtain ⟨hSl,s0,s1,s2,s3,s4,s5,s6,s7,s8⟩:=hS;simp only at hp hq hC hD hK hF h5 ta tb s0 s1 s2 s3 s4 s5 s6 s7 s8;subst hp;subst hq;rw [zR] at ta tb;obtain ⟨uo',uc',hs,hop⟩:=RdL.open yBH ho.1;injection hs with e1 e2 e3;subst e1;subst e3;clear e2;obtain ⟨tb0,off0,rfl,hlt,hc⟩:=hop (by omega);obtain ⟨a',ao,ac,ha',hac,har⟩:=hc p (by omega);obtain ⟨b',bo,bc,hb',hbc,hbr⟩:=hc q (by omega);rw [ta] at ha';rw [tb] at hb';obtain rfl:=zD ha';obtain rfl:=zD hb';rw [h6] at hP;have c0:=cell_regrown (hP.cell 0 _ rfl);have c1:=cell_regrown s1;have c3:=cell_regrown hac;have HP:=hid hP;have Hs2:=hid s2;have Hbc:=hid hbc;have Hlt:=hid hlt.2;have Hs0:=hid s0;have Hs4:=hid s4;have Hs5:=hid s5;have Hs8:=hid s8;have HSl:=hid hSl;have Har:=hid har;have Hbr:=hid hbr;have HC:=hid hC;have HD:=hid hD;have HF:=hid hF;have H5:=hid h5;have i1:(p:Int)<6:=by omega
 have i2:(q:Int)<6:=by omega
 clear ho h6 hA hB hC hD ta tb hP hop hc ha' hac har hb' hbc hbr hlt hF h5 s0 s1 s2 s3 s4 s5 s6 s7 s8 hSl;generalize o.totals.length=m at *
 obtain ⟨n1,hn1⟩:∃ n,n=a.length:=⟨_,rfl⟩;obtain ⟨n2,hn2⟩:∃ n,n=b.length:=⟨_,rfl⟩;rw [<- hn1] at Har c3;rw [<- hn2] at Hbr Hbc;clear hn1 hn2;go_enter Tryz.func85,Tryz.ntmps85;go_upto_region 1 with fail;refine wp_region_quiet_below (by kernel_rfl) (by kernel_rfl) ?_;repeat ((with_reducible refine wpQuiet_step (fun K hK=>?_));go_simp;first | ((with_reducible refine hK _ ?_);clear hK K) | (apply Exists.intro;refine ⟨fun _=>?_,hK _ ?_⟩;((fail));clear hK K))
 refine wpQuiet_nil ?_;intro _ hw';obtain ⟨⟨dq,osq⟩,hw''⟩:=hw';subst hw'';have hbq:=below_regrown w0 dq osq;generalize grow (redrawn w0 dq) osq=wq at hbq |-;have Hb1:=hid hbq;have m0:=cell_regrown ((HP.out.on hbq).cell 0 _ rfl);have m2:=cell_regrown ((hbq.cell (p:=⟨X,off+2,none⟩) HSl.out).trans Hs2.out);have m4:=cell_regrown ((hbq.cell (p:=⟨tb0,off0+q,none⟩) Hlt.out).trans Hbc.out);have HXq:=hid (zM HSl.out hbq.size);clear hbq c0 c1 c3;go_upto_region 2 with fail;refine wp_region_quiet_below (by kernel_rfl) (by kernel_rfl) ?_;repeat ((with_reducible refine wpQuiet_step (fun K hK=>?_));go_simp;first | ((with_reducible refine hK _ ?_);clear hK K) | (apply Exists.intro;refine ⟨fun _=>?_,hK _ ?_⟩;((fail));clear hK K))
 refine wpQuiet_nil ?_;intro _ hw';obtain ⟨⟨dq,osq⟩,hw''⟩:=hw';subst hw'';have hbq:=below_regrown wq dq osq;generalize grow (redrawn wq dq) osq=wq2 at hbq |-;have Hbq:=hid (Hb1.out.trans (hbq.mono Hb1.out.size));clear hbq m0 m2 m4;have d0:=(Hbq.out.cell (p:=⟨X,off,none⟩) HSl.out).trans Hs0.out;have d4:=(Hbq.out.cell (p:=⟨X,off+4,none⟩) HSl.out).trans Hs4.out;have d5:=(Hbq.out.cell (p:=⟨X,off+5,none⟩) HSl.out).trans Hs5.out;have Haq:=hid (RdInt64SS.onn Har.out Hbq.out);have Hbq2:=hid (RdInt64SS.onn Hbr.out Hbq.out);have hcases:kd=1\/kd=2\/kd=5\/kd=6\/kd=3\/kd=4:=by omega
 rcases hcases with rfl | rfl | rfl | rfl | rfl | rfl
 . have hC:C=sortC a f t:=by rw [HC.out];rfl
   have hD:D=pickD a (ordD a f t):=by rw [HD.out];rfl
   have hcon:=sSortedBy_c (f:=f) (t:=t) Haq.out;have Hcon:Hid (Calls Tryz.prog 124 #[.slice ao n1 ac,.agg #[.int .i64 f,.int .i64 t]] wq2 fun e w'=>DkPost C (fun d=>d=D) w0.heap.size e w'/\Below wq2.heap.size wq2 w'):=hid (hcon.mono (fun e w' h=>⟨by
    rw [hC,hD];exact h.1.low Hbq.out.size (fun d h=>h),h.2⟩))
   clear hcon hC hD;go_wp2_with fail;with_reducible refine Hcon.out.mono ?_
   rintro e w9 ⟨⟨r,rfl,hr⟩,hb9⟩;have Hr:=hid hr;have Hb9:=hid (Hbq.out.trans (hb9.mono Hbq.out.size));clear hr hb9;go_wp2;go_ret2;exact ⟨⟨_,rfl,Hr.out⟩,Hb9.out⟩
 . have hC:C=merC a b f t:=by rw [HC.out];rfl
   have hD:D=pickD (a++b) (ordD (a++b) f t):=by rw [HD.out];rfl
   have hcon:=sMergeDecks_c (f:=f) (t:=t) Haq.out Hbq2.out;have Hcon:Hid (Calls Tryz.prog 125 #[.slice ao n1 ac,.slice bo n2 bc,.agg #[.int .i64 f,.int .i64 t]] wq2 fun e w'=>DkPost C (fun d=>d=D) w0.heap.size e w'/\Below wq2.heap.size wq2 w'):=hid (hcon.mono (fun e w' h=>⟨by
    rw [hC,hD];exact h.1.low Hbq.out.size (fun d h=>h),h.2⟩))
   clear hcon hC hD;go_wp2_with fail;with_reducible refine Hcon.out.mono ?_
   rintro e w9 ⟨⟨r,rfl,hr⟩,hb9⟩;have Hr:=hid hr;have Hb9:=hid (Hbq.out.trans (hb9.mono Hbq.out.size));clear hr hb9;go_wp2;go_ret2;exact ⟨⟨_,rfl,Hr.out⟩,Hb9.out⟩
 . have hC:C=sortC a f t:=by rw [HC.out];rfl
   have hD:D=a.filter (fun y=>!outB f t s s y):=by rw [HD.out];rfl
   have hcon:=fun (W:World) (hW:Below wq2.heap.size wq2 W)=>sSelectEqual_c (w:=W) (f:=f) (t:=t) (s:=s) (RdInt64SS.onn Haq.out hW) HF.out (H5.out rfl).2 (H5.out rfl).1;have Hcon:Hid (∀ W,Below wq2.heap.size wq2 W->Calls Tryz.prog 126 #[.slice ao n1 ac,.agg #[.int .i64 f,.int .i64 t],.string s] W fun e w'=>DkPost C (fun d=>d=D) w0.heap.size e w'/\Below W.heap.size W w'):=hid (fun W hW=>(hcon W hW).mono (fun e w' h=>⟨by
    rw [hC,hD];exact h.1.low (zO Hbq.out.size hW.size) (fun d h=>h),h.2⟩))
   clear hcon hC hD;go_upto_region 9 with fail;have y4:=d4;have y5:=d5;have y8:=(Hbq.out.cell (p:=⟨X,off+8,none⟩) HSl.out).trans Hs8.out;have yl:=zM HSl.out Hbq.out.size;clear d0 d4 d5;refine yBU (fun i v w=>match i with | 0=>v=.slice ao n1 ac | 1=>v=.pointer (some ⟨X,off,none⟩) | 2=>v=.pointer (some ⟨X,off,none⟩) | 3=>v=.pointer (some ⟨X,off+4,none⟩) | 4=>v=.agg #[.int .i64 f,.int .i64 t] | 5=>v=.pointer (some ⟨X,off,none⟩) | 6=>v=.pointer (some ⟨X,off,none⟩) | 7=>v=.pointer (some ⟨X,off+8,none⟩) | 8=>v=.string s | 9=>∃ r,v=.tuple #[r,.int .i64 C]/\(C=0->FrD w0.heap.size w r D) | 10=>C=0->FrD w0.heap.size w v D | 11=>v=.int .i64 C | 12=>C=0->FrD w0.heap.size w v D | 13=>v=.int .i64 C | _=>True) (by kernel_rfl) (by kernel_rfl) (by kernel_rfl) ?_ ?_ ?_
   . intro i v w w' h hb
     iterate 14 (obtain _ | i:=i;· first | exact h | (obtain ⟨r,h1,h2⟩:=h;exact ⟨r,h1,fun h0=>(h2 h0).onB hb⟩) | exact fun h0=>(h h0).onB hb)
     exact h
   . intro vs hvs
     match vs,hvs with
     | [v0,v1,v2,v3,v4,v5,v6,v7,v8,v9,v10,v11,v12,v13],_ =>
      refine ⟨?_,?_,?_,?_,?_,?_,?_,?_,?_,?_,?_,?_,?_,?_,trivial⟩
      . intro wr hC hd
        clear hd;unfold relAt;simp only [putAll];go_simp;simp only [relUpon];exact ⟨zB _ _,by first | rfl | trivial⟩
      . intro wr hC hd
        clear hd;unfold relAt;simp only [putAll];go_simp;simp only [relUpon];exact ⟨zB _ _,by first | rfl | trivial⟩
      . intro wr hC hd
        have d1:v1=.pointer (some ⟨X,off,none⟩):=by first | exact hd.1 rfl | exact hd.2.1 rfl | exact hd.2.2.1 rfl | exact hd.2.2.2.1 rfl | exact hd.2.2.2.2.1 rfl | exact hd.2.2.2.2.2.1 rfl | exact hd.2.2.2.2.2.2.1 rfl | exact hd.2.2.2.2.2.2.2.1 rfl | exact hd.2.2.2.2.2.2.2.2.1 rfl | exact hd.2.2.2.2.2.2.2.2.2.1 rfl
        subst d1;clear hd;unfold relAt;simp only [putAll];go_simp;simp only [relUpon];exact ⟨zB _ _,by first | rfl | trivial⟩
      . intro wr hC hd
        have d2:v2=.pointer (some ⟨X,off,none⟩):=by first | exact hd.1 rfl | exact hd.2.1 rfl | exact hd.2.2.1 rfl | exact hd.2.2.2.1 rfl | exact hd.2.2.2.2.1 rfl | exact hd.2.2.2.2.2.1 rfl | exact hd.2.2.2.2.2.2.1 rfl | exact hd.2.2.2.2.2.2.2.1 rfl | exact hd.2.2.2.2.2.2.2.2.1 rfl | exact hd.2.2.2.2.2.2.2.2.2.1 rfl
        subst d2;clear hd;unfold relAt;simp only [putAll];go_simp;simp only [relUpon];exact ⟨zB _ _,by first | rfl | trivial⟩
      . intro wr hC hd
        have d3:v3=.pointer (some ⟨X,off+4,none⟩):=by first | exact hd.1 rfl | exact hd.2.1 rfl | exact hd.2.2.1 rfl | exact hd.2.2.2.1 rfl | exact hd.2.2.2.2.1 rfl | exact hd.2.2.2.2.2.1 rfl | exact hd.2.2.2.2.2.2.1 rfl | exact hd.2.2.2.2.2.2.2.1 rfl | exact hd.2.2.2.2.2.2.2.2.1 rfl | exact hd.2.2.2.2.2.2.2.2.2.1 rfl
        subst d3;clear hd;have e4:=(hC.cell (p:=⟨X,off+4,none⟩) yl).trans y4;have e5:=(hC.cell (p:=⟨X,off+5,none⟩) yl).trans y5;unfold relAt;simp only [putAll];go_simp;simp only [relUpon];exact ⟨zB _ _,by first | rfl | trivial⟩
      . intro wr hC hd
        clear hd;unfold relAt;simp only [putAll];go_simp;simp only [relUpon];exact ⟨zB _ _,by first | rfl | trivial⟩
      . intro wr hC hd
        have d5:v5=.pointer (some ⟨X,off,none⟩):=by first | exact hd.1 rfl | exact hd.2.1 rfl | exact hd.2.2.1 rfl | exact hd.2.2.2.1 rfl | exact hd.2.2.2.2.1 rfl | exact hd.2.2.2.2.2.1 rfl | exact hd.2.2.2.2.2.2.1 rfl | exact hd.2.2.2.2.2.2.2.1 rfl | exact hd.2.2.2.2.2.2.2.2.1 rfl | exact hd.2.2.2.2.2.2.2.2.2.1 rfl
        subst d5;clear hd;unfold relAt;simp only [putAll];go_simp;simp only [relUpon];exact ⟨zB _ _,by first | rfl | trivial⟩
      . intro wr hC hd
        have d6:v6=.pointer (some ⟨X,off,none⟩):=by first | exact hd.1 rfl | exact hd.2.1 rfl | exact hd.2.2.1 rfl | exact hd.2.2.2.1 rfl | exact hd.2.2.2.2.1 rfl | exact hd.2.2.2.2.2.1 rfl | exact hd.2.2.2.2.2.2.1 rfl | exact hd.2.2.2.2.2.2.2.1 rfl | exact hd.2.2.2.2.2.2.2.2.1 rfl | exact hd.2.2.2.2.2.2.2.2.2.1 rfl
        subst d6;clear hd;unfold relAt;simp only [putAll];go_simp;simp only [relUpon];exact ⟨zB _ _,by first | rfl | trivial⟩
      . intro wr hC hd
        have d7:v7=.pointer (some ⟨X,off+8,none⟩):=by first | exact hd.1 rfl | exact hd.2.1 rfl | exact hd.2.2.1 rfl | exact hd.2.2.2.1 rfl | exact hd.2.2.2.2.1 rfl | exact hd.2.2.2.2.2.1 rfl | exact hd.2.2.2.2.2.2.1 rfl | exact hd.2.2.2.2.2.2.2.1 rfl | exact hd.2.2.2.2.2.2.2.2.1 rfl | exact hd.2.2.2.2.2.2.2.2.2.1 rfl
        subst d7;clear hd;have e8:=(hC.cell (p:=⟨X,off+8,none⟩) yl).trans y8;unfold relAt;simp only [putAll];go_simp;simp only [relUpon];exact ⟨zB _ _,by first | rfl | trivial⟩
      . intro wr hC hd
        have d0:v0=.slice ao n1 ac:=by first | exact hd.1 rfl | exact hd.2.1 rfl | exact hd.2.2.1 rfl | exact hd.2.2.2.1 rfl | exact hd.2.2.2.2.1 rfl | exact hd.2.2.2.2.2.1 rfl | exact hd.2.2.2.2.2.2.1 rfl | exact hd.2.2.2.2.2.2.2.1 rfl | exact hd.2.2.2.2.2.2.2.2.1 rfl | exact hd.2.2.2.2.2.2.2.2.2.1 rfl
        subst d0;have d4:v4=.agg #[.int .i64 f,.int .i64 t]:=by first | exact hd.1 rfl | exact hd.2.1 rfl | exact hd.2.2.1 rfl | exact hd.2.2.2.1 rfl | exact hd.2.2.2.2.1 rfl | exact hd.2.2.2.2.2.1 rfl | exact hd.2.2.2.2.2.2.1 rfl | exact hd.2.2.2.2.2.2.2.1 rfl | exact hd.2.2.2.2.2.2.2.2.1 rfl | exact hd.2.2.2.2.2.2.2.2.2.1 rfl
        subst d4;have d8:v8=.string s:=by first | exact hd.1 rfl | exact hd.2.1 rfl | exact hd.2.2.1 rfl | exact hd.2.2.2.1 rfl | exact hd.2.2.2.2.1 rfl | exact hd.2.2.2.2.2.1 rfl | exact hd.2.2.2.2.2.2.1 rfl | exact hd.2.2.2.2.2.2.2.1 rfl | exact hd.2.2.2.2.2.2.2.2.1 rfl | exact hd.2.2.2.2.2.2.2.2.2.1 rfl
        subst d8;clear hd;have h9:=Hcon.out _ hC;clear hC;unfold relAt;simp only [putAll];go_simp;simp only [relUpon];with_reducible refine h9.mono ?_
        rintro e w99 ⟨⟨r9,rfl,h2⟩,hb9⟩;exact ⟨_,rfl,hb9,r9,rfl,fun h0=>by obtain ⟨d,rfl,h4⟩:=h2 h0;exact h4⟩
      . intro wr hC hd
        have d9:∃ r,v9=.tuple #[r,.int .i64 C]/\(C=0->FrD w0.heap.size wr r D):=by first | exact hd.1 rfl | exact hd.2.1 rfl | exact hd.2.2.1 rfl | exact hd.2.2.2.1 rfl | exact hd.2.2.2.2.1 rfl | exact hd.2.2.2.2.2.1 rfl | exact hd.2.2.2.2.2.2.1 rfl | exact hd.2.2.2.2.2.2.2.1 rfl | exact hd.2.2.2.2.2.2.2.2.1 rfl | exact hd.2.2.2.2.2.2.2.2.2.1 rfl
        clear hd;have h8:=d9.choose_spec.1;have h9:=d9.choose_spec.2;generalize d9.choose=r9 at h8 h9;clear d9;subst h8;unfold relAt;simp only [putAll];go_simp;simp only [relUpon];exact ⟨zB _ _,h9⟩
      . intro wr hC hd
        have d9:∃ r,v9=.tuple #[r,.int .i64 C]/\(C=0->FrD w0.heap.size wr r D):=by first | exact hd.1 rfl | exact hd.2.1 rfl | exact hd.2.2.1 rfl | exact hd.2.2.2.1 rfl | exact hd.2.2.2.2.1 rfl | exact hd.2.2.2.2.2.1 rfl | exact hd.2.2.2.2.2.2.1 rfl | exact hd.2.2.2.2.2.2.2.1 rfl | exact hd.2.2.2.2.2.2.2.2.1 rfl | exact hd.2.2.2.2.2.2.2.2.2.1 rfl
        clear hd;have h8:=d9.choose_spec.1;have h9:=d9.choose_spec.2;generalize d9.choose=r9 at h8 h9;clear d9;subst h8;unfold relAt;simp only [putAll];go_simp;simp only [relUpon];exact ⟨zB _ _,by first | rfl | trivial⟩
      . intro wr hC hd
        have d10:C=0->FrD w0.heap.size wr v10 D:=by first | exact hd.1 rfl | exact hd.2.1 rfl | exact hd.2.2.1 rfl | exact hd.2.2.2.1 rfl | exact hd.2.2.2.2.1 rfl | exact hd.2.2.2.2.2.1 rfl | exact hd.2.2.2.2.2.2.1 rfl | exact hd.2.2.2.2.2.2.2.1 rfl | exact hd.2.2.2.2.2.2.2.2.1 rfl | exact hd.2.2.2.2.2.2.2.2.2.1 rfl
        clear hd;unfold relAt;simp only [putAll];go_simp;simp only [relUpon];exact ⟨zB _ _,d10⟩
      . intro wr hC hd
        have d11:v11=.int .i64 C:=by first | exact hd.1 rfl | exact hd.2.1 rfl | exact hd.2.2.1 rfl | exact hd.2.2.2.1 rfl | exact hd.2.2.2.2.1 rfl | exact hd.2.2.2.2.2.1 rfl | exact hd.2.2.2.2.2.2.1 rfl | exact hd.2.2.2.2.2.2.2.1 rfl | exact hd.2.2.2.2.2.2.2.2.1 rfl | exact hd.2.2.2.2.2.2.2.2.2.1 rfl
        subst d11;clear hd;unfold relAt;simp only [putAll];go_simp;simp only [relUpon];exact ⟨zB _ _,by first | rfl | trivial⟩
   . intro vs wq hvs hC hI
     match vs,hvs,hI with
     | [v0,v1,v2,v3,v4,v5,v6,v7,v8,v9,v10,v11,v12,v13],_,hI =>
      have d0:v0=.slice ao n1 ac:=hI 0 (by decide);subst d0;have d1:v1=.pointer (some ⟨X,off,none⟩):=hI 1 (by decide);subst d1;have d2:v2=.pointer (some ⟨X,off,none⟩):=hI 2 (by decide);subst d2;have d3:v3=.pointer (some ⟨X,off+4,none⟩):=hI 3 (by decide);subst d3;have d4:v4=.agg #[.int .i64 f,.int .i64 t]:=hI 4 (by decide);subst d4;have d5:v5=.pointer (some ⟨X,off,none⟩):=hI 5 (by decide);subst d5;have d6:v6=.pointer (some ⟨X,off,none⟩):=hI 6 (by decide);subst d6;have d7:v7=.pointer (some ⟨X,off+8,none⟩):=hI 7 (by decide);subst d7;have d8:v8=.string s:=hI 8 (by decide);subst d8;have d9:∃ r,v9=.tuple #[r,.int .i64 C]/\(C=0->FrD w0.heap.size wq r D):=hI 9 (by decide);have d10:C=0->FrD w0.heap.size wq v10 D:=hI 10 (by decide);have d11:v11=.int .i64 C:=hI 11 (by decide);subst d11;have d12:C=0->FrD w0.heap.size wq v12 D:=hI 12 (by decide);have d13:v13=.int .i64 C:=hI 13 (by decide);subst d13;clear hI;simp only [putAll];go_simp;obtain ⟨r9,rfl,_⟩:=d9;have Hr:=hid d12;have Hb9:=hid (Hbq.out.trans (hC.mono Hbq.out.size));clear y4 y5 y8 d10 d12 hC;go_wp2;go_ret2;exact ⟨⟨_,rfl,fun h0=>⟨_,rfl,Hr.out h0⟩⟩,Hb9.out⟩
 . have hC:C=sortC a f t:=by rw [HC.out];rfl
   have hD:D=firD a f t:=by rw [HD.out];rfl
   have hcon:=sFirstOfGroups_c (f:=f) (t:=t) Haq.out;have Hcon:Hid (Calls Tryz.prog 127 #[.slice ao n1 ac,.agg #[.int .i64 f,.int .i64 t]] wq2 fun e w'=>DkPost C (fun d=>d=D) w0.heap.size e w'/\Below wq2.heap.size wq2 w'):=hid (hcon.mono (fun e w' h=>⟨by
    rw [hC,hD];exact h.1.low Hbq.out.size (fun d h=>h),h.2⟩))
   clear hcon hC hD;go_wp2_with fail;with_reducible refine Hcon.out.mono ?_
   rintro e w9 ⟨⟨r,rfl,hr⟩,hb9⟩;have Hr:=hid hr;have Hb9:=hid (Hbq.out.trans (hb9.mono Hbq.out.size));clear hr hb9;go_wp2;go_ret2;exact ⟨⟨_,rfl,Hr.out⟩,Hb9.out⟩
 . have hC:C=matC a b f t:=by rw [HC.out];rfl
   have hD:D=a.filter (hasE b f t):=by rw [HD.out];rfl
   have hcon:=sMatchDecks_c (f:=f) (t:=t) Haq.out Hbq2.out;rw [<- hC] at hcon;have Hcon:=hid hcon;have HDe:=hid hD;clear hcon hC hD;go_wp2_with fail;with_reducible refine Hcon.out.mono ?_
   rintro e w9 ⟨⟨r,rfl,hr⟩,hb9⟩;have h9:=(hb9.cell (p:=⟨X,off,none⟩) (zM HSl.out Hbq.out.size)).trans d0;have Hb9:=hid (Hbq.out.trans (hb9.mono Hbq.out.size));clear hb9 d0 d4 d5;by_cases h0:C=0
   . obtain ⟨g,r1,r2,r3,r4,rfl,hbx,hF1,hF3⟩:=hr h0
     have HF1:=hid (hF1.mono Hbq.out.size);have k0:=hbx.cell 0 _ rfl;subst h0;clear hr hbx hF1 hF3;go_wp2;go_ret2;exact ⟨⟨_,rfl,fun _=>⟨_,rfl,by rw [HDe.out];exact HF1.out⟩⟩,Hb9.out⟩
   . have h1:(C != 0)=true:=by simpa using h0
     have H0:=hid h0;clear hr h0;go_wp2;go_ret2;exact ⟨DkPost.no rfl H0.out,Hb9.out⟩
 . have hC:C=matC a b f t:=by rw [HC.out];rfl
   have hD:D=a.filter (fun y=>!hasE b f t y):=by rw [HD.out];rfl
   have hcon:=sMatchDecks_c (f:=f) (t:=t) Haq.out Hbq2.out;rw [<- hC] at hcon;have Hcon:=hid hcon;have HDe:=hid hD;clear hcon hC hD;go_wp2_with fail;with_reducible refine Hcon.out.mono ?_
   rintro e w9 ⟨⟨r,rfl,hr⟩,hb9⟩;have h9:=(hb9.cell (p:=⟨X,off,none⟩) (zM HSl.out Hbq.out.size)).trans d0;have Hb9:=hid (Hbq.out.trans (hb9.mono Hbq.out.size));clear hb9 d0 d4 d5;by_cases h0:C=0
   . obtain ⟨g,r1,r2,r3,r4,rfl,hbx,hF1,hF3⟩:=hr h0
     have HF3:=hid (hF3.mono Hbq.out.size);have k0:=hbx.cell 2 _ rfl;subst h0;clear hr hbx hF1 hF3;go_wp2;go_ret2;exact ⟨⟨_,rfl,fun _=>⟨_,rfl,by rw [HDe.out];exact HF3.out⟩⟩,Hb9.out⟩
   . have h1:(C != 0)=true:=by simpa using h0
     have H0:=hid h0;clear hr h0;go_wp2;go_ret2;exact ⟨DkPost.no rfl H0.out,Hb9.out⟩
def endG (d:List (List Int)) (G:List Int) (i:Nat):Int:=(G++[(d.length:Int)]).getD (i+1) 0
theorem endG_in {d:List (List Int)} {G:List Int} {i:Nat} {y:Int} (h:G[i+1]?=some y):endG d G i=y:=by
 unfold endG;rw [List.getD_eq_getElem?_getD,zL (yBK h),h];rfl
theorem endG_out {d:List (List Int)} {G:List Int} {i:Nat} (h:G.length=i+1):endG d G i=d.length:=by
 unfold endG;rw [List.getD_eq_getElem?_getD,zJ (by omega),h];simp
theorem l13End_c {d:List (List Int)} {w:World} {b i:Nat} {f t sf st:Int} {ks ns hs:Value} (h:ReadP w b d f t sf st ks ns hs) (hi:i<(selI (grpP d f t) d.length).length) (hd:d.length<=40) :
 Calls Tryz.prog 123 #[.pointer (some ⟨b,0,none⟩),.int .i64 i] w fun e w'=>e=.returned (.int .i64 (endG d (selI (grpP d f t) d.length) i))/\w=w':=by
 obtain ⟨G,hG⟩:∃ G,G=selI (grpP d f t) d.length:=⟨_,rfl⟩;have hh:=h.heads;rw [<- hG] at hi hh |-;have hgl:G.length<=40:=by have:=yBE (grpP d f t) d.length;rw [hG];omega
 have hk:=h.keys;obtain ⟨ko,kc,rfl⟩:=hk.shape;obtain ⟨ho,hc,rfl,hop⟩:=RdI.open hh;have c0:=h.box.cell 0 _ rfl;have c2:=h.box.cell 2 _ rfl;rw [yAZ] at c0;obtain ⟨g,hg⟩:∃ g,g=G.length:=⟨_,rfl⟩;obtain ⟨n,hn⟩:∃ n,n=d.length:=⟨_,rfl⟩;rw [<- hg] at c2 hi hgl;rw [<- hn] at c0;have Hn:=hid hn;have Hg:=hid hg;have hi40:i<=40:=by omega
 by_cases hlt:i+1<g
 . obtain ⟨bb,oo,rfl,hl2,hcc⟩:=hop (by omega)
   obtain ⟨y,hy,hyc⟩:=hcc (i+1) (by omega);have HE:=hid (endG_in (d:=d) hy);have i1:(i:Int)+1<(g:Int):=by omega
   have i2:((i:Int)+1).toNat=i+1:=by omega
   have hyc2:=hyc.1;clear hn hg hcc hop hk hh hG h hyc hy;go_enter Tryz.func123,Tryz.ntmps123;go_wp2;go_ret;exact ⟨yAO HE.out.symm,rfl⟩
 . have HE:=hid (endG_out (d:=d) (G:=G) (i:=i) (by omega))
   rw [<- hn] at HE;have i1:¬ (i:Int)+1<(g:Int):=by omega
   clear hn hg hop hk hh hG h;go_enter Tryz.func123,Tryz.ntmps123;go_wp2;go_ret;exact ⟨yAO HE.out.symm,rfl⟩
theorem sumC_seg {sf st:Int} {d:List (List Int)} {a i:Nat} {x:List Int} (h:d[i]?=some x) (ha:a<=i):sumC sf st ((d.take (i+1)).drop a)=sumC sf st ((d.take i).drop a)+numC sf st x:=by
 have hl:=yBK h;rw [yAE h,List.drop_append_of_le_length (by rw [zI];omega)];unfold sumC;rw [List.map_append,List.sum_append];simp
theorem seg_bd {sf st:Int} {d:List (List Int)} (hn:∀ c∈d,(partC c sf st).length<=12) (hl:d.length<=40) (a i:Nat):-40000000000000<=sumC sf st ((d.take i).drop a)/\sumC sf st ((d.take i).drop a)<=40000000000000:=by
 have h:=sumC_bd (sf:=sf) (st:=st) (d:=(d.take i).drop a) (fun c hc=>hn c (List.mem_of_mem_take (List.mem_of_mem_drop hc)));have h2:((d.take i).drop a).length<=d.length:=by rw [zQ,zI];omega
 omega
theorem one_own {e:TypeId} {base cap g:Nat} {w:World} (h:w.ownsRow base e 1 (.slice (some ⟨g,0,none⟩) 1 cap) 1 (madeCells #[.int .i64 0] 1).toList):Own eI e base w (.slice (some ⟨g,0,none⟩) 1 cap) [0]:=by
 rw [toList_madeCells_one] at h;exact ⟨h,fun x hx=>by
  have:x=0:=by simpa using hx
  subst this;show -9223372036854775808<=(0:Int)/\(0:Int)<=9223372036854775807
  omega⟩
theorem l13Sums_c {d:List (List Int)} {w:World} {b p q:Nat} {f t sf st:Int} {ks ns hs:Value} (h:ReadP w b d f t sf st ks ns hs) (hpq:p<=q) (hq:q<=d.length) (hd:d.length<=40) (hn12:∀ c∈d,(partC c sf st).length<=12) :
 Calls Tryz.prog 122 #[.pointer (some ⟨b,0,none⟩),.int .i64 p,.int .i64 q,.int .i64 1] w fun e w'=>(∃ g,e=.returned (.slice (some ⟨g,0,none⟩) 1 1)/\w.heap.size<=g/\Box w' g [.int .i64 (sumC sf st ((d.take q).drop p))])/\Below w.heap.size w w':=by
 obtain ⟨i0,hi,hz0,hz1,hz2⟩:=info_parts Tryz.infoInt64;obtain ⟨no,nc,rfl,hop⟩:=h.nums.open;have c1:=h.box.cell 1 _ rfl;have hbb:=h.box.lt;rw [numL_len] at c1 hop;obtain ⟨n,hn⟩:∃ n,n=d.length:=⟨_,rfl⟩;rw [<- hn] at c1 hop hq hd;have Hn:=hid hn;have Hop:=hid hop;have Hc1:=hid c1;have H12:=hid hn12;have Hbd:=hid (fun i=>seg_bd hn12 (by rw [<- hn];exact hd) p i);have hq40:q<=40:=by omega
 clear h hop c1 hn hn12;go_enter Tryz.func122,Tryz.ntmps122;go_wp2_with (first | (at_make;refine wpList_make_full _ rfl _ _ 29 rfl w.heap.size 2 i0 (.int .i64 0) 1 Tryz.underlying29 hi hz0 hz1 _ _ _ _ 1 rfl rfl rfl rfl ?b1 ?b2 (zA _) ?_))
 case b1=>rw [hz2];omega
 case b2=>unfold maxLen;omega
 intro w1 hr1 hg1;have hb1:Below w.heap.size w w1:=(zB _ _).grown hg1 (zA _) (fun k hk=>by cases hk);have hO1:OwnInt64S w.heap.size w1 (.slice (some ⟨w.heap.size,0,none⟩) 1 1) [0]:=one_own hr1;have HO1:=hid hO1;have Hb1:=hid hb1;obtain ⟨X,hX⟩:∃ X,X=w.heap.size:=⟨_,rfl⟩;rw [<- hX] at HO1 |-;have HX:=hid hX;clear hr1 hg1 hb1 hO1 hX;go_wp2;go_loopw [10] (fun iv wr=>∃ i:Nat,(p<=i/\i<=q)/\iv=.int .i64 i/\Hid (OwnInt64S X wr (.slice (some ⟨X,0,none⟩) 1 1) [sumC sf st ((d.take i).drop p)])/\Hid (Below w.heap.size w wr)) (fun i _=>q - (intOf i).toNat)
 case atStart=>exact ⟨p,⟨zA _,hpq⟩,rfl,by rw [show (d.take p).drop p=[] from List.drop_of_length_le (by rw [zI];omega)];exact HO1,Hb1⟩
 case round =>
  obtain ⟨i,hik,rfl,HO,HB⟩:=hrel;clear HO1 Hb1;obtain ⟨wo,hwo⟩:∃ x,x=wr:=⟨_,rfl⟩;subst hwo;by_cases hiq:i<q
  . obtain ⟨nb,noff,rfl,hlt,hc⟩:=Hop.out (by omega)
    obtain ⟨x,ro,rc,hx,hcell,hrd⟩:=hc i (by omega);obtain ⟨y,hy⟩:∃ y,d[i]?=some y:=⟨_,zF (by have:=Hn.out;omega)⟩;rw [numL_at hy] at hx;obtain rfl:=zD hx;obtain ⟨ro',rc',hvs,hin⟩:=RdI.open hrd;injection hvs with q1 q2 q3;subst q1;subst q3;clear q2;obtain ⟨ib,io,rfl,hl3,hcc⟩:=hin (by simp);obtain ⟨z,hz,hzc⟩:=hcc 0 (by simp);have ez:numC sf st y=z:=by simpa using hz
    obtain ⟨s,hs⟩:∃ s,s=sumC sf st ((d.take i).drop p):=⟨_,rfl⟩;have hbd:=Hbd.out i;have hbd2:=Hbd.out (i+1);rw [sumC_seg hy hik.1,ez,<- hs] at hbd2;rw [<- hs] at HO hbd;have Hsn:Hid (sumC sf st ((d.take (i+1)).drop p)=s+z):=hid (by rw [sumC_seg hy hik.1,ez,hs]);have z0:IntKind.i64.wrap (s+z)=s+z:=IntWalk.i64_in _ (by omega);have hok:eI.ok (s+z):=by show -9223372036854775808<=s+z/\s+z<=9223372036854775807;omega
    have Hok:=hid hok;have Hcell:=hid hcell;have Hzc:=hid hzc.1;rw [show ([numC sf st y]:List Int).length=1 from rfl] at Hcell;have hb1:nb<w.heap.size:=hlt.2;have hb2:ib<w.heap.size:=hl3.2;have hq0:(i:Int)<(q:Int):=by omega
    have hin2:(i:Int)<(n:Int):=by omega
    clear hc hx hcell hrd hin hcc hz hzc hy hs ez hbd hbd2 hok hlt hl3;go_wp2;go_loopw [11] (fun jv wr=>∃ j:Nat,j<=1/\jv=.int .i64 j/\Hid (OwnInt64S X wr (.slice (some ⟨X,0,none⟩) 1 1) [if j=0 then s else s+z])/\Hid (Below w.heap.size w wr)) (fun j _=>1 - (intOf j).toNat)
    case atStart=>exact ⟨0,zK _,rfl,HO,HB⟩
    case round =>
     obtain ⟨j,hj,rfl,HOj,HBj⟩:=hrel;clear HO HB;by_cases hj1:j<1
     . obtain rfl:j=0:=by omega
       rw [show ((0:Nat):Int)=0 from rfl];have c1:=(HBj.out.cell (p:=⟨b,1,none⟩) hbb).trans Hc1.out;have c2:=(HBj.out.cell (p:=⟨nb,noff+i,none⟩) hb1).trans Hcell.out;have c3:=(HBj.out.cell (p:=⟨ib,io+0,none⟩) hb2).trans Hzc.out;rw [Nat.add_zero] at c3;have hO:=HOj.out;rw [if_pos rfl] at hO;obtain ⟨⟨y0,hy0⟩,hfz,hO4,hg4⟩:=Own.storeI hO rfl (k:=0) (by decide) Hok.out;have hcg:wr.cell? ⟨X,0,none⟩=some (.int .i64 s):=by
        have h9:=hO.ints.cellAt 0 (by decide);simpa using h9
       have HO4:Hid (OwnInt64S X (wr.setCell ⟨X,0,none⟩ (.int .i64 (s+z))) (.slice (some ⟨X,0,none⟩) 1 1) [if 1=0 then s else s+z]):=hid (by rw [if_neg (by decide)];exact hO4);have Hb4:=hid (HBj.out.setCell (p:=⟨X,0,none⟩) (by rw [HX.out];exact zA _) (.int .i64 (s+z))).drew1;clear hO hy0 hO4 hg4;go_wp2_with fail;go_still_tail 15,(by kernel_rfl);go_wp2;go_roundw
       case rel=>exact ⟨1,by omega,by go_num,HO4,Hb4⟩
       case measure=>simp [intOf]
     . obtain rfl:j=1:=by omega
       have HO5:Hid (OwnInt64S X wr (.slice (some ⟨X,0,none⟩) 1 1) [sumC sf st ((d.take (i+1)).drop p)]):=hid (by rw [Hsn.out];exact HOj.out);go_wp2;go_roundw
       case rel=>exact ⟨i+1,⟨by omega,by omega⟩,by go_num,HO5,HBj⟩
       case measure=>simp [intOf];omega
  . obtain rfl:i=q:=by omega
    go_wp2;go_ret;refine ⟨⟨X,rfl,by rw [HX.out];exact zA _,?_⟩,HB.out⟩;exact ⟨(HO.out.lt X rfl).2,fun j u hj=>(by cases j with
     | zero=>cases hj;simpa using HO.out.ints.cellAt 0 (by decide)
     | succ j=>cases hj),fun j=>HO.out.ints.frozenAt j⟩
theorem l15Sums_c {d:List (List Int)} {v:Value} {w0:World} {A:Nat} {f t sf st:Int} (hd:RdInt64SS A w0 v d) (hD:deckB d=true) (hf:fieldP f t (colsD d)) (hs:fieldP sf st (colsD d)) (h12:st - sf<=12) :
 Calls Tryz.prog 84 #[v,.agg #[.int .i64 f,.int .i64 t],.agg #[.int .i64 sf,.int .i64 st]] w0 fun e w'=>(∃ r,e=.returned (.tuple #[r,.int .i64 (totC d f t sf st)])/\(totC d f t sf st=0->FrS RdTz (fun k=>k<w0.heap.size) w' r (totD d f t sf st)))/\Below w0.heap.size w0 w':=by
 obtain ⟨i0,hi,hz0,hz1,hz2⟩:=info_parts Tryz.infoTotal;obtain ⟨vo,vc,rfl⟩:=hd.shape;obtain ⟨T,hT⟩:∃ T,T=(w0.alloc (.cells #[.int .i64 f,.int .i64 t] 73)).alloc (.cells #[.int .i64 sf,.int .i64 st] 73):=⟨_,rfl⟩;have z1:(w0.alloc (.cells #[.int .i64 f,.int .i64 t] 73)).heap.size=w0.heap.size+1:=by simp
 have zT:T.heap.size=w0.heap.size+2:=by rw [hT];simp
 have hP:Box T w0.heap.size [.int .i64 f,.int .i64 t]:=by rw [hT];exact (Box.new w0 [.int .i64 f,.int .i64 t] _).alloc _
 have hQ:Box T (w0.heap.size+1) [.int .i64 sf,.int .i64 st]:=by
  have h:=Box.new (w0.alloc (.cells #[.int .i64 f,.int .i64 t] 73)) [.int .i64 sf,.int .i64 st] 73;rw [z1,<- hT] at h;exact h
 have hbT:Below w0.heap.size w0 T:=by rw [hT];exact ((zB _ _).alloc (zA _) _).alloc (by rw [z1];omega) _
 obtain ⟨T2,hT2⟩:∃ T2,T2=(T.alloc (.cells #[.int .i64 sf,.int .i64 st] 73)).alloc (.cells #[.int .i64 f,.int .i64 t,.slice (some ⟨T.heap.size,0,none⟩) 1 1,.bool false] 165):=⟨_,rfl⟩;have z2:(T.alloc (.cells #[.int .i64 sf,.int .i64 st] 73)).heap.size=T.heap.size+1:=by simp
 have hb2:Below T.heap.size T T2:=by rw [hT2];exact ((zB _ _).alloc (zA _) _).alloc (by rw [z2];omega) _
 have hbA:=hbT.trans (hb2.mono hbT.size);have hS1:Box T2 T.heap.size [.int .i64 sf,.int .i64 st]:=by
  have h:=(Box.new T [.int .i64 sf,.int .i64 st] 73).alloc (.cells #[.int .i64 f,.int .i64 t,.slice (some ⟨T.heap.size,0,none⟩) 1 1,.bool false] 165);rw [<- hT2] at h;exact h
 have hS2:Box T2 (T.heap.size+1) [.int .i64 f,.int .i64 t,.slice (some ⟨T.heap.size,0,none⟩) 1 1,.bool false]:=by
  have h:=Box.new (T.alloc (.cells #[.int .i64 sf,.int .i64 st] 73)) [.int .i64 f,.int .i64 t,.slice (some ⟨T.heap.size,0,none⟩) 1 1,.bool false] 165;rw [z2,<- hT2] at h;exact h
 have hset:SetP T2 (T.heap.size+1) T.heap.size f t sf st:=⟨hS2,hS1⟩;have hread:=l13Read_c (RdInt64SS.onn hd hbA) hset hD (by have:=hf.1;have:=hf.2.1;have:=hf.2.2;omega) hf hs h12;have hl:=(yAF hD).1;have p0:=hP.cell 0 _ rfl;have p1:=hP.cell 1 _ rfl;have q0:=hQ.cell 0 _ rfl;have q1:=hQ.cell 1 _ rfl;have HT:=hid hT;have HT2:=hid hT2;have HzT:=hid zT;have HbA:=hid hbA;have HC:=hid (yAT hD hf);have H12:=hid (numOk_of hD hs h12).part;have HD:=hid hD;obtain ⟨R,hR⟩:∃ R,R=totC d f t sf st:=⟨_,rfl⟩;rw [<- hR] at hread |-;have HR:=hid hR;have Hread:=hid hread;obtain ⟨TL,hTL0⟩:∃ TL,TL=totD d f t sf st:=⟨_,rfl⟩;rw [<- hTL0];have HTL:=hid hTL0;obtain ⟨n,hn⟩:∃ n,n=d.length:=⟨_,rfl⟩;rw [<- hn] at hl Hread |-;have Hn:=hid hn;clear hd hD hf hs hT z1 zT hP hQ hbT hT2 z2 hb2 hbA hS1 hS2 hset hread hR hTL0 hn h12;go_enter Tryz.func84,Tryz.ntmps84;go_upto_region 1 with fail;rw [<- HT.out];go_wp2_with fail;rw [<- HT2.out];with_reducible refine Hread.out.mono ?_
 rintro e w4 ⟨⟨b,rfl,hr⟩,hb4⟩;have Hb4:=hid (HbA.out.trans (hb4.mono HbA.out.size));clear p0 p1 q0 q1 hb4;by_cases h0:R=0
 . obtain ⟨ks,ns,hs,hR4⟩:=hr h0
   have hhd:hasD d f t=true:=by
    have h9:=HR.out;rw [h0] at h9;unfold totC at h9;by_cases h:d.any (noNum sf st)=true\/hasD d f t=false
    . rw [if_pos h] at h9;cases h9
    . cases hq:hasD d f t with
      | true=>rfl
      | false=>exact absurd (Or.inr hq) h
   have Hhd:=hid hhd;obtain ⟨G,hG⟩:∃ G,G=selI (grpP d f t) d.length:=⟨_,rfl⟩;have hheads:=hR4.heads;have hkeys:=hR4.keys;rw [<- hG] at hheads;obtain ⟨ho,hc,rfl⟩:=hheads.shape;obtain ⟨m,hm⟩:∃ m,m=G.length:=⟨_,rfl⟩;rw [<- hm] at hheads hR4;obtain ⟨ko,kc,rfl⟩:=hkeys.shape;rw [yAZ,<- Hn.out] at hkeys hR4;have hmn:m<=n:=by rw [hm,hG,Hn.out];exact yBE _ _
   obtain ⟨b0,hb0⟩:∃ b,b=w4.heap.size:=⟨_,rfl⟩;obtain ⟨W,hW⟩:∃ W,W=w4.alloc (.cells #[] 150):=⟨_,rfl⟩;have hbW:Below w4.heap.size w4 W:=by rw [hW];exact (zB _ _).alloc (zA _) _
   have hWz:W.heap.size=b0+1:=by rw [hW,hb0];simp
   have hO0:Own eTotal 150 w0.heap.size W (.slice (some ⟨b0,0,none⟩) 0 0) (TL.take 0):=by
    rw [hW,hb0];exact Own.lit (E:=eTotal) (xs:=[]) (cs:=#[]) Hb4.out.size rfl rfl (by decide) (fun x hx=>by cases hx)
   have HA0:Hid (TotA (.slice (some ⟨b0,0,none⟩) 0 0) W w0 W b0 (TL.take 0)):=hid ⟨hO0,Hb4.out.trans (hbW.mono Hb4.out.size),Agr.refl _ _,fun q hq=>.inl (zD hq).symm⟩;have y2:=((hR4.on hbW).box.cell 2 _ rfl);have HR4:=hid hR4;have HbW:=hid hbW;have HW:=hid hW;have HWz:=hid hWz;have Hm:=hid hm;have HG:=hid hG;have Hb0:=hid hb0;have hbb:b<b0:=by rw [hb0];exact hR4.box.lt
   have E0:=hid h0;subst h0;clear hr hhd hheads hkeys hbW hWz hO0 hR4 hm hG hW;go_upto_region 5 with fail;rw [<- HW.out,<- hb0];clear hb0;go_wp2;go_loopw [10,11] (fun ov iv wr=>∃ (k:Nat) (oo:Option Addr) (oc:Nat),k<=m/\iv=.int .i64 k/\ov=.slice oo k oc/\Hid (TotA (.slice oo k oc) wr w0 W b0 (TL.take k))) (fun _ i _=>m - (intOf i).toNat)
   case atStart=>exact ⟨0,_,_,zK _,rfl,rfl,HA0⟩
   case round =>
    obtain ⟨k,oo,oc,hk,rfl,rfl,HA⟩:=hrel;clear HA0;obtain ⟨W9,hW9⟩:∃ x,x=wr:=⟨_,rfl⟩;subst hW9;have hbl:Below w4.heap.size w4 W9:=by
     have h1:=HbW.out.trans ((HA.out.2.2.1.below (fun k h=>by have h9:k=b0:=h;exact Nat.le_of_eq (h9.symm ▸ Hb0.out.symm)) HbW.out.size));exact h1
    have hRw:=HR4.out.on hbl;have y2:=hRw.box.cell 2 _ rfl;by_cases hkm:k<m
    . obtain ⟨lo,hi2,q1,q2,q3,q4,q5,-,-⟩:=grp_places (i:=k) HG.out (by have:=Hm.out;omega)
      have hse:=strD_eq (d:=d) q2 q3;have hhe:=hRw.heads;rw [<- HG.out] at hhe;obtain ⟨ho',hc',hvs,hin⟩:=RdI.open hhe;rw [<- Hm.out] at hvs hin;injection hvs with u1 u2 u3;subst u1;subst u3;clear u2;obtain ⟨hb,hf,rfl,_,hcc⟩:=hin (by omega);obtain ⟨z,hz,yh,-⟩:=hcc k hkm;rw [q1] at hz;obtain rfl:=zD hz;obtain ⟨c,hcd⟩:∃ c,d[lo]?=some c:=⟨_,zF (by omega)⟩;have hcm:=zC hcd;have hcols:=HC.out.2 c hcm;have hc01:=HC.out.1;have hcl:=yBY ((yAF HD.out).2 c hcm).1;obtain ⟨ko',kc',hvs,hkin⟩:=RdT.at hRw.keys;rw [yAZ,<- Hn.out] at hvs hkin;injection hvs with u1 u2 u3;subst u1;subst u3;clear u2;obtain ⟨kb,kf,rfl,_,hkc⟩:=hkin (by omega);have yk:=hkc lo _ (keyT_at hcd);have y0:=hRw.box.cell 0 _ rfl;have hend:=fun (w:World) (hw:Below W9.heap.size W9 w)=>l13End_c (hRw.on hw) (i:=k) (by rw [<- HG.out,<- Hm.out];exact hkm) (by rw [<- Hn.out];exact hl);rw [<- HG.out,show endG d G k=(hi2:Int) from q2] at hend;have hsum:=fun (w:World) (hw:Below W9.heap.size W9 w)=>l13Sums_c (p:=lo) (q:=hi2) (hRw.on hw) (by omega) q5 (by rw [<- Hn.out];exact hl) H12.out;rw [<- hse] at hsum;have hnext:TL.take (k+1)=TL.take k++[⟨toB (txI (partC c f t)),sumC sf st (strD d G k)⟩]:=by
       have e:TL[k]?=some ⟨toB (txI (partC c f t)),sumC sf st (strD d G k)⟩:=by
        rw [HTL.out,totD_at HG.out (by have:=Hm.out;omega)];unfold totOf;rw [q3,zR,List.getD_eq_getElem?_getD,hcd];rfl
       exact yAE e
      have hsmb:=sumC_bd (sf:=sf) (st:=st) (d:=strD d G k) (fun c hc=>H12.out c (strD_mem hc));have hsl:=strD_len d G k;rw [<- Hn.out] at hsl;obtain ⟨nm,hnm⟩:∃ nm,nm=toB (txI (partC c f t)):=⟨_,rfl⟩;obtain ⟨sm,hsm⟩:∃ sm,sm=sumC sf st (strD d G k):=⟨_,rfl⟩;rw [<- hsm] at hsum hnext hsmb;rw [<- hnm] at yk hnext;have hnms:nm.size<=1000:=by rw [hnm,toB_size];unfold txI;rw [List.length_map,yAP hc01.1 hc01.2 hcols];omega
      have Hok:Hid (okTotal ⟨nm,sm⟩):=hid ⟨by show nm.size<=_;omega,by show -9223372036854775808<=sm/\sm<=9223372036854775807;omega⟩;have Hend:=hid hend;have Hsum:=hid hsum;have Hnext:=hid hnext;have hlk:(TL.take k).length=k:=by
       have e:TL.length=m:=by rw [HTL.out,totD_len,<- HG.out];exact Hm.out.symm
       rw [zI,e];omega
      have Hlk:=hid hlk;obtain ⟨ho,hbl2,hag,hown⟩:=HA.out;have HO:=hid ho;have Hl:Hid ((TL.take k).length<=100):=hid (by rw [Hlk.out];omega);have Hsz:Hid (w0.heap.size<=W9.heap.size):=hid hbl2.size;have hWz2:=HWz.out;have Hfin:Hid (∀ (wx:World) (v9:Value) (w9:World),Below W9.heap.size W9 wx->Own eTotal 150 w0.heap.size w9 v9 (TL.take k++[⟨nm,sm⟩])->Grew wx w9 (.slice oo k oc) v9->TotA v9 w9 w0 W b0 (TL.take (k+1))):=hid (fun wx v9 w9 hwx h1 h2=>by
       have ho2:=ho.below hwx (zA _);have hb2:=hbl2.trans (hwx.mono hbl2.size);have ha2:=hag.trans (Agr.on (S:=fun k=>k=b0) hwx) (fun k h _=>h);rw [Hnext.out];refine ⟨h1,hb2.grown h2.1 hb2.size (fun q hq=>(ho.lt q hq).1),ha2.trans (Agr.of_grown h2.1 (S:=fun k=>k=b0\/W.heap.size<=k) (fun q hq _=>hown q hq)) (fun q hq hlt=>hq.elim id (fun h=>by omega)),?_⟩;intro q hq;rcases h2.2 with h6 | ⟨q2,h6,h7⟩
       . exact hown q (by rw [<- h6];exact hq)
       . rw [h6] at hq;cases hq
         have:=ha2.size;exact .inr (by omega))
      have hkI:(k:Int)<(m:Int):=by omega
      have hloI:(lo:Int)<(n:Int):=by have:=Hn.out;omega
      have hln:lo<n:=by have:=Hn.out;omega
      clear q1 q2 q3 hse hhe hin hcc hz hcd hcm hcols hc01 hcl hkin hkc hend hsum hnext hsmb hsl hnm hsm hnms hlk ho hbl2 hag hown hWz2 hRw hbl;go_upto_region 8 with fail;refine yBL (W:=W9) (.slice oo k oc) 30 31 (fun i=>match i with | 0=>true | 1=>true | 2=>true | 3=>true | 5=>true | 6=>true | 7=>true | 9=>true | 14=>true | 15=>true | 16=>true | 17=>true | 19=>true | 22=>true | 23=>true | _=>false) (fun i v w=>match i with | 0=>v=.slice oo k oc | 1=>v=.pointer (some ⟨b,0,none⟩) | 2=>v=.pointer (some ⟨b,0,none⟩) | 3=>v=.pointer (some ⟨b,0,none⟩) | 4=>v=.slice (some ⟨kb,kf,none⟩) n kc | 5=>v=.pointer (some ⟨b,0,none⟩) | 6=>v=.pointer (some ⟨b,0,none⟩) | 7=>v=.pointer (some ⟨b,2,none⟩) | 8=>v=.slice (some ⟨hb,hf,none⟩) m hc | 9=>v=.int .i64 k | 10=>v=.pointer (some ⟨hb,hf+k,none⟩) | 11=>v=.int .i64 lo | 12=>v=.pointer (some ⟨kb,kf+lo,none⟩) | 13=>v=.string nm | 14=>v=.pointer (some ⟨b,0,none⟩) | 15=>v=.pointer (some ⟨b,0,none⟩) | 16=>v=.pointer (some ⟨b,0,none⟩) | 17=>v=.pointer (some ⟨b,2,none⟩) | 18=>v=.slice (some ⟨hb,hf,none⟩) m hc | 19=>v=.int .i64 k | 20=>v=.pointer (some ⟨hb,hf+k,none⟩) | 21=>v=.int .i64 lo | 22=>v=.pointer (some ⟨b,0,none⟩) | 23=>v=.int .i64 k | 24=>v=.int .i64 hi2 | 25=>∃ g,v=.slice (some ⟨g,0,none⟩) 1 1/\Box w g [.int .i64 sm] | 26=>∃ g,v=.pointer (some ⟨g,0,none⟩)/\Box w g [.int .i64 sm] | 27=>v=.int .i64 sm | 28=>v=.agg #[.string nm,.int .i64 sm] | 29=>Rds eTotal w.heap.size w v [⟨nm,sm⟩] | _=>True) (fun v w=>TotA v w w0 W b0 (TL.take (k+1))) (fun x v w=>v=x/\TotA x w w0 W b0 (TL.take (k+1))) (by kernel_rfl) (by kernel_rfl) (by kernel_rfl) (by kernel_rfl) (by kernel_rfl) ?_ ?_ ?_ ?_
      . intro i v w w' h hb
        iterate 32 (obtain _ | i:=i;· first | exact h | (obtain ⟨g,h1,h2⟩:=h;exact ⟨g,h1,h2.on hb⟩) | exact Rds.onn h hb)
        exact h
      . intro i v w w' hp h
        iterate 32 (obtain _ | i:=i;· first | exact h | exact absurd hp (by decide))
        exact h
      . intro vs hvs
        match vs,hvs with
        | [v0,v1,v2,v3,v4,v5,v6,v7,v8,v9,v10,v11,v12,v13,v14,v15,v16,v17,v18,v19,v20,v21,v22,v23,v24,v25,v26,v27,v28,v29,v30,v31],_ =>
         refine ⟨?_,?_,?_,?_,?_,?_,?_,?_,?_,?_,?_,?_,?_,?_,?_,?_,?_,?_,?_,?_,?_,?_,?_,?_,?_,?_,?_,?_,?_,?_,?_,?_,trivial⟩
         . refine yAM ?_ ?_ ?_ ?_;exact (by decide);exact (by decide);kernel_rfl
           intro wr h0 hd;replace h0:v31=.slice oo k oc:=h0 (by kernel_rfl);subst h0;clear hd;unfold relAt;simp only [putAll];go_simp;simp only [relUpon];trivial
         . refine yAM ?_ ?_ ?_ ?_;exact (by decide);exact (by decide);kernel_rfl
           intro wr h0 hd;clear h0;clear hd;unfold relAt;simp only [putAll];go_simp;simp only [relUpon];trivial
         . refine yAM ?_ ?_ ?_ ?_;exact (by decide);exact (by decide);kernel_rfl
           intro wr h0 hd;clear h0;have d1:v1=.pointer (some ⟨b,0,none⟩):=yAC 1 (by kernel_rfl) hd rfl;subst d1;clear hd;unfold relAt;simp only [putAll];go_simp;simp only [relUpon];trivial
         . refine yAM ?_ ?_ ?_ ?_;exact (by decide);exact (by decide);kernel_rfl
           intro wr h0 hd;clear h0;have d2:v2=.pointer (some ⟨b,0,none⟩):=yAC 2 (by kernel_rfl) hd rfl;subst d2;clear hd;unfold relAt;simp only [putAll];go_simp;simp only [relUpon];trivial
         . refine yAL ?_ ?_ ?_ ?_;exact (by decide);exact (by decide);kernel_rfl
           intro wr h0 hC hd;clear h0;have d3:v3=.pointer (some ⟨b,0,none⟩):=yAC 3 (by kernel_rfl) hd;subst d3;clear hd;have e:=(hC.cell (p:=⟨b,0,none⟩) (World.block_lt_of_cell? _ _ y0)).trans y0;unfold relAt;simp only [putAll];go_simp;simp only [relUpon];exact ⟨zB _ _,by first | rfl | trivial⟩
         . refine yAM ?_ ?_ ?_ ?_;exact (by decide);exact (by decide);kernel_rfl
           intro wr h0 hd;clear h0;clear hd;unfold relAt;simp only [putAll];go_simp;simp only [relUpon];trivial
         . refine yAM ?_ ?_ ?_ ?_;exact (by decide);exact (by decide);kernel_rfl
           intro wr h0 hd;clear h0;have d5:v5=.pointer (some ⟨b,0,none⟩):=yAC 5 (by kernel_rfl) hd rfl;subst d5;clear hd;unfold relAt;simp only [putAll];go_simp;simp only [relUpon];trivial
         . refine yAM ?_ ?_ ?_ ?_;exact (by decide);exact (by decide);kernel_rfl
           intro wr h0 hd;clear h0;have d6:v6=.pointer (some ⟨b,0,none⟩):=yAC 6 (by kernel_rfl) hd rfl;subst d6;clear hd;unfold relAt;simp only [putAll];go_simp;simp only [relUpon];trivial
         . refine yAL ?_ ?_ ?_ ?_;exact (by decide);exact (by decide);kernel_rfl
           intro wr h0 hC hd;clear h0;have d7:v7=.pointer (some ⟨b,2,none⟩):=yAC 7 (by kernel_rfl) hd;subst d7;clear hd;have e:=(hC.cell (p:=⟨b,2,none⟩) (World.block_lt_of_cell? _ _ y2)).trans y2;unfold relAt;simp only [putAll];go_simp;simp only [relUpon];exact ⟨zB _ _,by first | rfl | trivial⟩
         . refine yAM ?_ ?_ ?_ ?_;exact (by decide);exact (by decide);kernel_rfl
           intro wr h0 hd;clear h0;clear hd;unfold relAt;simp only [putAll];go_simp;simp only [relUpon];trivial
         . refine yAL ?_ ?_ ?_ ?_;exact (by decide);exact (by decide);kernel_rfl
           intro wr h0 hC hd;clear h0;have d8:v8=.slice (some ⟨hb,hf,none⟩) m hc:=yAC 8 (by kernel_rfl) hd;subst d8;have d9:v9=.int .i64 k:=yAC 9 (by kernel_rfl) hd;subst d9;clear hd;unfold relAt;simp only [putAll];go_simp;simp only [relUpon];exact ⟨zB _ _,by first | rfl | trivial⟩
         . refine yAL ?_ ?_ ?_ ?_;exact (by decide);exact (by decide);kernel_rfl
           intro wr h0 hC hd;clear h0;have d10:v10=.pointer (some ⟨hb,hf+k,none⟩):=yAC 10 (by kernel_rfl) hd;subst d10;clear hd;have e:=(hC.cell (p:=⟨hb,hf+k,none⟩) (World.block_lt_of_cell? _ _ yh)).trans yh;unfold relAt;simp only [putAll];go_simp;simp only [relUpon];exact ⟨zB _ _,by first | rfl | trivial⟩
         . refine yAL ?_ ?_ ?_ ?_;exact (by decide);exact (by decide);kernel_rfl
           intro wr h0 hC hd;clear h0;have d4:v4=.slice (some ⟨kb,kf,none⟩) n kc:=yAC 4 (by kernel_rfl) hd;subst d4;have d11:v11=.int .i64 lo:=yAC 11 (by kernel_rfl) hd;subst d11;clear hd;unfold relAt;simp only [putAll];go_simp;simp only [relUpon];exact ⟨zB _ _,by first | rfl | trivial⟩
         . refine yAL ?_ ?_ ?_ ?_;exact (by decide);exact (by decide);kernel_rfl
           intro wr h0 hC hd;clear h0;have d12:v12=.pointer (some ⟨kb,kf+lo,none⟩):=yAC 12 (by kernel_rfl) hd;subst d12;clear hd;have e:=(hC.cell (p:=⟨kb,kf+lo,none⟩) (World.block_lt_of_cell? _ _ yk)).trans yk;unfold relAt;simp only [putAll];go_simp;simp only [relUpon];exact ⟨zB _ _,by first | rfl | trivial⟩
         . refine yAM ?_ ?_ ?_ ?_;exact (by decide);exact (by decide);kernel_rfl
           intro wr h0 hd;clear h0;clear hd;unfold relAt;simp only [putAll];go_simp;simp only [relUpon];trivial
         . refine yAM ?_ ?_ ?_ ?_;exact (by decide);exact (by decide);kernel_rfl
           intro wr h0 hd;clear h0;clear hd;unfold relAt;simp only [putAll];go_simp;simp only [relUpon];trivial
         . refine yAM ?_ ?_ ?_ ?_;exact (by decide);exact (by decide);kernel_rfl
           intro wr h0 hd;clear h0;have d15:v15=.pointer (some ⟨b,0,none⟩):=yAC 15 (by kernel_rfl) hd rfl;subst d15;clear hd;unfold relAt;simp only [putAll];go_simp;simp only [relUpon];trivial
         . refine yAM ?_ ?_ ?_ ?_;exact (by decide);exact (by decide);kernel_rfl
           intro wr h0 hd;clear h0;have d16:v16=.pointer (some ⟨b,0,none⟩):=yAC 16 (by kernel_rfl) hd rfl;subst d16;clear hd;unfold relAt;simp only [putAll];go_simp;simp only [relUpon];trivial
         . refine yAL ?_ ?_ ?_ ?_;exact (by decide);exact (by decide);kernel_rfl
           intro wr h0 hC hd;clear h0;have d17:v17=.pointer (some ⟨b,2,none⟩):=yAC 17 (by kernel_rfl) hd;subst d17;clear hd;have e:=(hC.cell (p:=⟨b,2,none⟩) (World.block_lt_of_cell? _ _ y2)).trans y2;unfold relAt;simp only [putAll];go_simp;simp only [relUpon];exact ⟨zB _ _,by first | rfl | trivial⟩
         . refine yAM ?_ ?_ ?_ ?_;exact (by decide);exact (by decide);kernel_rfl
           intro wr h0 hd;clear h0;clear hd;unfold relAt;simp only [putAll];go_simp;simp only [relUpon];trivial
         . refine yAL ?_ ?_ ?_ ?_;exact (by decide);exact (by decide);kernel_rfl
           intro wr h0 hC hd;clear h0;have d18:v18=.slice (some ⟨hb,hf,none⟩) m hc:=yAC 18 (by kernel_rfl) hd;subst d18;have d19:v19=.int .i64 k:=yAC 19 (by kernel_rfl) hd;subst d19;clear hd;unfold relAt;simp only [putAll];go_simp;simp only [relUpon];exact ⟨zB _ _,by first | rfl | trivial⟩
         . refine yAL ?_ ?_ ?_ ?_;exact (by decide);exact (by decide);kernel_rfl
           intro wr h0 hC hd;clear h0;have d20:v20=.pointer (some ⟨hb,hf+k,none⟩):=yAC 20 (by kernel_rfl) hd;subst d20;clear hd;have e:=(hC.cell (p:=⟨hb,hf+k,none⟩) (World.block_lt_of_cell? _ _ yh)).trans yh;unfold relAt;simp only [putAll];go_simp;simp only [relUpon];exact ⟨zB _ _,by first | rfl | trivial⟩
         . refine yAM ?_ ?_ ?_ ?_;exact (by decide);exact (by decide);kernel_rfl
           intro wr h0 hd;clear h0;clear hd;unfold relAt;simp only [putAll];go_simp;simp only [relUpon];trivial
         . refine yAM ?_ ?_ ?_ ?_;exact (by decide);exact (by decide);kernel_rfl
           intro wr h0 hd;clear h0;clear hd;unfold relAt;simp only [putAll];go_simp;simp only [relUpon];trivial
         . refine yAL ?_ ?_ ?_ ?_;exact (by decide);exact (by decide);kernel_rfl
           intro wr h0 hC hd;clear h0;have d22:v22=.pointer (some ⟨b,0,none⟩):=yAC 22 (by kernel_rfl) hd;subst d22;have d23:v23=.int .i64 k:=yAC 23 (by kernel_rfl) hd;subst d23;clear hd;have h9:=Hend.out _ hC;clear hC;unfold relAt;simp only [putAll];go_simp;simp only [relUpon];with_reducible refine h9.mono ?_
           rintro e w9 ⟨rfl,rfl⟩;exact ⟨_,rfl,zB _ _,by first | rfl | trivial⟩
         . refine yAL ?_ ?_ ?_ ?_;exact (by decide);exact (by decide);kernel_rfl
           intro wr h0 hC hd;clear h0;have d14:v14=.pointer (some ⟨b,0,none⟩):=yAC 14 (by kernel_rfl) hd;subst d14;have d21:v21=.int .i64 lo:=yAC 21 (by kernel_rfl) hd;subst d21;have d24:v24=.int .i64 hi2:=yAC 24 (by kernel_rfl) hd;subst d24;clear hd;have h9:=Hsum.out _ hC;clear hC;unfold relAt;simp only [putAll];go_simp;simp only [relUpon];with_reducible refine h9.mono ?_
           rintro e w9 ⟨⟨g9,rfl,-,hg9⟩,hb9⟩;exact ⟨_,rfl,hb9,g9,rfl,hg9⟩
         . refine yAL ?_ ?_ ?_ ?_;exact (by decide);exact (by decide);kernel_rfl
           intro wr h0 hC hd;clear h0;have d25:∃ g,v25=.slice (some ⟨g,0,none⟩) 1 1/\Box wr g [.int .i64 sm]:=yAC 25 (by kernel_rfl) hd;clear hd;have h8:=d25.choose_spec.1;have h9:=d25.choose_spec.2;generalize d25.choose=g9 at h8 h9;clear d25;subst h8;unfold relAt;simp only [putAll];go_simp;simp only [relUpon];exact ⟨zB _ _,g9,rfl,h9⟩
         . refine yAL ?_ ?_ ?_ ?_;exact (by decide);exact (by decide);kernel_rfl
           intro wr h0 hC hd;clear h0;have d26:∃ g,v26=.pointer (some ⟨g,0,none⟩)/\Box wr g [.int .i64 sm]:=yAC 26 (by kernel_rfl) hd;clear hd;have h8:=d26.choose_spec.1;have h9:=d26.choose_spec.2;generalize d26.choose=g9 at h8 h9;clear d26;subst h8;have e:=h9.cell 0 _ rfl;unfold relAt;simp only [putAll];go_simp;simp only [relUpon];exact ⟨zB _ _,by first | rfl | trivial⟩
         . refine yAL ?_ ?_ ?_ ?_;exact (by decide);exact (by decide);kernel_rfl
           intro wr h0 hC hd;clear h0;have d13:v13=.string nm:=yAC 13 (by kernel_rfl) hd;subst d13;have d27:v27=.int .i64 sm:=yAC 27 (by kernel_rfl) hd;subst d27;clear hd;unfold relAt;simp only [putAll];go_simp;simp only [relUpon];exact ⟨zB _ _,by first | rfl | trivial⟩
         . refine yAL ?_ ?_ ?_ ?_;exact (by decide);exact (by decide);kernel_rfl
           intro wr h0 hC hd;clear h0;have d28:v28=.agg #[.string nm,.int .i64 sm]:=yAC 28 (by kernel_rfl) hd;subst d28;clear hd;unfold relAt;simp only [putAll];go_simp;simp only [relUpon];exact ⟨(zB _ _).alloc (zA _) _,(yAJ (E:=eTotal) (x:=⟨nm,sm⟩) Hok.out rfl).mono (by simp)⟩
         . refine appStep_p ?_ ?_;kernel_rfl
           intro wr h0 hC hd;clear h0;have d0:v0=.slice oo k oc:=yAC 0 (by kernel_rfl) hd;subst d0;have d29:Rds eTotal wr.heap.size wr v29 [⟨nm,sm⟩]:=yAC 29 (by kernel_rfl) hd;clear hd;simp only [putAll];refine relAt_appS (E:=eTotal) _ _ 110 rfl Tryz.underlying110 hi hz0 hz1 hz2 rfl (by decide) (by kernel_rfl) (by kernel_rfl) (HO.out.below hC (zA _)) d29 ?b1 ?b2 ?b3 ?b4
           case b1=>have:=Hl.out;unfold maxLen;simp;omega
           case b2=>have:=Hl.out;simp;omega
           case b3=>have:=hC.size;have:=Hsz.out;omega
           case b4=>exact fun v9 w9 ho9 hg9=>Hfin.out wr v9 w9 hC ho9 hg9
         . refine appStep_s ?_ ?_ ?_;exact (by decide);kernel_rfl
           intro wr h0 hA hd;replace hA:TotA v30 wr w0 W b0 (TL.take (k+1)):=hA;clear h0;clear hd;simp only [putAll] at hA |-;unfold relAt;go_simp;simp only [relUpon];first | exact ⟨rfl,hA⟩ | exact ⟨trivial,hA⟩ | exact hA
      . intro vs wq hvs hZ hI
        match vs,hvs,hZ,hI with
        | [v0,v1,v2,v3,v4,v5,v6,v7,v8,v9,v10,v11,v12,v13,v14,v15,v16,v17,v18,v19,v20,v21,v22,v23,v24,v25,v26,v27,v28,v29,v30,v31],_,hZ,hI =>
         replace hZ:v31=v30/\TotA v30 wq w0 W b0 (TL.take (k+1)):=hZ;have d0:v0=.slice oo k oc:=hI 0 (by decide) rfl;subst d0;have d1:v1=.pointer (some ⟨b,0,none⟩):=hI 1 (by decide) rfl;subst d1;have d2:v2=.pointer (some ⟨b,0,none⟩):=hI 2 (by decide) rfl;subst d2;have d3:v3=.pointer (some ⟨b,0,none⟩):=hI 3 (by decide) rfl;subst d3;have d5:v5=.pointer (some ⟨b,0,none⟩):=hI 5 (by decide) rfl;subst d5;have d6:v6=.pointer (some ⟨b,0,none⟩):=hI 6 (by decide) rfl;subst d6;have d7:v7=.pointer (some ⟨b,2,none⟩):=hI 7 (by decide) rfl;subst d7;have d9:v9=.int .i64 k:=hI 9 (by decide) rfl;subst d9;have d14:v14=.pointer (some ⟨b,0,none⟩):=hI 14 (by decide) rfl;subst d14;have d15:v15=.pointer (some ⟨b,0,none⟩):=hI 15 (by decide) rfl;subst d15;have d16:v16=.pointer (some ⟨b,0,none⟩):=hI 16 (by decide) rfl;subst d16;have d17:v17=.pointer (some ⟨b,2,none⟩):=hI 17 (by decide) rfl;subst d17;have d19:v19=.int .i64 k:=hI 19 (by decide) rfl;subst d19;have d22:v22=.pointer (some ⟨b,0,none⟩):=hI 22 (by decide) rfl;subst d22;have d23:v23=.int .i64 k:=hI 23 (by decide) rfl;subst d23;clear hI;simp only [putAll];go_simp;obtain ⟨hzv,hZ⟩:=hZ;subst hzv;obtain ⟨ao9,c9,hv9⟩:=hZ.1.shape;rw [show (TL.take (k+1)).length=k+1 from by rw [Hnext.out,zE,Hlk.out];rfl] at hv9;subst hv9;have HZ:=hid hZ;clear hZ;go_wp2;go_roundw
         case rel=>exact ⟨k+1,_,_,by omega,by go_num,rfl,HZ⟩
         case measure=>simp [intOf];omega
    . obtain rfl:k=m:=by omega
      obtain ⟨ho,hbl2,hag,hown⟩:=HA.out;have hTlen:TL.length=k:=by rw [HTL.out,totD_len,<- HG.out];exact Hm.out.symm
      rw [zH (by omega)] at ho;have hF:FrS RdTz (fun k=>k<w0.heap.size) W9 (.slice oo k oc) TL:=by
       intro w' hA;have h1:=OwnT.agr (Own.top ho) hA (fun q hq (hS:q<w0.heap.size)=>by have:=(ho.lt q hq).1;omega);exact h1.1.rds
      have HF:=hid hF;have HB:=hid hbl2;clear hF hbl2 hag hown ho hTlen hRw hbl;go_wp2;go_ret2;first | exact ⟨⟨_,rfl,fun _=>HF.out⟩,HB.out⟩ | exact ⟨⟨_,rfl,HF.out⟩,HB.out⟩
 . have H0:=hid h0
   have hC1:(R != 0)=true:=by simpa using h0
   clear hr h0;go_wp2;go_ret2;exact ⟨⟨.slice none 0 0,by first | done | rfl,fun h=>absurd h H0.out⟩,Hb4.out⟩
end Go.Proofs.YthdaghfhlfjclaaGreat
