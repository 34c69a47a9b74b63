/- Lemmas on the way to the law FnTop. No condition. -/
import Derived.Test.YtmindpfmgnnieaaGreatDoorTP31
import Derived.Lib.SliceRun
namespace Go.Proofs.YtmindpfmgnnieaaGreatDoor
set_option maxHeartbeats 1000000
set_option linter.unusedSimpArgs false
open Lib (hid)
open Go.ChangeShapes Go.WideShapes Go.ChangeAt Go.RowKit Go.Sort
set_option linter.unusedVariables false
set_option maxRecDepth 100000
structure Agr (S:Nat->Prop) (w w':World):Prop where
 os:w'.os=w.os
 tape:w'.tape=w.tape
 output:w'.output=w.output
 size:w.heap.size<=w'.heap.size
 block:∀ k,k<w.heap.size->¬ S k->w'.heap[k]?=w.heap[k]?
section
variable {S S' S'':Nat->Prop} {w w' w'':World}
theorem Agr.refl (S:Nat->Prop) (w:World):Agr S w w:=⟨rfl,rfl,rfl,zA _,fun _ _ _=>rfl⟩
theorem Agr.trans (h:Agr S w w') (k:Agr S' w' w'') (hS:∀ i,S' i->i<w.heap.size->S i):Agr S w w'' :=
 ⟨k.os.trans h.os,k.tape.trans h.tape,k.output.trans h.output,zO h.size k.size,fun i hi hn=>(k.block i (zM hi h.size) (fun e=>hn (hS i e hi))).trans (h.block i hi hn)⟩
theorem Agr.of_below {B:Nat} (h:Below B w w') (hS:∀ k,k<w.heap.size->¬ S k->k<B):Agr S w w' :=
 ⟨h.os,h.tape,h.output,h.size,fun k hk hn=>h.block k (hS k hk hn)⟩
theorem Agr.on (h:Below w.heap.size w w'):Agr S w w':=Agr.of_below h (fun k hk _=>hk)
theorem Agr.of_grown {row:Option Nat} (h:w.grownBy w' row) (hr:∀ k,row=some k->k<w.heap.size->S k):Agr S w w' :=
 ⟨h.os,h.tape,h.output,h.size,fun k hk hn=>h.block k hk (fun e=>hn (hr k e.symm hk))⟩
theorem Agr.of_grown1 {g:Nat} (h:w.grownBy w' (some g)) (hr:S g):Agr S w w':=Agr.of_grown h (fun k e _=>by cases e;exact hr)
theorem Agr.set (w:World) (a:Addr) (u:Value) (hS:S a.block):Agr S w (w.setCell a u):=Agr.of_grown1 (yBL w a u) hS
theorem Agr.below {B:Nat} (h:Agr S w w') (hS:∀ k,S k->B<=k) (hB:B<=w.heap.size):Below B w w' :=
 ⟨h.os,h.tape,h.output,h.size,fun k hk=>h.block k (by omega) (fun e=>by have:=hS k e;omega)⟩
theorem Agr.within {n:Nat} (h:Agr (·<n) w w'):Within 0 n w w':=⟨h.os,h.tape,h.output,h.size,fun k hk hh=>h.block k hk (by show ¬ k<n;omega)⟩
theorem Agr.cell (h:Agr S w w') {p:Addr} {v:Value} (hc:w.cell? p=some v) (hS:¬ S p.block):w'.cell? p=some v:=by
 have hlt:=World.block_lt_of_cell? w _ hc;rw [<- hc];unfold World.cell?;rw [h.block p.block hlt hS]
end
def FrS {α:Type} (R:World->Value->α->Prop) (S:Nat->Prop) (w:World) (v:Value) (x:α):Prop:=∀ w',Agr S w w'->R w' v x
theorem FrS.now {α:Type} {R:World->Value->α->Prop} {S:Nat->Prop} {w:World} {v:Value} {x:α} (h:FrS R S w v x):R w v x:=h w (Agr.refl _ _)
theorem FrS.step {α:Type} {R:World->Value->α->Prop} {S S' S'':Nat->Prop} {w w':World} {v:Value} {x:α} (h:FrS R S w v x) (hA:Agr S' w w') (h1:∀ k,S' k->k<w.heap.size->S k) (h2:∀ k,S'' k->k<w.heap.size->S k):FrS R S'' w' v x:=by
 intro w2 hw2;refine h w2 ⟨hw2.os.trans hA.os,hw2.tape.trans hA.tape,hw2.output.trans hA.output,zO hA.size hw2.size,fun k hk hn=>?_⟩;exact (hw2.block k (zM hk hA.size) (fun e=>hn (h2 k e hk))).trans (hA.block k hk (fun e=>hn (h1 k e hk)))
theorem FrS.on {α:Type} {R:World->Value->α->Prop} {S:Nat->Prop} {w w':World} {v:Value} {x:α} (h:FrS R S w v x) (hb:Below w.heap.size w w'):FrS R S w' v x :=
 h.step (Agr.on (S:=S) hb) (fun k h _=>h) (fun k h _=>h)
theorem FrS.weak {α:Type} {R:World->Value->α->Prop} {S S':Nat->Prop} {w:World} {v:Value} {x:α} (h:FrS R S w v x) (hs:∀ k,S' k->k<w.heap.size->S k):FrS R S' w v x :=
 h.step (Agr.refl S w) (fun k h _=>h) hs
def RdD (w:World) (v:Value) (d:List (List Int)):Prop:=RdInt64SS w.heap.size w v d
def FrD (n:Nat) (w:World) (v:Value) (d:List (List Int)):Prop:=FrS RdD (·<n) w v d
theorem FrD.rds {n:Nat} {w:World} {v:Value} {d:List (List Int)} (h:FrD n w v d):RdInt64SS w.heap.size w v d:=FrS.now (R:=RdD) h
theorem FrD.mono {n n':Nat} {w:World} {v:Value} {d:List (List Int)} (h:FrD n w v d) (hn:n'<=n):FrD n' w v d:=FrS.weak h (fun k hk _=>by omega)
theorem FrD.own {n:Nat} {w:World} {v:Value} {d:List (List Int)} (h:OwnCardS n w v d):FrD n w v d :=
 fun w' hA=>(OwnTM.rds (OwnTM.within h hA.within (zA _))).mono hA.size
theorem OwnT.agr {α:Type} {E:Elt α} {e:TypeId} {base tp:Nat} {S:Nat->Prop} {w w':World} {v:Value} {xs:List α} (h:OwnT E e base tp w v xs) (hA:Agr S w w') (hS:∀ k,v.ownBlock=some k->¬ S k):OwnT E e base tp w' v xs:=by
 refine ⟨⟨⟨h.1.1.1,?_⟩,h.1.2⟩,h.2⟩;rcases h.1.1.2 with h0 | ⟨g,cap,cur,rfl,hbg,hg,rest⟩
 . exact .inl h0
 . exact .inr ⟨g,cap,cur,rfl,hbg,by rw [hA.block g (Array.getElem?_eq_some_iff.1 hg).1 (hS g rfl)];exact hg,rest⟩
theorem ownS_clear {e:TypeId} {base g n cap:Nat}:∀ (m k:Nat) (w:World) (hs:List SlV),Own eS e base w (.slice (some ⟨g,0,none⟩) n cap) hs->n=hs.length->k+m<=n ->
 ∃ hs',Own eS e base (w.setCells g k (List.replicate m (.slice none 0 0))) (.slice (some ⟨g,0,none⟩) n cap) hs'/\hs'.length=n/\hs'.take k=hs.take k/\Agr (fun i=>i=g) w (w.setCells g k (List.replicate m (.slice none 0 0)))
 | 0,k,w,hs,h,hn,hk=>⟨hs,h,hn.symm,rfl,Agr.refl _ _⟩
 | m+1,k,w,hs,h,hn,hk=>by
  have hk2:hs[k]?=some (hs[k]'(by omega)):=zF (by omega);have hst:=Own.store1 (E:=eS) (by decide) h hn (x:=hs[k]'(by omega)) (y:=⟨none,0,0⟩) (v:=.slice none 0 0) hk2 (j:=0) (by decide) rfl trivial;simp only [show eS.sz=1 from rfl,Nat.mul_one,Nat.add_zero] at hst;obtain ⟨hs',h1,h2,h3,h4⟩:=ownS_clear m (k+1) _ _ hst.1 (by simp [hn]) (by omega);refine ⟨hs',h1,h2,?_,(Agr.of_grown1 (S:=fun i=>i=g) hst.2 rfl).trans h4 (fun i h _=>h)⟩;have h5:hs'.take k=(hs'.take (k+1)).take k:=by rw [List.take_take,Nat.min_eq_left (by omega)]
  rw [h5,h3,List.take_take,Nat.min_eq_left (by omega),List.take_set_of_le (by omega)]
def Rws (R:World->Value->List Int->Prop) (S:Nat->Prop) (w:World) (hs:List SlV) (ds:List (List Int)):Prop :=
 hs.length=ds.length/\∀ (i:Nat) (h:SlV) (x:List Int),hs[i]?=some h->ds[i]?=some x->FrS R S w h.val x
theorem Rws.snoc {R:World->Value->List Int->Prop} {S:Nat->Prop} {w:World} {hs:List SlV} {ds:List (List Int)} {h:SlV} {x:List Int} (hr:Rws R S w hs ds) (hx:FrS R S w h.val x):Rws R S w (hs++[h]) (ds++[x]):=by
 refine ⟨by simp [hr.1],fun i h' x' e1 e2=>?_⟩;rcases Nat.lt_or_ge i hs.length with hi | hi
 . rw [zL hi] at e1
   rw [zL (by rw [<- hr.1];exact hi)] at e2;exact hr.2 i h' x' e1 e2
 . rw [zJ hi] at e1
   rw [zJ (by rw [<- hr.1];exact hi)] at e2;have h0:i - hs.length=0:=by have:=yBG e1;simp at this;omega
   rw [h0] at e1;rw [show i - ds.length=0 by rw [<- hr.1];exact h0] at e2;cases e1;cases e2;exact hx
theorem Own.takeK {α:Type} {E:Elt α} {e:TypeId} {base g n cap k:Nat} {w:World} {xs:List α} (h:Own E e base w (.slice (some ⟨g,0,none⟩) n cap) xs) (hk:k<=n):Own E e base w (.slice (some ⟨g,0,none⟩) k cap) (xs.take k):=by
 rcases h.1.2 with ⟨h0,_⟩ | ⟨g',cap',cur,hv,hb,hg,hn,hm,hcs,ht⟩
 . cases h0
 . cases hv
   have hl:(xs.take k).length=k:=by rw [zI];omega
   refine ⟨⟨E.all_length _,.inr ⟨g,cap,cur,by rw [hl],hb,hg,by rw [hl];omega,hm,hcs,?_⟩⟩,fun x hx=>h.2 x (List.mem_of_mem_take hx)⟩;have e:E.all xs=E.all (xs.take k)++E.all (xs.drop k):=by rw [<- E.all_append,zP]
   have h1:(xs.take k).length * E.sz<=xs.length * E.sz:=Nat.mul_le_mul_right _ (by omega);rw [<- E.all_length (xs.take k)] at h1 |-;have h2:(cur.toList.take (xs.length * E.sz)).take (E.all (xs.take k)).length=E.all (xs.take k):=by
    rw [ht,e,List.take_left]
   rw [List.take_take,Nat.min_eq_left h1] at h2;exact h2
theorem OwnT.base {α:Type} {E:Elt α} {e:TypeId} {base base' tp:Nat} {w:World} {v:Value} {xs:List α} (h:OwnT E e base tp w v xs) (hb:base'<=base):OwnT E e base' tp w v xs:=⟨h.1.mono hb,h.2⟩
theorem OwnTM.base {e:TypeId} {base base' tp:Nat} {w:World} {v:Value} {x:List (List Int)} (h:OwnTM e base tp w v x) (hb:base'<=base):OwnTM e base' tp w v x:=by
 obtain ⟨hs,h1,h2,h3,h4⟩:=h;exact ⟨hs,h1.base hb,h2,fun i h y e1 e2=>(h3 i h y e1 e2).base hb,h4⟩
def OwD (n:Nat) (w:World) (v:Value) (d:List (List Int)):Prop:=OwnCardS n w v d
theorem OwD.own {n:Nat} {w:World} {v:Value} {d:List (List Int)} (h:OwnCardS n w v d):OwD n w v d:=h
theorem OwD.rds {n:Nat} {w:World} {v:Value} {d:List (List Int)} (h:OwD n w v d):RdInt64SS w.heap.size w v d:=OwnCardS.rds h
theorem OwD.onB {n:Nat} {w w':World} {v:Value} {d:List (List Int)} (h:OwD n w v d) (hb:Below w.heap.size w w'):OwD n w' v d:=OwnTM.mono (OwnTM.below h hb (zA _)) hb.size
theorem OwD.mono {n n':Nat} {w:World} {v:Value} {d:List (List Int)} (h:OwD n w v d) (hn:n'<=n):OwD n' w v d:=OwnTM.base h hn
theorem OwD.shape {n:Nat} {w:World} {v:Value} {d:List (List Int)} (h:OwD n w v d):∃ ao cap,v=.slice ao d.length cap:=h.rds.shape
def OwRow (base tp:Nat) (w:World) (v:Value) (x:List Int):Prop:=OwnT eI 2 base tp w v x
def SepH (g:Nat) (hs:List SlV):Prop:=(∀ h∈hs,h.val.ownBlock ≠ some g)/\hs.Pairwise (fun h h'=>Apart h.val h'.val/\Apart h'.val h.val)
theorem SepH.sub {g:Nat} {hs hs':List SlV} (h:SepH g hs) (hl:hs'.Sublist hs):SepH g hs':=⟨fun x hx=>h.1 x (hl.subset hx),h.2.sublist hl⟩
theorem OwnTM.orows {e:TypeId} {base tp:Nat} {w:World} {d:List (List Int)} {g n cap:Nat} (h:OwnTM e base tp w (.slice (some ⟨g,0,none⟩) n cap) d) :
 ∃ hs:List SlV,Own eS e base w (.slice (some ⟨g,0,none⟩) n cap) hs/\hs.length=d.length/\(∀ (i:Nat) (h:SlV) (x:List Int),hs[i]?=some h->d[i]?=some x->FrS (OwRow base tp) (fun k=>k=g\/k<base) w h.val x)/\SepH g hs:=by
 obtain ⟨hs,h1,h2,h3,h4,h5⟩:=h;refine ⟨hs,h1.1,h2,fun i hh x e1 e2 w' hA=>?_,fun x hx=>?_,?_⟩
 . have h6:=h3 i hh x e1 e2
   exact h6.agr hA (fun k hk hS=>by
    rcases hS with rfl | hS
    . exact h4 i hh e1 k rfl hk
    . have:=(h6.1.lt k hk).1;omega)
 . obtain ⟨i,hi,rfl⟩:=List.mem_iff_getElem.1 hx
   exact h4 i _ (zF hi) g rfl
 . rw [List.pairwise_iff_getElem]
   intro i j hi hj hij;exact ⟨h5 i j _ _ (by omega) (zF hi) (zF hj),h5 j i _ _ (by omega) (zF hj) (zF hi)⟩
theorem OwRow.rd {base tp:Nat} {w:World} {v:Value} {x:List Int} (h:OwRow base tp w v x):RdI w.heap.size w v x:=(Own.rds h.1)
theorem OwD.of_rows {base tp g n cap i:Nat} {w0 w:World} {hs:List SlV} {ds:List (List Int)} (ho:Own eS 69 base w (.slice (some ⟨g,0,none⟩) n cap) hs) (hn:n=hs.length) (hi:i<=n) (hr:Rws (OwRow base tp) (fun k=>k=g\/k<base) w0 (hs.take i) ds) (hA:Agr (fun k=>k=g) w0 w)
 (ht:tp<=w.heap.size) (hsp:SepH g (hs.take i)):OwD base w (.slice (some ⟨g,0,none⟩) i cap) ds:=by
 refine ⟨hs.take i,(Own.takeK ho hi).top,hr.1,fun j h x e1 e2=>?_,fun j h e1=>?_,fun j k h h' hjk e1 e2=>?_⟩
 . exact OwnT.mono ((hr.2 j h x e1 e2) w ⟨hA.os,hA.tape,hA.output,hA.size,fun k hk hn=>hA.block k hk (fun e=>hn (.inl e))⟩) ht
 . intro q hq
   obtain rfl:g=q:=zD hq;exact hsp.1 h (zC e1)
 . have h1:=zS.1 e1
   have h2:=zS.1 e2;obtain ⟨p1,q1⟩:=h1;obtain ⟨p2,q2⟩:=h2;have hp:=List.pairwise_iff_getElem.1 hsp.2;rcases Nat.lt_or_ge j k with h3 | h3
   . have:=(hp j k p1 p2 h3).1;rw [q1,q2] at this;exact this
   . have:=(hp k j p2 p1 (by omega)).2;rw [q1,q2] at this;exact this
theorem Own.cellS {e:TypeId} {base g n cap j:Nat} {w:World} {hs:List SlV} {x:SlV} (h:Own eS e base w (.slice (some ⟨g,0,none⟩) n cap) hs) (hn:n=hs.length) (hx:hs[j]?=some x):w.cell? ⟨g,j,none⟩=some x.val:=by
 subst hn;rcases Rds.cases h.rds with ⟨h0,_⟩ | ⟨b,off,cap',hv,hlt,hc⟩
 . rw [h0] at hx;simp at hx
 . injection hv with e1 e2 e3
   injection e1 with e1;injection e1 with e1 e4;subst e1;subst e4;have h9:=(hc j x hx).2 0 (by decide);simpa [show eS.sz=1 from rfl,show eS.cells x=[x.val] from rfl] using h9
theorem run_clear_card {P:Program} (w:World) (t e ty:TypeId) (z c1:Value) (ht:P.underlying t=some (.slice e)) (hv:∀ w,(zeroValue e).run P w=.ok z w) (hz:z.cells=#[c1]) (h1:c1.oneCell'=true) (b o n c:Nat) (hn:0<n)
 (hc:∀ j,j<n->(w.cell? ⟨b,o+j,none⟩).isSome=true) (hf:∀ j,j<n->w.frozen? ⟨b,o+j,none⟩=false) :
 (Builtin.clear_ #[t] ty #[.slice (some ⟨b,o,none⟩) n c]).run P w=.ok (.tuple #[]) (w.setCells b o (List.replicate n c1)):=by
 have hzc:(Builtin.zeroCells z.cells n).toList=List.replicate n c1:=by
  rw [hz];simp [Builtin.zeroCells];apply List.ext_getElem
  . simp
  . intro i h1 h2
    simp [Nat.mod_one]
 have hst:=run_storeCells_cells (P:=P) b o (List.replicate n c1) 0 w (by simpa using hc) (by simpa using hf) (by intro v hv';rw [List.eq_of_mem_replicate hv'];exact h1);simp only [Nat.add_zero] at hst;obtain ⟨m,rfl⟩:∃ m,n=m+1:=⟨n - 1,by omega⟩;simp [Builtin.clear_,run_underlying ht,hv,hzc,hst]
theorem zeroS_run (w:World):(zeroValue 69).run Tryz.prog w=.ok (.agg #[.slice none 0 0]) w:=by kernel_rfl
theorem indexSB {xss:List (List Int)} {v:Value} {w:World} {A:Nat} {p:List Int->Bool} {c1 c2 c3:Nat} (ha:RdInt64SS A w v xss)
 (hclo:∀ (W:World) (u:Value) (y:List Int),y∈xss->Below w.heap.size w W->RdI W.heap.size W u y->Calls Tryz.prog 209 #[.agg #[u],.pointer (some ⟨c1,0,none⟩),.pointer (some ⟨c2,0,none⟩),.pointer (some ⟨c3,0,none⟩)] W fun e w'=>e=.returned (.bool (p y))/\Below W.heap.size W w') :
 Calls Tryz.prog 151 #[v,.func (.func 209) #[] #[.pointer (some ⟨c1,0,none⟩),.pointer (some ⟨c2,0,none⟩),.pointer (some ⟨c3,0,none⟩)]] w fun e w' =>
  (∃ r:Int,e=.returned (.int .i64 r)/\-1<=r/\((0<=r ↔ xss.any p=true)/\(0<=r->r.toNat<xss.length/\(xss.take r.toNat).any p=false/\∀ x,xss[r.toNat]?=some x->p x=true)))/\Below w.heap.size w w':=by
 have hle:=ha.le;obtain ⟨ao,cap,rfl,ho⟩:=ha.open;obtain ⟨n,hn⟩:∃ n,n=xss.length:=⟨_,rfl⟩;rw [<- hn];have Hn:=hid hn;have Ho:=hid ho;have Hclo:=hid hclo;have hle':n<=9223372036854775807:=by omega
 clear ho hn hle ha hclo;go_enter Tryz.func151,Tryz.ntmps151;go_wp2;go_loopw [8] (fun i wr=>∃ k:Nat,k<=n/\i=.int .i64 k/\Hid ((xss.take k).any p=false)/\Below w.heap.size w wr) (fun i _=>n - (intOf i).toNat)
 case atStart=>exact ⟨0,zK _,rfl,rfl,zB _ _⟩
 case round =>
  obtain ⟨k,hk,rfl,hp,hbb⟩:=hrel;by_cases hkn:k<n
  . obtain ⟨b,off,rfl,hlt,hc⟩:=Ho.out (by have:=Hn.out;omega)
    obtain ⟨y,ro,rc,hy,hcell,hrd⟩:=hc k (by have:=Hn.out;omega);have Hy:=hid hy;replace hcell:=(hbb.cell (p:=⟨b,off+k,none⟩) hlt.2).trans hcell;have hcon:=Hclo.out wr _ _ (zC hy) hbb (Rds.onn hrd hbb);have Hcon:=hid hcon;have Hbb:=hid hbb;clear hy hc hrd hcon hbb;go_wp2_with fail;with_reducible refine Hcon.out.mono ?_
    cases hq:p y with
    | true =>
     have Hq:=hid hq;clear hq;rintro e w1 ⟨rfl,hb1⟩;have Hb2:=hid (Hbb.out.trans (hb1.mono Hbb.out.size));clear hb1;go_wp2;go_ret;refine ⟨⟨_,rfl,by omega,?_,fun _=>?_⟩,Hb2.out⟩
     . have:xss.any p=true:=List.any_eq_true.2 ⟨y,zC Hy.out,Hq.out⟩
       simp [this]
     . rw [zR]
       exact ⟨hkn,hp.out,fun x hx=>by rw [Hy.out] at hx;cases hx;exact Hq.out⟩
    | false =>
     have Hq:=hid hq;clear hq;rintro e w1 ⟨rfl,hb1⟩;have Hb2:=hid (Hbb.out.trans (hb1.mono Hbb.out.size));clear hb1 hcell Hcon;go_wp2;go_roundw
     case rel=>exact ⟨k+1,by omega,by go_num,by show _=false;rw [yAD Hy.out,List.any_append,hp.out];simp [Hq.out],Hb2.out⟩
     case measure=>simp [intOf];omega
  . go_wp2
    go_ret;refine ⟨⟨_,rfl,by omega,?_,fun h=>by omega⟩,hbb⟩;have hq:=hp.out;rw [zH (by have:=Hn.out;omega)] at hq;simp [hq]
theorem deleteSB {d:List (List Int)} {v:Value} {w:World} {base:Nat} {p:List Int->Bool} {c1 c2 c3:Nat} (ho:OwnCardS base w v d) (hl:d.length<=1000) (hB:base<=w.heap.size)
 (hclo:∀ (W:World) (u:Value) (y:List Int),y∈d->Below base w W->RdI W.heap.size W u y->Calls Tryz.prog 209 #[.agg #[u],.pointer (some ⟨c1,0,none⟩),.pointer (some ⟨c2,0,none⟩),.pointer (some ⟨c3,0,none⟩)] W fun e w'=>e=.returned (.bool (p y))/\Below W.heap.size W w') :
 Calls Tryz.prog 199 #[v,.func (.func 209) #[] #[.pointer (some ⟨c1,0,none⟩),.pointer (some ⟨c2,0,none⟩),.pointer (some ⟨c3,0,none⟩)]] w fun e w'=>(∃ r,e=.returned r/\OwD base w' r (d.filter (fun y=>!p y)))/\Below base w w':=by
 obtain ⟨ao0,c0,rfl⟩:=OwnTM.shape ho;have hidx:=indexSB (w:=w) (p:=p) ho.rds (fun W u y hy hW hu=>hclo W u y hy (hW.mono hB) hu);obtain ⟨n,hn⟩:∃ n,n=d.length:=⟨_,rfl⟩;rw [<- hn] at hl ho hidx |-;have Hn:=hid hn;have Ho:=hid ho;have Hclo:=hid hclo;have Hidx:=hid hidx;clear hn ho hclo hidx;go_enter Tryz.func199,Tryz.ntmps199;go_wp2_with fail;with_reducible refine Hidx.out.mono ?_
 rintro e w1 ⟨⟨r,rfl,hr0,hri,hrk⟩,hb1⟩;by_cases hr:r=-1
 . have Hany:Hid (d.any p=false):=hid (by cases h:d.any p with | false=>rfl | true=>have:=hri.2 h;omega)
   have hd:OwD base w1 (.slice ao0 n c0) (d.filter (fun y=>!p y)):=by
    have h1:d.filter (fun y=>!p y)=d:=List.filter_eq_self.2 (fun y hy=>by have:=List.any_eq_false.1 Hany.out y hy;simpa using this);rw [h1];exact (OwD.own Ho.out).onB hb1
   have Hd:=hid hd;have Hb:=hid (hb1.mono hB);subst hr;clear hb1 hri hrk hd hr0;go_wp2;go_ret;exact ⟨⟨_,rfl,Hd.out⟩,Hb.out⟩
 . obtain ⟨k0,rfl⟩:∃ k0:Nat,r=(k0:Int):=⟨r.toNat,by omega⟩
   have h2:=hrk (by omega);rw [zR] at h2;obtain ⟨hk0,hpre,hat⟩:=h2;have hk0:k0<n:=by have:=Hn.out;omega
   have hx0:d[k0]?=some (d[k0]'(by have:=Hn.out;omega)):=zF (by have:=Hn.out;omega);have hp0:=hat _ hx0;obtain ⟨g,c9,hv,-,-,-⟩:=OwnTM.addr Ho.out (by have:=Hn.out;omega);rw [<- Hn.out] at hv;injection hv with e1 e2 e3;subst e1;subst e3;obtain ⟨hs,hO,hhl,hrows,hsep⟩:=OwnTM.orows Ho.out;have Hsep:=hid hsep;clear hsep;have hgb:base<=g:=(hO.lt g rfl).1;have hgw:g<w.heap.size:=(hO.lt g rfl).2;have HR:Hid (Rws (OwRow base w.heap.size) (fun k=>k=g\/k<base) w (hs.take k0) ((d.take k0).filter (fun y=>!p y))):=hid (by
    have h1:(d.take k0).filter (fun y=>!p y)=d.take k0:=List.filter_eq_self.2 (fun y hy=>by have:=List.any_eq_false.1 hpre y hy;simpa using this);rw [h1];refine ⟨by rw [zI,zI,hhl],fun i h x q1 q2=>?_⟩;rw [List.getElem?_take] at q1 q2;split at q1
    . rename_i hi
      rw [if_pos hi] at q2;exact hrows i h x q1 q2
    . cases q1)
   have HR0:Hid (Rws (OwRow base w.heap.size) (fun k=>k=g\/k<base) w (hs.take k0) ((d.take (k0+1)).filter (fun y=>!p y))):=hid (by
    rw [yAD hx0,List.filter_append,show [d[k0]'(by have:=Hn.out;omega)].filter (fun y=>!p y)=[] by simp [hp0],List.append_nil];exact HR.out)
   have HO1:Hid (Own eS 69 base w1 (.slice (some ⟨g,0,none⟩) n c0) hs):=hid (hO.below hb1 (zA _));have HA1:Hid (Agr (fun k=>k=g) w w1):=hid (Agr.on hb1);have Hhs:=hid (show n=hs.length by rw [hhl];exact Hn.out);have Hrows:=hid hrows;have Hgb:=hid hgb;have Hgw:=hid hgw;have hkn1:((k0:Int) == -1)=false:=beq_eq_false_iff_ne.2 (by omega);clear hat hx0 hp0 hO hhl hrows hb1 hri hrk hpre HR e2 hgb hgw;go_wp2;go_loopw [5,6,7] (fun iv jv _ wr=>∃ (i j:Nat) (hs':List SlV),i<j/\j<=n/\iv=.int .i64 i/\jv=.int .i64 j/\Hid (n=hs'.length/\(hs'.take i).Sublist (hs.take j))/\Hid (hs'.drop j=hs.drop j)/\Hid (Rws (OwRow base w.heap.size) (fun k=>k=g\/k<base) w (hs'.take i) ((d.take j).filter (fun y=>!p y)))/\Hid (Own eS 69 base wr (.slice (some ⟨g,0,none⟩) n c0) hs')/\Hid (Agr (fun k=>k=g) w wr)) (fun _ j _ _=>n - (intOf j).toNat)
   case atStart=>exact ⟨k0,k0+1,hs,by omega,by omega,rfl,by go_num,hid ⟨Hhs.out,List.take_sublist_take_left (by omega)⟩,hid rfl,HR0,HO1,HA1⟩
   case round =>
    obtain ⟨i,j,hs',hij,hjn,rfl,rfl,Hls,Hdr,HRs,HO,HA⟩:=hrel;have Hl':=hid Hls.out.1;have Hsu:=hid Hls.out.2;clear Hls;clear HO1 HA1 HR0;by_cases hj:j<n
    . obtain ⟨x,hx⟩:∃ x,d[j]?=some x:=⟨_,zF (by have:=Hn.out;omega)⟩
      obtain ⟨h,hh⟩:∃ h,hs[j]?=some h:=⟨_,zF (by have:=Hhs.out;omega)⟩;have hh':hs'[j]?=some h:=by
       have e:=congrArg (fun l=>l[0]?) Hdr.out;simp only [List.getElem?_drop,Nat.add_zero] at e;rw [e];exact hh
      have hfr:=Hrows.out j h x hh hx;have hrow:RdI wr.heap.size wr h.val x:=OwRow.rd (hfr.step HA.out (fun k h _=>.inl h) (S'':=fun _=>False) (fun k h _=>h.elim)).now;obtain ⟨ro,rc,hhv⟩:=hrow.shape;have hcj:wr.cell? ⟨g,j,none⟩=some (.slice ro x.length rc):=by
       have h9:=Own.cellS HO.out Hl'.out hh';rw [h9,hhv]
      obtain ⟨hci,hfi⟩:=Own.cellE (E:=eS) HO.out Hl'.out (k:=i) (j:=0) (by omega) (by decide);simp only [show eS.sz=1 from rfl,Nat.mul_one,Nat.add_zero] at hci hfi;rw [hhv] at hrow;obtain ⟨W,hW⟩:∃ W,W=wr.alloc (.cells #[.slice ro x.length rc] 69):=⟨_,rfl⟩;have hbW:Below wr.heap.size wr W:=by rw [hW];exact (zB _ _).alloc (zA _) _
      have hX:Box W wr.heap.size [.slice ro x.length rc]:=by rw [hW];exact Box.new wr [.slice ro x.length rc] _
      have hAW:=HA.out.trans (Agr.on (S:=fun k=>k=g) hbW) (fun k h _=>h);have hcon:=Hclo.out W _ x (zC hx) (hAW.below (fun k h=>by have:=Hgb.out;omega) hB) (Rds.onn hrow hbW);have HOW:=hid (HO.out.below hbW (zA _));have HAW:=hid hAW;have Hcon:=hid hcon;have HX:=hid hX;have HW:=hid hW;have Hhv:=hid hhv;have Hfr:=hid hfr;have Hx:=hid hx;have Hh':=hid hh';have Hh:=hid hh;have hzr:=HA.out.size;have hbx:g ≠ wr.heap.size:=by have:=Hgw.out;omega
      have x0:=hX.cell 0 _ rfl;clear hcon hW hbW hX hAW hhv hfr hrow hx hh hh' HA HO;obtain ⟨N,hN⟩:∃ N,x.length=N:=⟨_,rfl⟩;rw [hN] at HW hcj HX Hcon Hhv x0;clear hN;go_upto_region 8 with fail;rw [<- HW.out];cases hq:p x with
      | false =>
       rw [hq] at Hcon;have Hq:=hid hq;clear hq;go_wp2_with fail;with_reducible refine Hcon.out.mono ?_
       rintro e w2 ⟨rfl,hb2⟩;have hO2:=HOW.out.below hb2 (zA _);obtain ⟨⟨u9,hc2⟩,hf2⟩:=Own.cellE (E:=eS) hO2 Hl'.out (k:=i) (j:=0) (by omega) (by decide);have hk2:hs'[i]?=some (hs'[i]'(by have:=Hl'.out;omega)):=zF (by have:=Hl'.out;omega);have hst:=Own.store1 (E:=eS) (by decide) hO2 Hl'.out (x:=hs'[i]'(by have:=Hl'.out;omega)) (y:=h) (v:=.slice ro N rc) hk2 (j:=0) (by decide) (by rw [<- Hhv.out];rfl) trivial;simp only [show eS.sz=1 from rfl,Nat.mul_one,Nat.add_zero] at hst hc2 hf2;have hx2:=HX.out.on hb2;have x2:=hx2.cell 0 _ rfl;have HO3:=hid hst.1;have HA3:=hid ((HAW.out.trans (Agr.on (S:=fun k=>k=g) hb2) (fun k h _=>h)).trans (Agr.of_grown1 (S:=fun k=>k=g) hst.2 rfl) (fun k h _=>h));clear hO2 hst hb2 hx2 hcj x0 hci hfi hk2;go_wp2;go_roundw
       case rel =>
        refine ⟨i+1,j+1,hs'.set i h,by omega,by omega,by go_num,by go_num,hid ⟨by rw [List.length_set];exact Hl'.out,?_⟩,hid ?_,hid ?_,HO3,HA3⟩
        . have e1:(hs'.set i h).take (i+1)=hs'.take i++[h]:=by
           have hil:i<hs'.length:=by have:=Hl'.out;omega
           rw [List.take_add_one,List.take_set_of_le (zA i),List.getElem?_set_self hil];rfl
          rw [e1,yAD Hh.out];exact Hsu.out.append (List.Sublist.refl _)
        . rw [List.drop_set_of_lt (by omega)]
          have e:=congrArg (List.drop 1) Hdr.out;simpa [List.drop_drop] using e
        . have e1:(hs'.set i h).take (i+1)=hs'.take i++[h]:=by
           have hil:i<hs'.length:=by have:=Hl'.out;omega
           rw [List.take_add_one,List.take_set_of_le (zA i),List.getElem?_set_self hil];rfl
          have e2:(d.take (j+1)).filter (fun y=>!p y)=(d.take j).filter (fun y=>!p y)++[x]:=by
           rw [yAD Hx.out,List.filter_append,show [x].filter (fun y=>!p y)=[x] by simp [Hq.out]]
          rw [e1,e2];exact HRs.out.snoc Hfr.out
       case measure=>simp [intOf];omega
      | true =>
       rw [hq] at Hcon;have Hq:=hid hq;clear hq;go_wp2_with fail;with_reducible refine Hcon.out.mono ?_
       rintro e w2 ⟨rfl,hb2⟩;have HO3:=hid (HOW.out.below hb2 (zA _));have HA3:=hid (HAW.out.trans (Agr.on (S:=fun k=>k=g) hb2) (fun k h _=>h));clear hb2 hcj x0 hci hfi;go_wp2;go_roundw
       case rel =>
        refine ⟨i,j+1,hs',by omega,by omega,rfl,by go_num,hid ⟨Hl'.out,Hsu.out.trans (List.take_sublist_take_left (by omega))⟩,hid ?_,hid ?_,HO3,HA3⟩
        . have e:=congrArg (List.drop 1) Hdr.out
          simpa [List.drop_drop] using e
        . have e2:(d.take (j+1)).filter (fun y=>!p y)=(d.take j).filter (fun y=>!p y):=by
           rw [yAD Hx.out,List.filter_append,show [x].filter (fun y=>!p y)=[] by simp [Hq.out],List.append_nil]
          rw [e2];exact HRs.out
       case measure=>simp [intOf];omega
    . obtain rfl:j=n:=by omega
      have hltz:¬ (j:Int)<(j:Int):=by omega
      obtain ⟨hs9,h91,h92,h93,h94⟩:=ownS_clear (j - i) i wr hs' HO.out Hl'.out (by omega);have hcz:c0=c0:=rfl;have hcap:=(HO.out.rds).cap.1;have hcl:∀ ty,(Builtin.clear_ #[24] ty #[.slice (some ⟨g,i,none⟩) (j - i) (c0 - i)]).run Tryz.prog wr=.ok (.tuple #[]) (wr.setCells g i (List.replicate (j - i) (.slice none 0 0))) :=
       fun ty=>run_clear_card wr _ _ ty _ _ Tryz.underlying24 (fun w=>zeroS_run w) rfl rfl g i _ _ (by omega)
        (fun t ht=>by have h:=(Own.cellE (E:=eS) HO.out Hl'.out (k:=i+t) (j:=0) (by omega) (by decide)).1;simp only [show eS.sz=1 from rfl,Nat.mul_one,Nat.add_zero] at h;obtain ⟨u,hu⟩:=h;rw [hu];rfl)
        (fun t ht=>by have h:=(Own.cellE (E:=eS) HO.out Hl'.out (k:=i+t) (j:=0) (by omega) (by decide)).2;simp only [show eS.sz=1 from rfl,Nat.mul_one,Nat.add_zero] at h;exact h)
      have hAf:=HA.out.trans h94 (fun k h _=>h);have HF:Hid (OwD base (wr.setCells g i (List.replicate (j - i) (.slice none 0 0))) (.slice (some ⟨g,0,none⟩) i c0) (d.filter (fun y=>!p y))):=hid (by
       have hR:=HRs.out;rw [show d.take j=d from zH (by have:=Hn.out;omega),<- h93] at hR;exact OwD.of_rows h91 h92.symm (by omega) hR hAf hAf.size (by rw [h93];exact Hsep.out.sub (Hsu.out.trans (List.take_sublist _ _))))
      have HB9:Hid (Below base w (wr.setCells g i (List.replicate (j - i) (.slice none 0 0)))):=hid (hAf.below (fun k h=>by have:=Hgb.out;omega) hB);have hij2:(i:Int)<=(j:Int):=by omega
      have hic:(i:Int)<=(c0:Int):=by omega
      have hjc:(j:Int)<=(c0:Int):=by omega
      generalize wr.setCells g i (List.replicate (j - i) (.slice none 0 0))=W9 at hcl HF HB9;clear h91 h92 h93 h94 hAf hcz;go_wp2;go_ret;exact ⟨⟨_,rfl,HF.out⟩,HB9.out⟩
end Go.Proofs.YtmindpfmgnnieaaGreatDoor
