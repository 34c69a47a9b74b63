/- Lemmas on the way to the law FnTop. No condition. -/
import Derived.WalkKit
import Derived.ProofKit
import Derived.OpenShut
import Derived.Handy
import Derived.BigQuiet
import Derived.WalkLawsBesides
import Derived.WalkSpells
import Derived.Deep.QuietTactic
import Derived.Deep.LoopGhost
import Derived.Lib.Hide
import Derived.Outline
namespace Go.Proofs.YtmindpfmgnnieaaGreatDoor
set_option linter.unusedSimpArgs false
open Go.RowKit
theorem zA (n:Nat):n<=n:=Nat.le_refl n
theorem zB (B:Nat) (w:World):Go.RowKit.Below B w w:=Go.RowKit.Below.refl B w
theorem zC {α:Type} {l:List α} {i:Nat} {a:α} (h:l[i]?=some a):a∈l:=List.mem_of_getElem? h
theorem zD {α:Type} {a b:α} (h:some a=some b):a=b:=Option.some.inj h
theorem zE {α:Type} {a b:List α}:(a++b).length=a.length+b.length:=List.length_append
theorem zF {α:Type} {l:List α} {i:Nat} (h:i<l.length):l[i]?=some l[i]:=List.getElem?_eq_getElem h
theorem zG {a:Int} (h:0<=a):∃ n:Nat,a=n:=Int.eq_ofNat_of_zero_le h
theorem zH {α:Type} {l:List α} {i:Nat} (h:l.length<=i):l.take i=l:=List.take_of_length_le h
theorem zI {α:Type} {i:Nat} {l:List α}:(l.take i).length=min i l.length:=List.length_take
theorem zJ {α:Type} {a b:List α} {i:Nat} (h:a.length<=i):(a++b)[i]?=b[i-a.length]?:=List.getElem?_append_right h
theorem zK (n:Nat):0<=n:=Nat.zero_le n
theorem zL {α:Type} {a b:List α} {i:Nat} (h:i<a.length):(a++b)[i]?=a[i]?:=List.getElem?_append_left h
theorem zM {a b c:Nat} (h:a<b) (k:b<=c):a<c:=Nat.lt_of_lt_of_le h k
theorem zN {α:Type} (a b c:List α):a++b++c=a++(b++c):=List.append_assoc a b c
theorem zO {a b c:Nat} (h:a<=b) (k:b<=c):a<=c:=Nat.le_trans h k
theorem zP {α:Type} (i:Nat) (l:List α):l.take i++l.drop i=l:=List.take_append_drop i l
theorem zQ {α:Type} {i:Nat} {l:List α}:(l.drop i).length=l.length-i:=List.length_drop
theorem zR (n:Nat):(n:Int).toNat=n:=Int.toNat_natCast n
theorem zS {α:Type} {l:List α} {i:Nat} {a:α}:l[i]?=some a↔∃ h:i<l.length,l[i]=a:=List.getElem?_eq_some_iff
def Rd (w:World) (B:Nat) (sz:Nat) (v:Value) (n:Nat) (cs:List Value):Prop :=
 cs.length=n * sz/\n<=9223372036854775807/\((n=0/\∃ ao cap,v=.slice ao 0 cap/\(ao=none->cap=0)) \/
  ∃ b off cap,v=.slice (some ⟨b,off,none⟩) n cap/\(n<=cap/\cap<=9223372036854775807)/\b<B/\b<w.heap.size/\∀ i,i<n * sz->w.cell? ⟨b,off+i,none⟩=cs[i]?)
section
variable {w w':World} {sz n:Nat} {v:Value} {cs:List Value} {B B':Nat}
theorem Rd.below (h:Rd w B sz v n cs) (hb:Below B' w w') (hB:B<=B'):Rd w' B sz v n cs:=by
 refine ⟨h.1,h.2.1,?_⟩;rcases h.2.2 with h0 | ⟨b,off,cap,rfl,hcp,hlt,hlt',hc⟩
 . exact .inl h0
 . refine .inr ⟨b,off,cap,rfl,hcp,hlt,zM hlt' hb.size,fun i hi=>?_⟩
   rw [hb.cell (p:=⟨b,off+i,none⟩) (zM hlt hB)];exact hc i hi
theorem Rd.mono (h:Rd w B sz v n cs) (hB:B<=B'):Rd w B' sz v n cs:=by
 refine ⟨h.1,h.2.1,?_⟩;rcases h.2.2 with h0 | ⟨b,off,cap,rfl,hcp,hlt,hlt',hc⟩
 . exact .inl h0
 . exact .inr ⟨b,off,cap,rfl,hcp,zM hlt hB,hlt',hc⟩
theorem Rd.owns {base:Nat} {e:TypeId} (h:w.ownsRow base e sz v n cs):Rd w w.heap.size sz v n cs:=by
 have h0:=h.1;rcases h.2 with ⟨rfl,rfl⟩ | ⟨g,cap,cur,rfl,hb,hg,hn,hm,hcs,htake⟩
 . exact ⟨h0,by omega,.inl ⟨rfl,_,_,rfl,fun _=>rfl⟩⟩
 . have hg':=(Array.getElem?_eq_some_iff.1 hg).1
   refine ⟨h0,by unfold maxLen at hm;omega,.inr ⟨g,0,cap,rfl,⟨hn,by unfold maxLen at hm;omega⟩,hg',hg',fun i hi=>?_⟩⟩;rw [Nat.zero_add];exact h.cellAt i hi
theorem ownsRow_below {base:Nat} {e:TypeId} (h:w.ownsRow base e sz v n cs) (hb:Below B w w') (hB:w.heap.size<=B):w'.ownsRow base e sz v n cs:=by
 refine ⟨h.1,?_⟩;rcases h.2 with h0 | ⟨g,cap,cur,rfl,hbg,hg,rest⟩
 . exact .inl h0
 . have hlt:=(Array.getElem?_eq_some_iff.1 hg).1
   exact .inr ⟨g,cap,cur,rfl,hbg,by rw [hb.block g (by omega)];exact hg,rest⟩
theorem ownsRow_mono {base base':Nat} {e:TypeId} (h:w.ownsRow base e sz v n cs) (hB:base'<=base):w.ownsRow base' e sz v n cs:=by
 refine ⟨h.1,?_⟩;rcases h.2 with h0 | ⟨g,cap,cur,rfl,hbg,rest⟩
 . exact .inl h0
 . exact .inr ⟨g,cap,cur,rfl,by omega,rest⟩
end
theorem yAA {w w1 w2:World} {row:Option Nat} (h:w.grownBy w1 row) (h':w1.grownBy w2 row):w.grownBy w2 row :=
 ⟨h'.os.trans h.os,h'.tape.trans h.tape,h'.output.trans h.output,zO h.size h'.size,fun k hk hne=>(h'.block k (zM hk h.size) hne).trans (h.block k hk hne)⟩
structure Elt (α:Type) where
 sz:Nat
 cells:α->List Value
 ok:α->Prop
 len:∀ x,(cells x).length=sz
 one:∀ x,∀ u∈cells x,u.oneCell'=true
section
variable {α:Type} {E:Elt α} {xs:List α}
def Elt.all (E:Elt α) (xs:List α):List Value:=xs.flatMap E.cells
theorem Elt.all_length (E:Elt α) (xs:List α):(E.all xs).length=xs.length * E.sz:=by
 induction xs with
 | nil=>simp [Elt.all]
 | cons x xs ih =>
  have h:(E.all (x :: xs)).length=(E.cells x).length+(E.all xs).length:=by simp [Elt.all]
  rw [h,ih,E.len,List.length_cons,Nat.add_mul];omega
theorem Elt.all_append (E:Elt α) (xs ys:List α):E.all (xs++ys)=E.all xs++E.all ys:=by simp [Elt.all]
theorem Elt.all_one (E:Elt α) (x:α):E.all [x]=E.cells x:=by simp [Elt.all]
theorem Elt.all_oneCell (E:Elt α) (xs:List α):∀ u∈E.all xs,u.oneCell'=true:=by
 intro u hu;obtain ⟨x,_,hx⟩:=List.mem_flatMap.1 hu;exact E.one x u hx
theorem Elt.all_get (E:Elt α) {xs:List α} {k j:Nat} {x:α} (hx:xs[k]?=some x) (hj:j<E.sz):(E.all xs)[k * E.sz+j]?=(E.cells x)[j]?:=by
 obtain ⟨hk,rfl⟩:=zS.1 hx;have hs:xs=xs.take k++xs[k] :: xs.drop (k+1):=by rw [List.getElem_cons_drop,zP]
 have hall:E.all xs=E.all (xs.take k)++(E.cells xs[k]++E.all (xs.drop (k+1))):=by
  rw [<- E.all_one xs[k],<- E.all_append,<- E.all_append];congr 1
 have hl:(E.all (xs.take k)).length=k * E.sz:=by rw [E.all_length,zI,Nat.min_eq_left (by omega)]
 rw [hall,zJ (by omega),hl,Nat.add_sub_cancel_left,zL (by rw [E.len];exact hj)]
def Rds (E:Elt α) (B:Nat) (w:World) (v:Value) (xs:List α):Prop:=Rd w B E.sz v xs.length (E.all xs)/\∀ x∈xs,E.ok x
def Own (E:Elt α) (e:TypeId) (base:Nat) (w:World) (v:Value) (xs:List α):Prop:=w.ownsRow base e E.sz v xs.length (E.all xs)/\∀ x∈xs,E.ok x
variable {w w':World} {v:Value} {B B':Nat} {e:TypeId} {base:Nat}
theorem Rds.below (h:Rds E B w v xs) (hb:Below B' w w') (hB:B<=B'):Rds E B w' v xs:=⟨h.1.below hb hB,h.2⟩
theorem Rds.mono (h:Rds E B w v xs) (hB:B<=B'):Rds E B' w v xs:=⟨h.1.mono hB,h.2⟩
theorem Rds.drewN (h:Rds E B w v xs) (m:Nat):Rds E B (w.drewN m) v xs:=h
theorem Rds.le (h:Rds E B w v xs):xs.length<=9223372036854775807:=h.1.2.1
theorem Own.rds (h:Own E e base w v xs):Rds E w.heap.size w v xs:=⟨Rd.owns h.1,h.2⟩
theorem Own.below (h:Own E e base w v xs) (hb:Below B w w') (hB:w.heap.size<=B):Own E e base w' v xs:=⟨ownsRow_below h.1 hb hB,h.2⟩
theorem Own.drewN (h:Own E e base w v xs) (m:Nat):Own E e base (w.drewN m) v xs:=h
theorem Own.mono {base':Nat} (h:Own E e base w v xs) (hB:base'<=base):Own E e base' w v xs:=⟨ownsRow_mono h.1 hB,h.2⟩
theorem Own.kept {row:Option Nat} (h:Own E e base w v xs) (hg:w.grownBy w' row) (hne:v.ownBlock=none\/v.ownBlock ≠ row):Own E e base w' v xs:=⟨h.1.kept hg hne,h.2⟩
theorem Own.nil (E:Elt α) (e:TypeId) (base:Nat) (w:World):Own E e base w (.slice none 0 0) []:=⟨World.ownsRow_nil _ _ _ _,fun x hx=>by cases hx⟩
theorem Rds.nil (E:Elt α) (B:Nat) (w:World):Rds E B w (.slice none 0 0) []:=⟨⟨by simp [Elt.all],by simp,.inl ⟨rfl,_,_,rfl,fun _=>rfl⟩⟩,fun x hx=>by cases hx⟩
theorem Own.lt (h:Own E e base w v xs):∀ k,v.ownBlock=some k->base<=k/\k<w.heap.size:=h.1.lt
theorem Rds.cases (h:Rds E B w v xs):(xs=[]/\∃ ao cap,v=.slice ao 0 cap/\(ao=none->cap=0)) \/
 ∃ b off cap,v=.slice (some ⟨b,off,none⟩) xs.length cap/\(b<B/\b<w.heap.size)/\∀ k x,xs[k]?=some x->E.ok x/\∀ j,j<E.sz->w.cell? ⟨b,off+(k * E.sz+j),none⟩=(E.cells x)[j]?:=by
 rcases h.1.2.2 with ⟨h0,h1⟩ | ⟨b,off,cap,rfl,hcp,hlt,hlt',hc⟩
 . exact .inl ⟨List.eq_nil_of_length_eq_zero h0,h1⟩
 . refine .inr ⟨b,off,cap,rfl,⟨hlt,hlt'⟩,fun k x hx=>⟨?_,fun j hj=>?_⟩⟩
   . obtain ⟨hk,rfl⟩:=zS.1 hx
     exact h.2 _ (List.getElem_mem hk)
   . obtain ⟨hk,_⟩:=zS.1 hx
     rw [hc (k * E.sz+j) ?_,E.all_get hx hj];calc k * E.sz+j<k * E.sz+E.sz:=by omega
      _=(k+1) * E.sz:=by rw [Nat.add_mul];omega
      _<=xs.length * E.sz:=Nat.mul_le_mul_right _ hk
theorem Rds.cap {ao:Option Addr} {n cap:Nat} (h:Rds E B w (.slice ao n cap) xs):n<=cap/\n=xs.length/\(0<n->cap<=9223372036854775807):=by
 rcases h.1.2.2 with ⟨h0,ao',cap',h1,_⟩ | ⟨b,off,cap',h1,hcp,_⟩
 . injection h1 with h1 h2 h3;omega
 . injection h1 with h1 h2 h3;omega
theorem Rds.shape (h:Rds E B w v xs):∃ ao cap,v=.slice ao xs.length cap:=by
 rcases h.1.2.2 with ⟨h0,ao,cap,h1,_⟩ | ⟨b,off,cap,h1,_⟩
 . exact ⟨ao,cap,by rw [h0];exact h1⟩
 . exact ⟨_,cap,h1⟩
theorem Own.shape (h:Own E e base w v xs):∃ ao cap,v=.slice ao xs.length cap:=h.rds.shape
end
section
theorem Rds.sub {α:Type} {E:Elt α} {w:World} {B b off n cap cap' lo hi:Nat} {xs:List α} (h:Rds E B w (.slice (some ⟨b,off,none⟩) n cap) xs) (hhi:hi<=xs.length) (hlt:lo<hi) (hcap:hi - lo<=cap'/\cap'<=9223372036854775807) :
 Rds E B w (.slice (some ⟨b,off+lo * E.sz,none⟩) (hi - lo) cap') ((xs.take hi).drop lo):=by
 have hlen:((xs.take hi).drop lo).length=hi - lo:=by rw [zQ,zI];omega
 rcases h.1.2.2 with ⟨h0,ao,c,hv,_⟩ | ⟨b',off',c,hv,hcp,hb,hb',hc⟩
 . have:=h.1.1;omega
 . injection hv with h1 h2 h3
   injection h1 with h1;injection h1 with h1 h4;subst h1;subst h4;subst h3;refine ⟨⟨E.all_length _,by rw [hlen];have:=h.1.2.1;omega,.inr ⟨b,off+lo * E.sz,cap',by rw [hlen],by rw [hlen];exact hcap,hb,hb',fun i hi'=>?_⟩⟩,fun x hx=>h.2 x (List.mem_of_mem_take (List.mem_of_mem_drop hx))⟩;rw [hlen] at hi';have hE:0<E.sz:=by
    rcases Nat.eq_zero_or_pos E.sz with h | h
    . rw [h,Nat.mul_zero] at hi';omega
    . exact h
   have hk:i / E.sz<hi - lo:=Nat.div_lt_of_lt_mul (by rw [Nat.mul_comm];exact hi');have hi2:i=(i / E.sz) * E.sz+i % E.sz:=by have:=Nat.div_add_mod i E.sz;rw [Nat.mul_comm] at this;omega
   have hx:((xs.take hi).drop lo)[i / E.sz]?=some (xs[lo+i / E.sz]'(by omega)):=by
    rw [List.getElem?_drop,List.getElem?_take,if_pos (by omega)];simp
   have hx2:xs[lo+i / E.sz]?=some (xs[lo+i / E.sz]'(by omega)):=by simp
   rw [hi2,E.all_get hx (Nat.mod_lt _ hE),<- E.all_get hx2 (Nat.mod_lt _ hE),Nat.add_assoc,show lo * E.sz+(i / E.sz * E.sz+i % E.sz)=(lo+i / E.sz) * E.sz+i % E.sz by rw [Nat.add_mul];omega];refine hc _ ?_;have h5:(lo+i / E.sz+1) * E.sz<=xs.length * E.sz:=Nat.mul_le_mul_right _ (by omega);have h6:=Nat.mod_lt i hE;rw [Nat.add_mul,Nat.one_mul] at h5;omega
end
theorem Rds.tight {α:Type} {E:Elt α} {w:World} {B:Nat} {v:Value} {xs:List α} (h:Rds E B w v xs):Rds E w.heap.size w v xs:=by
 refine ⟨⟨h.1.1,h.1.2.1,?_⟩,h.2⟩;rcases h.1.2.2 with h0 | ⟨b,off,cap,hv,hcp,hb,hb',hc⟩
 . exact .inl h0
 . exact .inr ⟨b,off,cap,hv,hcp,hb',hb',hc⟩
theorem Rds.takeN {α:Type} {E:Elt α} {w:World} {B b off n cap k:Nat} {xs:List α} (h:Rds E B w (.slice (some ⟨b,off,none⟩) n cap) xs) (hk:k<=n) :
 Rds E B w (.slice (some ⟨b,off,none⟩) k cap) (xs.take k):=by
 have hc:=h.cap;have hlen:(xs.take k).length=k:=by rw [zI];omega
 refine ⟨⟨E.all_length _,by rw [hlen];have:=h.1.2.1;omega,?_⟩,fun x hx=>h.2 x (List.mem_of_mem_take hx)⟩;rw [hlen];rcases h.1.2.2 with ⟨h0,ao,c,hv,_⟩ | ⟨b',off',c,hv,hcp,hb,hb',hcc⟩
 . refine .inl ⟨by omega,some ⟨b,off,none⟩,cap,?_,fun h=>by cases h⟩
   obtain rfl:k=0:=by omega
   rfl
 . injection hv with h1 h2 h3
   injection h1 with h1;injection h1 with h1 h4;subst h1;subst h4;subst h3;refine .inr ⟨b,off,cap,rfl,⟨by omega,hcp.2⟩,hb,hb',fun i hi=>?_⟩;have h5:k * E.sz<=xs.length * E.sz:=Nat.mul_le_mul_right _ (by omega);rw [hcc i (by omega)];have e:E.all xs=E.all (xs.take k)++E.all (xs.drop k):=by rw [<- E.all_append,zP]
   rw [e,zL (by rw [E.all_length,hlen];exact hi)]
structure Within (lo hi:Nat) (w w':World):Prop where
 os:w'.os=w.os
 tape:w'.tape=w.tape
 output:w'.output=w.output
 size:w.heap.size<=w'.heap.size
 block:∀ k,k<w.heap.size->k<lo\/hi<=k->w'.heap[k]?=w.heap[k]?
theorem Within.below {lo hi:Nat} {w w':World} (h:Within lo hi w w') (hl:lo<=w.heap.size):Below lo w w':=⟨h.os,h.tape,h.output,h.size,fun k hk=>h.block k (by omega) (.inl hk)⟩
theorem Within.refl (lo hi:Nat) (w:World):Within lo hi w w:=⟨rfl,rfl,rfl,zA _,fun _ _ _=>rfl⟩
section
variable {α:Type} {E:Elt α} {xs:List α} {w w':World} {v:Value} {e:TypeId} {base tp lo hi B:Nat}
def OwnT (E:Elt α) (e:TypeId) (base tp:Nat) (w:World) (v:Value) (xs:List α):Prop:=Own E e base w v xs/\∀ k,v.ownBlock=some k->k<tp
theorem Own.top (h:Own E e base w v xs):OwnT E e base w.heap.size w v xs:=⟨h,fun k hk=>(h.lt k hk).2⟩
theorem OwnT.below (h:OwnT E e base tp w v xs) (hb:Below B w w') (hB:tp<=B):OwnT E e base tp w' v xs:=by
 refine ⟨⟨⟨h.1.1.1,?_⟩,h.1.2⟩,h.2⟩;rcases h.1.1.2 with h0 | ⟨g,cap,cur,rfl,hbg,hg,rest⟩
 . exact .inl h0
 . have hlt:=h.2 g rfl
   exact .inr ⟨g,cap,cur,rfl,hbg,by rw [hb.block g (by omega)];exact hg,rest⟩
theorem OwnT.within (h:OwnT E e base tp w v xs) (hw:Within lo hi w w') (hhi:hi<=base):OwnT E e base tp w' v xs:=by
 refine ⟨⟨⟨h.1.1.1,?_⟩,h.1.2⟩,h.2⟩;rcases h.1.1.2 with h0 | ⟨g,cap,cur,rfl,hbg,hg,rest⟩
 . exact .inl h0
 . exact .inr ⟨g,cap,cur,rfl,hbg,by rw [hw.block g (Array.getElem?_eq_some_iff.1 hg).1 (.inr (by omega))];exact hg,rest⟩
theorem OwnT.rds (h:OwnT E e base tp w v xs):Rds E tp w v xs:=by
 refine ⟨⟨h.1.rds.1.1,h.1.rds.1.2.1,?_⟩,h.1.2⟩;rcases h.1.rds.1.2.2 with h0 | ⟨b,off,cap,hv,hc,h1,h2,h3⟩
 . exact .inl h0
 . subst hv
   exact .inr ⟨b,off,cap,rfl,hc,h.2 b rfl,h2,h3⟩
end
def eI:Elt Int:={ sz:=1,cells:=fun x=>[.int .i64 x],ok:=fun x=>-9223372036854775808<=x/\x<=9223372036854775807,len:=fun _=>rfl,one:=fun x u hu=>by simp at hu;subst hu;rfl }
theorem eI_all (xs:List Int):eI.all xs=xs.map (Value.int .i64):=by
 show xs.flatMap (fun x=>[Value.int .i64 x])=_
 induction xs with
 | nil=>rfl
 | cons x xs ih=>simp [List.flatMap_cons,ih]
abbrev RdI (B:Nat) (w:World) (v:Value) (xs:List Int):Prop:=Rds eI B w v xs
theorem RdI.cases {w:World} {B:Nat} {v:Value} {xs:List Int} (h:RdI B w v xs):(xs=[]/\∃ ao cap,v=.slice ao 0 cap/\(ao=none->cap=0)) \/
 ∃ b off cap,v=.slice (some ⟨b,off,none⟩) xs.length cap/\(b<B/\b<w.heap.size)/\∀ k,k<xs.length->∃ x,xs[k]?=some x/\w.cell? ⟨b,off+k,none⟩=some (.int .i64 x)/\-9223372036854775808<=x/\x<=9223372036854775807:=by
 rcases Rds.cases h with h0 | ⟨b,off,cap,hv,hlt,hc⟩
 . exact .inl h0
 . refine .inr ⟨b,off,cap,hv,hlt,fun k hk=>?_⟩
   obtain ⟨h1,h2⟩:=hc k xs[k] (by simp [hk]);refine ⟨xs[k],by simp [hk],?_,h1⟩;have:=h2 0 (by decide);simpa [eI] using this
theorem RdI.open {w:World} {B:Nat} {v:Value} {xs:List Int} (h:RdI B w v xs):∃ ao cap,v=.slice ao xs.length cap /\
 (0<xs.length->∃ b off,ao=some ⟨b,off,none⟩/\(b<B/\b<w.heap.size)/\∀ k,k<xs.length->∃ x,xs[k]?=some x/\w.cell? ⟨b,off+k,none⟩=some (.int .i64 x)/\-9223372036854775808<=x/\x<=9223372036854775807):=by
 rcases h.cases with ⟨rfl,ao,cap,rfl,_⟩ | ⟨b,off,cap,rfl,hlt,hc⟩
 . exact ⟨ao,cap,rfl,fun h=>absurd h (by simp)⟩
 . exact ⟨_,cap,rfl,fun _=>⟨b,off,rfl,hlt,hc⟩⟩
theorem quiet_at {P:Program} {f:FuncId} {args:Array Value} {w:World} {m a:Nat} {v:Value} (h:Calls P f args (w.drewN (m+a)) fun e w'=>e=.returned v/\w.drewN (m+a)=w') :
 Calls P f args (w.drewN (m+a)) fun e w'=>e=.returned v/\∃ n,w'=w.drewN (m+n):=h.mono fun _ _ hh=>⟨hh.1,a,hh.2.symm⟩
theorem yBA {P:Program} {f:FuncId} {args:Array Value} {w:World} {a:Nat} {v:Value} (h:Calls P f args (w.drewN a) fun e w'=>e=.returned v/\w.drewN a=w') :
 Calls P f args (w.drewN a) fun e w'=>e=.returned v/\∃ n,w'=w.drewN n:=h.mono fun _ _ hh=>⟨hh.1,a,hh.2.symm⟩
theorem quiet_atN {P:Program} {f:FuncId} {args:Array Value} {w:World} {m a:Nat} {v:Value} (h:Calls P f args (w.drewN (m+a)) fun e w'=>e=.returned v/\∃ n,w'=(w.drewN (m+a)).drewN n) :
 Calls P f args (w.drewN (m+a)) fun e w'=>e=.returned v/\∃ n,w'=w.drewN (m+n):=h.mono fun _ _ ⟨h1,n,h2⟩=>⟨h1,a+n,by rw [h2,World.drewN_drewN,Nat.add_assoc]⟩
theorem quiet_atN0 {P:Program} {f:FuncId} {args:Array Value} {w:World} {a:Nat} {v:Value} (h:Calls P f args (w.drewN a) fun e w'=>e=.returned v/\∃ n,w'=(w.drewN a).drewN n) :
 Calls P f args (w.drewN a) fun e w'=>e=.returned v/\∃ n,w'=w.drewN n:=h.mono fun _ _ ⟨h1,n,h2⟩=>⟨h1,a+n,by rw [h2,World.drewN_drewN]⟩
theorem Own.ints {e:TypeId} {base:Nat} {w:World} {v:Value} {xs:List Int} (h:Own eI e base w v xs):w.ownsRow base e 1 v xs.length (xs.map (Value.int .i64)):=by rw [<- eI_all];exact h.1
theorem Own.ofInts {e:TypeId} {base:Nat} {w:World} {v:Value} {xs:List Int} (h:w.ownsRow base e 1 v xs.length (xs.map (Value.int .i64))) (hx:∀ x∈xs,eI.ok x):Own eI e base w v xs:=⟨by rw [eI_all];exact h,hx⟩
theorem yAC {a b:Bool} (h:a=b):Ending.returned (.bool a)=.returned (.bool b):=by rw [h]
theorem yAJ {k:IntKind} {a b:Int} (h:a=b):Ending.returned (.int k a)=.returned (.int k b):=by rw [h]
section
variable {α:Type}
theorem take_eq_succ {xs ys:List α} {k:Nat} {x y:α} (h:xs.take k=ys.take k) (hx:xs[k]?=some x) (hy:ys[k]?=some y) (e:x=y):xs.take (k+1)=ys.take (k+1):=by
 rw [List.take_add_one,List.take_add_one,h,hx,hy,e]
theorem ne_of_at {xs ys:List α} {k:Nat} {x y:α} (hx:xs[k]?=some x) (hy:ys[k]?=some y) (e:x ≠ y):xs ≠ ys:=by
 rintro rfl;rw [hx] at hy;exact e (zD hy)
theorem eq_of_take {xs ys:List α} {k n:Nat} (h:xs.take k=ys.take k) (hx:n=xs.length) (hy:xs.length=ys.length) (hk:k<=n) (hn:¬ k<n):xs=ys:=by
 rw [zH (by omega),zH (by omega)] at h;exact h
theorem ne_of_length {xs ys:List α} (h:¬ xs.length=ys.length):xs ≠ ys:=by rintro rfl;exact h rfl
theorem yBG {xs:List α} {k:Nat} {x:α} (h:xs[k]?=some x):k<xs.length:=(zS.1 h).1
theorem yAD {xs:List α} {k:Nat} {x:α} (h:xs[k]?=some x):xs.take (k+1)=xs.take k++[x]:=by
 rw [List.take_add_one,h];rfl
end
theorem ownsRow_append {P:Program} {w:World} {base:Nat} {t ty e:TypeId} {i:TypeInfo} {z:Value} {size bytes:Nat} (ht:P.underlying t=some (.slice e)) (hi:P.info? e=some i) (hz:i.zero=some z)
 (hsize:i.size=size) (hby:i.bytes=bytes) (hzs:z.cells.size=size) (hsz:0<size) {v:Value} {n:Nat} {xs:List Value} (hown:w.ownsRow base e size v n xs)
 (a:Addr) (m c:Nat) (news:List Value) (hl:news.length=m * size) (hnews:∀ j u,news[j]?=some u->w.cell? (a.add j)=some u) (h1:∀ u∈news,u.oneCell'=true)
 (h63:n+m<=maxLen) (hbytes:(n+m) * bytes<=140737488355328) (hbase:base<=w.heap.size) :
 ∃ v' w',(Builtin.append_ #[t,t] ty #[v,.slice (some a) m c]).run P w=.ok v' w'/\w'.ownsRow base e size v' (n+m) (xs++news)/\w.grownBy w' v.ownBlock /\
  (v'.ownBlock=v.ownBlock\/∃ k,v'.ownBlock=some k/\w.heap.size<=k):=by
 obtain ⟨v',w',hr,h2,h3,h4⟩:=run_append_own (P:=P) w base t ty e i z size bytes ht hi hz hsize hby hzs hsz v n xs hown a m c news hl hnews h1 h63 hbytes hbase;refine ⟨v',w',hr,h2,h3,?_⟩;subst hsize;subst hby;have h63':((n+m:Nat):Int)<=9223372036854775807:=by unfold maxLen at h63;omega
 rcases hown.2 with ⟨rfl,rfl⟩ | ⟨g,cap,cur,rfl,hbg,hg,hnc,hcm,hcs,htake⟩
 . by_cases hm:m=0
   . left
     rw [h4.2 ⟨rfl,hm⟩]
   . have hr2:=run_append_nil (P:=P) w t ty e i z ht hi hz a m c news hl hnews (by omega) (by omega) (by simp only [Nat.zero_add] at hbytes;omega)
     rw [hr2] at hr;injection hr with hv hw;right;exact ⟨w.heap.size,by rw [<- hv];rfl,zA _⟩
 . by_cases hroom:n+m<=cap
   . have hfit:n * i.size+news.length<=cur.size:=by rw [hl,hcs,<- Nat.add_mul];exact Nat.mul_le_mul_right _ hroom
     have hr2:=run_append_room (P:=P) w t ty e i ht hi g n cap cur hg a m c news hl hnews h1 hroom hfit;rw [hr2] at hr;injection hr with hv hw;left;rw [<- hv];rfl
   . have holds:∀ j u,xs[j]?=some u->w.cell? ((⟨g,0,none⟩:Addr).add j)=some u:=hown.cells (g:=g) rfl
     have hr2:=run_append_grow (P:=P) w t ty e i z ht hi hz ⟨g,0,none⟩ n cap xs hown.1 holds a m c news hl hnews (by omega) h63' (growslice_fits (by omega) hbytes);rw [hr2] at hr;injection hr with hv hw;right;exact ⟨w.heap.size,by rw [<- hv];rfl,zA _⟩
section
variable {α:Type} {E:Elt α}
def Grew (w w':World) (v v':Value):Prop:=w.grownBy w' v.ownBlock/\(v'.ownBlock=v.ownBlock\/∃ k,v'.ownBlock=some k/\w.heap.size<=k)
theorem run_appS {P:Program} {w:World} {base:Nat} {t ty e:TypeId} {i:TypeInfo} {z:Value} {bytes B:Nat} (ht:P.underlying t=some (.slice e)) (hi:P.info? e=some i) (hz:i.zero=some z)
 (hsize:i.size=E.sz) (hby:i.bytes=bytes) (hzs:z.cells.size=E.sz) (hsz:0<E.sz) {v u:Value} {xs ys:List α} (hown:Own E e base w v xs) (hu:Rds E B w u ys)
 (h63:xs.length+ys.length<=maxLen) (hbytes:(xs.length+ys.length) * bytes<=140737488355328) (hbase:base<=w.heap.size) :
 ∃ v' w',(Builtin.append_ #[t,t] ty #[v,u]).run P w=.ok v' w'/\Own E e base w' v' (xs++ys)/\Grew w w' v v':=by
 have hok:∀ x∈xs++ys,E.ok x:=fun x hx=>(List.mem_append.1 hx).elim (hown.2 x) (hu.2 x);have some_case:∀ (a:Addr) (c:Nat),u=.slice (some a) ys.length c->(∀ j x,(E.all ys)[j]?=some x->w.cell? (a.add j)=some x) ->
  ∃ v' w',(Builtin.append_ #[t,t] ty #[v,u]).run P w=.ok v' w'/\Own E e base w' v' (xs++ys)/\Grew w w' v v':=by
  intro a c hv hc;subst hv;obtain ⟨v',w',h1,h2,h3,h4⟩:=ownsRow_append (P:=P) (ty:=ty) ht hi hz hsize hby hzs hsz hown.1 a ys.length c (E.all ys) (E.all_length _) hc (E.all_oneCell _) h63 hbytes hbase;refine ⟨v',w',h1,⟨?_,hok⟩,h3,h4⟩;rw [E.all_append,zE];exact h2
 rcases hu.1.2.2 with ⟨h0,ao,cap,rfl,hcap⟩ | ⟨b,off,cap,rfl,hcp,hlt,hlt',hc⟩
 . obtain rfl:ys=[]:=List.eq_nil_of_length_eq_zero h0
   cases ao with
   | none =>
    obtain rfl:=hcap rfl;refine ⟨v,w,run_append_owned_none (P:=P) w base t ty e i E.sz ht hi v xs.length (E.all xs) hown.1,by rw [List.append_nil];exact hown,World.grownBy.refl _ _,Or.inl rfl⟩
   | some a=>exact some_case a cap rfl (fun j x hx=>by simp [Elt.all] at hx)
 . refine some_case ⟨b,off,none⟩ cap rfl (fun j x hx=>?_)
   have hj:j<ys.length * E.sz:=by have:=(zS.1 hx).1;rwa [E.all_length] at this
   rw [Addr.add_lit,hc j hj];exact hx
theorem yAB {P:Program} {ops:Array Oper} {rest:List Oper} {o:Oper} {a:Act} {Q:Exit->Act->World->Prop} {w:World} (hgd:o.guard=none) (s x:Operand) (t:TypeId)
 (ho:o.op=.call { callee:=.builtin .append,args:=#[s,x],argTypes:=#[t,t] })
 {base:Nat} {e:TypeId} {i:TypeInfo} {z:Value} {bytes B:Nat} (ht:P.underlying t=some (.slice e)) (hi:P.info? e=some i) (hz:i.zero=some z)
 (hsize:i.size=E.sz) (hby:i.bytes=bytes) (hzs:z.cells.size=E.sz) (hsz:0<E.sz) {v u:Value} {xs ys:List α} (hs:a.eval s=v) (hx:a.eval x=u) (hown:Own E e base w v xs) (hu:Rds E B w u ys)
 (h63:xs.length+ys.length<=maxLen) (hbytes:(xs.length+ys.length) * bytes<=140737488355328) (hbase:base<=w.heap.size)
 (h:∀ v' w',Own E e base w' v' (xs++ys)->Grew w w' v v'->wpList P ops Q rest (a.put o.dst v') w'):wpList P ops Q (o :: rest) a w:=by
 refine wpList_plain hgd fun K hK=>?_;obtain ⟨v',w',hr,h2,h3⟩:=run_appS (P:=P) (ty:=o.type) ht hi hz hsize hby hzs hsz hown hu h63 hbytes hbase;unfold Oper.wp execOp;simp only [ho,resolve,invoke,builtin,Sem.run_bind,Sem.run_pure,Result.andThen_ok,List.map_toArray,List.map_cons,List.map_nil,hs,hx,hr];exact hK _ _ (h v' w' h2 h3)
theorem Grew.below {w w' a:World} {v v':Value} {B:Nat} (h:Grew w w' v v') (hb:Below B a w) (hB:B<=w.heap.size) (hv:∀ k,v.ownBlock=some k->B<=k):Below B a w':=hb.grown h.1 hB hv
theorem Own.lit {e:TypeId} {base:Nat} {w:World} {xs:List α} {cs:Array Value} {n:Nat} (hb:base<=w.heap.size) (hcs:cs=(E.all xs).toArray) (hn:n=xs.length) (hm:n<=maxLen) (hok:∀ x∈xs,E.ok x) :
 Own E e base (w.alloc (.cells cs e)) (.slice (some ⟨w.heap.size,0,none⟩) n n) xs:=by
 subst hcs;subst hn;refine ⟨?_,hok⟩;have:=World.ownsRow_lit (size:=E.sz) (e:=e) w (E.all xs).toArray xs.length hb hm (by rw [List.size_toArray];exact E.all_length _);simpa using this
theorem yAH {e:TypeId} {w:World} {x:α} {cs:Array Value} (hx:E.ok x) (hcs:cs=(E.cells x).toArray):Rds E (w.heap.size+1) (w.alloc (.cells cs e)) (.slice (some ⟨w.heap.size,0,none⟩) 1 1) [x] :=
 (Own.lit (e:=e) (base:=0) (xs:=[x]) (zK _) (by rw [E.all_one];exact hcs) rfl (by simp [maxLen]) (fun y hy=>by simp at hy;subst hy;exact hx)).rds.mono (by simp)
theorem Own.alloc {e:TypeId} {base:Nat} {w:World} {v:Value} {xs:List α} (h:Own E e base w v xs) (o:Obj):Own E e base (w.alloc o) v xs:=⟨h.1.alloc o,h.2⟩
end
theorem Own.addr {α:Type} {E:Elt α} {e:TypeId} {base:Nat} {w:World} {v:Value} {xs:List α} (h:Own E e base w v xs) (h0:0<xs.length):∃ g cap,v=.slice (some ⟨g,0,none⟩) xs.length cap/\base<=g/\g<w.heap.size:=by
 rcases h.1.2 with ⟨rfl,hn⟩ | ⟨g,cap,cur,rfl,hbg,hg,_⟩
 . omega
 . exact ⟨g,cap,rfl,hbg,(Array.getElem?_eq_some_iff.1 hg).1⟩
theorem Own.storeI {e:TypeId} {base g n cap k:Nat} {w:World} {xs:List Int} {x:Int} (h:Own eI e base w (.slice (some ⟨g,0,none⟩) n cap) xs) (hn:n=xs.length) (hk:k<n) (hx:eI.ok x) :
 (∃ y,w.cell? ⟨g,k,none⟩=some (.int .i64 y))/\w.frozen? ⟨g,k,none⟩=false/\Own eI e base (w.setCell ⟨g,k,none⟩ (.int .i64 x)) (.slice (some ⟨g,0,none⟩) n cap) (xs.set k x)/\w.grownBy (w.setCell ⟨g,k,none⟩ (.int .i64 x)) (some g):=by
 subst hn;have hi:=h.ints;have hst:=hi.stored k (.int .i64 x);refine ⟨⟨xs[k],?_⟩,hi.frozenAt k,Own.ofInts ?_ ?_,hst.2⟩
 . rw [hi.cellAt k (by omega)];simp [hk]
 . rw [List.length_set,List.map_set];exact hst.1
 . intro y hy
   rcases List.mem_or_eq_of_mem_set hy with hy | rfl
   . exact h.2 y hy
   . exact hx
theorem Grew.alloc {w w':World} {o:Obj} {v v':Value} (h:Grew (w.alloc o) w' v v'):Grew w w' v v':=by
 refine ⟨yAA (World.grownBy_alloc w o _) h.1,h.2.imp id fun ⟨k,h1,h2⟩=>⟨k,h1,?_⟩⟩;have:(w.alloc o).heap.size=w.heap.size+1:=by simp
 omega
end Go.Proofs.YtmindpfmgnnieaaGreatDoor
