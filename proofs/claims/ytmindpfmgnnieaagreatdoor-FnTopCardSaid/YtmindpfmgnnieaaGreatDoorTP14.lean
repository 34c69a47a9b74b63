/- Lemmas on the way to the law FnTop. No condition. -/
import Derived.Test.YtmindpfmgnnieaaGreatDoorTP13
import Derived.Test.YtmindpfmgnnieaaGreatDoorTP3
import Derived.Deep.Matrix
import Derived.Test.YtmindpfmgnnieaaGreatDoorTP2
namespace Go.Proofs.YtmindpfmgnnieaaGreatDoor
set_option linter.unusedSimpArgs false
open Go.ChangeShapes Go.WideShapes Go.ChangeAt Go.RowKit
set_option linter.unusedVariables false
set_option maxRecDepth 100000
structure SlV where
 ao:Option Addr
 n:Nat
 cap:Nat
def SlV.val (h:SlV):Value:=.slice h.ao h.n h.cap
def eS:Elt SlV:={ sz:=1,cells:=fun h=>[h.val],ok:=fun _=>True,len:=fun _=>rfl,one:=fun x u hu=>by simp at hu;subst hu;rfl }
def RdInt64SS (B:Nat) (w:World) (v:Value) (xss:List (List Int)):Prop :=
 ∃ hs,Rds eS B w v hs/\hs.length=xss.length/\∀ (i:Nat) (h:SlV) (xs:List Int),hs[i]?=some h->xss[i]?=some xs->RdI B w h.val xs
theorem RdInt64SS.below {B B':Nat} {w w':World} {v:Value} {xss:List (List Int)} (h:RdInt64SS B w v xss) (hb:Below B' w w') (hB:B<=B'):RdInt64SS B w' v xss:=by
 obtain ⟨hs,h1,h2,h3⟩:=h;exact ⟨hs,h1.below hb hB,h2,fun i h xs e1 e2=>(h3 i h xs e1 e2).below hb hB⟩
theorem RdInt64SS.mono {B B':Nat} {w:World} {v:Value} {xss:List (List Int)} (h:RdInt64SS B w v xss) (hB:B<=B'):RdInt64SS B' w v xss:=by
 obtain ⟨hs,h1,h2,h3⟩:=h;exact ⟨hs,h1.mono hB,h2,fun i h xs e1 e2=>(h3 i h xs e1 e2).mono hB⟩
theorem RdInt64SS.tight {B:Nat} {w:World} {v:Value} {xss:List (List Int)} (h:RdInt64SS B w v xss):RdInt64SS w.heap.size w v xss:=by
 obtain ⟨hs,h1,h2,h3⟩:=h;exact ⟨hs,h1.tight,h2,fun i h xs e1 e2=>(h3 i h xs e1 e2).tight⟩
theorem RdInt64SS.onn {B:Nat} {w w':World} {v:Value} {xss:List (List Int)} (h:RdInt64SS B w v xss) (hb:Below w.heap.size w w'):RdInt64SS w'.heap.size w' v xss:=(h.tight.below hb (zA _)).mono hb.size
theorem RdInt64SS.le {B:Nat} {w:World} {v:Value} {xss:List (List Int)} (h:RdInt64SS B w v xss):xss.length<=9223372036854775807:=by
 obtain ⟨hs,h1,h2,_⟩:=h;rw [<- h2];exact h1.le
theorem RdInt64SS.shape {B:Nat} {w:World} {v:Value} {xss:List (List Int)} (h:RdInt64SS B w v xss):∃ ao cap,v=.slice ao xss.length cap:=by
 obtain ⟨hs,h1,h2,_⟩:=h;rw [<- h2];exact h1.shape
theorem RdInt64SS.open {B:Nat} {w:World} {v:Value} {xss:List (List Int)} (h:RdInt64SS B w v xss):∃ ao cap,v=.slice ao xss.length cap /\
 (0<xss.length->∃ b off,ao=some ⟨b,off,none⟩/\(b<B/\b<w.heap.size)/\∀ k,k<xss.length->∃ xs ro rc,xss[k]?=some xs/\w.cell? ⟨b,off+k,none⟩=some (.slice ro xs.length rc)/\RdI B w (.slice ro xs.length rc) xs):=by
 obtain ⟨hs,h1,h2,h3⟩:=h;rcases Rds.cases h1 with ⟨h0,ao,cap,rfl,_⟩ | ⟨b,off,cap,rfl,hlt,hc⟩
 . have:xss.length=0:=by rw [<- h2,h0];rfl
   exact ⟨ao,cap,by rw [this],fun h=>by omega⟩
 . refine ⟨_,cap,by rw [h2],fun _=>⟨b,off,rfl,hlt,fun k hk=>?_⟩⟩
   have e1:hs[k]?=some (hs[k]'(by omega)):=zF (by omega);have e2:xss[k]?=some xss[k]:=zF hk;generalize hs[k]'(by omega)=h at e1;generalize xss[k]=xs at e2;have h4:=h3 k h xs e1 e2;obtain ⟨ao,cp,hs4⟩:=h4.shape;have h5:=(hc k h e1).2 0 (by decide);refine ⟨xs,ao,cp,e2,?_,by rw [<- hs4];exact h4⟩;have h6:w.cell? ⟨b,off+(k * 1+0),none⟩=some h.val:=h5;rw [Nat.mul_one,Nat.add_zero,hs4] at h6;exact h6
def Apart (v v':Value):Prop:=∀ g,v.ownBlock=some g->v'.ownBlock ≠ some g
theorem Apart.kept {v v':Value} (h:Apart v v'):v'.ownBlock=none\/v'.ownBlock ≠ v.ownBlock:=by
 cases hv:v.ownBlock with
 | none=>cases h':v'.ownBlock with
  | none=>exact .inl rfl
  | some g=>exact .inr (by simp)
 | some g=>exact .inr (h g hv)
theorem OwnT.mono {α:Type} {E:Elt α} {e:TypeId} {base tp tp':Nat} {w:World} {v:Value} {xs:List α} (h:OwnT E e base tp w v xs) (ht:tp<=tp'):OwnT E e base tp' w v xs:=⟨h.1,fun k hk=>zM (h.2 k hk) ht⟩
theorem OwnT.keep {α:Type} {E:Elt α} {e:TypeId} {base tp:Nat} {w w':World} {v:Value} {xs:List α} {row:Option Nat} (h:OwnT E e base tp w v xs) (hg:w.grownBy w' row) (hne:v.ownBlock=none\/v.ownBlock ≠ row):OwnT E e base tp w' v xs:=⟨h.1.kept hg hne,h.2⟩
def OwnTM (e:TypeId) (base tp:Nat) (w:World) (v:Value) (xss:List (List Int)):Prop :=
 ∃ hs:List SlV,OwnT eS e base tp w v hs/\hs.length=xss.length/\(∀ (i:Nat) (h:SlV) (xs:List Int),hs[i]?=some h->xss[i]?=some xs->OwnT eI 2 base tp w h.val xs) /\
  (∀ (i:Nat) (h:SlV),hs[i]?=some h->Apart v h.val)/\∀ (i j:Nat) (h h':SlV),i ≠ j->hs[i]?=some h->hs[j]?=some h'->Apart h.val h'.val
section
variable {e:TypeId} {base tp tp' B lo hi:Nat} {w w':World} {v:Value} {xss:List (List Int)}
theorem OwnTM.mono (h:OwnTM e base tp w v xss) (ht:tp<=tp'):OwnTM e base tp' w v xss:=by
 obtain ⟨hs,h1,h2,h3,h4⟩:=h;exact ⟨hs,h1.mono ht,h2,fun i x xs e1 e2=>(h3 i x xs e1 e2).mono ht,h4⟩
theorem OwnTM.below (h:OwnTM e base tp w v xss) (hb:Below B w w') (hB:tp<=B):OwnTM e base tp w' v xss:=by
 obtain ⟨hs,h1,h2,h3,h4⟩:=h;exact ⟨hs,h1.below hb hB,h2,fun i x xs e1 e2=>(h3 i x xs e1 e2).below hb hB,h4⟩
theorem OwnTM.within (h:OwnTM e base tp w v xss) (hw:Within lo hi w w') (hhi:hi<=base):OwnTM e base tp w' v xss:=by
 obtain ⟨hs,h1,h2,h3,h4⟩:=h;exact ⟨hs,h1.within hw hhi,h2,fun i x xs e1 e2=>(h3 i x xs e1 e2).within hw hhi,h4⟩
theorem OwnTM.rds (h:OwnTM e base tp w v xss):RdInt64SS tp w v xss:=by
 obtain ⟨hs,h1,h2,h3,_⟩:=h;exact ⟨hs,h1.rds,h2,fun i x xs e1 e2=>(h3 i x xs e1 e2).rds⟩
theorem OwnTM.shape (h:OwnTM e base tp w v xss):∃ ao cap,v=.slice ao xss.length cap:=h.rds.shape
theorem OwnTM.addr (h:OwnTM e base tp w v xss) (h0:0<xss.length):∃ g cap,v=.slice (some ⟨g,0,none⟩) xss.length cap/\base<=g/\g<tp/\g<w.heap.size:=by
 obtain ⟨hs,h1,h2,_⟩:=h;obtain ⟨g,cap,hv,h3,h4⟩:=h1.1.addr (by omega);exact ⟨g,cap,by rw [<- h2];exact hv,h3,h1.2 g (by rw [hv];rfl),h4⟩
end
theorem Tryz.infoSlI:(Tryz.prog.info? 48).map (fun i=>(i.zero,i.size,i.bytes))=some (some (.slice none 0 0),1,24):=by kernel_rfl
section
variable {α:Type} {E:Elt α} {er e:TypeId} {base rb tp tp' B:Nat} {w w':World} {v u:Value} {xss:List (List α)} {xs:List α}
def BldG (E:Elt α) (er e:TypeId) (base rb tp:Nat) (w:World) (v:Value) (xss:List (List α)):Prop :=
 ∃ hs:List SlV,OwnT eS e base tp w v hs/\hs.length=xss.length/\(∀ (i:Nat) (h:SlV) (xs:List α),hs[i]?=some h->xss[i]?=some xs->OwnT E er rb tp w h.val xs) /\
  (∀ (i:Nat) (h:SlV),hs[i]?=some h->Apart v h.val)/\∀ (i j:Nat) (h h':SlV),i ≠ j->hs[i]?=some h->hs[j]?=some h'->Apart h.val h'.val
theorem BldG.mono (h:BldG E er e base rb tp w v xss) (ht:tp<=tp'):BldG E er e base rb tp' w v xss:=by
 obtain ⟨hs,h1,h2,h3,h4⟩:=h;exact ⟨hs,h1.mono ht,h2,fun i x xs e1 e2=>(h3 i x xs e1 e2).mono ht,h4⟩
theorem BldG.below (h:BldG E er e base rb tp w v xss) (hb:Below B w w') (hB:tp<=B):BldG E er e base rb tp w' v xss:=by
 obtain ⟨hs,h1,h2,h3,h4⟩:=h;exact ⟨hs,h1.below hb hB,h2,fun i x xs e1 e2=>(h3 i x xs e1 e2).below hb hB,h4⟩
theorem BldG.keep {row:Option Nat} (h:BldG E er e base rb tp w v xss) (hg:w.grownBy w' row) (hv:v.ownBlock=none\/v.ownBlock ≠ row) (hr:∀ k,row=some k->k<rb\/tp<=k):BldG E er e base rb tp w' v xss:=by
 obtain ⟨hs,h1,h2,h3,h4⟩:=h;refine ⟨hs,h1.keep hg hv,h2,fun i x xs e1 e2=>?_,h4⟩;have h5:=h3 i x xs e1 e2;refine h5.keep hg ?_;cases hb:x.val.ownBlock with
 | none=>exact .inl rfl
 | some k =>
  right;intro hh;have h6:=hr k hh.symm;have h7:=(h5.1.lt k hb).1;have h8:=h5.2 k hb;omega
theorem BldG.empty (hv:v=.slice (some ⟨B,0,none⟩) 0 0) (ho:Own eS e base w v []) (ht:B<tp):BldG E er e base rb tp w v ([]:List (List α)):=by
 subst hv;exact ⟨[],⟨ho,fun k hk=>by cases hk;exact ht⟩,rfl,fun i h xs e1=>by simp at e1,fun i h e1=>by simp at e1,fun i j h h' _ e1=>by simp at e1⟩
theorem BldG.shape (h:BldG E er e base rb tp w v xss):∃ ao cap,v=.slice ao xss.length cap:=by
 obtain ⟨hs,h1,h2,_⟩:=h;rw [<- h2];exact h1.1.shape
theorem BldG.app (h:BldG E er e base rb tp w v xss) (hu:Own E er tp w u xs) (hrb:rb<=tp) (htp:tp<=w.heap.size) :
 ∃ (hs:List SlV) (x:SlV),x.val=u/\eS.ok x/\hs.length=xss.length/\Own eS e base w v hs /\
  ∀ w' v',Own eS e base w' v' (hs++[x])->Grew w w' v v'->BldG E er e base rb w'.heap.size w' v' (xss++[xs]):=by
 obtain ⟨hs,h1,h2,h3,h4,h5⟩:=h;obtain ⟨ao,c,hu2⟩:=hu.shape;refine ⟨hs,⟨ao,xs.length,c⟩,hu2.symm,trivial,h2,h1.1,fun w' v' ho hg=>?_⟩;have hval:SlV.val ⟨ao,xs.length,c⟩=u:=hu2.symm;have hul:=hu.lt;have hvu:Apart v u:=fun g h6 h7=>by have:=hul g h7;have:=h1.2 g h6;omega
 have hrl:∀ (i:Nat) (x:SlV),hs[i]?=some x->∀ k,x.val.ownBlock=some k->k<tp:=by
  intro i x e1 k hk;have hi:i<xss.length:=by rw [<- h2];exact yBG e1
  exact (h3 i x (xss[i]'hi) e1 (zF hi)).2 k hk
 have hnew:∀ (y:Value),(∀ k,y.ownBlock=some k->k<w.heap.size)->Apart v y->Apart v' y:=by
  intro y hy ha g h6 h7;rcases hg.2 with h8 | ⟨k,h8,h9⟩
  . exact ha g (by rw [<- h8];exact h6) h7
  . have:=hy g h7
    rw [h6] at h8;cases h8;omega
 have hrow:∀ (i:Nat) (x:SlV),hs[i]?=some x->Apart x.val u:=fun i x e1 g h6 h7=>by
  have:=hul g h7;have:=hrl i x e1 g h6;omega
 have hsz:=hg.1.size;refine ⟨hs++[⟨ao,xs.length,c⟩],ho.top,by simp [h2],?_,?_,?_⟩
 . intro i x ys e1 e2
   rcases Nat.lt_or_ge i hs.length with hi | hi
   . rw [zL hi] at e1
     rw [zL (by omega)] at e2;exact ((h3 i x ys e1 e2).keep hg.1 (h4 i x e1).kept).mono (by omega)
   . rw [zJ hi] at e1
     rw [zJ (by omega)] at e2;have h0:i - hs.length=0:=by have:=yBG e1;simp at this;omega
     rw [h0] at e1;rw [show i - xss.length=0 by omega] at e2;cases e1;cases e2;rw [hval];exact (((hu.mono hrb).kept hg.1 hvu.kept).top)
 . intro i x e1
   rcases Nat.lt_or_ge i hs.length with hi | hi
   . rw [zL hi] at e1
     exact hnew _ (fun k hk=>by have:=hrl i x e1 k hk;omega) (h4 i x e1)
   . rw [zJ hi] at e1
     have h0:i - hs.length=0:=by have:=yBG e1;simp at this;omega
     rw [h0] at e1;cases e1;rw [hval];exact hnew _ (fun k hk=>(hul k hk).2) hvu
 . intro i j x y hij e1 e2
   rcases Nat.lt_or_ge i hs.length with hi | hi
   . rw [zL hi] at e1
     rcases Nat.lt_or_ge j hs.length with hj | hj
     . rw [zL hj] at e2
       exact h5 i j x y hij e1 e2
     . rw [zJ hj] at e2
       have h0:j - hs.length=0:=by have:=yBG e2;simp at this;omega
       rw [h0] at e2;cases e2;rw [hval];exact hrow i x e1
   . rw [zJ hi] at e1
     have h0:i - hs.length=0:=by have:=yBG e1;simp at this;omega
     rw [h0] at e1;cases e1;rcases Nat.lt_or_ge j hs.length with hj | hj
     . rw [zL hj] at e2
       rw [hval];intro g h6 h7;exact hrow j y e2 g h7 h6
     . have:=yBG e2
       simp at this;omega
end
theorem BldG.toM {e:TypeId} {base rb tp:Nat} {w:World} {v:Value} {xss:List (List Int)} (h:BldG eI 2 e base rb tp w v xss) (hr:base<=rb):OwnTM e base tp w v xss:=by
 obtain ⟨hs,h1,h2,h3,h4⟩:=h;exact ⟨hs,h1,h2,fun i x xs e1 e2=>⟨(h3 i x xs e1 e2).1.mono hr,(h3 i x xs e1 e2).2⟩,h4⟩
structure RowK {β:Type} (R:Nat->World->Value->List β->Prop):Prop where
 below:∀ {B B':Nat} {w w':World} {v:Value} {x:List β},R B w v x->Below B' w w'->B<=B'->R B w' v x
 mono:∀ {B B':Nat} {w:World} {v:Value} {x:List β},R B w v x->B<=B'->R B' w v x
 tight:∀ {B:Nat} {w:World} {v:Value} {x:List β},R B w v x->R w.heap.size w v x
 shape:∀ {B:Nat} {w:World} {v:Value} {x:List β},R B w v x->∃ ao cap,v=.slice ao x.length cap
def RdL {β:Type} (R:Nat->World->Value->List β->Prop) (B:Nat) (w:World) (v:Value) (xs:List (List β)):Prop :=
 ∃ hs,Rds eS B w v hs/\hs.length=xs.length/\∀ (i:Nat) (h:SlV) (x:List β),hs[i]?=some h->xs[i]?=some x->R B w h.val x
section
variable {β:Type} {R:Nat->World->Value->List β->Prop} {B B':Nat} {w w':World} {v:Value} {xs:List (List β)}
theorem RdL.below (K:RowK R) (h:RdL R B w v xs) (hb:Below B' w w') (hB:B<=B'):RdL R B w' v xs:=by
 obtain ⟨hs,h1,h2,h3⟩:=h;exact ⟨hs,h1.below hb hB,h2,fun i h xs e1 e2=>K.below (h3 i h xs e1 e2) hb hB⟩
theorem RdL.mono (K:RowK R) (h:RdL R B w v xs) (hB:B<=B'):RdL R B' w v xs:=by
 obtain ⟨hs,h1,h2,h3⟩:=h;exact ⟨hs,h1.mono hB,h2,fun i h xs e1 e2=>K.mono (h3 i h xs e1 e2) hB⟩
theorem RdL.tight (K:RowK R) (h:RdL R B w v xs):RdL R w.heap.size w v xs:=by
 obtain ⟨hs,h1,h2,h3⟩:=h;exact ⟨hs,h1.tight,h2,fun i h xs e1 e2=>K.tight (h3 i h xs e1 e2)⟩
theorem RdL.onn (K:RowK R) (h:RdL R B w v xs) (hb:Below w.heap.size w w'):RdL R w'.heap.size w' v xs:=RdL.mono K (RdL.below K (RdL.tight K h) hb (zA _)) hb.size
theorem RdL.le (h:RdL R B w v xs):xs.length<=9223372036854775807:=by
 obtain ⟨hs,h1,h2,_⟩:=h;rw [<- h2];exact h1.le
theorem RdL.shape (h:RdL R B w v xs):∃ ao cap,v=.slice ao xs.length cap:=by
 obtain ⟨hs,h1,h2,_⟩:=h;rw [<- h2];exact h1.shape
theorem RdL.open (K:RowK R) (h:RdL R B w v xs):∃ ao cap,v=.slice ao xs.length cap /\
 (0<xs.length->∃ b off,ao=some ⟨b,off,none⟩/\(b<B/\b<w.heap.size)/\∀ k,k<xs.length->∃ x ro rc,xs[k]?=some x/\w.cell? ⟨b,off+k,none⟩=some (.slice ro x.length rc)/\R B w (.slice ro x.length rc) x):=by
 obtain ⟨hs,h1,h2,h3⟩:=h;rcases Rds.cases h1 with ⟨h0,ao,cap,rfl,_⟩ | ⟨b,off,cap,rfl,hlt,hc⟩
 . have:xs.length=0:=by rw [<- h2,h0];rfl
   exact ⟨ao,cap,by rw [this],fun h=>by omega⟩
 . refine ⟨_,cap,by rw [h2],fun _=>⟨b,off,rfl,hlt,fun k hk=>?_⟩⟩
   have e1:hs[k]?=some (hs[k]'(by omega)):=zF (by omega);have e2:xs[k]?=some xs[k]:=zF hk;generalize hs[k]'(by omega)=h at e1;generalize xs[k]=x at e2;have h4:=h3 k h x e1 e2;obtain ⟨ro,rc,hv⟩:=K.shape h4;have h5:=(hc k h e1).2 0 (by decide);refine ⟨x,ro,rc,e2,?_,by rw [<- hv];exact h4⟩;simpa [show eS.sz=1 from rfl,show eS.cells h=[h.val] from rfl,hv] using h5
end
theorem rowK_D:RowK (fun B w v (x:List (List Int))=>RdInt64SS B w v x):=⟨fun h=>h.below,fun h=>h.mono,fun h=>h.tight,fun h=>h.shape⟩
abbrev RdDs (B:Nat) (w:World) (v:Value) (ds:List (List (List Int))):Prop:=RdL (fun B w v (x:List (List Int))=>RdInt64SS B w v x) B w v ds
theorem RdDs.lit {w:World} {ds:List (List (List Int))} {hs:List SlV} {cs:Array Value} {n:Nat} (hcs:cs=(eS.all hs).toArray) (hn:n=ds.length) (hl:hs.length=ds.length) (hm:n<=1000) (e:TypeId)
 (hr:∀ (i:Nat) (h:SlV) (x:List (List Int)),hs[i]?=some h->ds[i]?=some x->RdInt64SS w.heap.size w h.val x) :
 RdDs (w.alloc (.cells cs e)).heap.size (w.alloc (.cells cs e)) (.slice (some ⟨w.heap.size,0,none⟩) n n) ds:=by
 have hb:Below w.heap.size w (w.alloc (.cells cs e)):=(zB _ _).alloc (zA _) _;have ho:=Own.lit (E:=eS) (e:=e) (base:=w.heap.size) (w:=w) (xs:=hs) (cs:=cs) (n:=n) (zA _) hcs (by omega) (by unfold maxLen;omega) (fun x _=>trivial);exact ⟨hs,ho.rds,hl,fun i h x e1 e2=>(hr i h x e1 e2).onn hb⟩
end Go.Proofs.YtmindpfmgnnieaaGreatDoor
