/- Lemmas on the way to the law FnTop. No condition. -/
import Derived.Test.YtmindpfmgnnieaaGreatDoorRows
import Derived.Test.YtmindpfmgnnieaaGreatDoorTP2
import Derived.Deep.Slices
import Derived.Deep.Fields
import Derived.ChangeSame
import Derived.Lib.SmallJoins
import Derived.StillTailTactics
import Derived.Deep.DeepCutAuto
import Derived.Laws.StructEq
import Derived.Test.YtmindpfmgnnieaaGreatDoorTP3
namespace Go.Proofs.YtmindpfmgnnieaaGreatDoor
set_option maxHeartbeats 1000000
set_option linter.unusedSimpArgs false
open Lib (hid)
open Go.ChangeShapes Go.WideShapes Go.ChangeAt Go.RowKit Go.Deep Go.Joins
set_option linter.unusedVariables false
set_option maxRecDepth 100000
def setRun:List Value->Nat->List Value->List Value
 | l,_,[]=>l
 | l,i,c :: cs=>setRun (l.set i c) (i+1) cs
theorem setRun_get:∀ (cs l:List Value) (i j:Nat),(setRun l i cs)[j]?=if i<=j/\j<i+cs.length/\j<l.length then cs[j - i]? else l[j]?:=by
 intro cs;induction cs with
 | nil=>intro l i j;rw [setRun,if_neg (by simp;omega)]
 | cons c cs ih =>
  intro l i j;rw [setRun,ih,List.length_set,List.getElem?_set];by_cases h1:i+1<=j/\j<i+1+cs.length/\j<l.length
  . rw [if_pos h1,if_pos ⟨by omega,by simp;omega,h1.2.2⟩]
    have:j - i=(j - (i+1))+1:=by omega
    rw [this,List.getElem?_cons_succ]
  . rw [if_neg h1]
    by_cases h2:i=j
    . subst h2
      rw [if_pos rfl];by_cases h3:i<l.length
      . rw [if_pos h3,if_pos ⟨zA _,by simp,h3⟩];simp
      . rw [if_neg h3,if_neg (fun h=>h3 h.2.2),List.getElem?_eq_none (by omega)]
    . rw [if_neg h2,if_neg (fun h=>h1 ⟨by omega,by have:=h.2.1;simp at this;omega,h.2.2⟩)]
def setRunW:World->Nat->Nat->List Value->World
 | w,_,_,[]=>w
 | w,g,i,c :: cs=>setRunW (w.setCell ⟨g,i,none⟩ c) g (i+1) cs
section
variable {α:Type} {E:Elt α}
theorem Elt.all_set (hz:0<E.sz) {xs:List α} {k:Nat} {x:α} (hk:k<xs.length):setRun (E.all xs) (k * E.sz) (E.cells x)=E.all (xs.set k x):=by
 apply List.ext_getElem?;intro j;rw [setRun_get,E.len,E.all_length];have hj:j=(j / E.sz) * E.sz+j % E.sz:=by have:=Nat.div_add_mod j E.sz;rw [Nat.mul_comm] at this;omega
 have hm:=Nat.mod_lt j hz;by_cases h:j<xs.length * E.sz
 . have hq:j / E.sz<xs.length:=Nat.div_lt_of_lt_mul (by rw [Nat.mul_comm];exact h)
   by_cases e:k=j / E.sz
   . have hy:(xs.set k x)[j / E.sz]?=some x:=by rw [<- e,List.getElem?_set];simp [hk]
     rw [if_pos ⟨by rw [e];exact Nat.div_mul_le_self _ _,by rw [e];omega,h⟩];conv=>rhs;rw [hj,E.all_get hy hm]
     congr 1;rw [e];omega
   . have hy:(xs.set k x)[j / E.sz]?=some (xs[j / E.sz]):=by rw [List.getElem?_set,if_neg e];simp [hq]
     have hy2:xs[j / E.sz]?=some (xs[j / E.sz]):=by simp [hq]
     have hne:¬ (k * E.sz<=j/\j<k * E.sz+E.sz/\j<xs.length * E.sz):=by
      rintro ⟨h1,h2,_⟩;apply e;rw [hj] at h1 h2;rcases Nat.lt_or_gt_of_ne e with h3 | h3
      . have:(k+1) * E.sz<=j / E.sz * E.sz:=Nat.mul_le_mul_right _ h3
        rw [Nat.add_mul] at this;omega
      . have:(j / E.sz+1) * E.sz<=k * E.sz:=Nat.mul_le_mul_right _ h3
        rw [Nat.add_mul] at this;omega
     rw [if_neg hne];conv=>lhs;rw [hj,E.all_get hy2 hm]
     conv=>rhs;rw [hj,E.all_get hy hm]
 . rw [if_neg (fun hh=>h hh.2.2),List.getElem?_eq_none (by rw [E.all_length];omega),List.getElem?_eq_none (by rw [E.all_length,List.length_set];omega)]
theorem Elt.all_made (hz:0<E.sz) {z:α} {zv:Value} (h:zv.cells=(E.cells z).toArray) (n:Nat):(madeCells zv.cells (n * E.sz)).toList=E.all (List.replicate n z):=by
 apply List.ext_getElem?;intro j;have hj:j=(j / E.sz) * E.sz+j % E.sz:=by have:=Nat.div_add_mod j E.sz;rw [Nat.mul_comm] at this;omega
 have hm:=Nat.mod_lt j hz;have hs:zv.cells.size=E.sz:=by rw [h,List.size_toArray,E.len]
 by_cases hlt:j<n * E.sz
 . have hq:j / E.sz<n:=Nat.div_lt_of_lt_mul (by rw [Nat.mul_comm];exact hlt)
   have hy:(List.replicate n z)[j / E.sz]?=some z:=by rw [List.getElem?_replicate,if_pos hq]
   conv=>rhs;rw [hj,E.all_get hy hm]
   rw [madeCells,Array.toList_map,List.getElem?_map,Array.toList_range,List.getElem?_range hlt,Option.map_some,hs,h];have hl:j % E.sz<(E.cells z).length:=by rw [E.len];exact hm
   simp [hl]
 . rw [List.getElem?_eq_none (by rw [Array.length_toList,size_madeCells];omega),List.getElem?_eq_none (by rw [E.all_length,List.length_replicate];omega)]
theorem Elt.all_set1 (hz:0<E.sz) {xs:List α} {k j:Nat} {x y:α} {v:Value} (hx:xs[k]?=some x) (hj:j<E.sz) (hy:(E.cells x).set j v=E.cells y):(E.all xs).set (k * E.sz+j) v=E.all (xs.set k y):=by
 have hk:=yBG hx;rw [<- E.all_set hz hk];apply List.ext_getElem?;intro i;rw [setRun_get,List.getElem?_set,E.len,E.all_length];have h5:(k+1) * E.sz<=xs.length * E.sz:=Nat.mul_le_mul_right _ hk;rw [Nat.add_mul,Nat.one_mul] at h5;by_cases e:k * E.sz+j=i
 . rw [if_pos e,if_pos (by omega),if_pos ⟨by omega,by omega,by omega⟩,<- hy,<- e,Nat.add_sub_cancel_left,List.getElem?_set,if_pos rfl,if_pos (by rw [E.len];exact hj)]
 . rw [if_neg e]
   by_cases h:k * E.sz<=i/\i<k * E.sz+E.sz/\i<xs.length * E.sz
   . rw [if_pos h,<- hy,List.getElem?_set,if_neg (by omega)]
     have hi:i=k * E.sz+(i - k * E.sz):=by omega
     conv=>lhs;rw [hi]
     exact E.all_get hx (by omega)
   . rw [if_neg h]
theorem Own.store1 (hz:0<E.sz) {e:TypeId} {base g n cap k j:Nat} {w:World} {xs:List α} {x y:α} {v:Value} (h:Own E e base w (.slice (some ⟨g,0,none⟩) n cap) xs) (hn:n=xs.length) (hx:xs[k]?=some x) (hj:j<E.sz) (hy:(E.cells x).set j v=E.cells y) (hok:E.ok y) :
 Own E e base (w.setCell ⟨g,k * E.sz+j,none⟩ v) (.slice (some ⟨g,0,none⟩) n cap) (xs.set k y)/\w.grownBy (w.setCell ⟨g,k * E.sz+j,none⟩ v) (some g):=by
 subst hn;have h1:=h.1.stored (k * E.sz+j) v;rw [E.all_set1 hz hx hj hy] at h1;refine ⟨⟨by rw [List.length_set];exact h1.1,fun z hz'=>?_⟩,h1.2⟩;rcases List.mem_or_eq_of_mem_set hz' with hz' | rfl
 . exact h.2 z hz'
 . exact hok
theorem Own.cellE {e:TypeId} {base g n cap:Nat} {w:World} {xs:List α} (h:Own E e base w (.slice (some ⟨g,0,none⟩) n cap) xs) (hn:n=xs.length) {k j:Nat} (hk:k<n) (hj:j<E.sz) :
 (∃ u,w.cell? ⟨g,k * E.sz+j,none⟩=some u)/\w.frozen? ⟨g,k * E.sz+j,none⟩=false:=by
 subst hn;have hlt:k * E.sz+j<xs.length * E.sz:=by
  have:(k+1) * E.sz<=xs.length * E.sz:=Nat.mul_le_mul_right _ hk;rw [Nat.add_mul] at this;omega
 refine ⟨⟨(E.all xs)[k * E.sz+j]'(by rw [E.all_length];exact hlt),?_⟩,h.1.frozenAt _⟩;rw [h.1.cellAt _ hlt];simp [E.all_length,hlt]
end
section
variable {α:Type} {f:Int->α} {d:Int}
end
section
variable {H:Type} {enc:TypeId × Value->H} {P:Program} {w:World} {base:Nat} {spare:Nat->Bool} {held:Bool}
end
theorem any_endT {α:Type} {xs:List α} {p:α->Bool} (h:xs.any p=false):(0:Int)<=-1 ↔ xs.any p=true :=
 ⟨fun h=>by omega,fun h2=>by rw [h2] at h;cases h⟩
theorem below_run {B a g:Nat} {w0:World} (hg:B<=g):∀ (cs:List Value) (w:World) (i:Nat),Below B w0 w->Below B w0 (setRunW w g i cs):=by
 intro cs;induction cs with
 | nil=>intro w i h;exact h
 | cons c cs ih=>intro w i h;exact ih _ _ (h.setCell (p:=⟨g,i,none⟩) hg c)
theorem _root_.Go.RowKit.Below.run {B:Nat} {w0 w:World} (h:Below B w0 w) {g:Nat} (hg:B<=g) (cs:List Value):Below B w0 (setRunW w g 0 cs):=below_run (a:=0) hg cs w 0 h
theorem bcell {W w1:World} (hb:Below W.heap.size W w1):(∀ b o,b<W.heap.size->w1.cell? ⟨b,o,none⟩=W.cell? ⟨b,o,none⟩)/\(∀ b o,b<W.heap.size->w1.frozen? ⟨b,o,none⟩=W.frozen? ⟨b,o,none⟩) :=
 ⟨fun b o h=>hb.cell (p:=⟨b,o,none⟩) h,fun b o h=>hb.frozen (p:=⟨b,o,none⟩) h⟩
structure Box (w:World) (b:Nat) (cs:List Value):Prop where
 lt:b<w.heap.size
 cell:∀ (j:Nat) (v:Value),cs[j]?=some v->w.cell? ⟨b,j,none⟩=some v
 free:∀ j:Nat,w.frozen? ⟨b,j,none⟩=false
theorem Box.below {w w':World} {b B:Nat} {cs:List Value} (h:Box w b cs) (hb:Below B w w') (hB:b<B):Box w' b cs :=
 ⟨zM h.lt hb.size,fun j v hj=>(hb.cell (p:=⟨b,j,none⟩) hB).trans (h.cell j v hj),fun j=>(hb.frozen (p:=⟨b,j,none⟩) hB).trans (h.free j)⟩
theorem Box.on {w w':World} {b:Nat} {cs:List Value} (h:Box w b cs) (hb:Below w.heap.size w w'):Box w' b cs:=h.below hb h.lt
theorem Box.alloc {w:World} {b:Nat} {cs:List Value} (h:Box w b cs) (o:Obj):Box (w.alloc o) b cs:=h.on ((zB _ _).alloc (zA _) _)
theorem Box.drewN {w:World} {b:Nat} {cs:List Value} (h:Box w b cs) (m:Nat):Box (w.drewN m) b cs:=⟨h.lt,h.cell,h.free⟩
theorem Box.drew1 {w:World} {b:Nat} {cs:List Value} (h:Box w b cs):Box w.drew b cs:=⟨h.lt,h.cell,h.free⟩
theorem _root_.Go.RowKit.Below.drew1 {B:Nat} {a w:World} (h:Below B a w):Below B a w.drew:=⟨h.os,h.tape,h.output,h.size,h.block⟩
theorem Rds.onn {α:Type} {E:Elt α} {B:Nat} {w w':World} {v:Value} {xs:List α} (h:Rds E B w v xs) (hb:Below w.heap.size w w'):Rds E w'.heap.size w' v xs:=(h.tight.below hb (zA _)).mono hb.size
theorem Box.new (w:World) (cs:List Value) (t:TypeId):Box (w.alloc (.cells cs.toArray t)) w.heap.size cs :=
 ⟨by simp,fun j v hj=>by simp [World.cell?_alloc_new,hj],fun j=>by simp [go_sem]⟩
theorem Box.set1 {w:World} {b j:Nat} {cs:List Value} (h:Box w b cs) (hj:j<cs.length) (v:Value):Box (w.setCell ⟨b,j,none⟩ v) b (cs.set j v):=by
 refine ⟨by simpa using h.lt,fun i u hi=>?_,fun i=>by rw [<- h.free i];simp [go_sem]⟩;rw [List.getElem?_set] at hi;by_cases e:j=i
 . subst e
   rw [if_pos rfl,if_pos hj] at hi;cases hi;have hu:=h.cell j cs[j] (by simp [hj]);simp [go_sem,hu]
 . rw [if_neg e] at hi
   have hu:=h.cell i u hi;rw [<- hu];have hne:¬ i=j:=fun h=>e h.symm;simp [go_sem]
theorem Box.other {w:World} {b:Nat} {cs:List Value} (h:Box w b cs) {p:Addr} (hp:p.block ≠ b) (v:Value):Box (w.setCell p v) b cs:=by
 refine ⟨by simpa using h.lt,fun i u hi=>?_,fun i=>by rw [<- h.free i];simp [go_sem]⟩;rw [<- h.cell i u hi];obtain ⟨pb,po,ps⟩:=p;have hne:¬ b=pb:=fun e=>hp e.symm;simp [go_sem]
theorem toList_inj {a b:ByteArray}:a.toList=b.toList ↔ a=b:=by
 rw [ByteArray.toList_eq,ByteArray.toList_eq];obtain ⟨⟨x⟩⟩:=a;obtain ⟨⟨y⟩⟩:=b;simp
theorem _root_.Go.RowKit.Below.drewNy {B:Nat} {a w:World} (h:Below B a w) (m:Nat):Below B a (w.drewN m):=⟨h.os,h.tape,h.output,h.size,h.block⟩
def bytesI (s:ByteArray):List Int:=s.data.toList.map (fun c=>(c.toNat:Int))
theorem bytesI_length (s:ByteArray):(bytesI s).length=s.size:=by simp [bytesI]
theorem bytesI_at (s:ByteArray) (k:Nat) (h:k<s.size):(bytesI s)[k]?=some (s[k].toNat:Int):=by
 unfold bytesI;rw [List.getElem?_map];have h1:s.data.toList[k]?=some s[k]:=by
  rw [zF (by simpa using h)];rfl
 rw [h1];rfl
theorem isDigit_yes (c:Int) (w:World) (h:48<=c/\c<=57):Calls Tryz.prog 213 #[.int .u8 c] w fun e w'=>e=.returned (.bool true)/\w=w':=by
 obtain ⟨h1,h2⟩:=h;go_enter Tryz.func213,Tryz.ntmps213;go_wp2;go_ret;exact ⟨rfl,rfl⟩
theorem isDigit_no (c:Int) (w:World) (h:¬ (48<=c/\c<=57)):Calls Tryz.prog 213 #[.int .u8 c] w fun e w'=>e=.returned (.bool false)/\w=w':=by
 by_cases h1:48<=c
 . have h2:57<c:=by omega
   clear h;go_enter Tryz.func213,Tryz.ntmps213;go_wp2;go_ret;exact ⟨yAC (by simp;omega),rfl⟩
 . clear h
   go_enter Tryz.func213,Tryz.ntmps213;go_wp2;go_ret;exact ⟨rfl,rfl⟩
theorem l01Digit_yes (c:Int) (w:World) (h:48<=c/\c<=57):Calls Tryz.prog 149 #[.int .u8 c] w fun e w'=>e=.returned (.bool true)/\w=w':=by
 obtain ⟨h1,h2⟩:=h;go_enter Tryz.func149,Tryz.ntmps149;go_wp2;go_ret;exact ⟨rfl,rfl⟩
theorem l01Digit_no (c:Int) (w:World) (h:¬ (48<=c/\c<=57)):Calls Tryz.prog 149 #[.int .u8 c] w fun e w'=>e=.returned (.bool false)/\w=w':=by
 by_cases h1:48<=c
 . have h2:57<c:=by omega
   clear h;go_enter Tryz.func149,Tryz.ntmps149;go_wp2;go_ret;exact ⟨yAC (by simp;omega),rfl⟩
 . clear h
   go_enter Tryz.func149,Tryz.ntmps149;go_wp2;go_ret;exact ⟨rfl,rfl⟩
def selI (p:Int->Bool):Nat->List Int
 | 0=>[]
 | k+1=>selI p k++(if p (k:Int)=true then [(k:Int)] else [])
theorem yAX (p:Int->Bool) (k:Nat):selI p (k+1)=selI p k++(if p (k:Int)=true then [(k:Int)] else []):=rfl
theorem yBM (p:Int->Bool) (k:Nat):(selI p k).length<=k:=by
 induction k with
 | zero=>exact zA _
 | succ k ih=>rw [yAX,zE];split <;> simp <;> omega
def atI (xs:List Int) (k:Nat):Int:=xs.getD k 0
theorem copyInts_c {xs:List Int} {v:Value} {w:World} {A:Nat} (ha:RdI A w v xs) (hl:xs.length<=2097152) :
 Calls Tryz.prog 117 #[v] w fun e w'=>∃ u,e=.returned u/\OwnInt64S w.heap.size w' u xs/\Below w.heap.size w w':=by
 obtain ⟨i0,hi,hz0,hz1,hz2⟩:=info_parts Tryz.infoInt64;have h0:OwnInt64S w.heap.size (w.alloc (.cells #[] 2)) (.slice (some ⟨w.heap.size,0,none⟩) 0 0) []:=Own.lit (E:=eI) (xs:=[]) (cs:=#[]) (zA _) rfl rfl (by decide) (fun x hx=>by cases hx);have hb0:Below w.heap.size w (w.alloc (.cells #[] 2)):=(zB _ _).alloc (zA _) _;have hr:RdI (w.heap.size+1) (w.alloc (.cells #[] 2)) v xs:=by have:=Rds.onn ha hb0;simpa using this
 have H0:=hid h0;have Hb0:=hid hb0;have Hr:=hid hr;have Hl:=hid hl;clear h0 hb0 hr ha hl;go_enter Tryz.func117,Tryz.ntmps117;go_wp2_with (first | (at_builtin;refine yAB (E:=eI) rfl _ _ 48 rfl Tryz.underlying48 hi hz0 hz1 hz2 rfl (by decide) rfl rfl H0.out Hr.out ?b1 ?b2 ?b3 ?_))
 case b1=>have:=Hl.out;unfold maxLen;simp;omega
 case b2=>have:=Hl.out;simp;omega
 case b3=>simp
 intro v' w2 hR2 hg;have hb2:=hg.below Hb0.out (by simp) (fun q hq=>(H0.out.lt q hq).1);clear hg;have hR3:OwnInt64S w.heap.size w2 v' xs:=hR2;clear hR2;have HR3:=hid hR3;clear hR3;go_wp2;go_ret;exact ⟨_,rfl,HR3.out,hb2⟩
theorem l00Own_c {xs:List Int} {v:Value} {w:World} {A:Nat} (ha:RdI A w v xs) (hl:xs.length<=2097152) :
 Calls Tryz.prog 66 #[v] w fun e w'=>∃ u,e=.returned u/\OwnInt64S w.heap.size w' u xs/\Below w.heap.size w w':=by
 obtain ⟨i0,hi,hz0,hz1,hz2⟩:=info_parts Tryz.infoInt64;have h0:OwnInt64S w.heap.size (w.alloc (.cells #[] 2)) (.slice (some ⟨w.heap.size,0,none⟩) 0 0) []:=Own.lit (E:=eI) (xs:=[]) (cs:=#[]) (zA _) rfl rfl (by decide) (fun x hx=>by cases hx);have hb0:Below w.heap.size w (w.alloc (.cells #[] 2)):=(zB _ _).alloc (zA _) _;have hr:RdI (w.heap.size+1) (w.alloc (.cells #[] 2)) v xs:=by have:=Rds.onn ha hb0;simpa using this
 have H0:=hid h0;have Hb0:=hid hb0;have Hr:=hid hr;have Hl:=hid hl;clear h0 hb0 hr ha hl;go_enter Tryz.func66,Tryz.ntmps66;go_wp2_with (first | (at_builtin;refine yAB (E:=eI) rfl _ _ 48 rfl Tryz.underlying48 hi hz0 hz1 hz2 rfl (by decide) rfl rfl H0.out Hr.out ?b1 ?b2 ?b3 ?_))
 case b1=>have:=Hl.out;unfold maxLen;simp;omega
 case b2=>have:=Hl.out;simp;omega
 case b3=>simp
 intro v' w2 hR2 hg;have hb2:=hg.below Hb0.out (by simp) (fun q hq=>(H0.out.lt q hq).1);clear hg;have hR3:OwnInt64S w.heap.size w2 v' xs:=hR2;clear hR2;have HR3:=hid hR3;clear hR3;go_wp2;go_ret;exact ⟨_,rfl,HR3.out,hb2⟩
theorem equalI_some {xs ys:List Int} {b off cap b' off' cap':Nat} {w:World} (hlen:xs.length=ys.length) (hle:xs.length<=9223372036854775807)
 (hc:∀ k,k<xs.length->∃ x,xs[k]?=some x/\w.cell? ⟨b,off+k,none⟩=some (.int .i64 x)/\-9223372036854775808<=x/\x<=9223372036854775807)
 (hc':∀ k,k<ys.length->∃ x,ys[k]?=some x/\w.cell? ⟨b',off'+k,none⟩=some (.int .i64 x)/\-9223372036854775808<=x/\x<=9223372036854775807) :
 Calls Tryz.prog 119 #[.slice (some ⟨b,off,none⟩) xs.length cap,.slice (some ⟨b',off',none⟩) ys.length cap'] w fun e w'=>e=.returned (.bool (decide (xs=ys)))/\∃ m,w'=w.drewN m:=by
 have Hc:=hid hc;have Hc':=hid hc';have Hl:=hid hlen;obtain ⟨n,hn⟩:∃ n,n=xs.length:=⟨_,rfl⟩;rw [<- hn,<- (hn.trans hlen)];have Hn:=hid hn;have hn':n<=9223372036854775807:=by omega
 clear hc hc' hlen hn hle;go_enter Tryz.func119,Tryz.ntmps119;go_wp2;go_loopw [13] (fun i wr=>∃ k:Nat,k<=n/\i=.int .i64 k/\Pre xs ys k/\∃ m,wr=w.drewN m) (fun i _=>n - (intOf i).toNat)
 case atStart=>exact ⟨0,zK _,rfl,by simp [Pre],0,rfl⟩
 case round =>
  obtain ⟨k,hk,rfl,hp,m,rfl⟩:=hrel;by_cases hkn:k<n
  . obtain ⟨x,hx,hcx,bx⟩:=Hc.out k (by have:=Hn.out;omega)
    obtain ⟨y,hy,hcy,by'⟩:=Hc'.out k (by have:=Hn.out;have:=Hl.out;omega);have Hx:=hid hx;have Hy:=hid hy;clear hx hy;by_cases hxy:x=y
    . subst hxy
      have hf:(x != x)=false:=by simp
      go_wp2;go_quiet (fail);go_wp2;go_roundw
      case rel=>exact ⟨k+1,by omega,by go_num,take_eq_succ hp Hx.out Hy.out rfl,_,rfl⟩
      case measure=>simp [intOf];omega
    . have hf:(x != y)=true:=by simpa using hxy
      clear hxy;go_wp2;go_quiet (fail);go_wp2;go_ret;exact ⟨yAC (by have:=ne_of_at Hx.out Hy.out (by simpa using hf);simp [this]),_,World.drewN_drewN _ _ _⟩
  . go_wp2
    go_ret;exact ⟨yAC (by have:=eq_of_take hp Hn.out Hl.out hk hkn;simp [this]),m,rfl⟩
theorem equalI_c {xs ys:List Int} {va vb:Value} {w:World} {A B:Nat} (ha:RdI A w va xs) (hb:RdI B w vb ys) :
 Calls Tryz.prog 119 #[va,vb] w fun e w'=>e=.returned (.bool (decide (xs=ys)))/\∃ m,w'=w.drewN m:=by
 by_cases hlen:xs.length=ys.length
 . have hle:=ha.le
   rcases ha.cases with ⟨rfl,ao,cap,rfl,_⟩ | ⟨b,off,cap,rfl,hlt,hc⟩
   . obtain rfl:ys=[]:=List.eq_nil_of_length_eq_zero (by simpa using hlen.symm)
     obtain ⟨ao',cap',rfl⟩:=hb.shape;clear hlen ha hb hle;go_enter Tryz.func119,Tryz.ntmps119;go_wp2;go_rounds 1;go_ret;exact ⟨rfl,0,rfl⟩
   . rcases hb.cases with ⟨rfl,ao',cap',rfl,_⟩ | ⟨b',off',cap',rfl,hlt',hc'⟩
     . obtain rfl:xs=[]:=List.eq_nil_of_length_eq_zero (by simpa using hlen)
       clear hlen ha hb hc hle;go_enter Tryz.func119,Tryz.ntmps119;go_wp2;go_rounds 1;go_ret;exact ⟨rfl,0,rfl⟩
     . exact equalI_some hlen hle hc hc'
 . obtain ⟨ao,cap,rfl⟩:=ha.shape
   obtain ⟨ao',cap',rfl⟩:=hb.shape;have hf:((xs.length:Int) != (ys.length:Int))=true:=by simpa using fun h:(xs.length:Int)=ys.length=>hlen (by omega)
   have Hl:=hid hlen;clear hlen ha hb;go_enter Tryz.func119,Tryz.ntmps119;go_wp2;go_ret;exact ⟨yAC (by have:=ne_of_length Hl.out;simp [this]),0,rfl⟩
abbrev fieldP (f t w:Int):Prop:=0<=f/\f<t/\t<=w
theorem txt_empty {s:ByteArray} (h:s.size=0):s.toList.isEmpty=true:=by
 rw [ByteArray.toList_eq];have h9:s.data.toList.length=0:=by rw [Array.length_toList];exact h
 rw [List.eq_nil_of_length_eq_zero h9];rfl
theorem txt_full {s:ByteArray} (h:¬ s.size=0):s.toList.isEmpty=false:=by
 rw [ByteArray.toList_eq];cases hd:s.data.toList with
 | nil=>exact absurd (by
  have h9:s.data.toList.length=0:=by rw [hd];rfl
  rw [Array.length_toList] at h9;exact h9) h
 | cons a b=>rfl
theorem yBN (f t c:Int) (w:World) (hc:0<=c/\c<=1000):Calls Tryz.prog 29 #[.agg #[.int .i64 f,.int .i64 t],.int .i64 c] w fun e w'=>e=.returned (.bool (decide (fieldP f t c)))/\Below w.heap.size w w':=by
 obtain ⟨p,hp⟩:∃ p,p=decide (fieldP f t c):=⟨_,rfl⟩;rw [<- hp];have Hp:=hid hp;clear hp;by_cases h1:0<=f
 . by_cases h2:f<t
   . by_cases h3:t<=c
     . go_enter Tryz.func29,Tryz.ntmps29
       go_wp2;go_ret;exact ⟨yAC (by rw [Hp.out];exact (decide_eq_true ⟨h1,h2,h3⟩).symm),(zB _ _).alloc (zA _) _⟩
     . go_enter Tryz.func29,Tryz.ntmps29
       go_wp2;go_ret;exact ⟨yAC (by rw [Hp.out];exact (decide_eq_false fun ⟨_,_,q⟩=>by omega).symm),(zB _ _).alloc (zA _) _⟩
   . go_enter Tryz.func29,Tryz.ntmps29
     go_wp2;go_ret;exact ⟨yAC (by rw [Hp.out];exact (decide_eq_false fun ⟨_,q,_⟩=>by omega).symm),(zB _ _).alloc (zA _) _⟩
 . go_enter Tryz.func29,Tryz.ntmps29
   go_wp2;go_ret;exact ⟨yAC (by rw [Hp.out];exact (decide_eq_false fun ⟨q,_,_⟩=>by omega).symm),(zB _ _).alloc (zA _) _⟩
theorem l02Field_c (f t c:Int) (w:World) (hc:0<=c/\c<=1000):Calls Tryz.prog 62 #[.agg #[.int .i64 f,.int .i64 t],.int .i64 c] w fun e w'=>e=.returned (.bool (decide (fieldP f t c)))/\Below w.heap.size w w':=by
 obtain ⟨p,hp⟩:∃ p,p=decide (fieldP f t c):=⟨_,rfl⟩;rw [<- hp];have Hp:=hid hp;clear hp;by_cases h1:0<=f
 . by_cases h2:f<t
   . by_cases h3:t<=c
     . go_enter Tryz.func62,Tryz.ntmps62
       go_wp2;go_ret;exact ⟨yAC (by rw [Hp.out];exact (decide_eq_true ⟨h1,h2,h3⟩).symm),(zB _ _).alloc (zA _) _⟩
     . go_enter Tryz.func62,Tryz.ntmps62
       go_wp2;go_ret;exact ⟨yAC (by rw [Hp.out];exact (decide_eq_false fun ⟨_,_,q⟩=>by omega).symm),(zB _ _).alloc (zA _) _⟩
   . go_enter Tryz.func62,Tryz.ntmps62
     go_wp2;go_ret;exact ⟨yAC (by rw [Hp.out];exact (decide_eq_false fun ⟨_,q,_⟩=>by omega).symm),(zB _ _).alloc (zA _) _⟩
 . go_enter Tryz.func62,Tryz.ntmps62
   go_wp2;go_ret;exact ⟨yAC (by rw [Hp.out];exact (decide_eq_false fun ⟨q,_,_⟩=>by omega).symm),(zB _ _).alloc (zA _) _⟩
def eT:Elt ByteArray:={ sz:=1,cells:=fun x=>[.string x],ok:=fun x=>x.size<=9223372036854775807,len:=fun _=>rfl,one:=fun x u hu=>by simp at hu;subst hu;rfl }
theorem RdT.open {w:World} {B:Nat} {v:Value} {xs:List ByteArray} (h:Rds eT B w v xs):∃ ao cap,v=.slice ao xs.length cap /\
 (0<xs.length->∃ b off,ao=some ⟨b,off,none⟩/\(b<B/\b<w.heap.size)/\∀ k,k<xs.length->∃ x,xs[k]?=some x/\w.cell? ⟨b,off+k,none⟩=some (.string x)/\x.size<=9223372036854775807):=by
 rcases h.cases with ⟨rfl,ao,cap,rfl,_⟩ | ⟨b,off,cap,rfl,hlt,hc⟩
 . exact ⟨ao,cap,rfl,fun h=>absurd h (by simp)⟩
 . refine ⟨_,cap,rfl,fun _=>⟨b,off,rfl,hlt,fun k hk=>?_⟩⟩
   obtain ⟨h1,h2⟩:=hc k xs[k] (by simp [hk]);refine ⟨xs[k],by simp [hk],?_,h1⟩;have:=h2 0 (by decide);simpa [eT] using this
theorem Tryz.infoString:(Tryz.prog.info? 9).map (fun i=>(i.zero,i.size,i.bytes))=some (some (.string ⟨#[]⟩),1,16):=by kernel_rfl
structure TotalT where
 nm:ByteArray
 su:Int
abbrev vTotal (x:TotalT):Value:=.agg #[.string x.nm,.int .i64 x.su]
def okTotal (x:TotalT):Prop:=x.nm.size<=9223372036854775807/\(-9223372036854775808<=x.su/\x.su<=9223372036854775807)
def eTotal:Elt TotalT:={ sz:=2,cells:=fun x=>[.string x.nm,.int .i64 x.su],ok:=okTotal,len:=fun _=>rfl,one:=fun x u hu=>by simp at hu;rcases hu with rfl | rfl <;> rfl }
def zTotal:TotalT:=⟨⟨#[]⟩,0⟩
abbrev OwnTTotalS (base top:Nat) (w:World) (v:Value) (x:List TotalT):Prop:=OwnT eTotal 153 base top w v x
theorem eTotal_open {w:World} {B:Nat} {v:Value} {xs:List TotalT} (h:Rds eTotal B w v xs):∃ ao cap,v=.slice ao xs.length cap /\
 (0<xs.length->∃ b off,ao=some ⟨b,off,none⟩/\(b<B/\b<w.heap.size)/\∀ k,k<xs.length->∃ x,xs[k]?=some x/\(w.cell? ⟨b,off+k * 2,none⟩=some (.string x.nm)/\w.cell? ⟨b,off+k * 2+1,none⟩=some (.int .i64 x.su))/\okTotal x):=by
 rcases Rds.cases h with ⟨rfl,ao,cap,rfl,_⟩ | ⟨b,off,cap,rfl,hlt,hc⟩
 . exact ⟨ao,cap,rfl,fun h=>absurd h (by simp)⟩
 . refine ⟨_,cap,rfl,fun _=>⟨b,off,rfl,hlt,fun k hk=>?_⟩⟩
   obtain ⟨h1,h2⟩:=hc k xs[k] (by simp [hk]);refine ⟨xs[k],by simp [hk],⟨?_,?_⟩,h1⟩
   . exact h2 0 (by decide)
   . have:=h2 1 (by decide);rw [<- Nat.add_assoc] at this;exact this
theorem Tryz.infoTotal:(Tryz.prog.info? 153).map (fun i=>(i.zero,i.size,i.bytes))=some (some (vTotal zTotal),2,24):=by kernel_rfl
structure FaultT where
 kind:Int
 card:Int
 place:Int
 digit:Int
abbrev vFault (x:FaultT):Value:=.agg #[.int .i64 x.kind,.int .i64 x.card,.int .i64 x.place,.int .i64 x.digit]
def okFault (x:FaultT):Prop:=(-9223372036854775808<=x.kind/\x.kind<=9223372036854775807)/\(-9223372036854775808<=x.card/\x.card<=9223372036854775807)/\(-9223372036854775808<=x.place/\x.place<=9223372036854775807)/\(-9223372036854775808<=x.digit/\x.digit<=9223372036854775807)
def eFault:Elt FaultT:={ sz:=4,cells:=fun x=>[.int .i64 x.kind,.int .i64 x.card,.int .i64 x.place,.int .i64 x.digit],ok:=okFault,len:=fun _=>rfl,one:=fun x u hu=>by simp at hu;rcases hu with rfl | rfl | rfl | rfl <;> rfl }
def zFault:FaultT:=⟨0,0,0,0⟩
abbrev RdFaultS (B:Nat) (w:World) (v:Value) (x:List FaultT):Prop:=Rds eFault B w v x
abbrev OwnFaultS (base:Nat) (w:World) (v:Value) (x:List FaultT):Prop:=Own eFault 155 base w v x
theorem yAU {w:World} {B:Nat} {v:Value} {xs:List FaultT} (h:Rds eFault B w v xs):∃ ao cap,v=.slice ao xs.length cap /\
 (0<xs.length->∃ b off,ao=some ⟨b,off,none⟩/\(b<B/\b<w.heap.size)/\∀ k,k<xs.length->∃ x,xs[k]?=some x/\(w.cell? ⟨b,off+k * 4,none⟩=some (.int .i64 x.kind)/\w.cell? ⟨b,off+k * 4+1,none⟩=some (.int .i64 x.card)/\w.cell? ⟨b,off+k * 4+2,none⟩=some (.int .i64 x.place)/\w.cell? ⟨b,off+k * 4+3,none⟩=some (.int .i64 x.digit))/\okFault x):=by
 rcases Rds.cases h with ⟨rfl,ao,cap,rfl,_⟩ | ⟨b,off,cap,rfl,hlt,hc⟩
 . exact ⟨ao,cap,rfl,fun h=>absurd h (by simp)⟩
 . refine ⟨_,cap,rfl,fun _=>⟨b,off,rfl,hlt,fun k hk=>?_⟩⟩
   obtain ⟨h1,h2⟩:=hc k xs[k] (by simp [hk]);refine ⟨xs[k],by simp [hk],⟨?_,?_,?_,?_⟩,h1⟩
   . exact h2 0 (by decide)
   . have:=h2 1 (by decide);rw [<- Nat.add_assoc] at this;exact this
   . have:=h2 2 (by decide);rw [<- Nat.add_assoc] at this;exact this
   . have:=h2 3 (by decide);rw [<- Nat.add_assoc] at this;exact this
structure ReportT where
 count:Int
 sum:Int
 digits:Int
abbrev vReport (x:ReportT):Value:=.agg #[.int .i64 x.count,.int .i64 x.sum,.int .i64 x.digits]
def okReport (x:ReportT):Prop:=(-9223372036854775808<=x.count/\x.count<=9223372036854775807)/\(-9223372036854775808<=x.sum/\x.sum<=9223372036854775807)/\(-9223372036854775808<=x.digits/\x.digits<=9223372036854775807)
def eReport:Elt ReportT:={ sz:=3,cells:=fun x=>[.int .i64 x.count,.int .i64 x.sum,.int .i64 x.digits],ok:=okReport,len:=fun _=>rfl,one:=fun x u hu=>by simp at hu;rcases hu with rfl | rfl | rfl <;> rfl }
def zReport:ReportT:=⟨0,0,0⟩
theorem eReport_open {w:World} {B:Nat} {v:Value} {xs:List ReportT} (h:Rds eReport B w v xs):∃ ao cap,v=.slice ao xs.length cap /\
 (0<xs.length->∃ b off,ao=some ⟨b,off,none⟩/\(b<B/\b<w.heap.size)/\∀ k,k<xs.length->∃ x,xs[k]?=some x/\(w.cell? ⟨b,off+k * 3,none⟩=some (.int .i64 x.count)/\w.cell? ⟨b,off+k * 3+1,none⟩=some (.int .i64 x.sum)/\w.cell? ⟨b,off+k * 3+2,none⟩=some (.int .i64 x.digits))/\okReport x):=by
 rcases Rds.cases h with ⟨rfl,ao,cap,rfl,_⟩ | ⟨b,off,cap,rfl,hlt,hc⟩
 . exact ⟨ao,cap,rfl,fun h=>absurd h (by simp)⟩
 . refine ⟨_,cap,rfl,fun _=>⟨b,off,rfl,hlt,fun k hk=>?_⟩⟩
   obtain ⟨h1,h2⟩:=hc k xs[k] (by simp [hk]);refine ⟨xs[k],by simp [hk],⟨?_,?_,?_⟩,h1⟩
   . exact h2 0 (by decide)
   . have:=h2 1 (by decide);rw [<- Nat.add_assoc] at this;exact this
   . have:=h2 2 (by decide);rw [<- Nat.add_assoc] at this;exact this
instance:DecidableEq FaultT:=fun x y=>decidable_of_iff (x.kind=y.kind/\x.card=y.card/\x.place=y.place/\x.digit=y.digit) (by cases x;cases y;simp)
instance:DecidableEq ReportT:=fun x y=>decidable_of_iff (x.count=y.count/\x.sum=y.sum/\x.digits=y.digits) (by cases x;cases y;simp)
def p10 (p:Int):Int:=if p=0 then 1 else if p=1 then 10 else if p=2 then 100 else 1000
def digA (n p:Int):Int:=n / p10 p % 10
def dsum (n:Int):Int:=digA n 0+digA n 1+digA n 2+digA n 3
def readF (n:Int) (f:FaultT):Int:=n+(f.digit - digA n f.place) * p10 f.place
def amtOk (xs:List Int):Bool:=decide (xs.length<=12) && xs.all fun n=>decide (0<=n/\n<=9999)
def repOf (xs:List Int):ReportT:=⟨xs.length,sumI xs,sumI (xs.map dsum)⟩
def addR (a b:ReportT):ReportT:=⟨a.count+b.count,a.sum+b.sum,a.digits+b.digits⟩
def subR (a b:ReportT):ReportT:=⟨a.count - b.count,a.sum - b.sum,a.digits - b.digits⟩
def lessW (a b:ReportT):ReportT:=⟨IntKind.i64.wrap (a.count - b.count),IntKind.i64.wrap (a.sum - b.sum),IntKind.i64.wrap (a.digits - b.digits)⟩
def fGo (fs:List FaultT) (i:Nat):FaultT:=fs.getD i zFault
def digD (i n p:Int) (k:Nat):List FaultT:=((List.range k).filter fun d:Nat=>!(digA n p == (d:Int))).map fun d:Nat=>⟨3,i,p,(d:Int)⟩
def digP (i n:Int) (k:Nat):List FaultT:=(List.range k).flatMap fun p:Nat=>digD i n (p:Int) 10
def cardF (i n:Int):List FaultT:=[⟨1,i,0,0⟩,⟨2,i,0,0⟩]++digP i n 4
def allK (xs:List Int) (k:Nat):List FaultT:=(List.range k).flatMap fun i:Nat=>cardF (i:Int) (xs.getD i 0)
def allF (xs:List Int):List FaultT:=allK xs xs.length
def afterF (n:Int) (f:FaultT):List Int:=if f.kind=2 then [n,n] else if f.kind=3 then [readF n f] else []
def atN (xs:List Int) (i:Int):Int:=xs.getD i.toNat 0
def chgF (xs:List Int) (f:FaultT):ReportT:=subR (repOf (afterF (atN xs f.card) f)) (repOf [atN xs f.card])
def missF (xs:List Int) (r:ReportT) (f:FaultT):ReportT:=lessW (lessW r (repOf xs)) (chgF xs f)
def isRep (r:ReportT):Bool:=decide (-1000000000<=r.count/\r.count<=1000000000) && decide (-1000000000<=r.sum/\r.sum<=1000000000) && decide (-1000000000<=r.digits/\r.digits<=1000000000)
theorem digD_succ (i n p:Int) (k:Nat):digD i n p (k+1)=digD i n p k++(if digA n p=(k:Int) then [] else [⟨3,i,p,(k:Int)⟩]):=by
 unfold digD;rw [List.range_succ,List.filter_append,List.map_append];by_cases h:digA n p=(k:Int) <;> simp [h]
theorem digP_succ (i n:Int) (k:Nat):digP i n (k+1)=digP i n k++digD i n (k:Int) 10:=by
 unfold digP;rw [List.range_succ,List.flatMap_append];simp
theorem allK_succ (xs:List Int) (k:Nat):allK xs (k+1)=allK xs k++cardF (k:Int) (xs.getD k 0):=by
 unfold allK;rw [List.range_succ,List.flatMap_append];simp
theorem digD_len (i n p:Int) (k:Nat):(digD i n p k).length<=k:=by
 unfold digD;rw [List.length_map];exact zO (List.length_filter_le _ _) (by simp)
theorem digP_len (i n:Int) (k:Nat):(digP i n k).length<=10 * k:=by
 induction k with
 | zero=>simp [digP]
 | succ k ih=>rw [digP_succ,zE];have:=digD_len i n k 10;omega
theorem cardF_len (i n:Int):(cardF i n).length<=42:=by
 unfold cardF;rw [zE];have:=digP_len i n 4;simp;omega
theorem allK_len (xs:List Int) (k:Nat):(allK xs k).length<=42 * k:=by
 induction k with
 | zero=>simp [allK]
 | succ k ih=>rw [allK_succ,zE];have:=cardF_len k (xs.getD k 0);omega
def fOk (xs:List Int) (f:FaultT):Prop :=
 (0<=f.card/\f.card<(xs.length:Int))/\((f.kind=1\/f.kind=2)/\f.place=0/\f.digit=0\/f.kind=3/\(0<=f.place/\f.place<=3)/\(0<=f.digit/\f.digit<=9)/\digA (atN xs f.card) f.place ≠ f.digit)
theorem mem_digP {i n:Int} {f:FaultT} {k:Nat}:f∈digP i n k ↔ f.kind=3/\f.card=i/\(0<=f.place/\f.place<(k:Int))/\(0<=f.digit/\f.digit<=9)/\digA n f.place ≠ f.digit:=by
 unfold digP digD;simp only [List.mem_flatMap,List.mem_range,List.mem_map,List.mem_filter];constructor
 . rintro ⟨p,hp,d,⟨hd,hne⟩,rfl⟩
   simp at hne;exact ⟨rfl,rfl,⟨by simp,by simpa using hp⟩,⟨by simp,by simp;omega⟩,hne⟩
 . rintro ⟨h1,h2,h3,h4,h5⟩
   obtain ⟨kd,c,p,d⟩:=f;simp only at h1 h2 h3 h4 h5;obtain ⟨p',rfl⟩:=zG h3.1;obtain ⟨d',rfl⟩:=zG h4.1;refine ⟨p',by omega,d',⟨by omega,?_⟩,by rw [h1,h2]⟩;simp;exact h5
theorem mem_allK {xs:List Int} {f:FaultT} {k:Nat}:f∈allK xs k ↔ ∃ i:Nat,i<k/\f∈cardF (i:Int) (xs.getD i 0):=by
 unfold allK;simp only [List.mem_flatMap,List.mem_range]
theorem mem_cardF {i n:Int} {f:FaultT}:f∈cardF i n ↔ f=⟨1,i,0,0⟩\/f=⟨2,i,0,0⟩\/f∈digP i n 4:=by
 unfold cardF;simp
theorem mem_allF {xs:List Int} {f:FaultT}:f∈allF xs ↔ fOk xs f:=by
 unfold allF;rw [mem_allK];constructor
 . rintro ⟨i,hi,hf⟩
   rcases mem_cardF.1 hf with rfl | rfl | h
   . exact ⟨⟨by simp,by simpa using hi⟩,.inl ⟨.inl rfl,rfl,rfl⟩⟩
   . exact ⟨⟨by simp,by simpa using hi⟩,.inl ⟨.inr rfl,rfl,rfl⟩⟩
   . obtain ⟨h1,h2,h3,h4,h5⟩:=mem_digP.1 h
     refine ⟨⟨by omega,by omega⟩,.inr ⟨h1,⟨h3.1,by omega⟩,h4,?_⟩⟩;unfold atN;rw [h2];exact h5
 . rintro ⟨⟨h1,h2⟩,h3⟩
   obtain ⟨kd,c,p,d⟩:=f;simp only at h1 h2 h3;obtain ⟨i,rfl⟩:=zG h1;refine ⟨i,by omega,mem_cardF.2 ?_⟩;rcases h3 with ⟨h3 | h3,h4,h5⟩ | ⟨h3,h4,h5,h6⟩
   . left;rw [h3,h4,h5]
   . right;left;rw [h3,h4,h5]
   . right;right
     exact mem_digP.2 ⟨h3,rfl,⟨h4.1,by simp;omega⟩,h5,h6⟩
theorem allK_cards (xs:List Int) (k:Nat):(allK xs k).Pairwise (fun f g=>f.card<=g.card):=by
 induction k with
 | zero=>exact List.Pairwise.nil
 | succ k ih =>
  have hc:∀ f∈cardF (k:Int) (xs.getD k 0),f.card=(k:Int):=by
   intro f hf;rcases mem_cardF.1 hf with rfl | rfl | h
   . rfl
   . rfl
   . exact (mem_digP.1 h).2.1
  rw [allK_succ,List.pairwise_append];refine ⟨ih,?_,?_⟩
  . rw [List.pairwise_iff_getElem]
    intro i j hi hj _;rw [hc _ (List.getElem_mem hi),hc _ (List.getElem_mem hj)];exact Int.le_refl _
  . intro f hf g hg
    obtain ⟨i,hi,h⟩:=mem_allK.1 hf;have:f.card=(i:Int):=by
     rcases mem_cardF.1 h with rfl | rfl | h
     . rfl
     . rfl
     . exact (mem_digP.1 h).2.1
    rw [this,hc g hg];omega
def sglF (xs:List Int) (r:ReportT):List FaultT:=(allF xs).filter fun f=>missF xs r f == zReport
def sglK (xs:List Int) (r:ReportT) (k:Nat):List FaultT:=((allF xs).take k).filter fun f=>missF xs r f == zReport
def pairT (xs:List Int) (r:ReportT) (f g:FaultT):Bool:=decide (f.card<g.card) && chgF xs g == missF xs r f
def pairK (xs:List Int) (r:ReportT) (i k:Nat):List (List FaultT):=((List.range k).filter fun j=>decide (i<j) && pairT xs r (fGo (allF xs) i) (fGo (allF xs) j)).map fun j=>[fGo (allF xs) i,fGo (allF xs) j]
def pairsK (xs:List Int) (r:ReportT) (k:Nat):List (List FaultT):=(List.range k).flatMap fun i=>pairK xs r i (allF xs).length
def pairsF (xs:List Int) (r:ReportT):List (List FaultT):=pairsK xs r (allF xs).length
theorem pairK_start (xs:List Int) (r:ReportT) (i:Nat):pairK xs r i (i+1)=[]:=by
 unfold pairK;rw [List.filter_eq_nil_iff.2,List.map_nil];intro j hj;have:=List.mem_range.1 hj;simp;omega
theorem pairK_succ (xs:List Int) (r:ReportT) (i k:Nat) (h:i<k):pairK xs r i (k+1)=pairK xs r i k++(if pairT xs r (fGo (allF xs) i) (fGo (allF xs) k)=true then [[fGo (allF xs) i,fGo (allF xs) k]] else []):=by
 unfold pairK;rw [List.range_succ,List.filter_append,List.map_append];cases hp:pairT xs r (fGo (allF xs) i) (fGo (allF xs) k) <;> simp [hp,h]
theorem pairsK_succ (xs:List Int) (r:ReportT) (k:Nat):pairsK xs r (k+1)=pairsK xs r k++pairK xs r k (allF xs).length:=by
 unfold pairsK;rw [List.range_succ,List.flatMap_append];simp
theorem pairK_len (xs:List Int) (r:ReportT) (i k:Nat):(pairK xs r i k).length<=k:=by
 unfold pairK;rw [List.length_map];exact zO (List.length_filter_le _ _) (by simp)
theorem pairsK_len (xs:List Int) (r:ReportT) (k:Nat):(pairsK xs r k).length<=(allF xs).length * k:=by
 induction k with
 | zero=>simp [pairsK]
 | succ k ih=>rw [pairsK_succ,zE,Nat.mul_succ];have:=pairK_len xs r k (allF xs).length;omega
def explF (xs:List Int) (r:ReportT) (c:Int):List (List FaultT):=if c=0 then (if repOf xs=r then [[]] else []) else if c=1 then (sglF xs r).map fun f=>[f] else pairsF xs r
def fewF (xs:List Int) (r:ReportT):List (List FaultT) × Int :=
 if isRep r=false then ([],0) else if explF xs r 0 ≠ [] then (explF xs r 0,0) else if explF xs r 1 ≠ [] then (explF xs r 1,1) else if explF xs r 2 ≠ [] then (explF xs r 2,2) else ([],0)
theorem ReportT.ext' {a b:ReportT} (h1:a.count=b.count) (h2:a.sum=b.sum) (h3:a.digits=b.digits):a=b:=by cases a;cases b;simp_all
theorem repOf_append (xs ys:List Int):repOf (xs++ys)=addR (repOf xs) (repOf ys):=by
 unfold repOf addR;simp [sumI_append]
theorem yAQ {xs:List Int} (h:amtOk xs=true):xs.length<=12/\∀ n∈xs,0<=n/\n<=9999:=by
 unfold amtOk at h;simpa only [Bool.and_eq_true,decide_eq_true_eq,List.all_eq_true] using h
theorem amt_at {xs:List Int} (h:amtOk xs=true) (i:Int):0<=atN xs i/\atN xs i<=9999:=by
 unfold atN;rw [List.getD_eq_getElem?_getD];cases hg:xs[i.toNat]? with
 | none=>simp
 | some n=>exact (yAQ h).2 n (zC hg)
theorem p10_cases {p:Int} (h:0<=p/\p<=3):(p=0/\p10 p=1)\/(p=1/\p10 p=10)\/(p=2/\p10 p=100)\/(p=3/\p10 p=1000):=by
 have:p=0\/p=1\/p=2\/p=3:=by omega
 rcases this with rfl | rfl | rfl | rfl <;> decide
theorem digA_bound (n p:Int):0<=digA n p/\digA n p<=9:=by unfold digA;omega
theorem dsum_bound (n:Int):0<=dsum n/\dsum n<=36:=by
 unfold dsum;have:=digA_bound n 0;have:=digA_bound n 1;have:=digA_bound n 2;have:=digA_bound n 3;omega
theorem readF_bound {n:Int} {f:FaultT} (hn:0<=n/\n<=9999) (hp:0<=f.place/\f.place<=3) (hd:0<=f.digit/\f.digit<=9):0<=readF n f/\readF n f<=9999:=by
 unfold readF digA;rcases p10_cases hp with ⟨_,e⟩ | ⟨_,e⟩ | ⟨_,e⟩ | ⟨_,e⟩ <;> rw [e] <;> omega
theorem repOf_bound {xs:List Int} (h:amtOk xs=true):(0<=(repOf xs).count/\(repOf xs).count<=12)/\(0<=(repOf xs).sum/\(repOf xs).sum<=119988)/\(0<=(repOf xs).digits/\(repOf xs).digits<=432):=by
 obtain ⟨h1,h2⟩:=yAQ h;unfold repOf;refine ⟨⟨by simp,by simp;omega⟩,⟨sumI_nonneg fun x hx=>(h2 x hx).1,?_⟩,⟨sumI_nonneg fun x hx=>?_,?_⟩⟩
 . have:=sumI_le (xs:=xs) (M:=9999) (by omega) fun x hx=>(h2 x hx).2
   simp only;omega
 . obtain ⟨n,_,rfl⟩:=List.mem_map.1 hx
   exact (dsum_bound n).1
 . have:=sumI_le (xs:=xs.map dsum) (M:=36) (by omega) fun x hx=>by obtain ⟨n,_,rfl⟩:=List.mem_map.1 hx;exact (dsum_bound n).2
   rw [List.length_map] at this;simp only;omega
theorem repOf_isRep {xs:List Int} (h:amtOk xs=true):isRep (repOf xs)=true:=by
 obtain ⟨h1,h2,h3⟩:=repOf_bound h;unfold isRep;simp only [Bool.and_eq_true,decide_eq_true_eq];omega
theorem after_ok {xs:List Int} {f:FaultT} (h:amtOk xs=true) (hf:fOk xs f):(afterF (atN xs f.card) f).length<=2/\∀ n∈afterF (atN xs f.card) f,0<=n/\n<=9999:=by
 have hn:=amt_at h f.card;unfold afterF;split
 . exact ⟨by simp,fun n hn'=>by simp at hn';omega⟩
 . split
   . rename_i h3
     rcases hf.2 with ⟨h4 | h4,_⟩ | ⟨_,h4,h5,_⟩
     . omega
     . omega
     . exact ⟨by simp,fun n hn'=>by have:=readF_bound hn h4 h5;simp at hn';omega⟩
   . exact ⟨by simp,fun n hn'=>by cases hn'⟩
theorem yBF {xs:List Int} {f:FaultT} (h:amtOk xs=true) (hf:fOk xs f):(-12<=(chgF xs f).count/\(chgF xs f).count<=12)/\(-119988<=(chgF xs f).sum/\(chgF xs f).sum<=119988)/\(-432<=(chgF xs f).digits/\(chgF xs f).digits<=432):=by
 obtain ⟨h1,h2⟩:=after_ok h hf;have a1:amtOk (afterF (atN xs f.card) f)=true:=by
  unfold amtOk;simp only [Bool.and_eq_true,decide_eq_true_eq,List.all_eq_true];exact ⟨by omega,h2⟩
 have a2:amtOk [atN xs f.card]=true:=by
  unfold amtOk;have:=amt_at h f.card;simpa using this
 have b1:=repOf_bound a1;have b2:=repOf_bound a2;unfold chgF subR;simp only;omega
theorem wrap_zero {r b c:Int} (hr:-9223372036854775808<=r/\r<=9223372036854775807) (hb:-1000000000<=b/\b<=1000000000) (hc:-1000000000<=c/\c<=1000000000):IntKind.i64.wrap (IntKind.i64.wrap (r - b) - c)=0 ↔ r=b+c:=by
 rw [IntWalk.i64_left,IntWalk.i64_left];unfold wrap64;omega
theorem miss_zero {xs:List Int} {r:ReportT} {f:FaultT} (h:amtOk xs=true) (hr:okReport r) (hf:fOk xs f):missF xs r f=zReport ↔ r=addR (repOf xs) (chgF xs f):=by
 have b1:=repOf_bound h;have b2:=yBF h hf;have w1:=wrap_zero (r:=r.count) (b:=(repOf xs).count) (c:=(chgF xs f).count) hr.1 (by omega) (by omega);have w2:=wrap_zero (r:=r.sum) (b:=(repOf xs).sum) (c:=(chgF xs f).sum) hr.2.1 (by omega) (by omega);have w3:=wrap_zero (r:=r.digits) (b:=(repOf xs).digits) (c:=(chgF xs f).digits) hr.2.2 (by omega) (by omega);unfold missF lessW;constructor
 . intro e
   injection e with e1 e2 e3;exact ReportT.ext' (w1.1 e1) (w2.1 e2) (w3.1 e3)
 . intro e
   have e1:=congrArg ReportT.count e;have e2:=congrArg ReportT.sum e;have e3:=congrArg ReportT.digits e;exact ReportT.ext' (w1.2 e1) (w2.2 e2) (w3.2 e3)
theorem yBB {x:Int} (h:-9223372036854775808<=x/\x<=9223372036854775807):IntKind.i64.wrap x=x:=IntWalk.i64_in _ (by omega)
theorem miss_two {xs:List Int} {r:ReportT} {f g:FaultT} (h:amtOk xs=true) (hr:isRep r=true) (hf:fOk xs f) (hg:fOk xs g):chgF xs g=missF xs r f ↔ r=addR (addR (repOf xs) (chgF xs f)) (chgF xs g):=by
 have b1:=repOf_bound h;have b2:=yBF h hf;have b3:=yBF h hg;unfold isRep at hr;simp only [Bool.and_eq_true,decide_eq_true_eq] at hr;have e0:missF xs r f=subR (subR r (repOf xs)) (chgF xs f):=by
  unfold missF lessW subR;simp only;rw [yBB (x:=r.count - (repOf xs).count) (by omega),yBB (x:=r.sum - (repOf xs).sum) (by omega),yBB (x:=r.digits - (repOf xs).digits) (by omega)];rw [yBB (by omega),yBB (by omega),yBB (by omega)]
 rw [e0];unfold subR addR;constructor
 . intro e
   have e1:=congrArg ReportT.count e;have e2:=congrArg ReportT.sum e;have e3:=congrArg ReportT.digits e;simp only at e1 e2 e3;exact ReportT.ext' (by simp only;omega) (by simp only;omega) (by simp only;omega)
 . intro e
   have e1:=congrArg ReportT.count e;have e2:=congrArg ReportT.sum e;have e3:=congrArg ReportT.digits e;simp only at e1 e2 e3;exact ReportT.ext' (by simp only;omega) (by simp only;omega) (by simp only;omega)
def findF (fs:List FaultT) (i:Int):Option FaultT:=fs.find? fun f=>f.card == i
def readAt (n:Int):Option FaultT->List Int
 | none=>[n]
 | some f=>afterF n f
def afterK (xs:List Int) (fs:List FaultT) (k:Nat):List Int:=(List.range k).flatMap fun i:Nat=>readAt (xs.getD i 0) (findF fs (i:Int))
def afterL (xs:List Int) (fs:List FaultT):List Int:=afterK xs fs xs.length
theorem afterK_succ (xs:List Int) (fs:List FaultT) (k:Nat):afterK xs fs (k+1)=afterK xs fs k++readAt (xs.getD k 0) (findF fs (k:Int)):=by
 unfold afterK;rw [List.range_succ,List.flatMap_append];simp
def chgS (xs:List Int) (fs:List FaultT) (k:Int):ReportT:=fs.foldr (fun f a=>if f.card<k then addR (chgF xs f) a else a) zReport
theorem chgS_succ (xs:List Int) (k:Nat):∀ (fs:List FaultT),fs.Pairwise (fun f g=>f.card<g.card) ->
 chgS xs fs ((k:Int)+1)=match findF fs (k:Int) with | none=>chgS xs fs k | some f=>addR (chgF xs f) (chgS xs fs k)
 | [],_=>rfl
 | f :: fs,h=>by
  have hp:=List.pairwise_cons.1 h;have ih:=chgS_succ xs k fs hp.2;have e1:chgS xs (f :: fs) ((k:Int)+1)=if f.card<(k:Int)+1 then addR (chgF xs f) (chgS xs fs ((k:Int)+1)) else chgS xs fs ((k:Int)+1):=rfl;have e2:chgS xs (f :: fs) (k:Int)=if f.card<(k:Int) then addR (chgF xs f) (chgS xs fs k) else chgS xs fs k:=rfl;have e3:findF (f :: fs) (k:Int)=if f.card == (k:Int) then some f else findF fs k:=by unfold findF;rw [List.find?_cons];split <;> simp_all
  by_cases hc:f.card=(k:Int)
  . have hnone:findF fs (k:Int)=none:=by
     unfold findF;rw [List.find?_eq_none];intro g hg;have:=hp.1 g hg;simp;omega
    have e4:findF (f :: fs) (k:Int)=some f:=by rw [e3,if_pos (by simpa using hc)]
    rw [e1,e2,e4,ih,hnone,if_pos (by omega),if_neg (by omega)]
  . have e4:findF (f :: fs) (k:Int)=findF fs (k:Int):=by rw [e3,if_neg (by simpa using hc)]
    rw [e4];by_cases hl:f.card<(k:Int)
    . rw [e1,if_pos (by omega),ih]
      cases findF fs (k:Int) with
      | none=>simp only;rw [e2,if_pos hl]
      | some g =>
       simp only;rw [e2,if_pos hl];unfold addR;exact ReportT.ext' (by simp only;omega) (by simp only;omega) (by simp only;omega)
    . rw [e1,if_neg (by omega),ih]
      cases findF fs (k:Int) with
      | none=>simp only;rw [e2,if_neg hl]
      | some g=>simp only;rw [e2,if_neg hl]
theorem chgS_zero (xs:List Int):∀ (fs:List FaultT),(∀ f∈fs,0<=f.card)->chgS xs fs 0=zReport
 | [],_=>rfl
 | f :: fs,h=>by
  have e2:chgS xs (f :: fs) 0=if f.card<0 then addR (chgF xs f) (chgS xs fs 0) else chgS xs fs 0:=rfl;rw [e2,if_neg (by have:=h f (by simp);omega)];exact chgS_zero xs fs fun g hg=>h g (by simp [hg])
theorem rep_after {xs:List Int} {fs:List FaultT} (hp:fs.Pairwise (fun f g=>f.card<g.card)) (h0:∀ f∈fs,0<=f.card):∀ k,k<=xs.length->repOf (afterK xs fs k)=addR (repOf (xs.take k)) (chgS xs fs k)
 | 0,_=>by
  have e1:chgS xs fs ((0:Nat):Int)=zReport:=chgS_zero xs fs h0;rw [e1];rfl
 | k+1,hk=>by
  have ih:=rep_after (xs:=xs) hp h0 k (by omega);have hx:xs[k]?=some (xs.getD k 0):=by have h2:=zF (l:=xs) (i:=k) (by omega);rw [List.getD_eq_getElem?_getD,h2];rfl
  have e1:chgS xs fs ((k+1:Nat):Int)=chgS xs fs ((k:Int)+1):=rfl;rw [afterK_succ,repOf_append,ih,yAD hx,repOf_append,e1,chgS_succ xs k fs hp];cases hf:findF fs (k:Int) with
  | none=>unfold addR readAt;exact ReportT.ext' (by simp only;omega) (by simp only;omega) (by simp only;omega)
  | some f =>
   have hc:f.card=(k:Int):=by have:=List.find?_some hf;simpa using this
   have ha:atN xs f.card=xs.getD k 0:=by unfold atN;rw [hc,zR]
   have hcg:chgF xs f=subR (repOf (afterF (xs.getD k 0) f)) (repOf [xs.getD k 0]):=by unfold chgF;rw [ha]
   simp only;rw [hcg];unfold addR subR readAt;exact ReportT.ext' (by simp only;omega) (by simp only;omega) (by simp only;omega)
theorem rep_afterL {xs:List Int} {fs:List FaultT} (hp:fs.Pairwise (fun f g=>f.card<g.card)) (h0:∀ f∈fs,0<=f.card):repOf (afterL xs fs)=addR (repOf xs) (chgS xs fs xs.length):=by
 have:=rep_after (xs:=xs) hp h0 xs.length (zA _);rwa [List.take_length] at this
theorem rep_one {xs:List Int} {f:FaultT} (hf:fOk xs f):repOf (afterL xs [f])=addR (repOf xs) (chgF xs f):=by
 rw [rep_afterL (by simp) (fun g hg=>by rw [List.mem_singleton] at hg;rw [hg];exact hf.1.1)];have:chgS xs [f] xs.length=addR (chgF xs f) zReport:=by show (if f.card<(xs.length:Int) then addR (chgF xs f) zReport else zReport)=_;rw [if_pos hf.1.2]
 rw [this];unfold addR zReport;exact ReportT.ext' (by simp only;omega) (by simp only;omega) (by simp only;omega)
theorem rep_two {xs:List Int} {f g:FaultT} (hf:fOk xs f) (hg:fOk xs g) (hc:f.card<g.card):repOf (afterL xs [f,g])=addR (addR (repOf xs) (chgF xs f)) (chgF xs g):=by
 rw [rep_afterL (by simp [hc]) (fun h hh=>by simp at hh;rcases hh with rfl | rfl;exact hf.1.1;exact hg.1.1)];have:chgS xs [f,g] xs.length=addR (chgF xs f) (addR (chgF xs g) zReport):=by
  show (if f.card<(xs.length:Int) then addR (chgF xs f) (if g.card<(xs.length:Int) then addR (chgF xs g) zReport else zReport) else _)=_
  rw [if_pos hf.1.2,if_pos hg.1.2]
 rw [this];unfold addR zReport;exact ReportT.ext' (by simp only;omega) (by simp only;omega) (by simp only;omega)
theorem rep_none (xs:List Int):repOf (afterL xs [])=repOf xs:=by
 rw [rep_afterL List.Pairwise.nil (fun g hg=>by cases hg)];show addR (repOf xs) zReport=_
 unfold addR zReport;exact ReportT.ext' (by simp only;omega) (by simp only;omega) (by simp only;omega)
theorem expl0 (xs:List Int) (r:ReportT):explF xs r 0=if repOf xs=r then [[]] else []:=by unfold explF;rw [if_pos rfl]
theorem expl1 (xs:List Int) (r:ReportT):explF xs r 1=(sglF xs r).map fun f=>[f]:=by unfold explF;rw [if_neg (by decide),if_pos rfl]
theorem expl2 (xs:List Int) (r:ReportT):explF xs r 2=pairsF xs r:=by unfold explF;rw [if_neg (by decide),if_neg (by decide)]
theorem few_same {xs:List Int} {r:ReportT} (h:amtOk xs=true) (e:repOf xs=r):fewF xs r=([[]],0):=by
 have hr:¬ (isRep r=false):=by rw [<- e,repOf_isRep h];simp
 unfold fewF;rw [if_neg hr,expl0,if_pos e];simp
theorem few_big {xs:List Int} {r:ReportT} (h:isRep r=false):fewF xs r=([],0):=by
 unfold fewF;rw [if_pos h]
theorem few_sgl {xs:List Int} {r:ReportT} (h:isRep r=true) (e:¬ repOf xs=r) (hs:sglF xs r ≠ []):fewF xs r=((sglF xs r).map (fun f=>[f]),1):=by
 unfold fewF;rw [if_neg (by rw [h];simp),expl0,if_neg e,expl1];rw [if_neg (by simp),if_pos (by simpa using hs)]
theorem few_pair {xs:List Int} {r:ReportT} (h:isRep r=true) (e:¬ repOf xs=r) (hs:sglF xs r=[]):fewF xs r=(pairsF xs r,if pairsF xs r=[] then 0 else 2):=by
 unfold fewF;rw [if_neg (by rw [h];simp),expl0,if_neg e,expl1,hs,expl2];rw [if_neg (by simp),if_neg (by simp)];by_cases hp:pairsF xs r=[]
 . rw [hp];simp
 . rw [if_pos hp,if_neg hp]
theorem pairs_two {xs:List Int} {r:ReportT} {k:Nat}:∀ p∈pairsK xs r k,p.length=2:=by
 intro p hp;unfold pairsK pairK at hp;simp only [List.mem_flatMap,List.mem_map] at hp;obtain ⟨i,_,j,_,rfl⟩:=hp;rfl
theorem few_len (xs:List Int) (r:ReportT):∀ p∈(fewF xs r).1,(p.length:Int)=(fewF xs r).2:=by
 unfold fewF;split
 . intro p hp;cases hp
 . split
   . rw [expl0]
     split
     . intro p hp;simp at hp;rw [hp];rfl
     . intro p hp;cases hp
   . split
     . rw [expl1]
       intro p hp;simp only [List.mem_map] at hp;obtain ⟨f,_,rfl⟩:=hp;rfl
     . split
       . rw [expl2]
         intro p hp;rw [pairs_two p hp];rfl
       . intro p hp;cases hp
def fewA (xs:List Int) (r:ReportT):List FaultT:=(fewF xs r).1.headD []
def fewN (xs:List Int) (r:ReportT):Int:=(fewF xs r).1.length
def fewB (xs:List Int) (r:ReportT):Bool:=!(fewF xs r).1.isEmpty
theorem few_count {xs:List Int} {r:ReportT} (h:fewB xs r=true):((fewA xs r).length:Int)=(fewF xs r).2:=by
 have hl:=few_len xs r;unfold fewB at h;unfold fewA;cases hf:(fewF xs r).1 with
 | nil=>rw [hf] at h;cases h
 | cons p ps=>rw [hf] at hl;exact hl p (by simp)
theorem pairs_before {xs:List Int} {i k:Nat} {f g:FaultT} (hi:(allF xs)[i]?=some f) (hk:(allF xs)[k]?=some g) (h:i<k):f.card<=g.card:=by
 have hp:=allK_cards xs xs.length;rw [List.pairwise_iff_getElem] at hp;have h1:=yBG hi;have h2:=yBG hk;have h3:=hp i k h1 h2 h;have e1:(allK xs xs.length)[i]=f:=by have:=zF h1;exact zD (this.symm.trans hi)
 have e2:(allK xs xs.length)[k]=g:=by have:=zF h2;exact zD (this.symm.trans hk)
 rw [e1,e2] at h3;exact h3
def ffA (xs:List Int) (r:ReportT):Int:=if amtOk xs=true then (if fewB xs r=true then (fewF xs r).2 else 0) else 0
def ffC (xs:List Int) (r:ReportT):Int:=if amtOk xs=true then (if fewB xs r=true then 0 else 3) else 1
def dgA (xs:List Int) (r:ReportT):List FaultT:=if amtOk xs=true then (if fewB xs r=true then fewA xs r else []) else []
def dgN (xs:List Int) (r:ReportT):Int:=if amtOk xs=true then (if fewB xs r=true then fewN xs r else 0) else 0
theorem fewA_len (xs:List Int) (r:ReportT):(fewA xs r).length<=2:=by
 unfold fewA;cases hf:(fewF xs r).1 with
 | nil=>simp
 | cons p ps =>
  have h:=few_len xs r p (by rw [hf];simp);have h2:(fewF xs r).2<=2:=by
   unfold fewF;split
   . show (0:Int)<=2;omega
   . split
     . show (0:Int)<=2;omega
     . split
       . show (1:Int)<=2;omega
       . split
         . show (2:Int)<=2;omega
         . show (0:Int)<=2;omega
  simp only [List.headD_cons];omega
def fsOk (xs:List Int) (fs:List FaultT):Prop:=(∀ f∈fs,fOk xs f)/\fs.Pairwise (fun f g=>f.card<g.card)/\fs.length<=2
theorem fsOk_nil (xs:List Int):fsOk xs []:=⟨(fun f h=>by cases h),List.Pairwise.nil,by simp⟩
theorem fsOk_cases {xs:List Int} {fs:List FaultT} (h:fsOk xs fs):fs=[]\/(∃ f,fs=[f]/\fOk xs f)\/∃ f g,fs=[f,g]/\fOk xs f/\fOk xs g/\f.card<g.card:=by
 obtain ⟨h1,h2,h3⟩:=h;match fs,h1,h2,h3 with
 | [],_,_,_=>exact .inl rfl
 | [f],h1,_,_=>exact .inr (.inl ⟨f,rfl,h1 f (by simp)⟩)
 | [f,g],h1,h2,_=>exact .inr (.inr ⟨f,g,rfl,h1 f (by simp),h1 g (by simp),by simpa using h2⟩)
 | _ :: _ :: _ :: _,_,_,h3=>simp at h3
theorem fsOk_one {xs:List Int} {f:FaultT} (h:fOk xs f):fsOk xs [f]:=⟨(fun g hg=>by rw [List.mem_singleton] at hg;rw [hg];exact h),by simp,by simp⟩
theorem fsOk_two {xs:List Int} {f g:FaultT} (h:fOk xs f) (k:fOk xs g) (c:f.card<g.card):fsOk xs [f,g]:=⟨(fun z hz=>by simp at hz;rcases hz with rfl | rfl;exact h;exact k),by simpa using c,by simp⟩
theorem allF_at {xs:List Int} {f:FaultT} (h:fOk xs f):∃ i:Nat,i<(allF xs).length/\(allF xs)[i]?=some f/\fGo (allF xs) i=f:=by
 obtain ⟨i,hi,he⟩:=List.getElem_of_mem (mem_allF.2 h);have h2:(allF xs)[i]?=some f:=by rw [zF hi,he]
 exact ⟨i,hi,h2,by unfold fGo;rw [List.getD_eq_getElem?_getD,h2];rfl⟩
theorem mem_pairs {xs:List Int} {r:ReportT} {p:List FaultT}:p∈pairsF xs r ↔ ∃ f g,p=[f,g]/\fOk xs f/\fOk xs g/\f.card<g.card/\chgF xs g=missF xs r f:=by
 unfold pairsF pairsK pairK pairT;simp only [List.mem_flatMap,List.mem_range,List.mem_map,List.mem_filter,Bool.and_eq_true,decide_eq_true_eq,beq_iff_eq];constructor
 . rintro ⟨i,hi,j,⟨hj,hij,hc,he⟩,rfl⟩
   have hm:∀ k,k<(allF xs).length->fOk xs (fGo (allF xs) k):=by
    intro k hk;refine mem_allF.1 ?_;unfold fGo;rw [List.getD_eq_getElem?_getD,zF hk];exact List.getElem_mem hk
   exact ⟨_,_,rfl,hm i hi,hm j hj,hc,he⟩
 . rintro ⟨f,g,rfl,hf,hg,hc,he⟩
   obtain ⟨i,hi,hfi,hfe⟩:=allF_at hf;obtain ⟨j,hj,hgj,hge⟩:=allF_at hg;have hij:i<j:=by
    rcases Nat.lt_trichotomy i j with h | h | h
    . exact h
    . subst h;rw [hfi] at hgj;have:=zD hgj;subst this;omega
    . have:=pairs_before hgj hfi h;omega
   exact ⟨i,hi,j,⟨hj,hij,by rw [hfe,hge];exact hc,by rw [hfe,hge];exact he⟩,by rw [hfe,hge]⟩
theorem rep_isRep {xs:List Int} {fs:List FaultT} (h:amtOk xs=true) (hf:fsOk xs fs):isRep (repOf (afterL xs fs))=true:=by
 have b0:=repOf_bound h;rcases fsOk_cases hf with rfl | ⟨f,rfl,h1⟩ | ⟨f,g,rfl,h1,h2,hc⟩
 . rw [rep_none];exact repOf_isRep h
 . rw [rep_one h1]
   have b1:=yBF h h1;unfold isRep addR;simp only [Bool.and_eq_true,decide_eq_true_eq];omega
 . rw [rep_two h1 h2 hc]
   have b1:=yBF h h1;have b2:=yBF h h2;unfold isRep addR;simp only [Bool.and_eq_true,decide_eq_true_eq];omega
theorem isRep_ok {r:ReportT} (h:isRep r=true):okReport r:=by
 unfold isRep at h;simp only [Bool.and_eq_true,decide_eq_true_eq] at h;unfold okReport;omega
theorem fewB_of {xs:List Int} {r:ReportT} (h:(fewF xs r).1 ≠ []):fewB xs r=true:=by
 unfold fewB;cases hf:(fewF xs r).1 with
 | nil=>exact absurd hf h
 | cons p ps=>rfl
theorem few_found {xs:List Int} {fs:List FaultT} (h:amtOk xs=true) (hf:fsOk xs fs):fewB xs (repOf (afterL xs fs))=true:=by
 have hr:=rep_isRep h hf;have ho:=isRep_ok hr;generalize hR:repOf (afterL xs fs)=r at hr ho |-;by_cases e:repOf xs=r
 . exact fewB_of (by rw [few_same h e];simp)
 . by_cases hs:sglF xs r=[]
   . refine fewB_of ?_
     rw [few_pair hr e hs];rcases fsOk_cases hf with rfl | ⟨f,rfl,h1⟩ | ⟨f,g,rfl,h1,h2,hc⟩
     . rw [rep_none] at hR;exact absurd hR e
     . rw [rep_one h1] at hR
       have hz:=(miss_zero h ho h1).2 hR.symm;have:f∈sglF xs r:=List.mem_filter.2 ⟨mem_allF.2 h1,by rw [hz];exact beq_self_eq_true _⟩;rw [hs] at this;cases this
     . rw [rep_two h1 h2 hc] at hR
       have hz:=(miss_two h hr h1 h2).2 hR.symm;have:[f,g]∈pairsF xs r:=mem_pairs.2 ⟨f,g,rfl,h1,h2,hc,hz⟩;intro e2;simp only at e2;rw [e2] at this;cases this
   . exact fewB_of (by rw [few_sgl hr e hs];simpa using hs)
theorem few_valid {xs:List Int} {r:ReportT} (h:amtOk xs=true) (ho:okReport r):∀ p∈(fewF xs r).1,fsOk xs p/\repOf (afterL xs p)=r:=by
 by_cases hr:isRep r=false
 . rw [few_big hr];intro p hp;cases hp
 . have hr:isRep r=true:=by simpa using hr
   by_cases e:repOf xs=r
   . rw [few_same h e]
     intro p hp;simp only [List.mem_singleton] at hp;subst hp;exact ⟨fsOk_nil xs,by rw [rep_none];exact e⟩
   . by_cases hs:sglF xs r=[]
     . rw [few_pair hr e hs]
       intro p hp;obtain ⟨f,g,rfl,h1,h2,hc,hm⟩:=mem_pairs.1 hp;exact ⟨fsOk_two h1 h2 hc,by rw [rep_two h1 h2 hc];exact ((miss_two h hr h1 h2).1 hm).symm⟩
     . rw [few_sgl hr e hs]
       intro p hp;obtain ⟨f,hf,rfl⟩:=List.mem_map.1 hp;obtain ⟨hm,hz⟩:=List.mem_filter.1 hf;have h1:=mem_allF.1 hm;exact ⟨fsOk_one h1,by rw [rep_one h1];exact ((miss_zero h ho h1).1 (by simpa using hz)).symm⟩
theorem few_facts {xs:List Int} {fs:List FaultT} {r:ReportT} (h:amtOk xs=true) (hf:fsOk xs fs) (hr:r=repOf (afterL xs fs)) :
 ffC xs r=0/\dgA xs r=fewA xs r/\dgN xs r=fewN xs r/\1<=fewN xs r/\ffA xs r=((fewA xs r).length:Int)/\fsOk xs (fewA xs r)/\repOf (afterL xs (fewA xs r))=r /\
 ((fewA xs r).length=2->sglF xs r=[])/\((fewA xs r).length=1->((sglF xs r).length:Int)=fewN xs r):=by
 have hB:fewB xs r=true:=by rw [hr];exact few_found h hf
 have hR:isRep r=true:=by rw [hr];exact rep_isRep h hf
 have ho:=isRep_ok hR;have hc:=few_count hB;have hne:(fewF xs r).1 ≠ []:=by intro e;unfold fewB at hB;rw [e] at hB;cases hB
 have hmem:fewA xs r∈(fewF xs r).1:=by
  unfold fewA;cases hq:(fewF xs r).1 with
  | nil=>exact absurd hq hne
  | cons p ps=>simp
 have hv:=few_valid h ho _ hmem;refine ⟨?_,?_,?_,?_,?_,hv.1,hv.2,?_,?_⟩
 . unfold ffC;rw [if_pos h,if_pos hB]
 . unfold dgA;rw [if_pos h,if_pos hB]
 . unfold dgN;rw [if_pos h,if_pos hB]
 . unfold fewN
   cases hq:(fewF xs r).1 with
   | nil=>exact absurd hq hne
   | cons p ps=>simp;omega
 . unfold ffA;rw [if_pos h,if_pos hB];exact hc.symm
 . intro h2
   by_cases e:repOf xs=r
   . have:fewA xs r=[]:=by unfold fewA;rw [few_same h e];rfl
     rw [this] at h2;cases h2
   . by_cases hs:sglF xs r=[]
     . exact hs
     . have:(fewF xs r).2=1:=by rw [few_sgl hR e hs]
       omega
 . intro h1
   by_cases e:repOf xs=r
   . have:fewA xs r=[]:=by unfold fewA;rw [few_same h e];rfl
     rw [this] at h1;cases h1
   . by_cases hs:sglF xs r=[]
     . have h3:(fewF xs r).2=0\/(fewF xs r).2=2:=by
        rw [few_pair hR e hs];by_cases hp:pairsF xs r=[]
        . left;simp [hp]
        . right;simp [hp]
       omega
     . unfold fewN
       rw [few_sgl hR e hs];simp
section
variable {H:Type} {enc:TypeId × Value->H} {P:Program} {w:World}
end
structure StepT where
 kd:Int
 ta:Int
 tb:Int
 tc:Int
 ff:Int
 ft:Int
 sf:Int
 st:Int
 tx:ByteArray
abbrev vStep (x:StepT):Value:=.agg #[.int .i64 x.kd,.int .i64 x.ta,.int .i64 x.tb,.int .i64 x.tc,.int .i64 x.ff,.int .i64 x.ft,.int .i64 x.sf,.int .i64 x.st,.string x.tx]
def okStep (x:StepT):Prop:=(-9223372036854775808<=x.kd/\x.kd<=9223372036854775807)/\(-9223372036854775808<=x.ta/\x.ta<=9223372036854775807)/\(-9223372036854775808<=x.tb/\x.tb<=9223372036854775807)/\(-9223372036854775808<=x.tc/\x.tc<=9223372036854775807)/\(-9223372036854775808<=x.ff/\x.ff<=9223372036854775807)/\(-9223372036854775808<=x.ft/\x.ft<=9223372036854775807)/\(-9223372036854775808<=x.sf/\x.sf<=9223372036854775807)/\(-9223372036854775808<=x.st/\x.st<=9223372036854775807)/\x.tx.size<=9223372036854775807
def eStep:Elt StepT:={ sz:=9,cells:=fun x=>[.int .i64 x.kd,.int .i64 x.ta,.int .i64 x.tb,.int .i64 x.tc,.int .i64 x.ff,.int .i64 x.ft,.int .i64 x.sf,.int .i64 x.st,.string x.tx],ok:=okStep,len:=fun _=>rfl,one:=fun x u hu=>by simp at hu;rcases hu with rfl | rfl | rfl | rfl | rfl | rfl | rfl | rfl | rfl <;> rfl }
def zStep:StepT:=⟨0,0,0,0,0,0,0,0,⟨#[]⟩⟩
abbrev RdStepS (B:Nat) (w:World) (v:Value) (x:List StepT):Prop:=Rds eStep B w v x
theorem eStep_open {w:World} {B:Nat} {v:Value} {xs:List StepT} (h:Rds eStep B w v xs):∃ ao cap,v=.slice ao xs.length cap /\
 (0<xs.length->∃ b off,ao=some ⟨b,off,none⟩/\(b<B/\b<w.heap.size)/\∀ k,k<xs.length->∃ x,xs[k]?=some x/\(w.cell? ⟨b,off+k * 9,none⟩=some (.int .i64 x.kd)/\w.cell? ⟨b,off+k * 9+1,none⟩=some (.int .i64 x.ta)/\w.cell? ⟨b,off+k * 9+2,none⟩=some (.int .i64 x.tb)/\w.cell? ⟨b,off+k * 9+3,none⟩=some (.int .i64 x.tc)/\w.cell? ⟨b,off+k * 9+4,none⟩=some (.int .i64 x.ff)/\w.cell? ⟨b,off+k * 9+5,none⟩=some (.int .i64 x.ft)/\w.cell? ⟨b,off+k * 9+6,none⟩=some (.int .i64 x.sf)/\w.cell? ⟨b,off+k * 9+7,none⟩=some (.int .i64 x.st)/\w.cell? ⟨b,off+k * 9+8,none⟩=some (.string x.tx))/\okStep x):=by
 rcases Rds.cases h with ⟨rfl,ao,cap,rfl,_⟩ | ⟨b,off,cap,rfl,hlt,hc⟩
 . exact ⟨ao,cap,rfl,fun h=>absurd h (by simp)⟩
 . refine ⟨_,cap,rfl,fun _=>⟨b,off,rfl,hlt,fun k hk=>?_⟩⟩
   obtain ⟨h1,h2⟩:=hc k xs[k] (by simp [hk]);refine ⟨xs[k],by simp [hk],⟨?_,?_,?_,?_,?_,?_,?_,?_,?_⟩,h1⟩
   . exact h2 0 (by decide)
   . have:=h2 1 (by decide);rw [<- Nat.add_assoc] at this;exact this
   . have:=h2 2 (by decide);rw [<- Nat.add_assoc] at this;exact this
   . have:=h2 3 (by decide);rw [<- Nat.add_assoc] at this;exact this
   . have:=h2 4 (by decide);rw [<- Nat.add_assoc] at this;exact this
   . have:=h2 5 (by decide);rw [<- Nat.add_assoc] at this;exact this
   . have:=h2 6 (by decide);rw [<- Nat.add_assoc] at this;exact this
   . have:=h2 7 (by decide);rw [<- Nat.add_assoc] at this;exact this
   . have:=h2 8 (by decide);rw [<- Nat.add_assoc] at this;exact this
theorem Tryz.infoStep:(Tryz.prog.info? 90).map (fun i=>(i.zero,i.size,i.bytes))=some (some (vStep zStep),9,80):=by kernel_rfl
def shr (n:Int):Nat->Int
 | 0=>n
 | k+1=>shr n k / 10
def wl (n:Int) (k:Nat):List Int:=(List.range k).map fun j=>shr n j % 10
theorem wl_succ (n:Int) (k:Nat):wl n (k+1)=wl n k++[shr n k % 10]:=by unfold wl;rw [List.range_succ,List.map_append];rfl
theorem wl_length (n:Int) (k:Nat):(wl n k).length=k:=by simp [wl]
theorem shr_bd {n:Int} (h0:0<=n) (h1:n<=9223372036854775807):∀ k,0<=shr n k/\shr n k<=9223372036854775807
 | 0=>⟨h0,h1⟩
 | k+1=>by have:=shr_bd h0 h1 k;show 0<=shr n k / 10/\shr n k / 10<=_;omega
theorem wl_ok (n:Int) (k:Nat):∀ x∈wl n k,0<=x/\x<=9:=by
 intro x hx;obtain ⟨j,_,rfl⟩:=List.mem_map.1 hx;omega
def CtrAt (base B:Nat) (w:World) (xs:List Int):Prop:=∃ u,Box w B [u]/\OwnInt64S base w u xs/\u.ownBlock ≠ some B
theorem Box.keptW {w w':World} {b:Nat} {cs:List Value} {row:Option Nat} (h:Box w b cs) (hg:w.grownBy w' row) (hne:row ≠ some b):Box w' b cs:=by
 have hb:=hg.block b h.lt (fun e=>hne e.symm);exact ⟨zM h.lt hg.size,fun j v hj=>(World.cell?_of_block (w:=w) (a:=⟨b,j,none⟩) hb).trans (h.cell j v hj),fun j=>(World.frozen?_of_block (w:=w) (a:=⟨b,j,none⟩) hb).trans (h.free j)⟩
theorem grown_setW (w:World) (a:Addr) (u:Value):w.grownBy (w.setCell a u) (some a.block) :=
 ⟨rfl,rfl,rfl,by simp [World.setCell],fun k hk hne=>Below.heap_setCell _ _ _ _ (fun e=>hne (by rw [e]))⟩
theorem setApartW {α:Type} {E:Elt α} {e:TypeId} {base FB j:Nat} {w:World} {v:Value} {xs:List α} (h:Own E e base w v xs) (hne:v.ownBlock ≠ some FB) (u:Value):Own E e base (w.setCell ⟨FB,j,none⟩ u) v xs :=
 Own.kept h (grown_setW w ⟨FB,j,none⟩ u) (.inr hne)
theorem CtrAt.start (W:World) (t u:TypeId):let X:=((W.alloc (.cells #[.slice none 0 0] t)).alloc (.cells #[] 2)).alloc (.cells #[.slice (some ⟨W.heap.size+1,0,none⟩) 0 0] u)
 CtrAt (W.heap.size+1) (W.heap.size+1+1) X []/\Box X W.heap.size [.slice none 0 0]/\Below W.heap.size W X:=by
 intro X;have e2:(W.alloc (.cells #[.slice none 0 0] t)).heap.size=W.heap.size+1:=by simp
 have e3:((W.alloc (.cells #[.slice none 0 0] t)).alloc (.cells #[] 2)).heap.size=W.heap.size+1+1:=by simp
 have h1:=Box.new ((W.alloc (.cells #[.slice none 0 0] t)).alloc (.cells #[] 2)) [.slice (some ⟨W.heap.size+1,0,none⟩) 0 0] u;have h2:=((Box.new W [.slice none 0 0] t).alloc (.cells #[] 2)).alloc (.cells #[.slice (some ⟨W.heap.size+1,0,none⟩) 0 0] u);have h3:=(Own.lit (E:=eI) (e:=2) (base:=W.heap.size+1) (w:=W.alloc (.cells #[.slice none 0 0] t)) (xs:=[]) (cs:=#[]) (n:=0) (by rw [e2];omega) rfl rfl (by decide) (fun x hx=>by cases hx)).alloc (.cells #[.slice (some ⟨W.heap.size+1,0,none⟩) 0 0] u);rw [e3] at h1;rw [e2] at h3;refine ⟨⟨_,h1,h3,?_⟩,h2,(((zB _ _).alloc (zA _) _).alloc (by rw [e2];omega) _).alloc (by rw [e3];omega) _⟩;intro h;have h2:W.heap.size+1=W.heap.size+1+1:=zD h;omega
theorem wheelsShow_c {K:Nat} {n:Int} {w:World} (hK:K<=21) (h0:0<=n) (h1:n<=9223372036854775807) :
 Calls Tryz.prog 184 #[.int .i64 (K:Int),.int .i64 n] w fun e w'=>∃ u,e=.returned (.agg #[u])/\OwnInt64S w.heap.size w' u (wl n K)/\Below w.heap.size w w':=by
 obtain ⟨i0,hi,hz0,hz1,hz2⟩:=info_parts Tryz.infoInt64;have hbd:=shr_bd h0 h1;have Hbd:=hid hbd;clear hbd h0 h1;go_enter Tryz.func184,Tryz.ntmps184;go_wp2_with fail;obtain ⟨k1,k2,k3⟩:=CtrAt.start w 226 226;go_loopw [9,1] (fun i nv wr=>∃ k:Nat,k<=K/\i=.int .i64 (k:Int)/\nv=.int .i64 (shr n k)/\CtrAt (w.heap.size+1) (w.heap.size+1+1) wr (wl n k)/\Box wr w.heap.size [.slice none 0 0]/\Below w.heap.size w wr) (fun i _ _=>K - (intOf i).toNat)
 case atStart=>exact ⟨0,zK _,rfl,rfl,k1,k2,k3⟩
 case round =>
  obtain ⟨k,hk,rfl,rfl,⟨u,hB,hO,hne⟩,hR,hb⟩:=hrel;clear k1 k2 k3;by_cases hkK:k<K
  . obtain ⟨q,hq⟩:∃ q,q=shr n k:=⟨_,rfl⟩
    have hqb:=Hbd.out k;have hws:=wl_succ n k;have hsk:shr n (k+1)=q / 10:=by rw [hq];rfl
    have hwl:=wl_length n k;rw [<- hq] at hqb hws |-;obtain ⟨ua,uc,hu⟩:=hO.shape;rw [hwl] at hu;subst hu;have c0:=hB.cell 0 _ rfl;have f0:=hB.free 0;have hbl:=hb.size;have hxok:eI.ok (q % 10):=by show -9223372036854775808<=q % 10/\q % 10<=9223372036854775807;omega
    obtain ⟨hq0,hq1⟩:=hqb;have HB:=hid hB;have HO:=hid hO;have HR:=hid hR;have Hb:=hid hb;have Hne:=hid hne;have Hws:=hid hws;have Hsk:=hid hsk;have Hwl:=hid hwl;clear hq hws hsk hwl hB hO hR hb hne;go_wp2_with (first | (at_builtin;refine yAB (E:=eI) rfl _ _ 48 rfl Tryz.underlying48 hi hz0 hz1 hz2 rfl (by decide) rfl rfl (HO.out.alloc _) (yAH (E:=eI) (x:=q % 10) hxok rfl) ?b1 ?b2 ?b3 ?_))
    case b1=>rw [Hwl.out];unfold maxLen;(try simp) <;> omega
    case b2=>rw [Hwl.out];(try simp) <;> omega
    case b3=>(try simp) <;> omega
    intro v5 w5 hO5 hg5;obtain ⟨va,vc,hv5⟩:=hO5.shape;rw [zE,Hwl.out] at hv5;have hv6:v5=.slice va (k+1) vc:=hv5;clear hv5;subst hv6;have hg:=hg5.alloc;have hl:=HO.out.lt;have hB5:=HB.out.keptW hg.1 Hne.out;have hR5:=HR.out.keptW hg.1 (fun h=>by have:=(hl _ h).1;omega);have hb5:=hg.below Hb.out hbl (fun z hz=>by have:=(hl z hz).1;omega);have hun:(Value.slice va (k+1) vc).ownBlock ≠ some (w.heap.size+1+1):=by
     rcases hg.2 with h | ⟨z,h,hz⟩
     . rw [h];exact Hne.out
     . rw [h];intro hh;have h2:=zD hh;have:=HB.out.lt;omega
    have c1:=hB5.cell 0 _ rfl;have f1:=hB5.free 0;have HS:Hid (CtrAt (w.heap.size+1) (w.heap.size+1+1) (w5.setCell ⟨w.heap.size+1+1,0,none⟩ (.slice va (k+1) vc)) (wl n (k+1))):=hid (by
     rw [Hws.out];exact ⟨_,hB5.set1 (j:=0) (by simp) (.slice va (k+1) vc),setApartW hO5 (j:=0) hun (.slice va (k+1) vc),hun⟩)
    have HR2:=hid (hR5.other (p:=⟨w.heap.size+1+1,0,none⟩) (by show w.heap.size+1+1 ≠ w.heap.size;omega) (.slice va (k+1) vc));have Hb2:=hid (hb5.setCell (p:=⟨w.heap.size+1+1,0,none⟩) (by show w.heap.size<=w.heap.size+1+1;omega) (.slice va (k+1) vc));clear hg5 hg hl hB5 hR5 hb5 hun hO5 c0 f0 HB HO HR Hb Hne;go_wp2;go_roundw
    case rel=>exact ⟨k+1,by omega,by go_num,by rw [Hsk.out],HS.out,HR2.out,Hb2.out⟩
    case measure=>simp [intOf];omega
  . obtain rfl:k=K:=by omega
    obtain ⟨ua,uc,rfl⟩:=hO.shape;have c0:=hB.cell 0 _ rfl;have d0:=hR.cell 0 _ rfl;have e0:=hR.free 0;have hun:(Value.slice ua (wl n k).length uc).ownBlock ≠ some w.heap.size:=fun h=>by have:=(hO.lt _ h).1;omega
    have HO2:=hid (setApartW (hO.mono (show w.heap.size<=w.heap.size+1 by omega)) (j:=0) hun (.slice ua (wl n k).length uc));have Hb2:=hid (hb.setCell (p:=⟨w.heap.size,0,none⟩) (zA _) (.slice ua (wl n k).length uc));have HR2:=hid (hR.set1 (j:=0) (by simp) (.slice ua (wl n k).length uc));have g0:=HR2.out.cell 0 _ rfl;clear hB hO hR hb hne hun;go_wp2;exact bodyPost_ret (v:=.agg #[.slice ua (wl n k).length uc]) (by simp [results,Tryz.results184,go_sem,g0]) rfl ⟨_,rfl,HO2.out,Hb2.out⟩
def badAmt (x:Int):Bool:=!decide (0<=x/\x<=9999)
theorem amtOk_bad (xs:List Int):amtOk xs=(decide (xs.length<=12) && !xs.any badAmt):=by
 unfold amtOk;congr 1;rw [List.any_eq_not_all_not,Bool.not_not];congr 1;funext x;unfold badAmt;simp
theorem clo_badAmt (x:Int) (w:World) (_h:okInt64 x):Calls Tryz.prog 102 #[.int .i64 x] w fun e w'=>e=.returned (.bool (badAmt x))/\w=w':=by
 go_enter Tryz.func102,Tryz.ntmps102;go_wp2_with fail;refine (yAY _ _ _ _).mono ?_;rintro e w' ⟨rfl,rfl⟩;go_wp2;go_ret;exact ⟨yAC (by unfold badAmt;simp),rfl⟩
theorem indexFunc_badAmt {xs:List Int} {v:Value} {w:World} {A:Nat} (ha:RdI A w v xs) :
 Calls Tryz.prog 143 #[v,.func (.func 102) #[] #[]] w fun e w'=>(∃ r:Int,e=.returned (.int .i64 r)/\-1<=r/\(0<=r ↔ xs.any badAmt=true))/\w=w':=by
 have hle:=ha.le;obtain ⟨ao,cap,rfl,ho⟩:=ha.open;obtain ⟨l,hl⟩:∃ l,l=xs.length:=⟨_,rfl⟩;rw [<- hl];have Hl:=hid hl;have Ho:=hid ho;have hl':l<=9223372036854775807:=by omega
 clear ho hl hle ha;go_enter Tryz.func143,Tryz.ntmps143;go_wp2;go_loop [8] (fun i=>∃ k:Nat,k<=l/\i=.int .i64 k/\Hid ((xs.take k).any badAmt=false)) (fun i=>l - (intOf i).toNat)
 case atStart=>exact ⟨0,zK _,rfl,rfl⟩
 case round =>
  obtain ⟨k,hk,rfl,hp⟩:=hrel;by_cases hkn:k<l
  . obtain ⟨b,off,rfl,hlt,hc⟩:=Ho.out (by have:=Hl.out;omega)
    obtain ⟨x,hx,hcx,bx⟩:=hc k (by have:=Hl.out;omega);have Hx:=hid hx;have Hb:=hid bx;clear hx hc bx;cases hq:badAmt x with
    | true =>
     have Hq:=hid hq;clear hq;go_wp2_with (go_at_call 102;refine (clo_badAmt x _ Hb.out).mono ?_;rw [Hq.out];rintro e w' ⟨rfl,rfl⟩);go_ret;refine ⟨⟨_,rfl,by omega,?_⟩,rfl⟩;have:xs.any badAmt=true:=List.any_eq_true.2 ⟨x,zC Hx.out,Hq.out⟩;simp [this]
    | false =>
     have Hq:=hid hq;clear hq;go_wp2_with (go_at_call 102;refine (clo_badAmt x _ Hb.out).mono ?_;rw [Hq.out];rintro e w' ⟨rfl,rfl⟩);go_round
     case rel=>exact ⟨k+1,by omega,by go_num,by show _=false;rw [yAD Hx.out,List.any_append,hp.out];simp [Hq.out]⟩
     case measure=>simp [intOf];omega
  . go_wp2
    go_ret;refine ⟨⟨_,rfl,by omega,?_⟩,rfl⟩;have hq:=hp.out;rw [zH (by have:=Hl.out;omega)] at hq;exact any_end hq
theorem any_badAmt {xs:List Int} {v:Value} {w:World} {A:Nat} (ha:RdI A w v xs) :
 Calls Tryz.prog 101 #[v,.func (.func 102) #[] #[]] w fun e w'=>e=.returned (.bool (xs.any badAmt))/\w=w':=by
 have Ha:=hid ha;obtain ⟨ao,cap,rfl⟩:=ha.shape;clear ha;go_enter Tryz.func101,Tryz.ntmps101;go_wp2_with fail;refine (indexFunc_badAmt Ha.out).mono ?_;rintro e w' ⟨⟨r,rfl,hr,hi⟩,rfl⟩;have Hi:=hid hi;clear hi;go_wp2;go_ret;refine ⟨yAC ?_,rfl⟩;rw [Bool.eq_iff_iff,decide_eq_true_iff];exact Hi.out
theorem ValidAmounts_c {xs:List Int} {v:Value} {w:World} {A:Nat} (ha:RdI A w v xs) :
 Calls Tryz.prog 54 #[v] w fun e w'=>e=.returned (.bool (amtOk xs))/\w=w':=by
 have Ha:=hid ha;have hle:=ha.le;obtain ⟨ao,cap,rfl⟩:=ha.shape;obtain ⟨n,hn⟩:∃ n,n=xs.length:=⟨_,rfl⟩;have e:=amtOk_bad xs;rw [<- hn] at e Ha hle |-;rw [e];clear ha hn e;by_cases hl:n<=12
 . rw [decide_eq_true hl,Bool.true_and]
   have h12:(n:Int)<=12:=by omega
   clear hl;go_enter Tryz.func54,Tryz.ntmps54;go_wp2_with fail;with_reducible refine (any_badAmt Ha.out).mono ?_
   rintro e w' ⟨rfl,rfl⟩;go_wp2;go_ret;exact ⟨rfl,rfl⟩
 . rw [decide_eq_false hl,Bool.false_and]
   have h12:¬ (n:Int)<=12:=by omega
   clear hl;go_enter Tryz.func54,Tryz.ntmps54;go_wp2;go_ret;exact ⟨rfl,rfl⟩
theorem l19Ok_c {xs:List Int} {v:Value} {w:World} {A:Nat} (ha:RdI A w v xs) :
 Calls Tryz.prog 98 #[v] w fun e w'=>e=.returned (.bool (amtOk xs))/\w=w':=by
 have hle:=ha.le;obtain ⟨ao,cap,rfl,ho⟩:=ha.open;obtain ⟨n,hn⟩:∃ n,n=xs.length:=⟨_,rfl⟩;rw [<- hn] at ho hle |-;obtain ⟨ok,hok⟩:∃ ok,amtOk xs=ok:=⟨_,rfl⟩;rw [hok];have Hok:=hid hok;have Hn:=hid hn;have Ho:=hid ho;clear ho hn ha hok;go_enter Tryz.func98,Tryz.ntmps98;go_wp2;go_loop [3] (fun i=>∃ k:Nat,k<=n/\i=.int .i64 k/\Hid ((xs.take k).any badAmt=false)) (fun i=>n - (intOf i).toNat)
 case atStart=>exact ⟨0,zK _,rfl,rfl⟩
 case round =>
  obtain ⟨k,hk,rfl,hp⟩:=hrel;by_cases hkn:k<n
  . obtain ⟨b,off,rfl,hlt,hc⟩:=Ho.out (by have:=Hn.out;omega)
    obtain ⟨x,hx,hcx,bx⟩:=hc k (by have:=Hn.out;omega);have Hx:=hid hx;clear hx hc bx;cases hq:badAmt x with
    | true =>
     have e:amtOk xs=false:=by
      rw [amtOk_bad,List.any_eq_true.2 ⟨x,zC Hx.out,hq⟩,Bool.not_true,Bool.and_false]
     have hf:decide (0<=x/\x<=9999)=false:=by unfold badAmt at hq;rwa [Bool.not_eq_true'] at hq
     rw [Hok.out] at e;subst e;have Hf:=hid hf;clear hq hf;go_wp2_with fail;with_reducible refine (yAM _ _ _ _).mono ?_
     rw [Hf.out];rintro e w' ⟨rfl,rfl⟩;go_wp2;go_ret;exact ⟨rfl,rfl⟩
    | false =>
     have hf:decide (0<=x/\x<=9999)=true:=by unfold badAmt at hq;rwa [Bool.not_eq_false'] at hq
     have Hq:=hid hq;have Hf:=hid hf;clear hq hf;go_wp2_with fail;with_reducible refine (yAM _ _ _ _).mono ?_
     rw [Hf.out];rintro e w' ⟨rfl,rfl⟩;go_wp2;go_round
     case rel=>exact ⟨k+1,by omega,by go_num,by show _=false;rw [yAD Hx.out,List.any_append,hp.out];simp [Hq.out]⟩
     case measure=>simp [intOf];omega
  . obtain rfl:k=n:=by omega
    have e:amtOk xs=decide ((k:Int)<=12):=by
     have h:=hp.out;rw [zH (by have:=Hn.out;omega)] at h;rw [amtOk_bad,h,Bool.not_false,Bool.and_true,<- Hn.out];exact decide_eq_decide.2 (by omega)
    rw [Hok.out] at e;subst e;go_wp2;go_ret;exact ⟨rfl,rfl⟩
theorem dsum_step {n:Int} (h:0<=n/\n<=9999):dsum n=n % 10+dsum (n / 10):=by
 unfold dsum digA p10;simp;omega
theorem l19Digits_c {n:Int} {w:World} (h:0<=n/\n<=9999):Calls Tryz.prog 99 #[.int .i64 n] w fun e w'=>e=.returned (.int .i64 (dsum n))/\w=w':=by
 obtain ⟨d,hd⟩:∃ d,d=dsum n:=⟨_,rfl⟩;rw [<- hd];have Hd:=hid hd;clear hd;go_enter Tryz.func99,Tryz.ntmps99;go_wp2;go_loop [0,3] (fun nv sv=>∃ q s:Int,(0<=q/\q<=9999)/\(0<=s/\s+dsum q<=36)/\nv=.int .i64 q/\sv=.int .i64 s/\Hid (d=s+dsum q)) (fun nv _=>(intOf nv).toNat)
 case atStart=>exact ⟨n,0,h,by have:=dsum_bound n;omega,rfl,rfl,by show d=_;rw [Hd.out];omega⟩
 case round =>
  obtain ⟨q,s,⟨hq0,hq1⟩,⟨hs0,hs1⟩,rfl,rfl,Hs⟩:=hrel;have hs2:s<=36:=by have:=dsum_bound q;omega
  have Hs1:=hid hs1;clear hs1;by_cases hqz:0<q
  . have hst:=dsum_step ⟨hq0,hq1⟩
    have Hst:=hid hst;clear hst;go_wp2;go_round
    case rel=>exact ⟨q / 10,s+q % 10,by omega,by have:=Hst.out;have:=Hs1.out;omega,by go_num,by go_num,by show d=_;rw [Hs.out,Hst.out];omega⟩
    case measure=>simp [intOf];omega
  . obtain rfl:q=0:=by omega
    have hz:d=s:=by rw [Hs.out];show s+dsum 0=s;rw [show dsum 0=0 by decide];omega
    subst hz;clear hqz;go_wp2;go_ret;exact ⟨rfl,rfl⟩
end Go.Proofs.YtmindpfmgnnieaaGreatDoor
