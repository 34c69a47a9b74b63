/- Lemmas on the way to the law that OfficeAt returns what the reference's returns. No condition. -/
import Derived.Test.YthdaghfhlfjclaaGreatRows
import Derived.Test.YthdaghfhlfjclaaGreatMO3
import Derived.Deep.Slices
import Derived.Deep.Fields
import Derived.ChangeSame
import Derived.Lib.SmallJoins
import Derived.StillTailTactics
import Derived.Deep.DeepCutAuto
import Derived.Laws.StructEq
import Derived.Test.YthdaghfhlfjclaaGreatMO4
namespace Go.Proofs.YthdaghfhlfjclaaGreat
set_option linter.unusedSimpArgs false
open Lib (hid)
open Go.ChangeShapes Go.WideShapes Go.ChangeAt Go.RowKit Go.Deep Go.Joins
set_option linter.unusedVariables false
set_option maxRecDepth 100000
def setRun:List Value→Nat→List Value→List Value
 | l,_,[]=>l
 | l,i,c :: cs=>setRun (l.set i c) (i+1) cs
theorem setRun_get:∀ (cs l:List Value) (i j:Nat),(setRun l i cs)[j]?=if i≤j∧j<i+cs.length∧j<l.length then cs[j - i]? else l[j]?:=by
 intro cs;induction cs with
 | nil=>intro l i j;rw [setRun,if_neg (by simp;omega)]
 | cons c cs ih =>
  intro l i j;rw [setRun,ih,List.length_set,List.getElem?_set];by_cases h1:i+1≤j∧j<i+1+cs.length∧j<l.length
  · rw [if_pos h1,if_pos ⟨by omega,by simp;omega,h1.2.2⟩]
    have:j - i=(j - (i+1))+1:=by omega
    rw [this,List.getElem?_cons_succ]
  · rw [if_neg h1]
    by_cases h2:i=j
    · subst h2
      rw [if_pos rfl];by_cases h3:i<l.length
      · rw [if_pos h3,if_pos ⟨Nat.le_refl _,by simp,h3⟩];simp
      · rw [if_neg h3,if_neg (fun h=>h3 h.2.2),List.getElem?_eq_none (by omega)]
    · rw [if_neg h2,if_neg (fun h=>h1 ⟨by omega,by have:=h.2.1;simp at this;omega,h.2.2⟩)]
def setRunW:World→Nat→Nat→List Value→World
 | w,_,_,[]=>w
 | w,g,i,c :: cs=>setRunW (w.setCell ⟨g,i,none⟩ c) g (i+1) cs
theorem ownsRow_run {base:Nat} {e:TypeId} {size g n cap:Nat}:∀ (new:List Value) (w:World) (i:Nat) (cs:List Value),w.ownsRow base e size (.slice (some ⟨g,0,none⟩) n cap) n cs →
 (setRunW w g i new).ownsRow base e size (.slice (some ⟨g,0,none⟩) n cap) n (setRun cs i new)∧w.grownBy (setRunW w g i new) (some g)∧(setRunW w g i new).heap.size=w.heap.size:=by
 intro new;induction new with
 | nil=>intro w i cs h;exact ⟨h,World.grownBy.refl _ _,rfl⟩
 | cons c new ih =>
  intro w i cs h;have h1:=h.stored i c;have h2:=ih (w.setCell ⟨g,i,none⟩ c) (i+1) _ h1.1;exact ⟨h2.1,grownBy_trans h1.2 h2.2.1,by rw [show setRunW w g i (c :: new)=setRunW (w.setCell ⟨g,i,none⟩ c) g (i+1) new from rfl,h2.2.2];simp⟩
section
variable {α:Type} {E:Elt α}
theorem Elt.all_set (hz:0<E.sz) {xs:List α} {k:Nat} {x:α} (hk:k<xs.length):setRun (E.all xs) (k * E.sz) (E.cells x)=E.all (xs.set k x):=by
 apply List.ext_getElem?
 intro j;rw [setRun_get,E.len,E.all_length];have hj:j=(j / E.sz) * E.sz+j % E.sz:=by have:=Nat.div_add_mod j E.sz;rw [Nat.mul_comm] at this;omega
 have hm:=Nat.mod_lt j hz;by_cases h:j<xs.length * E.sz
 · have hq:j / E.sz<xs.length:=Nat.div_lt_of_lt_mul (by rw [Nat.mul_comm];exact h)
   by_cases e:k=j / E.sz
   · have hy:(xs.set k x)[j / E.sz]?=some x:=by rw [← e,List.getElem?_set];simp [hk]
     rw [if_pos ⟨by rw [e];exact Nat.div_mul_le_self _ _,by rw [e];omega,h⟩];conv=>rhs;rw [hj,E.all_get hy hm]
     congr 1
     rw [e];omega
   · have hy:(xs.set k x)[j / E.sz]?=some (xs[j / E.sz]):=by rw [List.getElem?_set,if_neg e];simp [hq]
     have hy2:xs[j / E.sz]?=some (xs[j / E.sz]):=by simp [hq]
     have hne:¬ (k * E.sz≤j∧j<k * E.sz+E.sz∧j<xs.length * E.sz):=by
      rintro ⟨h1,h2,_⟩
      apply e
      rw [hj] at h1 h2;rcases Nat.lt_or_gt_of_ne e with h3 | h3
      · have:(k+1) * E.sz≤j / E.sz * E.sz:=Nat.mul_le_mul_right _ h3
        rw [Nat.add_mul] at this;omega
      · have:(j / E.sz+1) * E.sz≤k * E.sz:=Nat.mul_le_mul_right _ h3
        rw [Nat.add_mul] at this;omega
     rw [if_neg hne];conv=>lhs;rw [hj,E.all_get hy2 hm]
     conv=>rhs;rw [hj,E.all_get hy hm]
 · rw [if_neg (fun hh=>h hh.2.2),List.getElem?_eq_none (by rw [E.all_length];omega),List.getElem?_eq_none (by rw [E.all_length,List.length_set];omega)]
theorem Elt.all_made (hz:0<E.sz) {z:α} {zv:Value} (h:zv.cells=(E.cells z).toArray) (n:Nat):(madeCells zv.cells (n * E.sz)).toList=E.all (List.replicate n z):=by
 apply List.ext_getElem?
 intro j;have hj:j=(j / E.sz) * E.sz+j % E.sz:=by have:=Nat.div_add_mod j E.sz;rw [Nat.mul_comm] at this;omega
 have hm:=Nat.mod_lt j hz;have hs:zv.cells.size=E.sz:=by rw [h,List.size_toArray,E.len]
 by_cases hlt:j<n * E.sz
 · have hq:j / E.sz<n:=Nat.div_lt_of_lt_mul (by rw [Nat.mul_comm];exact hlt)
   have hy:(List.replicate n z)[j / E.sz]?=some z:=by rw [List.getElem?_replicate,if_pos hq]
   conv=>rhs;rw [hj,E.all_get hy hm]
   rw [madeCells,Array.toList_map,List.getElem?_map,Array.toList_range,List.getElem?_range hlt,Option.map_some,hs,h];have hl:j % E.sz<(E.cells z).length:=by rw [E.len];exact hm
   simp [hl]
 · rw [List.getElem?_eq_none (by rw [Array.length_toList,size_madeCells];omega),List.getElem?_eq_none (by rw [E.all_length,List.length_replicate];omega)]
theorem Own.storeE (hz:0<E.sz) {e:TypeId} {base g n cap k:Nat} {w:World} {xs:List α} {x:α} (h:Own E e base w (.slice (some ⟨g,0,none⟩) n cap) xs) (hn:n=xs.length) (hk:k<n) (hx:E.ok x) :
 Own E e base (setRunW w g (k * E.sz) (E.cells x)) (.slice (some ⟨g,0,none⟩) n cap) (xs.set k x)∧w.grownBy (setRunW w g (k * E.sz) (E.cells x)) (some g)∧(setRunW w g (k * E.sz) (E.cells x)).heap.size=w.heap.size:=by
 subst hn;have h1:=ownsRow_run (E.cells x) w (k * E.sz) _ h.1;rw [E.all_set hz hk] at h1;refine ⟨⟨by rw [List.length_set];exact h1.1,fun y hy=>?_⟩,h1.2⟩
 rcases List.mem_or_eq_of_mem_set hy with hy | rfl
 · exact h.2 y hy
 · exact hx
theorem Elt.all_set1 (hz:0<E.sz) {xs:List α} {k j:Nat} {x y:α} {v:Value} (hx:xs[k]?=some x) (hj:j<E.sz) (hy:(E.cells x).set j v=E.cells y):(E.all xs).set (k * E.sz+j) v=E.all (xs.set k y):=by
 have hk:=at_lt hx;rw [← E.all_set hz hk];apply List.ext_getElem?
 intro i;rw [setRun_get,List.getElem?_set,E.len,E.all_length];have h5:(k+1) * E.sz≤xs.length * E.sz:=Nat.mul_le_mul_right _ hk;rw [Nat.add_mul,Nat.one_mul] at h5;by_cases e:k * E.sz+j=i
 · rw [if_pos e,if_pos (by omega),if_pos ⟨by omega,by omega,by omega⟩,← hy,← e,Nat.add_sub_cancel_left,List.getElem?_set,if_pos rfl,if_pos (by rw [E.len];exact hj)]
 · rw [if_neg e]
   by_cases h:k * E.sz≤i∧i<k * E.sz+E.sz∧i<xs.length * E.sz
   · rw [if_pos h,← hy,List.getElem?_set,if_neg (by omega)]
     have hi:i=k * E.sz+(i - k * E.sz):=by omega
     conv=>lhs;rw [hi]
     exact E.all_get hx (by omega)
   · rw [if_neg h]
theorem Own.store1 (hz:0<E.sz) {e:TypeId} {base g n cap k j:Nat} {w:World} {xs:List α} {x y:α} {v:Value} (h:Own E e base w (.slice (some ⟨g,0,none⟩) n cap) xs) (hn:n=xs.length) (hx:xs[k]?=some x) (hj:j<E.sz) (hy:(E.cells x).set j v=E.cells y) (hok:E.ok y) :
 Own E e base (w.setCell ⟨g,k * E.sz+j,none⟩ v) (.slice (some ⟨g,0,none⟩) n cap) (xs.set k y)∧w.grownBy (w.setCell ⟨g,k * E.sz+j,none⟩ v) (some g):=by
 subst hn;have h1:=h.1.stored (k * E.sz+j) v;rw [E.all_set1 hz hx hj hy] at h1;refine ⟨⟨by rw [List.length_set];exact h1.1,fun z hz'=>?_⟩,h1.2⟩
 rcases List.mem_or_eq_of_mem_set hz' with hz' | rfl
 · exact h.2 z hz'
 · exact hok
theorem Own.cellE {e:TypeId} {base g n cap:Nat} {w:World} {xs:List α} (h:Own E e base w (.slice (some ⟨g,0,none⟩) n cap) xs) (hn:n=xs.length) {k j:Nat} (hk:k<n) (hj:j<E.sz) :
 (∃ u,w.cell? ⟨g,k * E.sz+j,none⟩=some u)∧w.frozen? ⟨g,k * E.sz+j,none⟩=false:=by
 subst hn;have hlt:k * E.sz+j<xs.length * E.sz:=by
  have:(k+1) * E.sz≤xs.length * E.sz:=Nat.mul_le_mul_right _ hk;rw [Nat.add_mul] at this;omega
 refine ⟨⟨(E.all xs)[k * E.sz+j]'(by rw [E.all_length];exact hlt),?_⟩,h.1.frozenAt _⟩
 rw [h.1.cellAt _ hlt];simp [E.all_length,hlt]
end
def mkL {α:Type} (f:Int→α) (d:Int):Int→Nat→List α
 | _,0=>[]
 | k,n+1=>f k :: mkL f d (k+d) n
section
variable {α:Type} {f:Int→α} {d:Int}
theorem mkL_length (n:Nat):∀ k,(mkL f d k n).length=n:=by
 induction n with
 | zero=>intro k;rfl
 | succ n ih=>intro k;simp [mkL,ih]
theorem mkL_get (n:Nat):∀ (k:Int) (j:Nat),(mkL f d k n)[j]?=if j<n then some (f (k+d * j)) else none:=by
 induction n with
 | zero=>intro k j;simp [mkL]
 | succ n ih =>
  intro k j;cases j with
  | zero=>simp [mkL]
  | succ j =>
   rw [mkL,List.getElem?_cons_succ,ih];by_cases h:j<n
   · rw [if_pos h,if_pos (by omega)]
     congr 2
     rw [Int.natCast_add,Int.mul_add];omega
   · rw [if_neg h,if_neg (by omega)]
theorem mkL_set (xs:List α) (k:Int) (j:Nat) (hj:j<xs.length):(mkL f d k j++xs.drop j).set j (f (k+d * j))=mkL f d k (j+1)++xs.drop (j+1):=by
 apply List.ext_getElem?
 intro i;simp only [List.getElem?_set,List.getElem?_append,List.length_append,List.length_drop,mkL_length,mkL_get,List.getElem?_drop]
 by_cases h1:j=i
 · subst h1
   rw [if_pos rfl,if_pos (by omega),if_pos (by omega),if_pos (by omega)]
 · rw [if_neg h1]
   by_cases h2:i<j
   · rw [if_pos h2,if_pos h2,if_pos (by omega),if_pos (by omega)]
   · rw [if_neg h2]
     by_cases h3:i<j+1
     · omega
     · rw [if_neg h3,show j+(i - j)=j+1+(i - (j+1)) by omega]
end
def sumBy {α:Type} (f:α→Int):List α→Int
 | []=>0
 | x :: xs=>f x+sumBy f xs
theorem sumBy_append {α:Type} (f:α→Int) (xs ys:List α):sumBy f (xs++ys)=sumBy f xs+sumBy f ys:=by
 induction xs with
 | nil=>simp [sumBy]
 | cons x xs ih=>simp only [List.cons_append,sumBy,ih];omega
theorem sumBy_snoc {α:Type} (f:α→Int) {xs:List α} {k:Nat} {x:α} (hx:xs[k]?=some x):sumBy f (xs.take (k+1))=sumBy f (xs.take k)+f x:=by
 rw [take_snoc hx,sumBy_append];simp [sumBy]
theorem sumBy_nonneg {α:Type} {f:α→Int} (h:∀ x,0≤f x) (xs:List α):0≤sumBy f xs:=by
 induction xs with
 | nil=>simp [sumBy]
 | cons x xs ih=>simp only [sumBy];have:=h x;omega
theorem sumBy_take_le {α:Type} {f:α→Int} (h:∀ x,0≤f x) (xs:List α) (k:Nat):sumBy f (xs.take k)≤sumBy f xs:=by
 conv=>rhs;rw [← List.take_append_drop k xs]
 rw [sumBy_append];have:=sumBy_nonneg h (xs.drop k);omega
theorem set_take_repl {α:Type} {xs:List α} {n k:Nat} {x z:α} (hx:xs[k]?=some x) (hn:n=xs.length) (hk:k<n):(xs.take k++List.replicate (n - k) z).set k x=xs.take (k+1)++List.replicate (n - (k+1)) z:=by
 have hl:=at_lt hx;rw [take_snoc hx];have e:n - k=(n - (k+1))+1:=by omega
 have h0:(xs.take k).length=k:=by simp;omega
 rw [e,List.replicate_succ,List.set_append_right _ _ (by omega),h0,Nat.sub_self];simp
theorem list_of {α:Type} {p:Nat→α→Prop}:∀ (n:Nat),(∀ i,i<n→∃ x,p i x)→∃ xs:List α,xs.length=n∧∀ i x,xs[i]?=some x→p i x:=by
 intro n;induction n with
 | zero=>intro _;exact ⟨[],rfl,fun i x h=>by simp at h⟩
 | succ n ih =>
  intro h;obtain ⟨xs,hl,hp⟩:=ih (fun i hi=>h i (by omega));obtain ⟨x,hx⟩:=h n (by omega);refine ⟨xs++[x],by simp [hl],fun i y hy=>?_⟩
  by_cases hi:i<n
  · rw [List.getElem?_append_left (by omega)] at hy
    exact hp i y hy
  · have hlt:=at_lt hy
    have e:i=n:=by rw [List.length_append] at hlt;simp at hlt;omega
    subst e;rw [List.getElem?_append_right (by omega),hl,Nat.sub_self] at hy;simp at hy
    subst hy;exact hx
section
variable {H:Type} {enc:TypeId × Value→H} {P:Program} {w:World} {base:Nat} {spare:Nat→Bool} {held:Bool}
end
theorem below_run {B a g:Nat} {w0:World} (hg:B≤g):∀ (cs:List Value) (w:World) (i:Nat),Below B w0 w→Below B w0 (setRunW w g i cs):=by
 intro cs;induction cs with
 | nil=>intro w i h;exact h
 | cons c cs ih=>intro w i h;exact ih _ _ (h.setCell (p:=⟨g,i,none⟩) hg c)
theorem _root_.Go.RowKit.Below.run {B:Nat} {w0 w:World} (h:Below B w0 w) {g:Nat} (hg:B≤g) (cs:List Value):Below B w0 (setRunW w g 0 cs):=below_run (a:=0) hg cs w 0 h
theorem bcell {W w1:World} (hb:Below W.heap.size W w1):(∀ b o,b<W.heap.size→w1.cell? ⟨b,o,none⟩=W.cell? ⟨b,o,none⟩)∧(∀ b o,b<W.heap.size→w1.frozen? ⟨b,o,none⟩=W.frozen? ⟨b,o,none⟩) :=
 ⟨fun b o h=>hb.cell (p:=⟨b,o,none⟩) h,fun b o h=>hb.frozen (p:=⟨b,o,none⟩) h⟩
structure Box (w:World) (b:Nat) (cs:List Value):Prop where
 lt:b<w.heap.size
 cell:∀ (j:Nat) (v:Value),cs[j]?=some v→w.cell? ⟨b,j,none⟩=some v
 free:∀ j:Nat,w.frozen? ⟨b,j,none⟩=false
theorem Box.below {w w':World} {b B:Nat} {cs:List Value} (h:Box w b cs) (hb:Below B w w') (hB:b<B):Box w' b cs :=
 ⟨Nat.lt_of_lt_of_le h.lt hb.size,fun j v hj=>(hb.cell (p:=⟨b,j,none⟩) hB).trans (h.cell j v hj),fun j=>(hb.frozen (p:=⟨b,j,none⟩) hB).trans (h.free j)⟩
theorem Box.on {w w':World} {b:Nat} {cs:List Value} (h:Box w b cs) (hb:Below w.heap.size w w'):Box w' b cs:=h.below hb h.lt
theorem Box.alloc {w:World} {b:Nat} {cs:List Value} (h:Box w b cs) (o:Obj):Box (w.alloc o) b cs:=h.on ((Below.refl _ _).alloc (Nat.le_refl _) _)
theorem Box.drew1 {w:World} {b:Nat} {cs:List Value} (h:Box w b cs):Box w.drew b cs:=⟨h.lt,h.cell,h.free⟩
theorem _root_.Go.RowKit.Below.drew1 {B:Nat} {a w:World} (h:Below B a w):Below B a w.drew:=⟨h.os,h.tape,h.output,h.size,h.block⟩
theorem Rds.onn {α:Type} {E:Elt α} {B:Nat} {w w':World} {v:Value} {xs:List α} (h:Rds E B w v xs) (hb:Below w.heap.size w w'):Rds E w'.heap.size w' v xs:=(h.tight.below hb (Nat.le_refl _)).mono hb.size
theorem Box.new (w:World) (cs:List Value) (t:TypeId):Box (w.alloc (.cells cs.toArray t)) w.heap.size cs :=
 ⟨by simp,fun j v hj=>by simp [World.cell?_alloc_new,hj],fun j=>by simp [go_sem]⟩
theorem Box.set1 {w:World} {b j:Nat} {cs:List Value} (h:Box w b cs) (hj:j<cs.length) (v:Value):Box (w.setCell ⟨b,j,none⟩ v) b (cs.set j v):=by
 refine ⟨by simpa using h.lt,fun i u hi=>?_,fun i=>by rw [← h.free i];simp [go_sem]⟩
 rw [List.getElem?_set] at hi;by_cases e:j=i
 · subst e
   rw [if_pos rfl,if_pos hj] at hi;cases hi
   have hu:=h.cell j cs[j] (by simp [hj]);simp [go_sem,hu]
 · rw [if_neg e] at hi
   have hu:=h.cell i u hi;rw [← hu];have hne:¬ i=j:=fun h=>e h.symm;simp [go_sem]
theorem Box.other {w:World} {b:Nat} {cs:List Value} (h:Box w b cs) {p:Addr} (hp:p.block ≠ b) (v:Value):Box (w.setCell p v) b cs:=by
 refine ⟨by simpa using h.lt,fun i u hi=>?_,fun i=>by rw [← h.free i];simp [go_sem]⟩
 rw [← h.cell i u hi];obtain ⟨pb,po,ps⟩:=p;have hne:¬ b=pb:=fun e=>hp e.symm;simp [go_sem]
theorem toList_inj {a b:ByteArray}:a.toList=b.toList ↔ a=b:=by
 rw [ByteArray.toList_eq,ByteArray.toList_eq];obtain ⟨⟨x⟩⟩:=a;obtain ⟨⟨y⟩⟩:=b;simp
theorem _root_.Go.RowKit.Below.drewNy {B:Nat} {a w:World} (h:Below B a w) (m:Nat):Below B a (w.drewN m):=⟨h.os,h.tape,h.output,h.size,h.block⟩
theorem trodI {H:Type} {enc:TypeId × Value→H} {P:Program} {w:World} {base:Nat} {spare:Nat→Bool} {held:Bool} {t:TypeId} {n:Nat} {v:Value} {y:DataW H × List MemPlace} (ht:P.underlying t=some (.int .i64)) (h:DataW.trod enc P w base spare held n t [v]=some y) :
 ∃ x:Int,v=.int .i64 x∧-9223372036854775808≤x∧x≤9223372036854775807:=by
 obtain ⟨x,hx,_,hw⟩:=DataW.trod_int ht h;simp [Lit.wf,IntKind.min,IntKind.max,IntKind.signed,IntKind.bits] at hw
 exact ⟨x,by simpa using hx,hw⟩
theorem trodS {H:Type} {enc:TypeId × Value→H} {P:Program} {w:World} {base:Nat} {spare:Nat→Bool} {held:Bool} {t:TypeId} {n:Nat} {v:Value} {y:DataW H × List MemPlace} (ht:P.underlying t=some .string) (h:DataW.trod enc P w base spare held n t [v]=some y) :
 ∃ x:ByteArray,v=.string x∧x.size≤9223372036854775807:=by
 obtain ⟨x,hx,_,hw⟩:=DataW.trod_string ht h;exact ⟨x,by simpa using hx,by unfold maxLen at hw;omega⟩
def bytesI (s:ByteArray):List Int:=s.data.toList.map (fun c=>(c.toNat:Int))
theorem bytesI_length (s:ByteArray):(bytesI s).length=s.size:=by simp [bytesI]
theorem bytesI_at (s:ByteArray) (k:Nat) (h:k<s.size):(bytesI s)[k]?=some (s[k].toNat:Int):=by
 unfold bytesI;rw [List.getElem?_map];have h1:s.data.toList[k]?=some s[k]:=by
  rw [List.getElem?_eq_getElem (by simpa using h)];rfl
 rw [h1];rfl
theorem isDigit_yes (c:Int) (w:World) (h:48≤c∧c≤57):Calls Tryz.prog 236 #[.int .u8 c] w fun e w'=>e=.returned (.bool true)∧w=w':=by
 obtain ⟨h1,h2⟩:=h;go_enter Tryz.func236,Tryz.ntmps236
 go_wp2
 go_ret
 exact ⟨rfl,rfl⟩
theorem isDigit_no (c:Int) (w:World) (h:¬ (48≤c∧c≤57)):Calls Tryz.prog 236 #[.int .u8 c] w fun e w'=>e=.returned (.bool false)∧w=w':=by
 by_cases h1:48≤c
 · have h2:57<c:=by omega
   clear h;go_enter Tryz.func236,Tryz.ntmps236
   go_wp2
   go_ret
   exact ⟨ret_bool (by simp;omega),rfl⟩
 · clear h
   go_enter Tryz.func236,Tryz.ntmps236
   go_wp2
   go_ret
   exact ⟨rfl,rfl⟩
theorem l01Digit_yes (c:Int) (w:World) (h:48≤c∧c≤57):Calls Tryz.prog 158 #[.int .u8 c] w fun e w'=>e=.returned (.bool true)∧w=w':=by
 obtain ⟨h1,h2⟩:=h;go_enter Tryz.func158,Tryz.ntmps158
 go_wp2
 go_ret
 exact ⟨rfl,rfl⟩
theorem l01Digit_no (c:Int) (w:World) (h:¬ (48≤c∧c≤57)):Calls Tryz.prog 158 #[.int .u8 c] w fun e w'=>e=.returned (.bool false)∧w=w':=by
 by_cases h1:48≤c
 · have h2:57<c:=by omega
   clear h;go_enter Tryz.func158,Tryz.ntmps158
   go_wp2
   go_ret
   exact ⟨ret_bool (by simp;omega),rfl⟩
 · clear h
   go_enter Tryz.func158,Tryz.ntmps158
   go_wp2
   go_ret
   exact ⟨rfl,rfl⟩
def selI (p:Int→Bool):Nat→List Int
 | 0=>[]
 | k+1=>selI p k++(if p (k:Int)=true then [(k:Int)] else [])
theorem selI_succ (p:Int→Bool) (k:Nat):selI p (k+1)=selI p k++(if p (k:Int)=true then [(k:Int)] else []):=rfl
theorem selI_len (p:Int→Bool) (k:Nat):(selI p k).length≤k:=by
 induction k with
 | zero=>exact Nat.le_refl _
 | succ k ih=>rw [selI_succ,List.length_append];split <;> simp <;> omega
def atI (xs:List Int) (k:Nat):Int:=xs.getD k 0
theorem copyInts_c {xs:List Int} {v:Value} {w:World} {A:Nat} (ha:RdI A w v xs) (hl:xs.length≤2097152) :
 Calls Tryz.prog 207 #[v] w fun e w'=>∃ u,e=.returned u∧OwnInt64S w.heap.size w' u xs∧Below w.heap.size w w':=by
 obtain ⟨i0,hi,hz0,hz1,hz2⟩:=info_parts Tryz.infoInt64;have h0:OwnInt64S w.heap.size (w.alloc (.cells #[] 2)) (.slice (some ⟨w.heap.size,0,none⟩) 0 0) []:=Own.lit (E:=eI) (xs:=[]) (cs:=#[]) (Nat.le_refl _) rfl rfl (by decide) (fun x hx=>by cases hx);have hb0:Below w.heap.size w (w.alloc (.cells #[] 2)):=(Below.refl _ _).alloc (Nat.le_refl _) _;have hr:RdI (w.heap.size+1) (w.alloc (.cells #[] 2)) v xs:=by have:=Rds.onn ha hb0;simpa using this
 have H0:=hid h0;have Hb0:=hid hb0;have Hr:=hid hr;have Hl:=hid hl;clear h0 hb0 hr ha hl;go_enter Tryz.func207,Tryz.ntmps207
 go_wp2_with (first | (at_builtin;refine wpList_appS (E:=eI) rfl _ _ 29 rfl Tryz.underlying29 hi hz0 hz1 hz2 rfl (by decide) rfl rfl H0.out Hr.out ?b1 ?b2 ?b3 ?_))
 case b1=>have:=Hl.out;unfold maxLen;simp;omega
 case b2=>have:=Hl.out;simp;omega
 case b3=>simp
 intro v' w2 hR2 hg;have hb2:=hg.below Hb0.out (by simp) (fun q hq=>(H0.out.lt q hq).1);clear hg;have hR3:OwnInt64S w.heap.size w2 v' xs:=hR2;clear hR2;have HR3:=hid hR3;clear hR3;go_wp2
 go_ret
 exact ⟨_,rfl,HR3.out,hb2⟩
theorem l00Own_c {xs:List Int} {v:Value} {w:World} {A:Nat} (ha:RdI A w v xs) (hl:xs.length≤2097152) :
 Calls Tryz.prog 156 #[v] w fun e w'=>∃ u,e=.returned u∧OwnInt64S w.heap.size w' u xs∧Below w.heap.size w w':=by
 obtain ⟨i0,hi,hz0,hz1,hz2⟩:=info_parts Tryz.infoInt64;have h0:OwnInt64S w.heap.size (w.alloc (.cells #[] 2)) (.slice (some ⟨w.heap.size,0,none⟩) 0 0) []:=Own.lit (E:=eI) (xs:=[]) (cs:=#[]) (Nat.le_refl _) rfl rfl (by decide) (fun x hx=>by cases hx);have hb0:Below w.heap.size w (w.alloc (.cells #[] 2)):=(Below.refl _ _).alloc (Nat.le_refl _) _;have hr:RdI (w.heap.size+1) (w.alloc (.cells #[] 2)) v xs:=by have:=Rds.onn ha hb0;simpa using this
 have H0:=hid h0;have Hb0:=hid hb0;have Hr:=hid hr;have Hl:=hid hl;clear h0 hb0 hr ha hl;go_enter Tryz.func156,Tryz.ntmps156
 go_wp2_with (first | (at_builtin;refine wpList_appS (E:=eI) rfl _ _ 29 rfl Tryz.underlying29 hi hz0 hz1 hz2 rfl (by decide) rfl rfl H0.out Hr.out ?b1 ?b2 ?b3 ?_))
 case b1=>have:=Hl.out;unfold maxLen;simp;omega
 case b2=>have:=Hl.out;simp;omega
 case b3=>simp
 intro v' w2 hR2 hg;have hb2:=hg.below Hb0.out (by simp) (fun q hq=>(H0.out.lt q hq).1);clear hg;have hR3:OwnInt64S w.heap.size w2 v' xs:=hR2;clear hR2;have HR3:=hid hR3;clear hR3;go_wp2
 go_ret
 exact ⟨_,rfl,HR3.out,hb2⟩
abbrev fieldP (f t w:Int):Prop:=0≤f∧f<t∧t≤w
theorem txt_empty {s:ByteArray} (h:s.size=0):s.toList.isEmpty=true:=by
 rw [ByteArray.toList_eq];have h9:s.data.toList.length=0:=by rw [Array.length_toList];exact h
 rw [List.eq_nil_of_length_eq_zero h9];rfl
theorem txt_full {s:ByteArray} (h:¬ s.size=0):s.toList.isEmpty=false:=by
 rw [ByteArray.toList_eq];cases hd:s.data.toList with
 | nil=>exact absurd (by
  have h9:s.data.toList.length=0:=by rw [hd];rfl
  rw [Array.length_toList] at h9;exact h9) h
 | cons a b=>rfl
theorem isField_c (f t c:Int) (w:World) (hc:0≤c∧c≤1000):Calls Tryz.prog 134 #[.agg #[.int .i64 f,.int .i64 t],.int .i64 c] w fun e w'=>e=.returned (.bool (decide (fieldP f t c)))∧Below w.heap.size w w':=by
 obtain ⟨p,hp⟩:∃ p,p=decide (fieldP f t c):=⟨_,rfl⟩;rw [← hp];have Hp:=hid hp;clear hp;by_cases h1:0≤f
 · by_cases h2:f<t
   · by_cases h3:t≤c
     · go_enter Tryz.func134,Tryz.ntmps134
       go_wp2
       go_ret
       exact ⟨ret_bool (by rw [Hp.out];exact (decide_eq_true ⟨h1,h2,h3⟩).symm),(Below.refl _ _).alloc (Nat.le_refl _) _⟩
     · go_enter Tryz.func134,Tryz.ntmps134
       go_wp2
       go_ret
       exact ⟨ret_bool (by rw [Hp.out];exact (decide_eq_false fun ⟨_,_,q⟩=>by omega).symm),(Below.refl _ _).alloc (Nat.le_refl _) _⟩
   · go_enter Tryz.func134,Tryz.ntmps134
     go_wp2
     go_ret
     exact ⟨ret_bool (by rw [Hp.out];exact (decide_eq_false fun ⟨_,q,_⟩=>by omega).symm),(Below.refl _ _).alloc (Nat.le_refl _) _⟩
 · go_enter Tryz.func134,Tryz.ntmps134
   go_wp2
   go_ret
   exact ⟨ret_bool (by rw [Hp.out];exact (decide_eq_false fun ⟨q,_,_⟩=>by omega).symm),(Below.refl _ _).alloc (Nat.le_refl _) _⟩
theorem l02Field_c (f t c:Int) (w:World) (hc:0≤c∧c≤1000):Calls Tryz.prog 82 #[.agg #[.int .i64 f,.int .i64 t],.int .i64 c] w fun e w'=>e=.returned (.bool (decide (fieldP f t c)))∧Below w.heap.size w w':=by
 obtain ⟨p,hp⟩:∃ p,p=decide (fieldP f t c):=⟨_,rfl⟩;rw [← hp];have Hp:=hid hp;clear hp;by_cases h1:0≤f
 · by_cases h2:f<t
   · by_cases h3:t≤c
     · go_enter Tryz.func82,Tryz.ntmps82
       go_wp2
       go_ret
       exact ⟨ret_bool (by rw [Hp.out];exact (decide_eq_true ⟨h1,h2,h3⟩).symm),(Below.refl _ _).alloc (Nat.le_refl _) _⟩
     · go_enter Tryz.func82,Tryz.ntmps82
       go_wp2
       go_ret
       exact ⟨ret_bool (by rw [Hp.out];exact (decide_eq_false fun ⟨_,_,q⟩=>by omega).symm),(Below.refl _ _).alloc (Nat.le_refl _) _⟩
   · go_enter Tryz.func82,Tryz.ntmps82
     go_wp2
     go_ret
     exact ⟨ret_bool (by rw [Hp.out];exact (decide_eq_false fun ⟨_,q,_⟩=>by omega).symm),(Below.refl _ _).alloc (Nat.le_refl _) _⟩
 · go_enter Tryz.func82,Tryz.ntmps82
   go_wp2
   go_ret
   exact ⟨ret_bool (by rw [Hp.out];exact (decide_eq_false fun ⟨q,_,_⟩=>by omega).symm),(Below.refl _ _).alloc (Nat.le_refl _) _⟩
structure TotalT where
 nm:ByteArray
 su:Int
abbrev vTotal (x:TotalT):Value:=.agg #[.string x.nm,.int .i64 x.su]
abbrev lTotal (x:TotalT):Value:=.agg #[.string x.nm,.int .i64 x.su]
def okTotal (x:TotalT):Prop:=x.nm.size≤9223372036854775807∧(-9223372036854775808≤x.su∧x.su≤9223372036854775807)
def eTotal:Elt TotalT:={ sz:=2,cells:=fun x=>[.string x.nm,.int .i64 x.su],ok:=okTotal,len:=fun _=>rfl,one:=fun x u hu=>by simp at hu;rcases hu with rfl | rfl <;> rfl }
def zTotal:TotalT:=⟨⟨#[]⟩,0⟩
theorem ok_zTotal:okTotal zTotal:=by unfold okTotal zTotal;exact ⟨Nat.zero_le _,⟨by decide,by decide⟩⟩
abbrev RdTotalS (B:Nat) (w:World) (v:Value) (x:List TotalT):Prop:=Rds eTotal B w v x
abbrev OwnTotalS (base:Nat) (w:World) (v:Value) (x:List TotalT):Prop:=Own eTotal 150 base w v x
abbrev OwnTTotalS (base top:Nat) (w:World) (v:Value) (x:List TotalT):Prop:=OwnT eTotal 150 base top w v x
def szTotal (x:TotalT):Int:=(x.nm.size:Int)
theorem szTotal_nonneg (x:TotalT):0≤szTotal x:=by unfold szTotal;omega
def szTotalS (x:List TotalT):Int:=x.length+sumBy szTotal x
theorem szTotalS_nonneg (x:List TotalT):0≤szTotalS x:=by unfold szTotalS;have:=sumBy_nonneg szTotal_nonneg x;omega
def cntTotalS (x:List TotalT):Nat:=2 * x.length
theorem cntTotalS_le (x:List TotalT):(cntTotalS x:Int)≤16 * szTotalS x:=by unfold szTotalS cntTotalS;have:=sumBy_nonneg szTotal_nonneg x;omega
theorem szTotalS_len (x:List TotalT):(x.length:Int)≤szTotalS x:=by unfold szTotalS;have:=sumBy_nonneg szTotal_nonneg x;omega
theorem eTotal_open {w:World} {B:Nat} {v:Value} {xs:List TotalT} (h:Rds eTotal B w v xs):∃ ao cap,v=.slice ao xs.length cap ∧
 (0<xs.length→∃ b off,ao=some ⟨b,off,none⟩∧(b<B∧b<w.heap.size)∧∀ k,k<xs.length→∃ x,xs[k]?=some x∧(w.cell? ⟨b,off+k * 2,none⟩=some (.string x.nm)∧w.cell? ⟨b,off+k * 2+1,none⟩=some (.int .i64 x.su))∧okTotal x):=by
 rcases Rds.cases h with ⟨rfl,ao,cap,rfl,_⟩ | ⟨b,off,cap,rfl,hlt,hc⟩
 · exact ⟨ao,cap,rfl,fun h=>absurd h (by simp)⟩
 · refine ⟨_,cap,rfl,fun _=>⟨b,off,rfl,hlt,fun k hk=>?_⟩⟩
   obtain ⟨h1,h2⟩:=hc k xs[k] (by simp [hk]);refine ⟨xs[k],by simp [hk],⟨?_,?_⟩,h1⟩
   · exact h2 0 (by decide)
   · have:=h2 1 (by decide);rw [← Nat.add_assoc] at this;exact this
theorem toTotal_c (w:World) {x:TotalT} (a:okTotal x) :
 Calls Tryz.prog 130 #[lTotal x] w fun e w'=>e=.returned (vTotal x)∧Below w.heap.size w w':=by
 clear a;go_enter Tryz.func130,Tryz.ntmps130
 go_wp2
 exact bodyPost_ret (v:=vTotal x) (by simp [results,Tryz.results130,go_sem]) rfl ⟨rfl,(((Below.refl _ _).alloc (Nat.le_refl _) _).alloc (by simp) _).alloc (by simp;omega) _⟩
theorem eqTotal_c (w:World) (x:TotalT) :
 Calls Tryz.prog 148 #[vTotal x,vTotal x] w fun e w'=>e=.returned (.bool true)∧Below w.heap.size w w':=by
 go_enter Tryz.func148,Tryz.ntmps148
 go_wp2
 go_ret
 exact ⟨rfl,((Below.refl _ _).alloc (Nat.le_refl _) _).alloc (by simp) _⟩
theorem szTotal_c (w:World) {x:TotalT} {left:Int} (a:okTotal x) (h1:left≤1048576) (h2:szTotal x≤left) :
 Calls Tryz.prog 117 #[lTotal x,.int .i64 left] w fun e w'=>e=.returned (.int .i64 (left - szTotal x))∧Below w.heap.size w w':=by
 unfold szTotal at *;clear a;go_enter Tryz.func117,Tryz.ntmps117
 go_wp2
 go_ret
 exact ⟨rfl,(Below.refl _ _).alloc (Nat.le_refl _) _⟩
theorem szTotal_no (w:World) {x:TotalT} {left:Int} (a:okTotal x) (h0:0≤left∧left≤1048576) (h2:¬ szTotal x≤left) :
 Calls Tryz.prog 117 #[lTotal x,.int .i64 left] w fun e w'=>e=.returned (.int .i64 (-1))∧Below w.heap.size w w':=by
 unfold szTotal at *;have hs:(x.nm.size:Int)≤9223372036854775807:=by have:=a.1;omega
 clear a;go_enter Tryz.func117,Tryz.ntmps117
 go_wp2
 go_ret
 exact ⟨rfl,(Below.refl _ _).alloc (Nat.le_refl _) _⟩
theorem szTotalS_c {w:World} {A:Nat} {xs:List TotalT} {v:Value} {left:Int} (ha:RdTotalS A w v xs) (h1:left≤1048576) (h2:szTotalS xs≤left) :
 Calls Tryz.prog 78 #[v,.int .i64 left] w fun e w'=>e=.returned (.int .i64 (left - szTotalS xs))∧Below w.heap.size w w':=by
 have hle:=ha.le;have hok:=ha.2;obtain ⟨ao,cap,rfl,ho⟩:=eTotal_open ha;obtain ⟨n,hn⟩:∃ n,n=xs.length:=⟨_,rfl⟩;rw [← hn];have Hn:=hid hn;have Ho:=hid ho;have Hok:=hid hok;have hle':n≤9223372036854775807:=by omega
 clear hok ho hn hle ha;have h2':n+sumBy szTotal xs≤left:=by have:=Hn.out;unfold szTotalS at h2;omega
 have h3:=sumBy_nonneg szTotal_nonneg xs;have H2:=hid h2;clear h2;go_enter Tryz.func78,Tryz.ntmps78
 go_wp2
 go_loopw [1,5] (fun l i wr=>∃ k:Nat,k≤n∧i=.int .i64 k∧∃ lf:Int,l=.int .i64 lf∧(lf≤1048576∧0≤lf)∧Hid (lf=left - n - sumBy szTotal (xs.take k))∧Below w.heap.size w wr) (fun _ i _=>n - (intOf i).toNat)
 case atStart=>exact ⟨0,Nat.zero_le _,rfl,left - n,rfl,by omega,by show left - n=_;simp [sumBy],Below.refl _ _⟩
 case round =>
  obtain ⟨k,hk,rfl,lf,rfl,⟨hl1,hl2⟩,hlf,hbb⟩:=hrel;by_cases hkn:k<n
  · obtain ⟨b,off,rfl,hlt,hc⟩:=Ho.out (by have:=Hn.out;omega)
    obtain ⟨x,hx,⟨c0,c1⟩,bx⟩:=hc k (by have:=Hn.out;omega);have Hx:=hid hx;have Hbx:=hid bx;clear hx hc bx;have d0:=(hbb.cell (p:=⟨b,off+k * 2,none⟩) hlt.2).trans c0;have d1:=(hbb.cell (p:=⟨b,off+k * 2+1,none⟩) hlt.2).trans c1;have D0:=hid c0;have D1:=hid c1;clear c0 c1;have hx0:=szTotal_nonneg x;have hf:szTotal x≤lf:=by rw [hlf.out];have h4:=sumBy_snoc szTotal Hx.out;have h5:=sumBy_take_le szTotal_nonneg xs (k+1);omega
    go_wp2_with fail
    with_reducible refine (szTotal_c wr (x:=x) Hbx.out hl1 hf).mono ?_
    rintro e w1 ⟨rfl,hb1⟩
    have hbb1:Below w.heap.size w w1:=hbb.trans (hb1.mono hbb.size);clear hb1 hbb d0 d1;go_wp2
    go_roundw
    case rel=>exact ⟨k+1,by omega,by go_num,lf - szTotal x,rfl,by omega,by show lf - szTotal x=_;rw [sumBy_snoc szTotal Hx.out,hlf.out];omega,hbb1⟩
    case measure=>simp [intOf];omega
  · go_wp2
    go_ret
    refine ⟨ret_int ?_,hbb⟩
    rw [hlf.out,List.take_of_length_le (by have:=Hn.out;omega)];unfold szTotalS;have:=Hn.out;omega
theorem szTotalS_no {w:World} {A:Nat} {xs:List TotalT} {v:Value} {left:Int} (ha:RdTotalS A w v xs) (h0:0≤left∧left≤1048576) (h2:¬ szTotalS xs≤left) :
 Calls Tryz.prog 78 #[v,.int .i64 left] w fun e w'=>e=.returned (.int .i64 (-1))∧Below w.heap.size w w':=by
 have h1:=h0.2;have h00:=h0.1;have hle:=ha.le;have hok:=ha.2;obtain ⟨ao,cap,rfl,ho⟩:=eTotal_open ha;obtain ⟨n,hn⟩:∃ n,n=xs.length:=⟨_,rfl⟩;rw [← hn];have Hn:=hid hn;have Ho:=hid ho;have Hok:=hid hok;have hle':n≤9223372036854775807:=by omega
 clear hok ho hn hle ha;have h2':¬ n+sumBy szTotal xs≤left:=by have:=Hn.out;unfold szTotalS at h2;omega
 have H2:=hid h2;have H2':=hid h2';clear h2 h0 h2';by_cases hb:left<n
 · clear H2'
   go_enter Tryz.func78,Tryz.ntmps78
   go_wp2
   go_ret
   exact ⟨rfl,Below.refl _ _⟩
 go_enter Tryz.func78,Tryz.ntmps78
 go_wp2
 go_loopw [1,5] (fun l i wr=>∃ k:Nat,k≤n∧i=.int .i64 k∧∃ lf:Int,l=.int .i64 lf∧(lf≤1048576∧0≤lf)∧Hid (lf=left - n - sumBy szTotal (xs.take k))∧Below w.heap.size w wr) (fun _ i _=>n - (intOf i).toNat)
 case atStart=>exact ⟨0,Nat.zero_le _,rfl,left - n,rfl,by omega,by show left - n=_;simp [sumBy],Below.refl _ _⟩
 case round =>
  obtain ⟨k,hk,rfl,lf,rfl,⟨hl1,hl2⟩,hlf,hbb⟩:=hrel;by_cases hkn:k<n
  · obtain ⟨b,off,rfl,hlt,hc⟩:=Ho.out (by have:=Hn.out;omega)
    obtain ⟨x,hx,⟨c0,c1⟩,bx⟩:=hc k (by have:=Hn.out;omega);have Hx:=hid hx;have Hbx:=hid bx;clear hx hc bx;have d0:=(hbb.cell (p:=⟨b,off+k * 2,none⟩) hlt.2).trans c0;have d1:=(hbb.cell (p:=⟨b,off+k * 2+1,none⟩) hlt.2).trans c1;have D0:=hid c0;have D1:=hid c1;clear c0 c1;have hx0:=szTotal_nonneg x;by_cases hf:szTotal x≤lf
    · go_wp2_with fail
      with_reducible refine (szTotal_c wr (x:=x) Hbx.out hl1 hf).mono ?_
      rintro e w1 ⟨rfl,hb1⟩
      have hbb1:Below w.heap.size w w1:=hbb.trans (hb1.mono hbb.size);clear hb1 hbb d0 d1;go_wp2
      go_roundw
      case rel=>exact ⟨k+1,by omega,by go_num,lf - szTotal x,rfl,by omega,by show lf - szTotal x=_;rw [sumBy_snoc szTotal Hx.out,hlf.out];omega,hbb1⟩
      case measure=>simp [intOf];omega
    · go_wp2_with fail
      with_reducible refine (szTotal_no wr (x:=x) Hbx.out ⟨hl2,hl1⟩ (by omega)).mono ?_
      rintro e w1 ⟨rfl,hb1⟩
      have hbb1:Below w.heap.size w w1:=hbb.trans (hb1.mono hbb.size);clear hb1 hbb d0 d1;go_wp2
      go_ret
      exact ⟨rfl,hbb1⟩
  · exfalso
    have h6:=hlf.out;rw [List.take_of_length_le (by have:=Hn.out;omega)] at h6;have:=H2'.out;omega
theorem Tryz.infoTotal:(Tryz.prog.info? 150).map (fun i=>(i.zero,i.size,i.bytes))=some (some (vTotal zTotal),2,24):=by kernel_rfl
theorem toTotalS_c {w:World} {A:Nat} {xs:List TotalT} {v:Value} (ha:RdTotalS A w v xs) (hl:szTotalS xs≤1048576) :
 Calls Tryz.prog 87 #[v] w fun e w'=>∃ u,e=.returned u∧OwnTotalS w.heap.size w' u xs∧Below w.heap.size w w':=by
 have hl2:xs.length≤1048576:=by have:=szTotalS_len xs;omega
 have hle:=ha.le;have hok:=ha.2;obtain ⟨ao,cap,rfl,ho⟩:=eTotal_open ha;obtain ⟨n,hn⟩:∃ n,n=xs.length:=⟨_,rfl⟩;rw [← hn];have Hn:=hid hn;have Ho:=hid ho;have Hok:=hid hok;have hle':n≤9223372036854775807:=by omega
 clear hok ho hn hle ha;have hn2:n≤1048576:=by have:=Hn.out;omega
 obtain ⟨i0,hi,hz0,hz1,hz2⟩:=info_parts Tryz.infoTotal;clear hl hl2 hle';go_enter Tryz.func87,Tryz.ntmps87
 go_wp2_with (first | (at_make;refine wpList_make_full _ rfl _ _ 110 rfl w.heap.size 150 i0 (vTotal zTotal) 2 Tryz.underlying110 hi hz0 hz1 _ _ _ _ n rfl rfl rfl rfl ?b1 ?b2 (Nat.le_refl _) ?_))
 case b1=>first | omega | (rw [hz2];omega)
 case b2=>unfold maxLen;omega
 intro w1 hown hgr;have hb1:Below w.heap.size w w1:=(Below.refl _ _).grown hgr (Nat.le_refl _) (fun k hk=>by cases hk);have hown0:OwnTotalS w.heap.size w1 (.slice (some ⟨w.heap.size,0,none⟩) n n) (xs.take 0++List.replicate (n - 0) zTotal):=by
  refine ⟨?_,fun x hx=>?_⟩
  · have hown2:w1.ownsRow w.heap.size 150 eTotal.sz (.slice (some ⟨w.heap.size,0,none⟩) n n) n (madeCells (vTotal zTotal).cells (n * eTotal.sz)).toList:=hown
    rw [Elt.all_made (E:=eTotal) (z:=zTotal) (zv:=vTotal zTotal) (by decide) rfl n] at hown2;simpa using hown2
  · simp at hx;obtain ⟨_,rfl⟩:=hx;exact ok_zTotal
 have hs1:w.heap.size<w1.heap.size:=(hown0.lt _ rfl).2;clear hown hgr;go_wp2
 go_loopw [4] (fun i wr=>∃ k:Nat,k≤n∧i=.int .i64 k∧OwnTotalS w.heap.size wr (.slice (some ⟨w.heap.size,0,none⟩) n n) (xs.take k++List.replicate (n - k) zTotal)∧Below w.heap.size w wr) (fun i _=>n - (intOf i).toNat)
 case atStart=>exact ⟨0,Nat.zero_le _,rfl,hown0,hb1⟩
 case round =>
  obtain ⟨k,hk,rfl,hw,hb⟩:=hrel;by_cases hkn:k<n
  · obtain ⟨b,off,rfl,hlt,hc⟩:=Ho.out (by have:=Hn.out;omega)
    obtain ⟨x,hx,⟨c0,c1⟩,bx⟩:=hc k (by have:=Hn.out;omega);have Hx:=hid hx;have Hbx:=hid bx;clear hx hc bx hb1 hown0;have d0:=(hb.cell (p:=⟨b,off+k * 2,none⟩) hlt.2).trans c0;have d1:=(hb.cell (p:=⟨b,off+k * 2+1,none⟩) hlt.2).trans c1;clear c0 c1;go_wp2_with fail
    with_reducible refine (toTotal_c wr (x:=x) Hbx.out).mono ?_
    rintro e w2 ⟨rfl,hb2⟩
    have hw2:=hw.below hb2 (Nat.le_refl _);have hb3:Below w.heap.size w w2:=hb.trans (hb2.mono hb.size);have hlen:n=(xs.take k++List.replicate (n - k) zTotal).length:=by have:=Hn.out;simp;omega
    have hst:=Own.storeE (E:=eTotal) (by decide) hw2 hlen hkn Hbx.out;obtain ⟨⟨y0,hy0⟩,hf0⟩:=Own.cellE (E:=eTotal) hw2 hlen (k:=k) (j:=0) hkn (by decide);obtain ⟨⟨y1,hy1⟩,hf1⟩:=Own.cellE (E:=eTotal) hw2 hlen (k:=k) (j:=1) hkn (by decide);simp only [show eTotal.sz=2 from rfl,Nat.add_zero] at hy0 hf0 hy1 hf1
    have Hst:=hid hst;have Hb3:=hid hb3;clear hst hlen hb hb2 hw hw2 hb3 d0 d1;go_wp2
    go_roundw
    case rel=>exact ⟨k+1,by omega,by go_num,by have h:=Hst.out.1;rw [set_take_repl Hx.out Hn.out hkn] at h;exact h,((Hb3.out).setCell (Nat.le_refl _) _).setCell (Nat.le_refl _) _⟩
    case measure=>simp [intOf];omega
  · go_wp2
    go_ret
    refine ⟨_,rfl,?_,hb⟩
    have:=Hn.out;rw [List.take_of_length_le (by omega),show n - k=0 by omega] at hw;simpa using hw
theorem eqTotalS_c {xs:List TotalT} {va vb:Value} {w:World} {A B:Nat} (ha:RdTotalS A w va xs) (hb:RdTotalS B w vb xs) :
 Calls Tryz.prog 97 #[va,vb] w fun e w'=>e=.returned (.bool true)∧Below w.heap.size w w':=by
 obtain ⟨bo,bcap,rfl,hob⟩:=eTotal_open hb;have Hob:=hid hob;clear hob hb;have hle:=ha.le;have hok:=ha.2;obtain ⟨ao,cap,rfl,ho⟩:=eTotal_open ha;obtain ⟨n,hn⟩:∃ n,n=xs.length:=⟨_,rfl⟩;rw [← hn];have Hn:=hid hn;have Ho:=hid ho;have Hok:=hid hok;have hle':n≤9223372036854775807:=by omega
 clear hok ho hn hle ha;go_enter Tryz.func97,Tryz.ntmps97
 go_wp2
 go_loopw [5] (fun i wr=>∃ k:Nat,k≤n∧i=.int .i64 k∧Below w.heap.size w wr) (fun i _=>n - (intOf i).toNat)
 case atStart=>exact ⟨0,Nat.zero_le _,rfl,Below.refl _ _⟩
 case round =>
  obtain ⟨k,hk,rfl,hbb⟩:=hrel;by_cases hkn:k<n
  · obtain ⟨b,off,rfl,hlt,hc⟩:=Ho.out (by have:=Hn.out;omega)
    obtain ⟨x,hx,⟨c0,c1⟩,bx⟩:=hc k (by have:=Hn.out;omega);have Hx:=hid hx;have d0:=(hbb.cell (p:=⟨b,off+k * 2,none⟩) hlt.2).trans c0;have d1:=(hbb.cell (p:=⟨b,off+k * 2+1,none⟩) hlt.2).trans c1;clear hx hc bx c0 c1;obtain ⟨b2,off2,rfl,hlt2,hc⟩:=Hob.out (by have:=Hn.out;omega);obtain ⟨x2,hx2,⟨c0,c1⟩,bx⟩:=hc k (by have:=Hn.out;omega);obtain rfl:x=x2:=Option.some.inj (Hx.out.symm.trans hx2);have f0:=(hbb.cell (p:=⟨b2,off2+k * 2,none⟩) hlt2.2).trans c0;have f1:=(hbb.cell (p:=⟨b2,off2+k * 2+1,none⟩) hlt2.2).trans c1;clear hx2 hc bx c0 c1;go_wp2_with fail
    go_still_tail 8,(by kernel_rfl)
    change wpList _ _ _ _ _ wr.drew
    have hbd:Below w.heap.size w wr.drew:=⟨hbb.os,hbb.tape,hbb.output,hbb.size,hbb.block⟩;clear hbb d0 f0 d1 f1;generalize wr.drew=w2 at hbd ⊢;go_wp2_with fail
    with_reducible refine (eqTotal_c w2 x).mono ?_
    rintro e w3 ⟨rfl,hb3⟩
    have hbb1:Below w.heap.size w w3:=hbd.trans (hb3.mono hbd.size);clear hb3 hbd;go_wp2
    go_roundw
    case rel=>exact ⟨k+1,by omega,by go_num,hbb1⟩
    case measure=>simp [intOf];omega
  · go_wp2
    go_ret
    exact ⟨rfl,hbb⟩
def eT:Elt ByteArray:={ sz:=1,cells:=fun x=>[.string x],ok:=fun x=>x.size≤9223372036854775807,len:=fun _=>rfl,one:=fun x u hu=>by simp at hu;subst hu;rfl }
theorem RdT.open {w:World} {B:Nat} {v:Value} {xs:List ByteArray} (h:Rds eT B w v xs):∃ ao cap,v=.slice ao xs.length cap ∧
 (0<xs.length→∃ b off,ao=some ⟨b,off,none⟩∧(b<B∧b<w.heap.size)∧∀ k,k<xs.length→∃ x,xs[k]?=some x∧w.cell? ⟨b,off+k,none⟩=some (.string x)∧x.size≤9223372036854775807):=by
 rcases h.cases with ⟨rfl,ao,cap,rfl,_⟩ | ⟨b,off,cap,rfl,hlt,hc⟩
 · exact ⟨ao,cap,rfl,fun h=>absurd h (by simp)⟩
 · refine ⟨_,cap,rfl,fun _=>⟨b,off,rfl,hlt,fun k hk=>?_⟩⟩
   obtain ⟨h1,h2⟩:=hc k xs[k] (by simp [hk]);refine ⟨xs[k],by simp [hk],?_,h1⟩
   have:=h2 0 (by decide);simpa [eT] using this
theorem Tryz.infoString:(Tryz.prog.info? 9).map (fun i=>(i.zero,i.size,i.bytes))=some (some (.string ⟨#[]⟩),1,16):=by kernel_rfl
section
variable {H:Type} {enc:TypeId × Value→H} {P:Program} {w:World}
theorem trod_fields {base:Nat} {spare:Nat→Bool} {held:Bool} {n:Nat} {t:TypeId} {fs:Array Field} {cs:List Value} {y:DataW H × List MemPlace} (ht:P.underlying t=some (.struct fs))
 (L:List (TypeId × Nat × Nat)) (hL:fs.toList.map (fun f=>(f.type,f.offset,P.cellsOf f.type))=L) (h:DataW.trod enc P w base spare held n t cs=some y) :
 ∃ m,∀ (i:Nat) (a:TypeId) (o c:Nat),L[i]?=some (a,o,c)→∃ z,DataW.trod enc P w base spare held m a ((cs.drop o).take c)=some z:=by
 obtain ⟨ys,m,_,_,_,hl,hq⟩:=DataW.trod_struct ht h;refine ⟨m,fun i a o c hi=>?_⟩
 rw [← hL,List.getElem?_map] at hi;cases hf:fs.toList[i]? with
 | none=>rw [hf] at hi;cases hi
 | some f =>
  rw [hf] at hi;cases hi
  have hf':fs[i]?=some f:=by rw [← Array.getElem?_toList];exact hf
  have hlt:i<fs.size:=(Array.getElem?_eq_some_iff.1 hf').1;have h1:=hq i f hf';rw [List.getElem?_eq_getElem (by omega)] at h1;exact ⟨_,h1⟩
theorem open_rdF {α:Type} {E:Elt α} {t e:TypeId} {v:Value} {fuel:Nat} {y:DataW H × List MemPlace} (ht:P.underlying t=some (.slice e)) (hC:P.cellsOf e=E.sz)
 (hin:∀ (n:Nat) (vs:List Value) (y:DataW H × List MemPlace),vs.length=E.sz→DataW.trod enc P w 0 (fun _=>true) true n e vs=some y→∃ x,E.cells x=vs∧E.ok x)
 (hz:0<E.sz) (hf:DataW.trod enc P w 0 (fun _=>true) true fuel t [v]=some y) :
 ∃ xs,Rds E w.heap.size w v xs:=by
 rcases open_slice ht hf with ⟨hcs,hx⟩ | ⟨a',len,cap,m,n,D,Pl,hcs,_,hl,hm,hmm,hx,hi⟩
 · injection hcs with h1 _
   subst h1;exact ⟨[],Rds.nil _ _ _⟩
 · injection hcs with h1 _
   subst h1;simp only [if_true] at hmm
   subst hmm;have key:∀ i,i<len→∃ x,E.ok x∧∀ j,j<E.sz→w.cell? (a'.add (i * E.sz+j))=(E.cells x)[j]?:=by
    intro i hi';obtain ⟨vs,hc,htr⟩:=hi i (by omega);rw [hC] at hc;obtain ⟨_,hvl,hvs⟩:=World.cells?_some hc;obtain ⟨x,hx1,hx2⟩:=hin n vs _ hvl htr;refine ⟨x,hx2,fun j hj'=>?_⟩
    rw [hx1,← hvs j hj',Go.Deep.add_add]
   obtain ⟨xs,hxl,hxs⟩:=list_of len key;have hmx:len≤9223372036854775807:=by unfold maxLen at hm;omega
   refine ⟨xs,⟨⟨E.all_length _,by rw [hxl];exact hmx,?_⟩,fun x hx'=>?_⟩⟩
   · rw [hxl]
     cases len with
     | zero=>exact .inl ⟨rfl,_,_,rfl,fun h=>by cases h⟩
     | succ n =>
      obtain ⟨b,off,spot⟩:=a';have hx0:xs[0]?=some (xs[0]'(by omega)):=by simp [hxl]
      have h0:=(hxs 0 _ hx0).2 0 hz;have hc0:(E.cells (xs[0]'(by omega)))[0]?=some ((E.cells (xs[0]'(by omega)))[0]'(by rw [E.len];exact hz)):=by simp [E.len,hz]
      rw [hc0] at h0;have hspot:spot=none:=by
       cases spot with
       | none=>rfl
       | some s =>
        simp only [Addr.add,World.cell?] at h0
        split at h0 <;> simp at h0
      subst hspot;have hb0:b<w.heap.size:=by rw [Addr.add_lit] at h0;exact World.block_lt_of_cell? w _ h0
      refine .inr ⟨b,off,_,rfl,⟨hl,by unfold maxLen at hm;omega⟩,hb0,hb0,fun i hi'=>?_⟩
      have hq:i / E.sz<xs.length:=by rw [hxl];exact Nat.div_lt_of_lt_mul (by rw [Nat.mul_comm];exact hi')
      have hi2:i=(i / E.sz) * E.sz+i % E.sz:=by have:=Nat.div_add_mod i E.sz;rw [Nat.mul_comm] at this;omega
      have hxq:xs[i / E.sz]?=some (xs[i / E.sz]):=by simp [hq]
      have h3:=(hxs _ _ hxq).2 (i % E.sz) (Nat.mod_lt _ hz);rw [Addr.add_lit,← hi2] at h3;rw [h3];conv=>rhs;rw [hi2,E.all_get hxq (Nat.mod_lt _ hz)]
   · obtain ⟨j,hj,rfl⟩:=List.mem_iff_getElem.1 hx'
     exact (hxs j _ (by simp [hj])).1
end
structure FieldT where
 ff:Int
 ft:Int
abbrev vField (x:FieldT):Value:=.agg #[.int .i64 x.ff,.int .i64 x.ft]
abbrev lField (x:FieldT):Value:=.agg #[.int .i64 x.ff,.int .i64 x.ft]
def okField (x:FieldT):Prop:=(-9223372036854775808≤x.ff∧x.ff≤9223372036854775807)∧(-9223372036854775808≤x.ft∧x.ft≤9223372036854775807)
theorem toField_c (w:World) {x:FieldT} (a:okField x) :
 Calls Tryz.prog 88 #[lField x] w fun e w'=>e=.returned (vField x)∧Below w.heap.size w w':=by
 clear a;go_enter Tryz.func88,Tryz.ntmps88
 go_wp2
 exact bodyPost_ret (v:=vField x) (by simp [results,Tryz.results88,go_sem]) rfl ⟨rfl,(((Below.refl _ _).alloc (Nat.le_refl _) _).alloc (by simp) _).alloc (by simp;omega) _⟩
theorem eqField_c (w:World) (x:FieldT) :
 Calls Tryz.prog 98 #[vField x,vField x] w fun e w'=>e=.returned (.bool true)∧Below w.heap.size w w':=by
 go_enter Tryz.func98,Tryz.ntmps98
 go_wp2
 go_ret
 exact ⟨rfl,((Below.refl _ _).alloc (Nat.le_refl _) _).alloc (by simp) _⟩
structure StepT where
 kd:Int
 ta:Int
 tb:Int
 tc:Int
 ff:Int
 ft:Int
 sf:Int
 st:Int
 tx:ByteArray
abbrev vStep (x:StepT):Value:=.agg #[.int .i64 x.kd,.int .i64 x.ta,.int .i64 x.tb,.int .i64 x.tc,.int .i64 x.ff,.int .i64 x.ft,.int .i64 x.sf,.int .i64 x.st,.string x.tx]
abbrev lStep (x:StepT):Value:=.agg #[.int .i64 x.kd,.int .i64 x.ta,.int .i64 x.tb,.int .i64 x.tc,.int .i64 x.ff,.int .i64 x.ft,.int .i64 x.sf,.int .i64 x.st,.string x.tx]
def okStep (x:StepT):Prop:=(-9223372036854775808≤x.kd∧x.kd≤9223372036854775807)∧(-9223372036854775808≤x.ta∧x.ta≤9223372036854775807)∧(-9223372036854775808≤x.tb∧x.tb≤9223372036854775807)∧(-9223372036854775808≤x.tc∧x.tc≤9223372036854775807)∧(-9223372036854775808≤x.ff∧x.ff≤9223372036854775807)∧(-9223372036854775808≤x.ft∧x.ft≤9223372036854775807)∧(-9223372036854775808≤x.sf∧x.sf≤9223372036854775807)∧(-9223372036854775808≤x.st∧x.st≤9223372036854775807)∧x.tx.size≤9223372036854775807
def eStep:Elt StepT:={ sz:=9,cells:=fun x=>[.int .i64 x.kd,.int .i64 x.ta,.int .i64 x.tb,.int .i64 x.tc,.int .i64 x.ff,.int .i64 x.ft,.int .i64 x.sf,.int .i64 x.st,.string x.tx],ok:=okStep,len:=fun _=>rfl,one:=fun x u hu=>by simp at hu;rcases hu with rfl | rfl | rfl | rfl | rfl | rfl | rfl | rfl | rfl <;> rfl }
def zStep:StepT:=⟨0,0,0,0,0,0,0,0,⟨#[]⟩⟩
theorem ok_zStep:okStep zStep:=by unfold okStep zStep;exact ⟨⟨by decide,by decide⟩,⟨by decide,by decide⟩,⟨by decide,by decide⟩,⟨by decide,by decide⟩,⟨by decide,by decide⟩,⟨by decide,by decide⟩,⟨by decide,by decide⟩,⟨by decide,by decide⟩,Nat.zero_le _⟩
abbrev RdStepS (B:Nat) (w:World) (v:Value) (x:List StepT):Prop:=Rds eStep B w v x
abbrev OwnStepS (base:Nat) (w:World) (v:Value) (x:List StepT):Prop:=Own eStep 75 base w v x
abbrev OwnTStepS (base top:Nat) (w:World) (v:Value) (x:List StepT):Prop:=OwnT eStep 75 base top w v x
def szStep (x:StepT):Int:=(x.tx.size:Int)
theorem szStep_nonneg (x:StepT):0≤szStep x:=by unfold szStep;omega
def szStepS (x:List StepT):Int:=x.length+sumBy szStep x
theorem szStepS_nonneg (x:List StepT):0≤szStepS x:=by unfold szStepS;have:=sumBy_nonneg szStep_nonneg x;omega
def cntStepS (x:List StepT):Nat:=9 * x.length
theorem cntStepS_le (x:List StepT):(cntStepS x:Int)≤16 * szStepS x:=by unfold szStepS cntStepS;have:=sumBy_nonneg szStep_nonneg x;omega
theorem szStepS_len (x:List StepT):(x.length:Int)≤szStepS x:=by unfold szStepS;have:=sumBy_nonneg szStep_nonneg x;omega
theorem eStep_open {w:World} {B:Nat} {v:Value} {xs:List StepT} (h:Rds eStep B w v xs):∃ ao cap,v=.slice ao xs.length cap ∧
 (0<xs.length→∃ b off,ao=some ⟨b,off,none⟩∧(b<B∧b<w.heap.size)∧∀ k,k<xs.length→∃ x,xs[k]?=some x∧(w.cell? ⟨b,off+k * 9,none⟩=some (.int .i64 x.kd)∧w.cell? ⟨b,off+k * 9+1,none⟩=some (.int .i64 x.ta)∧w.cell? ⟨b,off+k * 9+2,none⟩=some (.int .i64 x.tb)∧w.cell? ⟨b,off+k * 9+3,none⟩=some (.int .i64 x.tc)∧w.cell? ⟨b,off+k * 9+4,none⟩=some (.int .i64 x.ff)∧w.cell? ⟨b,off+k * 9+5,none⟩=some (.int .i64 x.ft)∧w.cell? ⟨b,off+k * 9+6,none⟩=some (.int .i64 x.sf)∧w.cell? ⟨b,off+k * 9+7,none⟩=some (.int .i64 x.st)∧w.cell? ⟨b,off+k * 9+8,none⟩=some (.string x.tx))∧okStep x):=by
 rcases Rds.cases h with ⟨rfl,ao,cap,rfl,_⟩ | ⟨b,off,cap,rfl,hlt,hc⟩
 · exact ⟨ao,cap,rfl,fun h=>absurd h (by simp)⟩
 · refine ⟨_,cap,rfl,fun _=>⟨b,off,rfl,hlt,fun k hk=>?_⟩⟩
   obtain ⟨h1,h2⟩:=hc k xs[k] (by simp [hk]);refine ⟨xs[k],by simp [hk],⟨?_,?_,?_,?_,?_,?_,?_,?_,?_⟩,h1⟩
   · exact h2 0 (by decide)
   · have:=h2 1 (by decide);rw [← Nat.add_assoc] at this;exact this
   · have:=h2 2 (by decide);rw [← Nat.add_assoc] at this;exact this
   · have:=h2 3 (by decide);rw [← Nat.add_assoc] at this;exact this
   · have:=h2 4 (by decide);rw [← Nat.add_assoc] at this;exact this
   · have:=h2 5 (by decide);rw [← Nat.add_assoc] at this;exact this
   · have:=h2 6 (by decide);rw [← Nat.add_assoc] at this;exact this
   · have:=h2 7 (by decide);rw [← Nat.add_assoc] at this;exact this
   · have:=h2 8 (by decide);rw [← Nat.add_assoc] at this;exact this
theorem toStep_c (w:World) {x:StepT} (a:okStep x) :
 Calls Tryz.prog 47 #[lStep x] w fun e w'=>e=.returned (vStep x)∧Below w.heap.size w w':=by
 have Ha:=hid a;clear a;go_enter Tryz.func47,Tryz.ntmps47
 go_wp2_with fail
 with_reducible refine (toField_c _ (x:=⟨x.ff,x.ft⟩) (by have h:=Ha.out;unfold okStep at h;unfold okField;exact ⟨h.2.2.2.2.1,h.2.2.2.2.2.1⟩)).mono ?_
 rintro e w1 ⟨rfl,hb1⟩
 have hB1:=((((Below.refl _ _).alloc (Nat.le_refl _) _).alloc (by simp) _).alloc (by simp;omega) _).trans (hb1.mono (by simp;omega));have HB1:=hid hB1;have hz1_0:w.heap.size<w1.heap.size:=by have:=hb1.size;(try simp at this);(try have:=HB1.out.size);omega
 have hz1_1:w.heap.size+1<w1.heap.size:=by have:=hb1.size;(try simp at this);(try have:=HB1.out.size);omega
 have hz1_2:w.heap.size+1+1<w1.heap.size:=by have:=hb1.size;(try simp at this);(try have:=HB1.out.size);omega
 obtain ⟨hc1,hf1⟩:=bcell hb1;clear hb1 hB1;go_wp2_with fail
 with_reducible refine (toField_c _ (x:=⟨x.sf,x.st⟩) (by have h:=Ha.out;unfold okStep at h;unfold okField;exact ⟨h.2.2.2.2.2.2.1,h.2.2.2.2.2.2.2.1⟩)).mono ?_
 rintro e w2 ⟨rfl,hb2⟩
 have hB2:=(below_run (a:=0) (g:=w.heap.size+2) (by omega) [.int .i64 x.ff,.int .i64 x.ft] _ 4 HB1.out).trans (hb2.mono (by have:=HB1.out.size;simp;omega));have HB2:=hid hB2;have hz2_0:w.heap.size<w2.heap.size:=by have:=hb2.size;(try simp at this);(try have:=HB2.out.size);omega
 have hz2_1:w.heap.size+1<w2.heap.size:=by have:=hb2.size;(try simp at this);(try have:=HB2.out.size);omega
 have hz2_2:w.heap.size+1+1<w2.heap.size:=by have:=hb2.size;(try simp at this);(try have:=HB2.out.size);omega
 obtain ⟨hc2,hf2⟩:=bcell hb2;clear hb2 hB2;go_wp2
 exact bodyPost_ret (v:=vStep x) (by simp [results,Tryz.results47,go_sem,hc2,hz2_0,hz2_1,hz2_2,hc1,hz1_0,hz1_1,hz1_2]) rfl ⟨rfl,(below_run (a:=0) (g:=w.heap.size+1+1) (by omega) [.int .i64 x.sf,.int .i64 x.st,.string x.tx] _ 6 HB2.out).run (g:=w.heap.size+1) (by omega) [_,_,_,_,_,_,_,_,_]⟩
theorem eqStep_c (w:World) (x:StepT) :
 Calls Tryz.prog 55 #[vStep x,vStep x] w fun e w'=>e=.returned (.bool true)∧Below w.heap.size w w':=by
 go_enter Tryz.func55,Tryz.ntmps55
 go_wp2_with fail
 with_reducible refine (eqField_c _ ⟨x.ff,x.ft⟩).mono ?_
 rintro e w1 ⟨rfl,hb1⟩
 have hB1:=(((Below.refl _ _).alloc (Nat.le_refl _) _).alloc (by simp) _).trans (hb1.mono (by simp;omega));have HB1:=hid hB1;have hz1_0:w.heap.size<w1.heap.size:=by have h9:=hb1.size;(try simp at h9);omega
 have hz1_1:w.heap.size+1<w1.heap.size:=by have h9:=hb1.size;(try simp at h9);omega
 obtain ⟨hc1,hf1⟩:=bcell hb1;clear hb1;go_wp2_with fail
 with_reducible refine (eqField_c _ ⟨x.sf,x.st⟩).mono ?_
 rintro e w2 ⟨rfl,hb2⟩
 have hB2:=hB1.trans (hb2.mono hB1.size);have HB2:=hid hB2;have hz2_0:w.heap.size<w2.heap.size:=by have h9:=hb2.size;(try simp at h9);have h8:=hz1_0;omega
 have hz2_1:w.heap.size+1<w2.heap.size:=by have h9:=hb2.size;(try simp at h9);have h8:=hz1_1;omega
 obtain ⟨hc2,hf2⟩:=bcell hb2;clear hb2 hB2;go_wp2
 go_ret
 exact ⟨rfl,HB2.out⟩
theorem szStep_c (w:World) {x:StepT} {left:Int} (a:okStep x) (h1:left≤1048576) (h2:szStep x≤left) :
 Calls Tryz.prog 37 #[lStep x,.int .i64 left] w fun e w'=>e=.returned (.int .i64 (left - szStep x))∧Below w.heap.size w w':=by
 unfold szStep at *;clear a;go_enter Tryz.func37,Tryz.ntmps37
 go_wp2
 go_ret
 exact ⟨rfl,(Below.refl _ _).alloc (Nat.le_refl _) _⟩
theorem szStep_no (w:World) {x:StepT} {left:Int} (a:okStep x) (h0:0≤left∧left≤1048576) (h2:¬ szStep x≤left) :
 Calls Tryz.prog 37 #[lStep x,.int .i64 left] w fun e w'=>e=.returned (.int .i64 (-1))∧Below w.heap.size w w':=by
 unfold szStep at *;have hs:(x.tx.size:Int)≤9223372036854775807:=by have h:=a;unfold okStep at h;omega
 clear a;go_enter Tryz.func37,Tryz.ntmps37
 go_wp2
 go_ret
 exact ⟨rfl,(Below.refl _ _).alloc (Nat.le_refl _) _⟩
theorem szStepS_c {w:World} {A:Nat} {xs:List StepT} {v:Value} {left:Int} (ha:RdStepS A w v xs) (h1:left≤1048576) (h2:szStepS xs≤left) :
 Calls Tryz.prog 8 #[v,.int .i64 left] w fun e w'=>e=.returned (.int .i64 (left - szStepS xs))∧Below w.heap.size w w':=by
 have hle:=ha.le;have hok:=ha.2;obtain ⟨ao,cap,rfl,ho⟩:=eStep_open ha;obtain ⟨n,hn⟩:∃ n,n=xs.length:=⟨_,rfl⟩;rw [← hn];have Hn:=hid hn;have Ho:=hid ho;have Hok:=hid hok;have hle':n≤9223372036854775807:=by omega
 clear hok ho hn hle ha;have h2':n+sumBy szStep xs≤left:=by have:=Hn.out;unfold szStepS at h2;omega
 have h3:=sumBy_nonneg szStep_nonneg xs;have H2:=hid h2;clear h2;go_enter Tryz.func8,Tryz.ntmps8
 go_wp2
 go_loopw [1,5] (fun l i wr=>∃ k:Nat,k≤n∧i=.int .i64 k∧∃ lf:Int,l=.int .i64 lf∧(lf≤1048576∧0≤lf)∧Hid (lf=left - n - sumBy szStep (xs.take k))∧Below w.heap.size w wr) (fun _ i _=>n - (intOf i).toNat)
 case atStart=>exact ⟨0,Nat.zero_le _,rfl,left - n,rfl,by omega,by show left - n=_;simp [sumBy],Below.refl _ _⟩
 case round =>
  obtain ⟨k,hk,rfl,lf,rfl,⟨hl1,hl2⟩,hlf,hbb⟩:=hrel;by_cases hkn:k<n
  · obtain ⟨b,off,rfl,hlt,hc⟩:=Ho.out (by have:=Hn.out;omega)
    obtain ⟨x,hx,⟨c0,c1,c2,c3,c4,c5,c6,c7,c8⟩,bx⟩:=hc k (by have:=Hn.out;omega);have Hx:=hid hx;have Hbx:=hid bx;clear hx hc bx;have d0:=(hbb.cell (p:=⟨b,off+k * 9,none⟩) hlt.2).trans c0;have d1:=(hbb.cell (p:=⟨b,off+k * 9+1,none⟩) hlt.2).trans c1;have d2:=(hbb.cell (p:=⟨b,off+k * 9+2,none⟩) hlt.2).trans c2;have d3:=(hbb.cell (p:=⟨b,off+k * 9+3,none⟩) hlt.2).trans c3;have d4:=(hbb.cell (p:=⟨b,off+k * 9+4,none⟩) hlt.2).trans c4;have d5:=(hbb.cell (p:=⟨b,off+k * 9+5,none⟩) hlt.2).trans c5;have d6:=(hbb.cell (p:=⟨b,off+k * 9+6,none⟩) hlt.2).trans c6;have d7:=(hbb.cell (p:=⟨b,off+k * 9+7,none⟩) hlt.2).trans c7;have d8:=(hbb.cell (p:=⟨b,off+k * 9+8,none⟩) hlt.2).trans c8;have D0:=hid c0;have D1:=hid c1;have D2:=hid c2;have D3:=hid c3;have D4:=hid c4;have D5:=hid c5;have D6:=hid c6;have D7:=hid c7;have D8:=hid c8;clear c0 c1 c2 c3 c4 c5 c6 c7 c8;have hx0:=szStep_nonneg x;have hf:szStep x≤lf:=by rw [hlf.out];have h4:=sumBy_snoc szStep Hx.out;have h5:=sumBy_take_le szStep_nonneg xs (k+1);omega
    go_wp2_with fail
    with_reducible refine (szStep_c wr (x:=x) Hbx.out hl1 hf).mono ?_
    rintro e w1 ⟨rfl,hb1⟩
    have hbb1:Below w.heap.size w w1:=hbb.trans (hb1.mono hbb.size);clear hb1 hbb d0 d1 d2 d3 d4 d5 d6 d7 d8;go_wp2
    go_roundw
    case rel=>exact ⟨k+1,by omega,by go_num,lf - szStep x,rfl,by omega,by show lf - szStep x=_;rw [sumBy_snoc szStep Hx.out,hlf.out];omega,hbb1⟩
    case measure=>simp [intOf];omega
  · go_wp2
    go_ret
    refine ⟨ret_int ?_,hbb⟩
    rw [hlf.out,List.take_of_length_le (by have:=Hn.out;omega)];unfold szStepS;have:=Hn.out;omega
theorem szStepS_no {w:World} {A:Nat} {xs:List StepT} {v:Value} {left:Int} (ha:RdStepS A w v xs) (h0:0≤left∧left≤1048576) (h2:¬ szStepS xs≤left) :
 Calls Tryz.prog 8 #[v,.int .i64 left] w fun e w'=>e=.returned (.int .i64 (-1))∧Below w.heap.size w w':=by
 have h1:=h0.2;have h00:=h0.1;have hle:=ha.le;have hok:=ha.2;obtain ⟨ao,cap,rfl,ho⟩:=eStep_open ha;obtain ⟨n,hn⟩:∃ n,n=xs.length:=⟨_,rfl⟩;rw [← hn];have Hn:=hid hn;have Ho:=hid ho;have Hok:=hid hok;have hle':n≤9223372036854775807:=by omega
 clear hok ho hn hle ha;have h2':¬ n+sumBy szStep xs≤left:=by have:=Hn.out;unfold szStepS at h2;omega
 have H2:=hid h2;have H2':=hid h2';clear h2 h0 h2';by_cases hb:left<n
 · clear H2'
   go_enter Tryz.func8,Tryz.ntmps8
   go_wp2
   go_ret
   exact ⟨rfl,Below.refl _ _⟩
 go_enter Tryz.func8,Tryz.ntmps8
 go_wp2
 go_loopw [1,5] (fun l i wr=>∃ k:Nat,k≤n∧i=.int .i64 k∧∃ lf:Int,l=.int .i64 lf∧(lf≤1048576∧0≤lf)∧Hid (lf=left - n - sumBy szStep (xs.take k))∧Below w.heap.size w wr) (fun _ i _=>n - (intOf i).toNat)
 case atStart=>exact ⟨0,Nat.zero_le _,rfl,left - n,rfl,by omega,by show left - n=_;simp [sumBy],Below.refl _ _⟩
 case round =>
  obtain ⟨k,hk,rfl,lf,rfl,⟨hl1,hl2⟩,hlf,hbb⟩:=hrel;by_cases hkn:k<n
  · obtain ⟨b,off,rfl,hlt,hc⟩:=Ho.out (by have:=Hn.out;omega)
    obtain ⟨x,hx,⟨c0,c1,c2,c3,c4,c5,c6,c7,c8⟩,bx⟩:=hc k (by have:=Hn.out;omega);have Hx:=hid hx;have Hbx:=hid bx;clear hx hc bx;have d0:=(hbb.cell (p:=⟨b,off+k * 9,none⟩) hlt.2).trans c0;have d1:=(hbb.cell (p:=⟨b,off+k * 9+1,none⟩) hlt.2).trans c1;have d2:=(hbb.cell (p:=⟨b,off+k * 9+2,none⟩) hlt.2).trans c2;have d3:=(hbb.cell (p:=⟨b,off+k * 9+3,none⟩) hlt.2).trans c3;have d4:=(hbb.cell (p:=⟨b,off+k * 9+4,none⟩) hlt.2).trans c4;have d5:=(hbb.cell (p:=⟨b,off+k * 9+5,none⟩) hlt.2).trans c5;have d6:=(hbb.cell (p:=⟨b,off+k * 9+6,none⟩) hlt.2).trans c6;have d7:=(hbb.cell (p:=⟨b,off+k * 9+7,none⟩) hlt.2).trans c7;have d8:=(hbb.cell (p:=⟨b,off+k * 9+8,none⟩) hlt.2).trans c8;have D0:=hid c0;have D1:=hid c1;have D2:=hid c2;have D3:=hid c3;have D4:=hid c4;have D5:=hid c5;have D6:=hid c6;have D7:=hid c7;have D8:=hid c8;clear c0 c1 c2 c3 c4 c5 c6 c7 c8;have hx0:=szStep_nonneg x;by_cases hf:szStep x≤lf
    · go_wp2_with fail
      with_reducible refine (szStep_c wr (x:=x) Hbx.out hl1 hf).mono ?_
      rintro e w1 ⟨rfl,hb1⟩
      have hbb1:Below w.heap.size w w1:=hbb.trans (hb1.mono hbb.size);clear hb1 hbb d0 d1 d2 d3 d4 d5 d6 d7 d8;go_wp2
      go_roundw
      case rel=>exact ⟨k+1,by omega,by go_num,lf - szStep x,rfl,by omega,by show lf - szStep x=_;rw [sumBy_snoc szStep Hx.out,hlf.out];omega,hbb1⟩
      case measure=>simp [intOf];omega
    · go_wp2_with fail
      with_reducible refine (szStep_no wr (x:=x) Hbx.out ⟨hl2,hl1⟩ (by omega)).mono ?_
      rintro e w1 ⟨rfl,hb1⟩
      have hbb1:Below w.heap.size w w1:=hbb.trans (hb1.mono hbb.size);clear hb1 hbb d0 d1 d2 d3 d4 d5 d6 d7 d8;go_wp2
      go_ret
      exact ⟨rfl,hbb1⟩
  · exfalso
    have h6:=hlf.out;rw [List.take_of_length_le (by have:=Hn.out;omega)] at h6;have:=H2'.out;omega
theorem Tryz.infoStep:(Tryz.prog.info? 75).map (fun i=>(i.zero,i.size,i.bytes))=some (some (vStep zStep),9,80):=by kernel_rfl
theorem toStepS_c {w:World} {A:Nat} {xs:List StepT} {v:Value} (ha:RdStepS A w v xs) (hl:szStepS xs≤1048576) :
 Calls Tryz.prog 11 #[v] w fun e w'=>∃ u,e=.returned u∧OwnStepS w.heap.size w' u xs∧Below w.heap.size w w':=by
 have hl2:xs.length≤1048576:=by have:=szStepS_len xs;omega
 have hle:=ha.le;have hok:=ha.2;obtain ⟨ao,cap,rfl,ho⟩:=eStep_open ha;obtain ⟨n,hn⟩:∃ n,n=xs.length:=⟨_,rfl⟩;rw [← hn];have Hn:=hid hn;have Ho:=hid ho;have Hok:=hid hok;have hle':n≤9223372036854775807:=by omega
 clear hok ho hn hle ha;have hn2:n≤1048576:=by have:=Hn.out;omega
 obtain ⟨i0,hi,hz0,hz1,hz2⟩:=info_parts Tryz.infoStep;clear hl hl2 hle';go_enter Tryz.func11,Tryz.ntmps11
 go_wp2_with (first | (at_make;refine wpList_make_full _ rfl _ _ 37 rfl w.heap.size 75 i0 (vStep zStep) 9 Tryz.underlying37 hi hz0 hz1 _ _ _ _ n rfl rfl rfl rfl ?b1 ?b2 (Nat.le_refl _) ?_))
 case b1=>first | omega | (rw [hz2];omega)
 case b2=>unfold maxLen;omega
 intro w1 hown hgr;have hb1:Below w.heap.size w w1:=(Below.refl _ _).grown hgr (Nat.le_refl _) (fun k hk=>by cases hk);have hown0:OwnStepS w.heap.size w1 (.slice (some ⟨w.heap.size,0,none⟩) n n) (xs.take 0++List.replicate (n - 0) zStep):=by
  refine ⟨?_,fun x hx=>?_⟩
  · have hown2:w1.ownsRow w.heap.size 75 eStep.sz (.slice (some ⟨w.heap.size,0,none⟩) n n) n (madeCells (vStep zStep).cells (n * eStep.sz)).toList:=hown
    rw [Elt.all_made (E:=eStep) (z:=zStep) (zv:=vStep zStep) (by decide) rfl n] at hown2;simpa using hown2
  · simp at hx;obtain ⟨_,rfl⟩:=hx;exact ok_zStep
 have hs1:w.heap.size<w1.heap.size:=(hown0.lt _ rfl).2;clear hown hgr;go_wp2
 go_loopw [4] (fun i wr=>∃ k:Nat,k≤n∧i=.int .i64 k∧OwnStepS w.heap.size wr (.slice (some ⟨w.heap.size,0,none⟩) n n) (xs.take k++List.replicate (n - k) zStep)∧Below w.heap.size w wr) (fun i _=>n - (intOf i).toNat)
 case atStart=>exact ⟨0,Nat.zero_le _,rfl,hown0,hb1⟩
 case round =>
  obtain ⟨k,hk,rfl,hw,hb⟩:=hrel;by_cases hkn:k<n
  · obtain ⟨b,off,rfl,hlt,hc⟩:=Ho.out (by have:=Hn.out;omega)
    obtain ⟨x,hx,⟨c0,c1,c2,c3,c4,c5,c6,c7,c8⟩,bx⟩:=hc k (by have:=Hn.out;omega);have Hx:=hid hx;have Hbx:=hid bx;clear hx hc bx hb1 hown0;have d0:=(hb.cell (p:=⟨b,off+k * 9,none⟩) hlt.2).trans c0;have d1:=(hb.cell (p:=⟨b,off+k * 9+1,none⟩) hlt.2).trans c1;have d2:=(hb.cell (p:=⟨b,off+k * 9+2,none⟩) hlt.2).trans c2;have d3:=(hb.cell (p:=⟨b,off+k * 9+3,none⟩) hlt.2).trans c3;have d4:=(hb.cell (p:=⟨b,off+k * 9+4,none⟩) hlt.2).trans c4;have d5:=(hb.cell (p:=⟨b,off+k * 9+5,none⟩) hlt.2).trans c5;have d6:=(hb.cell (p:=⟨b,off+k * 9+6,none⟩) hlt.2).trans c6;have d7:=(hb.cell (p:=⟨b,off+k * 9+7,none⟩) hlt.2).trans c7;have d8:=(hb.cell (p:=⟨b,off+k * 9+8,none⟩) hlt.2).trans c8;clear c0 c1 c2 c3 c4 c5 c6 c7 c8;go_wp2_with fail
    with_reducible refine (toStep_c wr (x:=x) Hbx.out).mono ?_
    rintro e w2 ⟨rfl,hb2⟩
    have hw2:=hw.below hb2 (Nat.le_refl _);have hb3:Below w.heap.size w w2:=hb.trans (hb2.mono hb.size);have hlen:n=(xs.take k++List.replicate (n - k) zStep).length:=by have:=Hn.out;simp;omega
    have hst:=Own.storeE (E:=eStep) (by decide) hw2 hlen hkn Hbx.out;obtain ⟨⟨y0,hy0⟩,hf0⟩:=Own.cellE (E:=eStep) hw2 hlen (k:=k) (j:=0) hkn (by decide);obtain ⟨⟨y1,hy1⟩,hf1⟩:=Own.cellE (E:=eStep) hw2 hlen (k:=k) (j:=1) hkn (by decide);obtain ⟨⟨y2,hy2⟩,hf2⟩:=Own.cellE (E:=eStep) hw2 hlen (k:=k) (j:=2) hkn (by decide);obtain ⟨⟨y3,hy3⟩,hf3⟩:=Own.cellE (E:=eStep) hw2 hlen (k:=k) (j:=3) hkn (by decide);obtain ⟨⟨y4,hy4⟩,hf4⟩:=Own.cellE (E:=eStep) hw2 hlen (k:=k) (j:=4) hkn (by decide);obtain ⟨⟨y5,hy5⟩,hf5⟩:=Own.cellE (E:=eStep) hw2 hlen (k:=k) (j:=5) hkn (by decide);obtain ⟨⟨y6,hy6⟩,hf6⟩:=Own.cellE (E:=eStep) hw2 hlen (k:=k) (j:=6) hkn (by decide);obtain ⟨⟨y7,hy7⟩,hf7⟩:=Own.cellE (E:=eStep) hw2 hlen (k:=k) (j:=7) hkn (by decide);obtain ⟨⟨y8,hy8⟩,hf8⟩:=Own.cellE (E:=eStep) hw2 hlen (k:=k) (j:=8) hkn (by decide);simp only [show eStep.sz=9 from rfl,Nat.add_zero] at hy0 hf0 hy1 hf1 hy2 hf2 hy3 hf3 hy4 hf4 hy5 hf5 hy6 hf6 hy7 hf7 hy8 hf8
    have Hst:=hid hst;have Hb3:=hid hb3;clear hst hlen hb hb2 hw hw2 hb3 d0 d1 d2 d3 d4 d5 d6 d7 d8;go_wp2
    go_roundw
    case rel=>exact ⟨k+1,by omega,by go_num,by have h:=Hst.out.1;rw [set_take_repl Hx.out Hn.out hkn] at h;exact h,(((((((((Hb3.out).setCell (Nat.le_refl _) _).setCell (Nat.le_refl _) _).setCell (Nat.le_refl _) _).setCell (Nat.le_refl _) _).setCell (Nat.le_refl _) _).setCell (Nat.le_refl _) _).setCell (Nat.le_refl _) _).setCell (Nat.le_refl _) _).setCell (Nat.le_refl _) _⟩
    case measure=>simp [intOf];omega
  · go_wp2
    go_ret
    refine ⟨_,rfl,?_,hb⟩
    have:=Hn.out;rw [List.take_of_length_le (by omega),show n - k=0 by omega] at hw;simpa using hw
theorem eqStepS_c {xs:List StepT} {va vb:Value} {w:World} {A B:Nat} (ha:RdStepS A w va xs) (hb:RdStepS B w vb xs) :
 Calls Tryz.prog 15 #[va,vb] w fun e w'=>e=.returned (.bool true)∧Below w.heap.size w w':=by
 obtain ⟨bo,bcap,rfl,hob⟩:=eStep_open hb;have Hob:=hid hob;clear hob hb;have hle:=ha.le;have hok:=ha.2;obtain ⟨ao,cap,rfl,ho⟩:=eStep_open ha;obtain ⟨n,hn⟩:∃ n,n=xs.length:=⟨_,rfl⟩;rw [← hn];have Hn:=hid hn;have Ho:=hid ho;have Hok:=hid hok;have hle':n≤9223372036854775807:=by omega
 clear hok ho hn hle ha;go_enter Tryz.func15,Tryz.ntmps15
 go_wp2
 go_loopw [5] (fun i wr=>∃ k:Nat,k≤n∧i=.int .i64 k∧Below w.heap.size w wr) (fun i _=>n - (intOf i).toNat)
 case atStart=>exact ⟨0,Nat.zero_le _,rfl,Below.refl _ _⟩
 case round =>
  obtain ⟨k,hk,rfl,hbb⟩:=hrel;by_cases hkn:k<n
  · obtain ⟨b,off,rfl,hlt,hc⟩:=Ho.out (by have:=Hn.out;omega)
    obtain ⟨x,hx,⟨c0,c1,c2,c3,c4,c5,c6,c7,c8⟩,bx⟩:=hc k (by have:=Hn.out;omega);have Hx:=hid hx;have d0:=(hbb.cell (p:=⟨b,off+k * 9,none⟩) hlt.2).trans c0;have d1:=(hbb.cell (p:=⟨b,off+k * 9+1,none⟩) hlt.2).trans c1;have d2:=(hbb.cell (p:=⟨b,off+k * 9+2,none⟩) hlt.2).trans c2;have d3:=(hbb.cell (p:=⟨b,off+k * 9+3,none⟩) hlt.2).trans c3;have d4:=(hbb.cell (p:=⟨b,off+k * 9+4,none⟩) hlt.2).trans c4;have d5:=(hbb.cell (p:=⟨b,off+k * 9+5,none⟩) hlt.2).trans c5;have d6:=(hbb.cell (p:=⟨b,off+k * 9+6,none⟩) hlt.2).trans c6;have d7:=(hbb.cell (p:=⟨b,off+k * 9+7,none⟩) hlt.2).trans c7;have d8:=(hbb.cell (p:=⟨b,off+k * 9+8,none⟩) hlt.2).trans c8;clear hx hc bx c0 c1 c2 c3 c4 c5 c6 c7 c8;obtain ⟨b2,off2,rfl,hlt2,hc⟩:=Hob.out (by have:=Hn.out;omega);obtain ⟨x2,hx2,⟨c0,c1,c2,c3,c4,c5,c6,c7,c8⟩,bx⟩:=hc k (by have:=Hn.out;omega);obtain rfl:x=x2:=Option.some.inj (Hx.out.symm.trans hx2);have f0:=(hbb.cell (p:=⟨b2,off2+k * 9,none⟩) hlt2.2).trans c0;have f1:=(hbb.cell (p:=⟨b2,off2+k * 9+1,none⟩) hlt2.2).trans c1;have f2:=(hbb.cell (p:=⟨b2,off2+k * 9+2,none⟩) hlt2.2).trans c2;have f3:=(hbb.cell (p:=⟨b2,off2+k * 9+3,none⟩) hlt2.2).trans c3;have f4:=(hbb.cell (p:=⟨b2,off2+k * 9+4,none⟩) hlt2.2).trans c4;have f5:=(hbb.cell (p:=⟨b2,off2+k * 9+5,none⟩) hlt2.2).trans c5;have f6:=(hbb.cell (p:=⟨b2,off2+k * 9+6,none⟩) hlt2.2).trans c6;have f7:=(hbb.cell (p:=⟨b2,off2+k * 9+7,none⟩) hlt2.2).trans c7;have f8:=(hbb.cell (p:=⟨b2,off2+k * 9+8,none⟩) hlt2.2).trans c8;clear hx2 hc bx c0 c1 c2 c3 c4 c5 c6 c7 c8;go_wp2_with fail
    go_still_tail 8,(by kernel_rfl)
    change wpList _ _ _ _ _ wr.drew
    have hbd:Below w.heap.size w wr.drew:=⟨hbb.os,hbb.tape,hbb.output,hbb.size,hbb.block⟩;clear hbb d0 f0 d1 f1 d2 f2 d3 f3 d4 f4 d5 f5 d6 f6 d7 f7 d8 f8;generalize wr.drew=w2 at hbd ⊢;go_wp2_with fail
    with_reducible refine (eqStep_c w2 x).mono ?_
    rintro e w3 ⟨rfl,hb3⟩
    have hbb1:Below w.heap.size w w3:=hbd.trans (hb3.mono hbd.size);clear hb3 hbd;go_wp2
    go_roundw
    case rel=>exact ⟨k+1,by omega,by go_num,hbb1⟩
    case measure=>simp [intOf];omega
  · go_wp2
    go_ret
    exact ⟨rfl,hbb⟩
theorem openFStepS {H:Type} {enc:TypeId × Value→H} {w:World} {v:Value} {fuel:Nat} {y:DataW H × List MemPlace} (h:DataW.trod enc Tryz.prog w 0 (fun _=>true) true fuel 26 [v]=some y):∃ xs,RdStepS w.heap.size w v xs:=by
 refine open_rdF (E:=eStep) (e:=67) Tryz.underlying26 (by kernel_rfl) (fun n cs y hl hf=>?_) (by decide) h
 match cs,hl with
 | [e0,e1,e2,e3,e4,e5,e6,e7,e8],_ =>
  obtain ⟨n1,hq⟩:=trod_fields Tryz.underlying67 [(2,0,1),(2,1,1),(2,2,1),(2,3,1),(65,4,2),(65,6,2),(9,8,1)] (by kernel_rfl) hf;obtain ⟨z0,t0⟩:=hq 0 _ _ _ rfl;obtain ⟨a0,ha0,b0⟩:=trodI (v:=e0) Tryz.underlying2 t0;subst ha0;obtain ⟨z1,t1⟩:=hq 1 _ _ _ rfl;obtain ⟨a1,ha1,b1⟩:=trodI (v:=e1) Tryz.underlying2 t1;subst ha1;obtain ⟨z2,t2⟩:=hq 2 _ _ _ rfl;obtain ⟨a2,ha2,b2⟩:=trodI (v:=e2) Tryz.underlying2 t2;subst ha2;obtain ⟨z3,t3⟩:=hq 3 _ _ _ rfl;obtain ⟨a3,ha3,b3⟩:=trodI (v:=e3) Tryz.underlying2 t3;subst ha3;obtain ⟨z4,t4⟩:=hq 4 _ _ _ rfl;obtain ⟨n6,hq4⟩:=trod_fields (cs:=[e4,e5]) Tryz.underlying65 [(2,0,1),(2,1,1)] (by kernel_rfl) t4;obtain ⟨z4_0,t4_0⟩:=hq4 0 _ _ _ rfl;obtain ⟨a4,ha4,b4⟩:=trodI (v:=e4) Tryz.underlying2 t4_0;subst ha4;obtain ⟨z4_1,t4_1⟩:=hq4 1 _ _ _ rfl;obtain ⟨a5,ha5,b5⟩:=trodI (v:=e5) Tryz.underlying2 t4_1;subst ha5;obtain ⟨z5,t5⟩:=hq 5 _ _ _ rfl;obtain ⟨n7,hq5⟩:=trod_fields (cs:=[e6,e7]) Tryz.underlying65 [(2,0,1),(2,1,1)] (by kernel_rfl) t5;obtain ⟨z5_0,t5_0⟩:=hq5 0 _ _ _ rfl;obtain ⟨a6,ha6,b6⟩:=trodI (v:=e6) Tryz.underlying2 t5_0;subst ha6;obtain ⟨z5_1,t5_1⟩:=hq5 1 _ _ _ rfl;obtain ⟨a7,ha7,b7⟩:=trodI (v:=e7) Tryz.underlying2 t5_1;subst ha7;obtain ⟨z6,t6⟩:=hq 6 _ _ _ rfl;obtain ⟨a8,ha8,b8⟩:=trodS (v:=e8) Tryz.underlying9 t6;subst ha8;exact ⟨⟨a0,a1,a2,a3,a4,a5,a6,a7,a8⟩,rfl,b0,b1,b2,b3,b4,b5,b6,b7,b8⟩
theorem openStepS {H:Type} {enc:TypeId × Value→H} {w:World} {r:Reach} {b0:Nat} {v:Value} {d:DataW H} {ps:List MemPlace} (hok:Value.okWide Tryz.prog w r b0 26 v)
 (h:DataW.Trod enc Tryz.prog w 0 (fun _=>true) true 26 v d ps):∃ xs,RdStepS w.heap.size w v xs:=by
 obtain ⟨a,len,cap,rfl⟩:=okWide_slice Tryz.underlying26 hok;obtain ⟨fuel,hf⟩:=h;exact openFStepS hf
def mdig:Nat→Int→ByteArray→ByteArray
 | 0,_,out=>out
 | f+1,k,out=>if 0<k then mdig f (k / 10) (strOfNums [48+k % 10]++out) else out
def mtxt (k:Int):ByteArray:=if k≤0 then "m0".toUTF8 else "m".toUTF8++mdig 20 k ⟨#[]⟩
theorem mdig_size:∀ (f:Nat) (k:Int) (out:ByteArray),(mdig f k out).size≤out.size+f:=by
 intro f;induction f with
 | zero=>intro k out;exact Nat.le_refl _
 | succ f ih =>
  intro k out;unfold mdig;split
  · have:=ih (k / 10) (strOfNums [48+k % 10]++out)
    rw [ByteArray.size_append] at this;have h1:(strOfNums [48+k % 10]).size=1:=rfl;omega
  · omega
theorem mtxt_size (k:Int):(mtxt k).size≤9223372036854775807:=by
 unfold mtxt;split
 · decide
 · rw [ByteArray.size_append]
   have:=mdig_size 20 k ⟨#[]⟩;have h1:(⟨#[]⟩:ByteArray).size=0:=rfl;have h2: "m".toUTF8.size=1:=rfl
   omega
theorem conv1 (x:Int) (w:World):(convert 50 9 (.slice (some ⟨w.heap.size,0,none⟩) 1 1)).run Tryz.prog (w.alloc (.cells #[.int .u8 x] 5))=.ok (.string (strOfNums [x])) (w.alloc (.cells #[.int .u8 x] 5)):=by
 refine run_convert_bytes_arg _ 50 5 Tryz.underlying50 Tryz.underlying5 w.heap.size 0 1 1 [x] rfl (fun i hi=>?_) _ Tryz.underlying9
 have e:i=0:=by omega
 subst e;simp [World.cell?_alloc_new]
theorem markText_c (k:Int) (w:World) (hk:0≤k) (hl:k≤9223372036854775807) :
 Calls Tryz.prog 58 #[.int .i64 k] w fun e w'=>e=.returned (.string (mtxt k))∧Below w.heap.size w w':=by
 by_cases h0:k≤0
 · have e:mtxt k=⟨#[109,48]⟩:=by unfold mtxt;rw [if_pos h0];rfl
   rw [e];clear e;go_enter Tryz.func58,Tryz.ntmps58
   go_wp2
   go_ret
   exact ⟨rfl,Below.refl _ _⟩
 · have e:mtxt k=⟨#[109]⟩++mdig 20 k ⟨#[]⟩:=by unfold mtxt;rw [if_neg h0];rfl
   rw [e];clear e;obtain ⟨fin,hfin⟩:∃ fin,mdig 20 k ⟨#[]⟩=fin:=⟨_,rfl⟩;rw [hfin];have Hfin:=hid hfin;clear hfin;go_enter Tryz.func58,Tryz.ntmps58
   go_wp2
   go_loopw [0,3] (fun a s wr=>∃ q:Int,0≤q∧q≤9223372036854775807∧a=.int .i64 q∧∃ out:ByteArray,s=.string out∧out.size≤20∧(∃ f,Hid (q<10 ^ f∧out.size+f≤20∧mdig f q out=fin))∧Below w.heap.size w wr) (fun a _ _=>(intOf a).toNat)
   case atStart=>exact ⟨k,hk,hl,rfl,⟨#[]⟩,rfl,by decide,⟨20,by omega,by decide,Hfin.out⟩,Below.refl _ _⟩
   case round =>
    obtain ⟨q,hq0,hq1,rfl,out,rfl,hsz,⟨f,hf⟩,hb⟩:=hrel;by_cases hq:0<q
    · have hm:0≤q % 10∧q % 10≤9:=by omega
      obtain ⟨hm1,hm2⟩:=hm;have hu:IntKind.u8.wrap (48+q % 10)=48+q % 10:=by rw [IntKind.wrap_u8];omega
      have hcv:=conv1 (48+q % 10) wr;have hs1:(strOfNums [48+q % 10]).size=1:=rfl;obtain ⟨ch,hch⟩:∃ ch,strOfNums [48+q % 10]=ch:=⟨_,rfl⟩;rw [hch] at hcv hs1;have Hch:=hid hch;have Hs1:=hid hs1;have hs2:ch.size≤1:=by omega
      clear hch hs1;go_wp2
      go_roundw
      case rel =>
       obtain ⟨h1,h2,h3⟩:=hf.out;cases f with
       | zero=>rw [Int.pow_zero] at h1;omega
       | succ f =>
        refine ⟨q / 10,by omega,by omega,rfl,ch++out,rfl,by rw [ByteArray.size_append];omega,⟨f,?_,?_,?_⟩,hb.alloc hb.size _⟩
        · rw [Int.pow_succ] at h1;omega
        · rw [ByteArray.size_append];omega
        · unfold mdig at h3
          rw [if_pos hq,Hch.out] at h3;exact h3
      case measure=>simp [intOf];omega
    · go_wp2
      go_ret
      obtain ⟨h1,h2,h3⟩:=hf.out;have e:mdig f q out=out:=by
       cases f with
       | zero=>rfl
       | succ f=>unfold mdig;rw [if_neg (by omega)]
      rw [e] at h3;subst h3;exact ⟨rfl,hb⟩
end Go.Proofs.YthdaghfhlfjclaaGreat
