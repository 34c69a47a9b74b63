/- Lemmas on the way to the law FnRestarts. No condition. -/
import Derived.Test.YthdaghfhlfjclaaGreatRows
import Derived.Test.YthdaghfhlfjclaaGreatMR3
import Derived.Deep.Slices
import Derived.Deep.Fields
import Derived.ChangeSame
import Derived.Lib.SmallJoins
import Derived.StillTailTactics
import Derived.Deep.DeepCutAuto
import Derived.Laws.StructEq
import Derived.Test.YthdaghfhlfjclaaGreatMR4
namespace Go.Proofs.YthdaghfhlfjclaaGreat
set_option linter.unusedSimpArgs false
open Lib (hid)
open Go.ChangeShapes Go.WideShapes Go.ChangeAt Go.RowKit Go.Deep Go.Joins
set_option linter.unusedVariables false
set_option maxRecDepth 100000
def setRun:List Value->Nat->List Value->List Value
 | l,_,[]=>l
 | l,i,c :: cs=>setRun (l.set i c) (i+1) cs
theorem setRun_get:∀ (cs l:List Value) (i j:Nat),(setRun l i cs)[j]?=if i<=j/\j<i+cs.length/\j<l.length then cs[j - i]? else l[j]?:=by
 intro cs;induction cs with
 | nil=>intro l i j;rw [setRun,if_neg (by simp;omega)]
 | cons c cs ih =>
  intro l i j;rw [setRun,ih,List.length_set,List.getElem?_set];by_cases h1:i+1<=j/\j<i+1+cs.length/\j<l.length
  . rw [if_pos h1,if_pos ⟨by omega,by simp;omega,h1.2.2⟩]
    have:j - i=(j - (i+1))+1:=by omega
    rw [this,List.getElem?_cons_succ]
  . rw [if_neg h1]
    by_cases h2:i=j
    . subst h2
      rw [if_pos rfl];by_cases h3:i<l.length
      . rw [if_pos h3,if_pos ⟨zA _,by simp,h3⟩];simp
      . rw [if_neg h3,if_neg (fun h=>h3 h.2.2),List.getElem?_eq_none (by omega)]
    . rw [if_neg h2,if_neg (fun h=>h1 ⟨by omega,by have:=h.2.1;simp at this;omega,h.2.2⟩)]
section
variable {α:Type} {E:Elt α}
theorem Elt.all_set (hz:0<E.sz) {xs:List α} {k:Nat} {x:α} (hk:k<xs.length):setRun (E.all xs) (k * E.sz) (E.cells x)=E.all (xs.set k x):=by
 apply List.ext_getElem?;intro j;rw [setRun_get,E.len,E.all_length];have hj:j=(j / E.sz) * E.sz+j % E.sz:=by have:=Nat.div_add_mod j E.sz;rw [Nat.mul_comm] at this;omega
 have hm:=Nat.mod_lt j hz;by_cases h:j<xs.length * E.sz
 . have hq:j / E.sz<xs.length:=Nat.div_lt_of_lt_mul (by rw [Nat.mul_comm];exact h)
   by_cases e:k=j / E.sz
   . have hy:(xs.set k x)[j / E.sz]?=some x:=by rw [<- e,List.getElem?_set];simp [hk]
     rw [if_pos ⟨by rw [e];exact Nat.div_mul_le_self _ _,by rw [e];omega,h⟩];conv=>rhs;rw [hj,E.all_get hy hm]
     congr 1;rw [e];omega
   . have hy:(xs.set k x)[j / E.sz]?=some (xs[j / E.sz]):=by rw [List.getElem?_set,if_neg e];simp [hq]
     have hy2:xs[j / E.sz]?=some (xs[j / E.sz]):=by simp [hq]
     have hne:¬ (k * E.sz<=j/\j<k * E.sz+E.sz/\j<xs.length * E.sz):=by
      rintro ⟨h1,h2,_⟩;apply e;rw [hj] at h1 h2;rcases Nat.lt_or_gt_of_ne e with h3 | h3
      . have:(k+1) * E.sz<=j / E.sz * E.sz:=Nat.mul_le_mul_right _ h3
        rw [Nat.add_mul] at this;omega
      . have:(j / E.sz+1) * E.sz<=k * E.sz:=Nat.mul_le_mul_right _ h3
        rw [Nat.add_mul] at this;omega
     rw [if_neg hne];conv=>lhs;rw [hj,E.all_get hy2 hm]
     conv=>rhs;rw [hj,E.all_get hy hm]
 . rw [if_neg (fun hh=>h hh.2.2),List.getElem?_eq_none (by rw [E.all_length];omega),List.getElem?_eq_none (by rw [E.all_length,List.length_set];omega)]
theorem Elt.all_made (hz:0<E.sz) {z:α} {zv:Value} (h:zv.cells=(E.cells z).toArray) (n:Nat):(madeCells zv.cells (n * E.sz)).toList=E.all (List.replicate n z):=by
 apply List.ext_getElem?;intro j;have hj:j=(j / E.sz) * E.sz+j % E.sz:=by have:=Nat.div_add_mod j E.sz;rw [Nat.mul_comm] at this;omega
 have hm:=Nat.mod_lt j hz;have hs:zv.cells.size=E.sz:=by rw [h,List.size_toArray,E.len]
 by_cases hlt:j<n * E.sz
 . have hq:j / E.sz<n:=Nat.div_lt_of_lt_mul (by rw [Nat.mul_comm];exact hlt)
   have hy:(List.replicate n z)[j / E.sz]?=some z:=by rw [List.getElem?_replicate,if_pos hq]
   conv=>rhs;rw [hj,E.all_get hy hm]
   rw [madeCells,Array.toList_map,List.getElem?_map,Array.toList_range,List.getElem?_range hlt,Option.map_some,hs,h];have hl:j % E.sz<(E.cells z).length:=by rw [E.len];exact hm
   simp [hl]
 . rw [List.getElem?_eq_none (by rw [Array.length_toList,size_madeCells];omega),List.getElem?_eq_none (by rw [E.all_length,List.length_replicate];omega)]
theorem Elt.all_set1 (hz:0<E.sz) {xs:List α} {k j:Nat} {x y:α} {v:Value} (hx:xs[k]?=some x) (hj:j<E.sz) (hy:(E.cells x).set j v=E.cells y):(E.all xs).set (k * E.sz+j) v=E.all (xs.set k y):=by
 have hk:=yBK hx;rw [<- E.all_set hz hk];apply List.ext_getElem?;intro i;rw [setRun_get,List.getElem?_set,E.len,E.all_length];have h5:(k+1) * E.sz<=xs.length * E.sz:=Nat.mul_le_mul_right _ hk;rw [Nat.add_mul,Nat.one_mul] at h5;by_cases e:k * E.sz+j=i
 . rw [if_pos e,if_pos (by omega),if_pos ⟨by omega,by omega,by omega⟩,<- hy,<- e,Nat.add_sub_cancel_left,List.getElem?_set,if_pos rfl,if_pos (by rw [E.len];exact hj)]
 . rw [if_neg e]
   by_cases h:k * E.sz<=i/\i<k * E.sz+E.sz/\i<xs.length * E.sz
   . rw [if_pos h,<- hy,List.getElem?_set,if_neg (by omega)]
     have hi:i=k * E.sz+(i - k * E.sz):=by omega
     conv=>lhs;rw [hi]
     exact E.all_get hx (by omega)
   . rw [if_neg h]
theorem Own.store1 (hz:0<E.sz) {e:TypeId} {base g n cap k j:Nat} {w:World} {xs:List α} {x y:α} {v:Value} (h:Own E e base w (.slice (some ⟨g,0,none⟩) n cap) xs) (hn:n=xs.length) (hx:xs[k]?=some x) (hj:j<E.sz) (hy:(E.cells x).set j v=E.cells y) (hok:E.ok y) :
 Own E e base (w.setCell ⟨g,k * E.sz+j,none⟩ v) (.slice (some ⟨g,0,none⟩) n cap) (xs.set k y)/\w.grownBy (w.setCell ⟨g,k * E.sz+j,none⟩ v) (some g):=by
 subst hn;have h1:=h.1.stored (k * E.sz+j) v;rw [E.all_set1 hz hx hj hy] at h1;refine ⟨⟨by rw [List.length_set];exact h1.1,fun z hz'=>?_⟩,h1.2⟩;rcases List.mem_or_eq_of_mem_set hz' with hz' | rfl
 . exact h.2 z hz'
 . exact hok
theorem Own.cellE {e:TypeId} {base g n cap:Nat} {w:World} {xs:List α} (h:Own E e base w (.slice (some ⟨g,0,none⟩) n cap) xs) (hn:n=xs.length) {k j:Nat} (hk:k<n) (hj:j<E.sz) :
 (∃ u,w.cell? ⟨g,k * E.sz+j,none⟩=some u)/\w.frozen? ⟨g,k * E.sz+j,none⟩=false:=by
 subst hn;have hlt:k * E.sz+j<xs.length * E.sz:=by
  have:(k+1) * E.sz<=xs.length * E.sz:=Nat.mul_le_mul_right _ hk;rw [Nat.add_mul] at this;omega
 refine ⟨⟨(E.all xs)[k * E.sz+j]'(by rw [E.all_length];exact hlt),?_⟩,h.1.frozenAt _⟩;rw [h.1.cellAt _ hlt];simp [E.all_length,hlt]
end
section
variable {α:Type} {f:Int->α} {d:Int}
end
section
variable {H:Type} {enc:TypeId × Value->H} {P:Program} {w:World} {base:Nat} {spare:Nat->Bool} {held:Bool}
end
theorem any_endT {α:Type} {xs:List α} {p:α->Bool} (h:xs.any p=false):(0:Int)<=-1 ↔ xs.any p=true :=
 ⟨fun h=>by omega,fun h2=>by rw [h2] at h;cases h⟩
theorem bcell {W w1:World} (hb:Below W.heap.size W w1):(∀ b o,b<W.heap.size->w1.cell? ⟨b,o,none⟩=W.cell? ⟨b,o,none⟩)/\(∀ b o,b<W.heap.size->w1.frozen? ⟨b,o,none⟩=W.frozen? ⟨b,o,none⟩) :=
 ⟨fun b o h=>hb.cell (p:=⟨b,o,none⟩) h,fun b o h=>hb.frozen (p:=⟨b,o,none⟩) h⟩
structure Box (w:World) (b:Nat) (cs:List Value):Prop where
 lt:b<w.heap.size
 cell:∀ (j:Nat) (v:Value),cs[j]?=some v->w.cell? ⟨b,j,none⟩=some v
 free:∀ j:Nat,w.frozen? ⟨b,j,none⟩=false
theorem Box.below {w w':World} {b B:Nat} {cs:List Value} (h:Box w b cs) (hb:Below B w w') (hB:b<B):Box w' b cs :=
 ⟨zM h.lt hb.size,fun j v hj=>(hb.cell (p:=⟨b,j,none⟩) hB).trans (h.cell j v hj),fun j=>(hb.frozen (p:=⟨b,j,none⟩) hB).trans (h.free j)⟩
theorem Box.on {w w':World} {b:Nat} {cs:List Value} (h:Box w b cs) (hb:Below w.heap.size w w'):Box w' b cs:=h.below hb h.lt
theorem Box.alloc {w:World} {b:Nat} {cs:List Value} (h:Box w b cs) (o:Obj):Box (w.alloc o) b cs:=h.on ((zB _ _).alloc (zA _) _)
theorem Box.drew1 {w:World} {b:Nat} {cs:List Value} (h:Box w b cs):Box w.drew b cs:=⟨h.lt,h.cell,h.free⟩
theorem _root_.Go.RowKit.Below.drew1 {B:Nat} {a w:World} (h:Below B a w):Below B a w.drew:=⟨h.os,h.tape,h.output,h.size,h.block⟩
theorem Rds.onn {α:Type} {E:Elt α} {B:Nat} {w w':World} {v:Value} {xs:List α} (h:Rds E B w v xs) (hb:Below w.heap.size w w'):Rds E w'.heap.size w' v xs:=(h.tight.below hb (zA _)).mono hb.size
theorem Box.new (w:World) (cs:List Value) (t:TypeId):Box (w.alloc (.cells cs.toArray t)) w.heap.size cs :=
 ⟨by simp,fun j v hj=>by simp [World.cell?_alloc_new,hj],fun j=>by simp [go_sem]⟩
theorem Box.set1 {w:World} {b j:Nat} {cs:List Value} (h:Box w b cs) (hj:j<cs.length) (v:Value):Box (w.setCell ⟨b,j,none⟩ v) b (cs.set j v):=by
 refine ⟨by simpa using h.lt,fun i u hi=>?_,fun i=>by rw [<- h.free i];simp [go_sem]⟩;rw [List.getElem?_set] at hi;by_cases e:j=i
 . subst e
   rw [if_pos rfl,if_pos hj] at hi;cases hi;have hu:=h.cell j cs[j] (by simp [hj]);simp [go_sem,hu]
 . rw [if_neg e] at hi
   have hu:=h.cell i u hi;rw [<- hu];have hne:¬ i=j:=fun h=>e h.symm;simp [go_sem]
theorem Box.other {w:World} {b:Nat} {cs:List Value} (h:Box w b cs) {p:Addr} (hp:p.block ≠ b) (v:Value):Box (w.setCell p v) b cs:=by
 refine ⟨by simpa using h.lt,fun i u hi=>?_,fun i=>by rw [<- h.free i];simp [go_sem]⟩;rw [<- h.cell i u hi];obtain ⟨pb,po,ps⟩:=p;have hne:¬ b=pb:=fun e=>hp e.symm;simp [go_sem]
theorem toList_inj {a b:ByteArray}:a.toList=b.toList ↔ a=b:=by
 rw [ByteArray.toList_eq,ByteArray.toList_eq];obtain ⟨⟨x⟩⟩:=a;obtain ⟨⟨y⟩⟩:=b;simp
theorem _root_.Go.RowKit.Below.drewNy {B:Nat} {a w:World} (h:Below B a w) (m:Nat):Below B a (w.drewN m):=⟨h.os,h.tape,h.output,h.size,h.block⟩
def bytesI (s:ByteArray):List Int:=s.data.toList.map (fun c=>(c.toNat:Int))
theorem bytesI_length (s:ByteArray):(bytesI s).length=s.size:=by simp [bytesI]
theorem bytesI_at (s:ByteArray) (k:Nat) (h:k<s.size):(bytesI s)[k]?=some (s[k].toNat:Int):=by
 unfold bytesI;rw [List.getElem?_map];have h1:s.data.toList[k]?=some s[k]:=by
  rw [zF (by simpa using h)];rfl
 rw [h1];rfl
theorem isDigit_yes (c:Int) (w:World) (h:48<=c/\c<=57):Calls Tryz.prog 236 #[.int .u8 c] w fun e w'=>e=.returned (.bool true)/\w=w':=by
 obtain ⟨h1,h2⟩:=h;go_enter Tryz.func236,Tryz.ntmps236;go_wp2;go_ret;exact ⟨rfl,rfl⟩
theorem isDigit_no (c:Int) (w:World) (h:¬ (48<=c/\c<=57)):Calls Tryz.prog 236 #[.int .u8 c] w fun e w'=>e=.returned (.bool false)/\w=w':=by
 by_cases h1:48<=c
 . have h2:57<c:=by omega
   clear h;go_enter Tryz.func236,Tryz.ntmps236;go_wp2;go_ret;exact ⟨yAD (by simp;omega),rfl⟩
 . clear h
   go_enter Tryz.func236,Tryz.ntmps236;go_wp2;go_ret;exact ⟨rfl,rfl⟩
theorem l01Digit_yes (c:Int) (w:World) (h:48<=c/\c<=57):Calls Tryz.prog 158 #[.int .u8 c] w fun e w'=>e=.returned (.bool true)/\w=w':=by
 obtain ⟨h1,h2⟩:=h;go_enter Tryz.func158,Tryz.ntmps158;go_wp2;go_ret;exact ⟨rfl,rfl⟩
theorem l01Digit_no (c:Int) (w:World) (h:¬ (48<=c/\c<=57)):Calls Tryz.prog 158 #[.int .u8 c] w fun e w'=>e=.returned (.bool false)/\w=w':=by
 by_cases h1:48<=c
 . have h2:57<c:=by omega
   clear h;go_enter Tryz.func158,Tryz.ntmps158;go_wp2;go_ret;exact ⟨yAD (by simp;omega),rfl⟩
 . clear h
   go_enter Tryz.func158,Tryz.ntmps158;go_wp2;go_ret;exact ⟨rfl,rfl⟩
def selI (p:Int->Bool):Nat->List Int
 | 0=>[]
 | k+1=>selI p k++(if p (k:Int)=true then [(k:Int)] else [])
theorem yAX (p:Int->Bool) (k:Nat):selI p (k+1)=selI p k++(if p (k:Int)=true then [(k:Int)] else []):=rfl
theorem yBE (p:Int->Bool) (k:Nat):(selI p k).length<=k:=by
 induction k with
 | zero=>exact zA _
 | succ k ih=>rw [yAX,zE];split <;> simp <;> omega
def atI (xs:List Int) (k:Nat):Int:=xs.getD k 0
def hasI (xs:List Int) (x:Int):Bool:=xs.contains x
theorem hasI_take {xs:List Int} {k:Nat} {x y:Int} (hx:xs[k]?=some x) (h:hasI (xs.take k) y=false):hasI (xs.take (k+1)) y=(x == y):=by
 unfold hasI at *
 rw [yAE hx,List.contains_eq_any_beq,List.any_append,<- List.contains_eq_any_beq,h];simp;rw [Bool.eq_iff_iff,beq_iff_eq,beq_iff_eq];exact eq_comm
theorem hasI_mem {xs:List Int} {k:Nat} {x:Int} (hx:xs[k]?=some x):hasI xs x=true:=by
 unfold hasI;have:=zC hx;simpa using this
theorem copyInts_c {xs:List Int} {v:Value} {w:World} {A:Nat} (ha:RdI A w v xs) (hl:xs.length<=2097152) :
 Calls Tryz.prog 207 #[v] w fun e w'=>∃ u,e=.returned u/\OwnInt64S w.heap.size w' u xs/\Below w.heap.size w w':=by
 obtain ⟨i0,hi,hz0,hz1,hz2⟩:=info_parts Tryz.infoInt64;have h0:OwnInt64S w.heap.size (w.alloc (.cells #[] 2)) (.slice (some ⟨w.heap.size,0,none⟩) 0 0) []:=Own.lit (E:=eI) (xs:=[]) (cs:=#[]) (zA _) rfl rfl (by decide) (fun x hx=>by cases hx);have hb0:Below w.heap.size w (w.alloc (.cells #[] 2)):=(zB _ _).alloc (zA _) _;have hr:RdI (w.heap.size+1) (w.alloc (.cells #[] 2)) v xs:=by have:=Rds.onn ha hb0;simpa using this
 have H0:=hid h0;have Hb0:=hid hb0;have Hr:=hid hr;have Hl:=hid hl;clear h0 hb0 hr ha hl;go_enter Tryz.func207,Tryz.ntmps207;go_wp2_with (first | (at_builtin;refine yAB (E:=eI) rfl _ _ 29 rfl Tryz.underlying29 hi hz0 hz1 hz2 rfl (by decide) rfl rfl H0.out Hr.out ?b1 ?b2 ?b3 ?_))
 case b1=>have:=Hl.out;unfold maxLen;simp;omega
 case b2=>have:=Hl.out;simp;omega
 case b3=>simp
 intro v' w2 hR2 hg;have hb2:=hg.below Hb0.out (by simp) (fun q hq=>(H0.out.lt q hq).1);clear hg;have hR3:OwnInt64S w.heap.size w2 v' xs:=hR2;clear hR2;have HR3:=hid hR3;clear hR3;go_wp2;go_ret;exact ⟨_,rfl,HR3.out,hb2⟩
theorem l00Own_c {xs:List Int} {v:Value} {w:World} {A:Nat} (ha:RdI A w v xs) (hl:xs.length<=2097152) :
 Calls Tryz.prog 156 #[v] w fun e w'=>∃ u,e=.returned u/\OwnInt64S w.heap.size w' u xs/\Below w.heap.size w w':=by
 obtain ⟨i0,hi,hz0,hz1,hz2⟩:=info_parts Tryz.infoInt64;have h0:OwnInt64S w.heap.size (w.alloc (.cells #[] 2)) (.slice (some ⟨w.heap.size,0,none⟩) 0 0) []:=Own.lit (E:=eI) (xs:=[]) (cs:=#[]) (zA _) rfl rfl (by decide) (fun x hx=>by cases hx);have hb0:Below w.heap.size w (w.alloc (.cells #[] 2)):=(zB _ _).alloc (zA _) _;have hr:RdI (w.heap.size+1) (w.alloc (.cells #[] 2)) v xs:=by have:=Rds.onn ha hb0;simpa using this
 have H0:=hid h0;have Hb0:=hid hb0;have Hr:=hid hr;have Hl:=hid hl;clear h0 hb0 hr ha hl;go_enter Tryz.func156,Tryz.ntmps156;go_wp2_with (first | (at_builtin;refine yAB (E:=eI) rfl _ _ 29 rfl Tryz.underlying29 hi hz0 hz1 hz2 rfl (by decide) rfl rfl H0.out Hr.out ?b1 ?b2 ?b3 ?_))
 case b1=>have:=Hl.out;unfold maxLen;simp;omega
 case b2=>have:=Hl.out;simp;omega
 case b3=>simp
 intro v' w2 hR2 hg;have hb2:=hg.below Hb0.out (by simp) (fun q hq=>(H0.out.lt q hq).1);clear hg;have hR3:OwnInt64S w.heap.size w2 v' xs:=hR2;clear hR2;have HR3:=hid hR3;clear hR3;go_wp2;go_ret;exact ⟨_,rfl,HR3.out,hb2⟩
theorem l00Has_c {xs:List Int} {v:Value} {w:World} {A:Nat} (x:Int) (ha:RdI A w v xs) :
 Calls Tryz.prog 113 #[v,.int .i64 x] w fun e w'=>e=.returned (.bool (hasI xs x))/\w=w':=by
 have hle:=ha.le;obtain ⟨ao,cap,rfl,ho⟩:=RdI.open ha;obtain ⟨n,hn⟩:∃ n,n=xs.length:=⟨_,rfl⟩;rw [<- hn] at ho hle |-;have Hn:=hid hn;have Ho:=hid ho;clear ho hn ha;go_enter Tryz.func113,Tryz.ntmps113;go_wp2;go_loop [5] (fun i=>∃ k:Nat,k<=n/\i=.int .i64 k/\Hid (hasI (xs.take k) x=false)) (fun i=>n - (intOf i).toNat)
 case atStart=>exact ⟨0,zK _,rfl,by show hasI [] x=false;rfl⟩
 case round =>
  obtain ⟨k,hk,rfl,hp⟩:=hrel;by_cases hkn:k<n
  . obtain ⟨b,off,rfl,hlt,hc⟩:=Ho.out (by omega)
    obtain ⟨y,hy,hcy,by2⟩:=hc k hkn;have hs:=hasI_take hy hp.out;have Hs:=hid hs;have Hy:=hid hy;clear hs hy hc;cases hq:(y == x) with
    | true =>
     go_wp2;go_ret;refine ⟨yAD ?_,rfl⟩;rw [<- beq_iff_eq.1 hq,hasI_mem Hy.out]
    | false =>
     go_wp2;go_round
     case rel=>exact ⟨k+1,by omega,by go_num,by show _=false;rw [Hs.out,hq]⟩
     case measure=>simp [intOf];omega
  . go_wp2
    go_ret;have:=hp.out;rw [zH (by have:=Hn.out;omega)] at this;exact ⟨yAD this.symm,rfl⟩
abbrev fieldP (f t w:Int):Prop:=0<=f/\f<t/\t<=w
theorem txt_empty {s:ByteArray} (h:s.size=0):s.toList.isEmpty=true:=by
 rw [ByteArray.toList_eq];have h9:s.data.toList.length=0:=by rw [Array.length_toList];exact h
 rw [List.eq_nil_of_length_eq_zero h9];rfl
theorem txt_full {s:ByteArray} (h:¬ s.size=0):s.toList.isEmpty=false:=by
 rw [ByteArray.toList_eq];cases hd:s.data.toList with
 | nil=>exact absurd (by
  have h9:s.data.toList.length=0:=by rw [hd];rfl
  rw [Array.length_toList] at h9;exact h9) h
 | cons a b=>rfl
theorem isField_c (f t c:Int) (w:World) (hc:0<=c/\c<=1000):Calls Tryz.prog 134 #[.agg #[.int .i64 f,.int .i64 t],.int .i64 c] w fun e w'=>e=.returned (.bool (decide (fieldP f t c)))/\Below w.heap.size w w':=by
 obtain ⟨p,hp⟩:∃ p,p=decide (fieldP f t c):=⟨_,rfl⟩;rw [<- hp];have Hp:=hid hp;clear hp;by_cases h1:0<=f
 . by_cases h2:f<t
   . by_cases h3:t<=c
     . go_enter Tryz.func134,Tryz.ntmps134
       go_wp2;go_ret;exact ⟨yAD (by rw [Hp.out];exact (decide_eq_true ⟨h1,h2,h3⟩).symm),(zB _ _).alloc (zA _) _⟩
     . go_enter Tryz.func134,Tryz.ntmps134
       go_wp2;go_ret;exact ⟨yAD (by rw [Hp.out];exact (decide_eq_false fun ⟨_,_,q⟩=>by omega).symm),(zB _ _).alloc (zA _) _⟩
   . go_enter Tryz.func134,Tryz.ntmps134
     go_wp2;go_ret;exact ⟨yAD (by rw [Hp.out];exact (decide_eq_false fun ⟨_,q,_⟩=>by omega).symm),(zB _ _).alloc (zA _) _⟩
 . go_enter Tryz.func134,Tryz.ntmps134
   go_wp2;go_ret;exact ⟨yAD (by rw [Hp.out];exact (decide_eq_false fun ⟨q,_,_⟩=>by omega).symm),(zB _ _).alloc (zA _) _⟩
theorem yBR (f t c:Int) (w:World) (hc:0<=c/\c<=1000):Calls Tryz.prog 82 #[.agg #[.int .i64 f,.int .i64 t],.int .i64 c] w fun e w'=>e=.returned (.bool (decide (fieldP f t c)))/\Below w.heap.size w w':=by
 obtain ⟨p,hp⟩:∃ p,p=decide (fieldP f t c):=⟨_,rfl⟩;rw [<- hp];have Hp:=hid hp;clear hp;by_cases h1:0<=f
 . by_cases h2:f<t
   . by_cases h3:t<=c
     . go_enter Tryz.func82,Tryz.ntmps82
       go_wp2;go_ret;exact ⟨yAD (by rw [Hp.out];exact (decide_eq_true ⟨h1,h2,h3⟩).symm),(zB _ _).alloc (zA _) _⟩
     . go_enter Tryz.func82,Tryz.ntmps82
       go_wp2;go_ret;exact ⟨yAD (by rw [Hp.out];exact (decide_eq_false fun ⟨_,_,q⟩=>by omega).symm),(zB _ _).alloc (zA _) _⟩
   . go_enter Tryz.func82,Tryz.ntmps82
     go_wp2;go_ret;exact ⟨yAD (by rw [Hp.out];exact (decide_eq_false fun ⟨_,q,_⟩=>by omega).symm),(zB _ _).alloc (zA _) _⟩
 . go_enter Tryz.func82,Tryz.ntmps82
   go_wp2;go_ret;exact ⟨yAD (by rw [Hp.out];exact (decide_eq_false fun ⟨q,_,_⟩=>by omega).symm),(zB _ _).alloc (zA _) _⟩
def eT:Elt ByteArray:={ sz:=1,cells:=fun x=>[.string x],ok:=fun x=>x.size<=9223372036854775807,len:=fun _=>rfl,one:=fun x u hu=>by simp at hu;subst hu;rfl }
theorem RdT.open {w:World} {B:Nat} {v:Value} {xs:List ByteArray} (h:Rds eT B w v xs):∃ ao cap,v=.slice ao xs.length cap /\
 (0<xs.length->∃ b off,ao=some ⟨b,off,none⟩/\(b<B/\b<w.heap.size)/\∀ k,k<xs.length->∃ x,xs[k]?=some x/\w.cell? ⟨b,off+k,none⟩=some (.string x)/\x.size<=9223372036854775807):=by
 rcases h.cases with ⟨rfl,ao,cap,rfl,_⟩ | ⟨b,off,cap,rfl,hlt,hc⟩
 . exact ⟨ao,cap,rfl,fun h=>absurd h (by simp)⟩
 . refine ⟨_,cap,rfl,fun _=>⟨b,off,rfl,hlt,fun k hk=>?_⟩⟩
   obtain ⟨h1,h2⟩:=hc k xs[k] (by simp [hk]);refine ⟨xs[k],by simp [hk],?_,h1⟩;have:=h2 0 (by decide);simpa [eT] using this
theorem Tryz.infoString:(Tryz.prog.info? 9).map (fun i=>(i.zero,i.size,i.bytes))=some (some (.string ⟨#[]⟩),1,16):=by kernel_rfl
structure TotalT where
 nm:ByteArray
 su:Int
abbrev vTotal (x:TotalT):Value:=.agg #[.string x.nm,.int .i64 x.su]
def okTotal (x:TotalT):Prop:=x.nm.size<=9223372036854775807/\(-9223372036854775808<=x.su/\x.su<=9223372036854775807)
def eTotal:Elt TotalT:={ sz:=2,cells:=fun x=>[.string x.nm,.int .i64 x.su],ok:=okTotal,len:=fun _=>rfl,one:=fun x u hu=>by simp at hu;rcases hu with rfl | rfl <;> rfl }
def zTotal:TotalT:=⟨⟨#[]⟩,0⟩
abbrev OwnTTotalS (base top:Nat) (w:World) (v:Value) (x:List TotalT):Prop:=OwnT eTotal 150 base top w v x
theorem eTotal_open {w:World} {B:Nat} {v:Value} {xs:List TotalT} (h:Rds eTotal B w v xs):∃ ao cap,v=.slice ao xs.length cap /\
 (0<xs.length->∃ b off,ao=some ⟨b,off,none⟩/\(b<B/\b<w.heap.size)/\∀ k,k<xs.length->∃ x,xs[k]?=some x/\(w.cell? ⟨b,off+k * 2,none⟩=some (.string x.nm)/\w.cell? ⟨b,off+k * 2+1,none⟩=some (.int .i64 x.su))/\okTotal x):=by
 rcases Rds.cases h with ⟨rfl,ao,cap,rfl,_⟩ | ⟨b,off,cap,rfl,hlt,hc⟩
 . exact ⟨ao,cap,rfl,fun h=>absurd h (by simp)⟩
 . refine ⟨_,cap,rfl,fun _=>⟨b,off,rfl,hlt,fun k hk=>?_⟩⟩
   obtain ⟨h1,h2⟩:=hc k xs[k] (by simp [hk]);refine ⟨xs[k],by simp [hk],⟨?_,?_⟩,h1⟩
   . exact h2 0 (by decide)
   . have:=h2 1 (by decide);rw [<- Nat.add_assoc] at this;exact this
theorem Tryz.infoTotal:(Tryz.prog.info? 150).map (fun i=>(i.zero,i.size,i.bytes))=some (some (vTotal zTotal),2,24):=by kernel_rfl
section
variable {H:Type} {enc:TypeId × Value->H} {P:Program} {w:World}
end
structure StepT where
 kd:Int
 ta:Int
 tb:Int
 tc:Int
 ff:Int
 ft:Int
 sf:Int
 st:Int
 tx:ByteArray
abbrev vStep (x:StepT):Value:=.agg #[.int .i64 x.kd,.int .i64 x.ta,.int .i64 x.tb,.int .i64 x.tc,.int .i64 x.ff,.int .i64 x.ft,.int .i64 x.sf,.int .i64 x.st,.string x.tx]
def okStep (x:StepT):Prop:=(-9223372036854775808<=x.kd/\x.kd<=9223372036854775807)/\(-9223372036854775808<=x.ta/\x.ta<=9223372036854775807)/\(-9223372036854775808<=x.tb/\x.tb<=9223372036854775807)/\(-9223372036854775808<=x.tc/\x.tc<=9223372036854775807)/\(-9223372036854775808<=x.ff/\x.ff<=9223372036854775807)/\(-9223372036854775808<=x.ft/\x.ft<=9223372036854775807)/\(-9223372036854775808<=x.sf/\x.sf<=9223372036854775807)/\(-9223372036854775808<=x.st/\x.st<=9223372036854775807)/\x.tx.size<=9223372036854775807
def eStep:Elt StepT:={ sz:=9,cells:=fun x=>[.int .i64 x.kd,.int .i64 x.ta,.int .i64 x.tb,.int .i64 x.tc,.int .i64 x.ff,.int .i64 x.ft,.int .i64 x.sf,.int .i64 x.st,.string x.tx],ok:=okStep,len:=fun _=>rfl,one:=fun x u hu=>by simp at hu;rcases hu with rfl | rfl | rfl | rfl | rfl | rfl | rfl | rfl | rfl <;> rfl }
def zStep:StepT:=⟨0,0,0,0,0,0,0,0,⟨#[]⟩⟩
theorem ok_zStep:okStep zStep:=by unfold okStep zStep;exact ⟨⟨by decide,by decide⟩,⟨by decide,by decide⟩,⟨by decide,by decide⟩,⟨by decide,by decide⟩,⟨by decide,by decide⟩,⟨by decide,by decide⟩,⟨by decide,by decide⟩,⟨by decide,by decide⟩,zK _⟩
abbrev RdStepS (B:Nat) (w:World) (v:Value) (x:List StepT):Prop:=Rds eStep B w v x
abbrev OwnStepS (base:Nat) (w:World) (v:Value) (x:List StepT):Prop:=Own eStep 75 base w v x
theorem yBG {w:World} {B:Nat} {v:Value} {xs:List StepT} (h:Rds eStep B w v xs):∃ ao cap,v=.slice ao xs.length cap /\
 (0<xs.length->∃ b off,ao=some ⟨b,off,none⟩/\(b<B/\b<w.heap.size)/\∀ k,k<xs.length->∃ x,xs[k]?=some x/\(w.cell? ⟨b,off+k * 9,none⟩=some (.int .i64 x.kd)/\w.cell? ⟨b,off+k * 9+1,none⟩=some (.int .i64 x.ta)/\w.cell? ⟨b,off+k * 9+2,none⟩=some (.int .i64 x.tb)/\w.cell? ⟨b,off+k * 9+3,none⟩=some (.int .i64 x.tc)/\w.cell? ⟨b,off+k * 9+4,none⟩=some (.int .i64 x.ff)/\w.cell? ⟨b,off+k * 9+5,none⟩=some (.int .i64 x.ft)/\w.cell? ⟨b,off+k * 9+6,none⟩=some (.int .i64 x.sf)/\w.cell? ⟨b,off+k * 9+7,none⟩=some (.int .i64 x.st)/\w.cell? ⟨b,off+k * 9+8,none⟩=some (.string x.tx))/\okStep x):=by
 rcases Rds.cases h with ⟨rfl,ao,cap,rfl,_⟩ | ⟨b,off,cap,rfl,hlt,hc⟩
 . exact ⟨ao,cap,rfl,fun h=>absurd h (by simp)⟩
 . refine ⟨_,cap,rfl,fun _=>⟨b,off,rfl,hlt,fun k hk=>?_⟩⟩
   obtain ⟨h1,h2⟩:=hc k xs[k] (by simp [hk]);refine ⟨xs[k],by simp [hk],⟨?_,?_,?_,?_,?_,?_,?_,?_,?_⟩,h1⟩
   . exact h2 0 (by decide)
   . have:=h2 1 (by decide);rw [<- Nat.add_assoc] at this;exact this
   . have:=h2 2 (by decide);rw [<- Nat.add_assoc] at this;exact this
   . have:=h2 3 (by decide);rw [<- Nat.add_assoc] at this;exact this
   . have:=h2 4 (by decide);rw [<- Nat.add_assoc] at this;exact this
   . have:=h2 5 (by decide);rw [<- Nat.add_assoc] at this;exact this
   . have:=h2 6 (by decide);rw [<- Nat.add_assoc] at this;exact this
   . have:=h2 7 (by decide);rw [<- Nat.add_assoc] at this;exact this
   . have:=h2 8 (by decide);rw [<- Nat.add_assoc] at this;exact this
theorem Tryz.infoStep:(Tryz.prog.info? 75).map (fun i=>(i.zero,i.size,i.bytes))=some (some (vStep zStep),9,80):=by kernel_rfl
def putL:List Int->Int->List Int
 | [],n=>[n]
 | y :: ys,n=>if n<=y then (if n<y then n :: y :: ys else y :: ys) else y :: putL ys n
def anyGe (xs:List Int) (n:Int):Bool:=xs.any fun y=>decide (n<=y)
theorem putL_snoc_done {n z:Int}:∀ {a:List Int},anyGe a n=true->putL (a++[z]) n=putL a n++[z]:=by
 intro a;induction a with
 | nil=>intro h;cases h
 | cons y a ih =>
  intro h;show (if n<=y then (if n<y then n :: y :: (a++[z]) else y :: (a++[z])) else y :: putL (a++[z]) n)=(if n<=y then (if n<y then n :: y :: a else y :: a) else y :: putL a n)++[z]
  by_cases h1:n<=y
  . rw [if_pos h1,if_pos h1];split <;> rfl
  . rw [if_neg h1,if_neg h1,ih (by unfold anyGe at h |-;rw [List.any_cons,decide_eq_false h1,Bool.false_or] at h;exact h)]
    rfl
theorem putL_snoc_new {n z:Int}:∀ {a:List Int},anyGe a n=false->putL (a++[z]) n=a++putL [z] n:=by
 intro a;induction a with
 | nil=>intro _;rfl
 | cons y a ih =>
  intro h;unfold anyGe at h;rw [List.any_cons,Bool.or_eq_false_iff] at h;have h1:¬ n<=y:=of_decide_eq_false h.1;show (if n<=y then _ else y :: putL (a++[z]) n)=_
  rw [if_neg h1,ih h.2];rfl
theorem putL_end {n:Int}:∀ {a:List Int},anyGe a n=false->putL a n=a++[n]:=by
 intro a;induction a with
 | nil=>intro _;rfl
 | cons y a ih =>
  intro h;unfold anyGe at h;rw [List.any_cons,Bool.or_eq_false_iff] at h;have h1:¬ n<=y:=of_decide_eq_false h.1;show (if n<=y then _ else y :: putL a n)=_
  rw [if_neg h1,ih h.2];rfl
theorem anyGe_snoc (a:List Int) (n z:Int):anyGe (a++[z]) n=(anyGe a n || decide (n<=z)):=by unfold anyGe;rw [List.any_append];simp
theorem putL_len (a:List Int) (n:Int):(putL a n).length<=a.length+1:=by
 induction a with
 | nil=>exact zA _
 | cons y a ih =>
  show (if n<=y then (if n<y then n :: y :: a else y :: a) else y :: putL a n).length<=_
  split
  . split <;> simp
  . simp;exact ih
def PutSt (xs:List Int) (n:Int) (k:Nat) (done:Bool) (out:List Int):Prop:=done=anyGe (xs.take k) n/\out=if done=true then putL (xs.take k) n else xs.take k
theorem PutSt.len {xs:List Int} {n:Int} {k:Nat} {d:Bool} {out:List Int} (h:PutSt xs n k d out):out.length<=k+1:=by
 rw [h.2];have:=putL_len (xs.take k) n;have h2:(xs.take k).length<=k:=List.length_take_le _ _;split <;> omega
theorem PutSt.start (xs:List Int) (n:Int):PutSt xs n 0 false []:=⟨rfl,rfl⟩
theorem PutSt.done {xs:List Int} {n y:Int} {k:Nat} {out:List Int} (hy:xs[k]?=some y) (h:PutSt xs n k true out):PutSt xs n (k+1) true (out++[y]):=by
 obtain ⟨h1,h2⟩:=h;rw [if_pos rfl] at h2;refine ⟨?_,?_⟩
 . rw [yAE hy,anyGe_snoc,<- h1];rfl
 . rw [if_pos rfl,yAE hy,putL_snoc_done h1.symm,h2]
theorem PutSt.low {xs:List Int} {n y:Int} {k:Nat} {out:List Int} (hy:xs[k]?=some y) (h:PutSt xs n k false out) (hlt:¬ n<=y):PutSt xs n (k+1) false (out++[y]):=by
 obtain ⟨h1,h2⟩:=h;rw [if_neg (by decide)] at h2;refine ⟨?_,?_⟩
 . rw [yAE hy,anyGe_snoc,<- h1,decide_eq_false hlt];rfl
 . rw [if_neg (by decide),yAE hy,h2]
theorem PutSt.same {xs:List Int} {n y:Int} {k:Nat} {out:List Int} (hy:xs[k]?=some y) (h:PutSt xs n k false out) (hle:n<=y) (hlt:¬ n<y):PutSt xs n (k+1) true (out++[y]):=by
 obtain ⟨h1,h2⟩:=h;rw [if_neg (by decide)] at h2;refine ⟨?_,?_⟩
 . rw [yAE hy,anyGe_snoc,<- h1,decide_eq_true hle];rfl
 . rw [if_pos rfl,yAE hy,putL_snoc_new h1.symm,h2]
   show _=_++(if n<=y then (if n<y then [n,y] else [y]) else y :: [n])
   rw [if_pos hle,if_neg hlt]
theorem PutSt.put {xs:List Int} {n y:Int} {k:Nat} {out:List Int} (hy:xs[k]?=some y) (h:PutSt xs n k false out) (hle:n<=y) (hlt:n<y):PutSt xs n (k+1) true (out++[n,y]):=by
 obtain ⟨h1,h2⟩:=h;rw [if_neg (by decide)] at h2;refine ⟨?_,?_⟩
 . rw [yAE hy,anyGe_snoc,<- h1,decide_eq_true hle];rfl
 . rw [if_pos rfl,yAE hy,putL_snoc_new h1.symm,h2]
   show _=_++(if n<=y then (if n<y then [n,y] else [y]) else y :: [n])
   rw [if_pos hle,if_pos hlt]
theorem PutSt.endT {xs:List Int} {n:Int} {out:List Int} (h:PutSt xs n xs.length true out):out=putL xs n:=by
 have h2:=h.2;rw [if_pos rfl,List.take_length] at h2;exact h2
theorem PutSt.endF {xs:List Int} {n:Int} {out:List Int} (h:PutSt xs n xs.length false out):out++[n]=putL xs n:=by
 obtain ⟨h1,h2⟩:=h;rw [if_neg (by decide),List.take_length] at h2;rw [List.take_length] at h1;rw [h2,putL_end h1.symm]
theorem l00Put_c {xs:List Int} {v:Value} {w:World} {A:Nat} (n:Int) (hn:eI.ok n) (ha:RdI A w v xs) (hl:xs.length<=1000) :
 Calls Tryz.prog 114 #[v,.int .i64 n] w fun e w'=>∃ u,e=.returned u/\OwnInt64S w.heap.size w' u (putL xs n)/\Below w.heap.size w w':=by
 obtain ⟨i0,hi,hz0,hz1,hz2⟩:=info_parts Tryz.infoInt64;obtain ⟨ao,cap,rfl,ho⟩:=RdI.open ha;obtain ⟨m,hm⟩:∃ m,m=xs.length:=⟨_,rfl⟩;rw [<- hm] at hl ho |-;have Hm:=hid hm;have Ho:=hid ho;have h0:OwnInt64S w.heap.size (w.alloc (.cells #[] 2)) (.slice (some ⟨w.heap.size,0,none⟩) 0 0) []:=Own.lit (E:=eI) (xs:=[]) (cs:=#[]) (zA _) rfl rfl (by decide) (fun x hx=>by cases hx);have hb0:Below w.heap.size w (w.alloc (.cells #[] 2)):=(zB _ _).alloc (zA _) _;clear ho hm ha;go_enter Tryz.func114,Tryz.ntmps114;go_wp2_with fail;go_loopw [5,6,7] (fun v d i wr=>∃ (k:Nat) (b:Bool) (out:List Int),k<=m/\i=.int .i64 k/\d=.bool b/\Hid (PutSt xs n k b out)/\OwnInt64S w.heap.size wr v out/\Below w.heap.size w wr) (fun _ _ i _=>m - (intOf i).toNat)
 case atStart=>exact ⟨0,false,[],zK _,rfl,rfl,PutSt.start _ _,h0,hb0⟩
 case round =>
  obtain ⟨k,d,out,hk,rfl,rfl,hst,hown,hb⟩:=hrel;have hlen:=hst.out.len;clear h0 hb0;by_cases hkm:k<m
  . obtain ⟨b,off,rfl,hlt,hc⟩:=Ho.out (by omega)
    obtain ⟨y,hy,hcy,by2⟩:=hc k hkm;have d1:=(hb.cell (p:=⟨b,off+k,none⟩) hlt.2).trans hcy;have Hcy:=hid hcy;have Hown:=hid hown;have Hb:=hid hb;have Hy:=hid hy;have hsz:=hb.size;have Hqp:eI.ok y:=by2;clear hown hb hc hcy hy;cases d with
    | true =>
     go_wp2_with (first | (at_builtin;refine yAB (E:=eI) rfl _ _ 29 rfl Tryz.underlying29 hi hz0 hz1 hz2 rfl (by decide) rfl rfl (Hown.out.alloc _) (yAJ (E:=eI) (x:=y) Hqp rfl) ?b1 ?b2 ?b3 ?_))
     case b1=>unfold maxLen;(try simp);omega
     case b2=>(try simp);omega
     case b3=>(try simp);omega
     intro v' w3 hown3 hg3;have hb3:Below w.heap.size w w3:=hg3.alloc.below Hb.out Hb.out.size (fun j hj=>(Hown.out.lt j hj).1);clear hg3 Hb Hown d1;go_wp2;go_roundw
     case rel=>exact ⟨k+1,true,_,by omega,by go_num,rfl,PutSt.done Hy.out hst.out,hown3,hb3⟩
     case measure=>simp [intOf];omega
    | false =>
     by_cases hge:n<=y
     . by_cases hgt:n<y
       . have Hqn:eI.ok n:=hn
         go_wp2_with (first | (at_builtin;refine yAB (E:=eI) rfl _ _ 29 rfl Tryz.underlying29 hi hz0 hz1 hz2 rfl (by decide) rfl rfl (Hown.out.alloc _) (yAJ (E:=eI) (x:=n) Hqn rfl) ?b1 ?b2 ?b3 ?_))
         case b1=>unfold maxLen;(try simp);omega
         case b2=>(try simp);omega
         case b3=>(try simp);omega
         intro v' w3 hown3 hg3;have hb3:Below w.heap.size w w3:=hg3.alloc.below Hb.out Hb.out.size (fun j hj=>(Hown.out.lt j hj).1);have d2:w3.cell? ⟨b,off+k,none⟩=some (.int .i64 y):=(hb3.cell (p:=⟨b,off+k,none⟩) hlt.2).trans Hcy.out;have Hown3:=hid hown3;have Hb3:=hid hb3;have hsz3:=hb3.size;clear hg3 Hb Hown d1 hown3 hb3;go_wp2_with (first | (at_builtin;refine yAB (E:=eI) rfl _ _ 29 rfl Tryz.underlying29 hi hz0 hz1 hz2 rfl (by decide) rfl rfl (Hown3.out.alloc _) (yAJ (E:=eI) (x:=y) Hqp rfl) ?b1 ?b2 ?b3 ?_))
         case b1=>unfold maxLen;(try simp);omega
         case b2=>(try simp);omega
         case b3=>(try simp);omega
         intro v'' w4 hown4 hg4;have hb4:Below w.heap.size w w4:=hg4.alloc.below Hb3.out Hb3.out.size (fun j hj=>(Hown3.out.lt j hj).1);clear hg4 Hb3 Hown3 d2;go_wp2;go_roundw
         case rel=>exact ⟨k+1,true,_,by omega,by go_num,rfl,PutSt.put Hy.out hst.out hge hgt,hown4,hb4⟩
         case measure=>simp [intOf];omega
       . go_wp2_with (first | (at_builtin;refine yAB (E:=eI) rfl _ _ 29 rfl Tryz.underlying29 hi hz0 hz1 hz2 rfl (by decide) rfl rfl (Hown.out.alloc _) (yAJ (E:=eI) (x:=y) Hqp rfl) ?b1 ?b2 ?b3 ?_))
         case b1=>unfold maxLen;(try simp);omega
         case b2=>(try simp);omega
         case b3=>(try simp);omega
         intro v' w3 hown3 hg3;have hb3:Below w.heap.size w w3:=hg3.alloc.below Hb.out Hb.out.size (fun j hj=>(Hown.out.lt j hj).1);clear hg3 Hb Hown d1;go_wp2;go_roundw
         case rel=>exact ⟨k+1,true,_,by omega,by go_num,rfl,PutSt.same Hy.out hst.out hge (by omega),hown3,hb3⟩
         case measure=>simp [intOf];omega
     . go_wp2_with (first | (at_builtin;refine yAB (E:=eI) rfl _ _ 29 rfl Tryz.underlying29 hi hz0 hz1 hz2 rfl (by decide) rfl rfl (Hown.out.alloc _) (yAJ (E:=eI) (x:=y) Hqp rfl) ?b1 ?b2 ?b3 ?_))
       case b1=>unfold maxLen;(try simp);omega
       case b2=>(try simp);omega
       case b3=>(try simp);omega
       intro v' w3 hown3 hg3;have hb3:Below w.heap.size w w3:=hg3.alloc.below Hb.out Hb.out.size (fun j hj=>(Hown.out.lt j hj).1);clear hg3 Hb Hown d1;go_wp2;go_roundw
       case rel=>exact ⟨k+1,false,_,by omega,by go_num,rfl,PutSt.low Hy.out hst.out (by omega),hown3,hb3⟩
       case measure=>simp [intOf];omega
  . obtain rfl:k=m:=by omega
    have hM:=Hm.out;cases d with
    | true =>
     have he:=PutSt.endT (by rw [<- hM];exact hst.out);have He:=hid he;clear he;go_wp2;go_ret;exact ⟨_,rfl,by rw [<- He.out];exact hown,hb⟩
    | false =>
     have he:=PutSt.endF (by rw [<- hM];exact hst.out);have He:=hid he;have Hown:=hid hown;have Hb:=hid hb;have hsz:=hb.size;have Hqn:eI.ok n:=hn;clear he hown hb hM;go_wp2_with (first | (at_builtin;refine yAB (E:=eI) rfl _ _ 29 rfl Tryz.underlying29 hi hz0 hz1 hz2 rfl (by decide) rfl rfl (Hown.out.alloc _) (yAJ (E:=eI) (x:=n) Hqn rfl) ?b1 ?b2 ?b3 ?_))
     case b1=>unfold maxLen;(try simp);omega
     case b2=>(try simp);omega
     case b3=>(try simp);omega
     intro v' w3 hown3 hg3;have hb3:Below w.heap.size w w3:=hg3.alloc.below Hb.out Hb.out.size (fun j hj=>(Hown.out.lt j hj).1);clear hg3 Hb Hown;go_wp2;go_ret;exact ⟨_,rfl,by rw [<- He.out];exact hown3,hb3⟩
end Go.Proofs.YthdaghfhlfjclaaGreat
