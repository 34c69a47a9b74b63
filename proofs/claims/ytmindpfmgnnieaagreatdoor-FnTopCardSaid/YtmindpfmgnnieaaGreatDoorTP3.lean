/- Lemmas on the way to the law FnTop. No condition. -/
import Derived.Test.YtmindpfmgnnieaaGreatDoorRows
import Derived.Test.YtmindpfmgnnieaaGreatDoorTP2
namespace Go.Proofs.YtmindpfmgnnieaaGreatDoor
set_option linter.unusedSimpArgs false
open Go.ChangeShapes Go.WideShapes Go.ChangeAt Go.RowKit
set_option linter.unusedVariables false
set_option maxRecDepth 100000
def Pre {α:Type} (xs ys:List α) (k:Nat):Prop:=xs.take k=ys.take k
theorem Tryz.infoInt64:(Tryz.prog.info? 2).map (fun i=>(i.zero,i.size,i.bytes))=some (some (.int .i64 0),1,8):=by kernel_rfl
/- the same in the one form that the laws' walks take -/
abbrev okInt64 (x:Int):Prop:=-9223372036854775808<=x/\x<=9223372036854775807
abbrev OwnInt64S (base:Nat) (w:World) (v:Value) (x:List Int):Prop:=Own eI 2 base w v x
theorem yBD (n lo hi:Int) (w:World) (hlo:lo<=n) (hhi:n<=hi) :
 Calls Tryz.prog 82 #[.int .i64 n,.int .i64 lo,.int .i64 hi] w fun e w'=>e=.returned (.bool true)/\w=w':=by
 go_enter Tryz.func82,Tryz.ntmps82;go_wp2;go_ret;exact ⟨rfl,rfl⟩
theorem inside_no (n lo hi:Int) (w:World) (hno:n<lo\/hi<n) :
 Calls Tryz.prog 82 #[.int .i64 n,.int .i64 lo,.int .i64 hi] w fun e w'=>e=.returned (.bool false)/\w=w':=by
 by_cases hlo:lo<=n
 . have hhi:hi<n:=by omega
   clear hno;go_enter Tryz.func82,Tryz.ntmps82;go_wp2;go_ret;exact ⟨yAC (by simp;omega),rfl⟩
 . clear hno
   go_enter Tryz.func82,Tryz.ntmps82;go_wp2;go_ret;exact ⟨rfl,rfl⟩
theorem yAY (n lo hi:Int) (w:World) :
 Calls Tryz.prog 82 #[.int .i64 n,.int .i64 lo,.int .i64 hi] w fun e w'=>e=.returned (.bool (decide (lo<=n/\n<=hi)))/\w=w':=by
 by_cases h:lo<=n/\n<=hi
 . exact (yBD n lo hi w h.1 h.2).mono fun e w' hh=>⟨by rw [hh.1];exact yAC (by simp [h]),hh.2⟩
 . exact (inside_no n lo hi w (by omega)).mono fun e w' hh=>⟨by rw [hh.1];exact yAC (by simp [h]),hh.2⟩
theorem l00In_yes (n lo hi:Int) (w:World) (hlo:lo<=n) (hhi:n<=hi) :
 Calls Tryz.prog 142 #[.int .i64 n,.int .i64 lo,.int .i64 hi] w fun e w'=>e=.returned (.bool true)/\w=w':=by
 go_enter Tryz.func142,Tryz.ntmps142;go_wp2;go_ret;exact ⟨rfl,rfl⟩
theorem l00In_no (n lo hi:Int) (w:World) (hno:n<lo\/hi<n) :
 Calls Tryz.prog 142 #[.int .i64 n,.int .i64 lo,.int .i64 hi] w fun e w'=>e=.returned (.bool false)/\w=w':=by
 by_cases hlo:lo<=n
 . have hhi:hi<n:=by omega
   clear hno;go_enter Tryz.func142,Tryz.ntmps142;go_wp2;go_ret;exact ⟨yAC (by simp;omega),rfl⟩
 . clear hno
   go_enter Tryz.func142,Tryz.ntmps142;go_wp2;go_ret;exact ⟨rfl,rfl⟩
theorem yAM (n lo hi:Int) (w:World) :
 Calls Tryz.prog 142 #[.int .i64 n,.int .i64 lo,.int .i64 hi] w fun e w'=>e=.returned (.bool (decide (lo<=n/\n<=hi)))/\w=w':=by
 by_cases h:lo<=n/\n<=hi
 . exact (l00In_yes n lo hi w h.1 h.2).mono fun e w' hh=>⟨by rw [hh.1];exact yAC (by simp [h]),hh.2⟩
 . exact (l00In_no n lo hi w (by omega)).mono fun e w' hh=>⟨by rw [hh.1];exact yAC (by simp [h]),hh.2⟩
def maxI (a b:Int):Int:=if b<a then a else b
theorem l00Max_any (a b:Int) (w:World) :
 Calls Tryz.prog 138 #[.int .i64 a,.int .i64 b] w fun e w'=>e=.returned (.int .i64 (maxI a b))/\w=w':=by
 by_cases h1:b<a
 . have hm:maxI a b=a:=if_pos h1
   rw [hm];clear hm;go_enter Tryz.func138,Tryz.ntmps138;go_wp2;go_ret;exact ⟨rfl,rfl⟩
 . have hm:maxI a b=b:=if_neg h1
   rw [hm];clear hm;go_enter Tryz.func138,Tryz.ntmps138;go_wp2;go_ret;exact ⟨rfl,rfl⟩
theorem any_end {xs:List Int} {p:Int->Bool} (h:xs.any p=false):(0:Int)<=-1 ↔ ∃ x,x∈xs/\p x=true :=
 ⟨fun h=>by omega,fun ⟨x,hx,hp⟩=>by rw [List.any_eq_true.2 ⟨x,hx,hp⟩] at h;cases h⟩
theorem size_any0 {ao:Option Addr} {n cap:Nat} {w:World} (hn:n<=9223372036854775807) :
 Calls Tryz.prog 123 #[.slice ao n cap] w fun e w'=>e=.returned (.int .i64 n)/\w=w':=by
 go_enter Tryz.func123,Tryz.ntmps123;go_wp2;go_ret;exact ⟨rfl,rfl⟩
theorem size_any {α:Type} {E:Elt α} {xs:List α} {v:Value} {w:World} {A:Nat} (ha:Rds E A w v xs) :
 Calls Tryz.prog 123 #[v] w fun e w'=>e=.returned (.int .i64 xs.length)/\w=w':=by
 have hle:=ha.le;obtain ⟨ao,cap,rfl⟩:=ha.shape;clear ha;go_enter Tryz.func123,Tryz.ntmps123;go_wp2;go_ret;exact ⟨rfl,rfl⟩
def sumI (xs:List Int):Int:=xs.foldr (fun x s=>x+s) 0
theorem sumI_nil:sumI []=0:=rfl
theorem sumI_cons (x:Int) (xs:List Int):sumI (x :: xs)=x+sumI xs:=rfl
theorem sumI_append (xs ys:List Int):sumI (xs++ys)=sumI xs+sumI ys:=by
 induction xs with
 | nil=>simp [sumI_nil]
 | cons x xs ih=>rw [List.cons_append,sumI_cons,sumI_cons,ih];omega
theorem sumI_snoc (xs:List Int) (x:Int):sumI (xs++[x])=sumI xs+x:=by rw [sumI_append,sumI_cons,sumI_nil];omega
theorem sumI_nonneg {xs:List Int} (h:∀ x∈xs,0<=x):0<=sumI xs:=by
 induction xs with
 | nil=>simp [sumI_nil]
 | cons x xs ih =>
  rw [sumI_cons];have:=h x (List.mem_cons_self ..);have:=ih fun y hy=>h y (List.mem_cons_of_mem _ hy);omega
theorem sumI_le {xs:List Int} {M:Int} (hM:0<=M) (h:∀ x∈xs,x<=M):sumI xs<=xs.length * M:=by
 induction xs with
 | nil=>simp [sumI_nil]
 | cons x xs ih =>
  rw [sumI_cons,List.length_cons];have:=h x (List.mem_cons_self ..);have:=ih fun y hy=>h y (List.mem_cons_of_mem _ hy);have e:((xs.length+1:Nat):Int) * M=xs.length * M+M:=by rw [Int.natCast_add,Int.add_mul];simp
  omega
end Go.Proofs.YtmindpfmgnnieaaGreatDoor
