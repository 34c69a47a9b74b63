/- Lemmas on the way to the law FnRestarts. No condition. -/
import Derived.Test.YthdaghfhlfjclaaGreatRows
import Derived.Test.YthdaghfhlfjclaaGreatMR3
namespace Go.Proofs.YthdaghfhlfjclaaGreat
set_option linter.unusedSimpArgs false
open Go.ChangeShapes Go.WideShapes Go.ChangeAt Go.RowKit
set_option linter.unusedVariables false
set_option maxRecDepth 100000
theorem Tryz.infoInt64:(Tryz.prog.info? 2).map (fun i=>(i.zero,i.size,i.bytes))=some (some (.int .i64 0),1,8):=by kernel_rfl
/- the same in the one form that the laws' walks take -/
abbrev okInt64 (x:Int):Prop:=-9223372036854775808<=x/\x<=9223372036854775807
abbrev OwnInt64S (base:Nat) (w:World) (v:Value) (x:List Int):Prop:=Own eI 2 base w v x
theorem yBC (n lo hi:Int) (w:World) (hlo:lo<=n) (hhi:n<=hi) :
 Calls Tryz.prog 49 #[.int .i64 n,.int .i64 lo,.int .i64 hi] w fun e w'=>e=.returned (.bool true)/\w=w':=by
 go_enter Tryz.func49,Tryz.ntmps49;go_wp2;go_ret;exact ⟨rfl,rfl⟩
theorem inside_no (n lo hi:Int) (w:World) (hno:n<lo\/hi<n) :
 Calls Tryz.prog 49 #[.int .i64 n,.int .i64 lo,.int .i64 hi] w fun e w'=>e=.returned (.bool false)/\w=w':=by
 by_cases hlo:lo<=n
 . have hhi:hi<n:=by omega
   clear hno;go_enter Tryz.func49,Tryz.ntmps49;go_wp2;go_ret;exact ⟨yAD (by simp;omega),rfl⟩
 . clear hno
   go_enter Tryz.func49,Tryz.ntmps49;go_wp2;go_ret;exact ⟨rfl,rfl⟩
theorem inside_any (n lo hi:Int) (w:World) :
 Calls Tryz.prog 49 #[.int .i64 n,.int .i64 lo,.int .i64 hi] w fun e w'=>e=.returned (.bool (decide (lo<=n/\n<=hi)))/\w=w':=by
 by_cases h:lo<=n/\n<=hi
 . exact (yBC n lo hi w h.1 h.2).mono fun e w' hh=>⟨by rw [hh.1];exact yAD (by simp [h]),hh.2⟩
 . exact (inside_no n lo hi w (by omega)).mono fun e w' hh=>⟨by rw [hh.1];exact yAD (by simp [h]),hh.2⟩
theorem yBI (n lo hi:Int) (w:World) (hlo:lo<=n) (hhi:n<=hi) :
 Calls Tryz.prog 39 #[.int .i64 n,.int .i64 lo,.int .i64 hi] w fun e w'=>e=.returned (.bool true)/\w=w':=by
 go_enter Tryz.func39,Tryz.ntmps39;go_wp2;go_ret;exact ⟨rfl,rfl⟩
theorem l00In_no (n lo hi:Int) (w:World) (hno:n<lo\/hi<n) :
 Calls Tryz.prog 39 #[.int .i64 n,.int .i64 lo,.int .i64 hi] w fun e w'=>e=.returned (.bool false)/\w=w':=by
 by_cases hlo:lo<=n
 . have hhi:hi<n:=by omega
   clear hno;go_enter Tryz.func39,Tryz.ntmps39;go_wp2;go_ret;exact ⟨yAD (by simp;omega),rfl⟩
 . clear hno
   go_enter Tryz.func39,Tryz.ntmps39;go_wp2;go_ret;exact ⟨rfl,rfl⟩
theorem l00In_any (n lo hi:Int) (w:World) :
 Calls Tryz.prog 39 #[.int .i64 n,.int .i64 lo,.int .i64 hi] w fun e w'=>e=.returned (.bool (decide (lo<=n/\n<=hi)))/\w=w':=by
 by_cases h:lo<=n/\n<=hi
 . exact (yBI n lo hi w h.1 h.2).mono fun e w' hh=>⟨by rw [hh.1];exact yAD (by simp [h]),hh.2⟩
 . exact (l00In_no n lo hi w (by omega)).mono fun e w' hh=>⟨by rw [hh.1];exact yAD (by simp [h]),hh.2⟩
def maxI (a b:Int):Int:=if b<a then a else b
def minI (a b:Int):Int:=if a<b then a else b
theorem l00Max_any (a b:Int) (w:World) :
 Calls Tryz.prog 221 #[.int .i64 a,.int .i64 b] w fun e w'=>e=.returned (.int .i64 (maxI a b))/\w=w':=by
 by_cases h1:b<a
 . have hm:maxI a b=a:=if_pos h1
   rw [hm];clear hm;go_enter Tryz.func221,Tryz.ntmps221;go_wp2;go_ret;exact ⟨rfl,rfl⟩
 . have hm:maxI a b=b:=if_neg h1
   rw [hm];clear hm;go_enter Tryz.func221,Tryz.ntmps221;go_wp2;go_ret;exact ⟨rfl,rfl⟩
theorem l00Min_any (a b:Int) (w:World) :
 Calls Tryz.prog 194 #[.int .i64 a,.int .i64 b] w fun e w'=>e=.returned (.int .i64 (minI a b))/\w=w':=by
 by_cases h1:a<b
 . have hm:minI a b=a:=if_pos h1
   rw [hm];clear hm;go_enter Tryz.func194,Tryz.ntmps194;go_wp2;go_ret;exact ⟨rfl,rfl⟩
 . have hm:minI a b=b:=if_neg h1
   rw [hm];clear hm;go_enter Tryz.func194,Tryz.ntmps194;go_wp2;go_ret;exact ⟨rfl,rfl⟩
theorem any_end {xs:List Int} {p:Int->Bool} (h:xs.any p=false):(0:Int)<=-1 ↔ ∃ x,x∈xs/\p x=true :=
 ⟨fun h=>by omega,fun ⟨x,hx,hp⟩=>by rw [List.any_eq_true.2 ⟨x,hx,hp⟩] at h;cases h⟩
theorem size_any0 {ao:Option Addr} {n cap:Nat} {w:World} (hn:n<=9223372036854775807) :
 Calls Tryz.prog 132 #[.slice ao n cap] w fun e w'=>e=.returned (.int .i64 n)/\w=w':=by
 go_enter Tryz.func132,Tryz.ntmps132;go_wp2;go_ret;exact ⟨rfl,rfl⟩
end Go.Proofs.YthdaghfhlfjclaaGreat
