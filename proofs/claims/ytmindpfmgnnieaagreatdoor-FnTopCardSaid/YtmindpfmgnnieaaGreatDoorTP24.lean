/- Lemmas on the way to the law FnTop. No condition. -/
import Derived.Test.YtmindpfmgnnieaaGreatDoorTP12
import Derived.Test.YtmindpfmgnnieaaGreatDoorTP11
import Derived.Test.YtmindpfmgnnieaaGreatDoorTP4
import Derived.Test.YtmindpfmgnnieaaGreatDoorTP3
import Derived.Lib.ItoaLen
import Derived.Lib.LaidTab
namespace Go.Proofs.YtmindpfmgnnieaaGreatDoor
set_option linter.unusedSimpArgs false
open Lib (hid)
open Go.ChangeShapes Go.WideShapes Go.ChangeAt Go.RowKit Go.Sort
set_option linter.unusedVariables false
set_option maxRecDepth 100000
def PowAt (W:World):Prop:=Lib.TabIs Tryz.prog W "internal/strconv.uint64pow10" .u64 Lib.pow10Tab
theorem g_pow:Tryz.prog.globalNamed "internal/strconv.uint64pow10" = some 1:=by kernel_rfl
theorem PowAt.below {W W':World} (h:PowAt W) (hb:Below W.heap.size W W'):PowAt W':=by
 unfold PowAt Lib.TabIs World.var? at h |-;rw [g_pow] at h |-;simp only [Option.bind_some] at h |-;have hlt:1<W.heap.size:=by
  rcases Nat.lt_or_ge 1 W.heap.size with h' | h'
  . exact h'
  . rw [Array.getElem?_eq_none h'] at h;cases h
 rw [hb.block 1 hlt];exact h
def itoaB (n:Int):ByteArray:=⟨(Lib.itoa n).toArray⟩
theorem itoaB_size {n:Int} (h0:-9223372036854775808<=n) (h1:n<=9223372036854775807):(itoaB n).size<=21:=by
 show (Lib.itoa n).toArray.size<=21
 rw [List.size_toArray];exact Lib.itoa_length_le n h0 h1
theorem Decimal_c {n:Int} {w:World} (h0:-9223372036854775808<=n) (h1:n<=9223372036854775807) (ht:PowAt w) :
 Calls Tryz.prog 212 #[.int .i64 n] w fun e w'=>e=.returned (.string (itoaB n))/\Below w.heap.size w w':=by
 have hcon:=Tryz.strconv_FormatInt_10 n h0 h1 w ht;have Hcon:=hid hcon;clear hcon ht h0 h1;go_enter Tryz.func212,Tryz.ntmps212;go_wp2_with fail;with_reducible refine Hcon.out.mono ?_
 rintro e w' ⟨rfl,k,os,rfl⟩;have hb:Below w.heap.size w (grow (w.drewN k) os):=⟨rfl,rfl,rfl,by simp [grow],fun z hz=>by simp [grow,Array.getElem?_append,hz]⟩;generalize grow (w.drewN k) os=w2 at hb |-;go_wp2;go_ret;exact ⟨rfl,hb⟩
theorem digitsOf_c {n:Int} {w:World} (h0:-9223372036854775808<=n) (h1:n<=9223372036854775807) (ht:PowAt w) :
 Calls Tryz.prog 202 #[.int .i64 n] w fun e w'=>e=.returned (.int .i64 ((itoaB n).size:Int))/\Below w.heap.size w w':=by
 have hcon:=Decimal_c h0 h1 ht;have hs:=itoaB_size h0 h1;have Hcon:=hid hcon;clear hcon ht h0 h1;generalize itoaB n=s at Hcon hs |-;go_enter Tryz.func202,Tryz.ntmps202;go_wp2_with fail;with_reducible refine Hcon.out.mono ?_
 rintro e w' ⟨rfl,hb⟩;go_wp2;go_ret;exact ⟨rfl,hb⟩
theorem t_pow:(Tryz.prog.globals[1]?).map (·.type)=some 250:=by kernel_rfl
theorem laidMet_tail {P:Program} {x:String × DataW Unit} {r:List (String × DataW Unit)} {w:World} (h:laidMet P (x :: r) w):laidMet P r w:=by
 obtain ⟨ps,hv,hnd,hrows⟩:=h;obtain ⟨n,d⟩:=x;obtain ⟨g,t,cs,fuel,p,q,_,_,_,_,hq,rfl⟩:=hv;exact ⟨q,hq,List.Nodup.sublist (List.sublist_append_right _ _) hnd,fun b off hm=>hrows b off (List.mem_append_right _ hm)⟩
theorem pow_of3 {W:World} (h:laidMetH Tryz.prog [("math/bits.deBruijn32tab", Rows.laid_math_bits_deBruijn32tab),("math/bits.deBruijn64tab", Rows.laid_math_bits_deBruijn64tab),("internal/strconv.uint64pow10", Rows.laid_internal_strconv_uint64pow10)] W):PowAt W:=by
 rw [MakeChecks.laidMetH_plain _ _ _ (by kernel_rfl)] at h;exact Lib.tabIs_of_head g_pow t_pow Tryz.underlying250 Tryz.underlying107 (by kernel_rfl) (by kernel_rfl) (laidMet_tail (laidMet_tail h))
end Go.Proofs.YtmindpfmgnnieaaGreatDoor
