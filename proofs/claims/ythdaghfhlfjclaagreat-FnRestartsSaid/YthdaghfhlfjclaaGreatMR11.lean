/- Lemmas on the way to the law FnRestarts. No condition. -/
import Derived.Test.YthdaghfhlfjclaaGreatMR6
import Derived.Test.YthdaghfhlfjclaaGreatMR7
import Derived.Laws.IdiomStrings
namespace Go.Proofs.YthdaghfhlfjclaaGreat
set_option linter.unusedSimpArgs false
open Lib (hid)
open Go.ChangeShapes Go.WideShapes Go.ChangeAt Go.RowKit
set_option linter.unusedVariables false
set_option maxRecDepth 100000
def StrAt (W:World) (nb n:Nat):Prop:=nb<W.heap.size/\∀ k,k<n->∃ s:ByteArray,W.cell? ⟨nb,k,none⟩=some (.string s)/\s.size<=100
theorem StrAt.grown {W W':World} {nb n:Nat} {row:Option Nat} (h:StrAt W nb n) (hg:W.grownBy W' row) (hne:some nb ≠ row):StrAt W' nb n :=
 ⟨zM h.1 hg.size,fun k hk=>by
  obtain ⟨s,h1,h2⟩:=h.2 k hk;exact ⟨s,(World.cell?_of_block (w:=W) (a:=⟨nb,k,none⟩) (hg.block nb h.1 hne)).trans h1,h2⟩⟩
theorem StrAt.new {w:World} {cs:Array Value} {T:TypeId} {n:Nat} (h:∀ k,k<n->∃ s:ByteArray,cs[k]?=some (.string s)/\s.size<=100):StrAt (w.alloc (.cells cs T)) w.heap.size n :=
 ⟨by simp,fun k hk=>by
  obtain ⟨s,h1,h2⟩:=h k hk;exact ⟨s,by rw [cell_of_row _ w.heap.size k _ _ _ (heap_alloc_new w _)];exact h1,h2⟩⟩
theorem Src.drew {w:World} {b N:Nat} (h:Src w b N):Src w.drew b N:=h.kept (yAV w none) (fun k hk=>by cases hk)
theorem text_any {w:World} {b N nb n:Nat} (hs:Src w b N) (hN:N<=1000000) (hst:StrAt w nb n) (hne:nb ≠ b) (hn:1<=n/\n<=100) :
 Calls Tryz.prog 199 #[.pointer (some ⟨b,0,none⟩),.slice (some ⟨nb,0,none⟩) n n] w fun e w'=>(∃ s:ByteArray,e=.returned (.string s)/\s.size<=100)/\Src w' b (N+2)/\w.grownBy w' (some b):=by
 go_enter Tryz.func199,Tryz.ntmps199;go_wp2_with fail;refine (yAK (n:Int) hs (by omega) (by omega)).mono ?_;rintro e w1 ⟨⟨r,rfl,hr0,hr1,_⟩,hs1,hg1,hz1⟩;have hr2:=hr1 (by omega);obtain ⟨k,rfl⟩:=zG hr0;obtain ⟨s,hcs,hss⟩:=(hst.grown hg1 (fun h=>hne (zD h))).2 k (by omega);have Hs1:=hid hs1;have Hg1:=hid hg1;have Hss:=hid hss;clear hr1 hz1 hs1 hg1 hst hss;go_wp2;go_ret;exact ⟨⟨_,rfl,Hss.out⟩,Hs1.out.mono (by omega),Hg1.out⟩
end Go.Proofs.YthdaghfhlfjclaaGreat
