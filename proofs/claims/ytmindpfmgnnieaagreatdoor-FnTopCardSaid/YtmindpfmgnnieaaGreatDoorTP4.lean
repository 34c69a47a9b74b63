/- Lemmas on the way to the law FnTop. No condition. -/
import Derived.Test.YtmindpfmgnnieaaGreatDoorTP2
import Derived.Lib.QuietBelow
namespace Go.Proofs.YtmindpfmgnnieaaGreatDoor
set_option linter.unusedSimpArgs false
open Go.RowKit Go.Sort
theorem qb_same {P:Program} {f:FuncId} {args:Array Value} {w:World} {d:Nat} {os:Array Obj} {v:Value}
 (h:Calls P f args (grow (redrawn w d) os) fun e w'=>e=.returned v/\grow (redrawn w d) os=w'):Calls P f args (grow (redrawn w d) os) fun e w''=>e=.returned v/\∃ p:Regrown,w''=grow (redrawn w p.d) p.os :=
 h.mono fun _ _ ⟨he,hm⟩=>⟨he,⟨d,os⟩,hm.symm⟩
theorem qb_N {P:Program} {f:FuncId} {args:Array Value} {w:World} {d:Nat} {os:Array Obj} {v:Value}
 (h:Calls P f args (grow (redrawn w d) os) fun e w'=>e=.returned v/\∃ q,w'=(grow (redrawn w d) os).drewN q):Calls P f args (grow (redrawn w d) os) fun e w''=>e=.returned v/\∃ p:Regrown,w''=grow (redrawn w p.d) p.os :=
 h.mono fun _ _ ⟨he,q,hm⟩=>⟨he,⟨d+q,os⟩,by rw [hm];rfl⟩
theorem yAG {P:Program} {f:FuncId} {args:Array Value} {w:World} {d:Nat} {os:Array Obj} {v:Value}
 (h:Calls P f args (grow (redrawn w d) os) fun e w'=>e=.returned v/\Below (grow (redrawn w d) os).heap.size (grow (redrawn w d) os) w'):Calls P f args (grow (redrawn w d) os) fun e w''=>e=.returned v/\∃ p:Regrown,w''=grow (redrawn w p.d) p.os :=
 Calls.regrown_of h
theorem Rds.regrown {α:Type} {E:Elt α} {A:Nat} {w:World} {v:Value} {xs:List α} (h:Rds E A w v xs) (hA:A<=w.heap.size) (d:Nat) (os:Array Obj):Rds E A (grow (redrawn w d) os) v xs :=
 h.below (below_regrown w d os) hA
end Go.Proofs.YtmindpfmgnnieaaGreatDoor
