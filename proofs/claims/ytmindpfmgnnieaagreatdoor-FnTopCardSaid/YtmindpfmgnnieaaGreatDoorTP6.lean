/- Lemmas on the way to the law FnTop. No condition. -/
import Derived.Test.YtmindpfmgnnieaaGreatDoorTP2
import Derived.Deep.RegionLaw
import Derived.Deep.AppendLies
namespace Go.Proofs.YtmindpfmgnnieaaGreatDoor
set_option linter.unusedSimpArgs false
open Go.ChangeShapes Go.WideShapes Go.ChangeAt Go.RowKit
set_option linter.unusedVariables false
set_option maxRecDepth 100000
theorem step_appS {α:Type} {E:Elt α} {P:Program} {ops:Array Oper} {o:Oper} {a:Act} {K:Act->World->Prop} {Q:Exit->Act->World->Prop} {F:Prop} {w:World} (hgd:o.guard=none) (s x:Operand) (t:TypeId)
 (ho:o.op=.call { callee:=.builtin .append,args:=#[s,x],argTypes:=#[t,t] })
 {base:Nat} {e:TypeId} {i:TypeInfo} {z:Value} {bytes B:Nat} (ht:P.underlying t=some (.slice e)) (hi:P.info? e=some i) (hz:i.zero=some z)
 (hsize:i.size=E.sz) (hby:i.bytes=bytes) (hzs:z.cells.size=E.sz) (hsz:0<E.sz) {v u:Value} {xs ys:List α} (hs:a.eval s=v) (hx:a.eval x=u) (hown:Own E e base w v xs) (hu:Rds E B w u ys)
 (h63:xs.length+ys.length<=maxLen) (hbytes:(xs.length+ys.length) * bytes<=140737488355328) (hbase:base<=w.heap.size)
 (h:∀ v' w',Own E e base w' v' (xs++ys)->Grew w w' v v'->K (a.put o.dst v') w') :
 if Region.wanted o (yielded ops a.tmps)=true then Oper.wp P o a w K Q else F:=by
 have hw:Region.wanted o (yielded ops a.tmps)=true:=by simp [Region.wanted,hgd]
 rw [if_pos hw];obtain ⟨v',w',hr,h2,h3⟩:=run_appS (P:=P) (ty:=o.type) ht hi hz hsize hby hzs hsz hown hu h63 hbytes hbase;unfold Oper.wp execOp;simp only [ho,resolve,invoke,builtin,Sem.run_bind,Sem.run_pure,Result.andThen_ok,List.map_toArray,List.map_cons,List.map_nil,hs,hx,hr];exact h v' w' h2 h3
theorem grownBy_drew (w:World) (row:Option Nat):w.grownBy w.drew row:=⟨rfl,rfl,rfl,zA _,fun _ _ _=>rfl⟩
theorem Own.drew {α:Type} {E:Elt α} {e:TypeId} {base:Nat} {w:World} {v:Value} {xs:List α} (h:Own E e base w v xs):Own E e base w.drew v xs:=h
theorem rds_one' {α:Type} {E:Elt α} {e:TypeId} {w:World} {x:α} {cs:Array Value} {H:Nat} (hH:w.heap.size=H) (hx:E.ok x) (hcs:cs=(E.cells x).toArray):Rds E (H+1) (w.alloc (.cells cs e)) (.slice (some ⟨H,0,none⟩) 1 1) [x]:=by
 subst hH;exact yAH hx hcs
end Go.Proofs.YtmindpfmgnnieaaGreatDoor
