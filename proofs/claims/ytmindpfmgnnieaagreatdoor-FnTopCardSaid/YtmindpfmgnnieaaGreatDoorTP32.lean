/- Lemmas on the way to the law FnTop. No condition. -/
import Derived.Test.YtmindpfmgnnieaaGreatDoorTP30
import Derived.Test.YtmindpfmgnnieaaGreatDoorTP14
import Derived.Test.YtmindpfmgnnieaaGreatDoorTP13
namespace Go.Proofs.YtmindpfmgnnieaaGreatDoor
set_option linter.unusedSimpArgs false
open Go.ChangeShapes Go.WideShapes Go.ChangeAt Go.RowKit
set_option linter.unusedVariables false
set_option maxRecDepth 100000
theorem wth_grown {lo hi:Nat} {w2 wr w':World} {row:Option Nat} (h:Within lo hi w2 wr) (hg:wr.grownBy w' row) (hr:∀ k,row=some k->(lo<=k/\k<hi)\/w2.heap.size<=k):Within lo hi w2 w' :=
 ⟨hg.os.trans h.os,hg.tape.trans h.tape,hg.output.trans h.output,zO h.size hg.size,fun k hk hh=>(hg.block k (zM hk h.size) (fun e=>by have:=hr k e.symm;omega)).trans (h.block k hk hh)⟩
theorem wth_same {lo hi:Nat} {w2 wr w':World} (h:Within lo hi w2 wr) (hb:Below wr.heap.size wr w'):Within lo hi w2 w' :=
 ⟨hb.os.trans h.os,hb.tape.trans h.tape,hb.output.trans h.output,zO h.size hb.size,fun k hk hh=>(hb.block k (zM hk h.size)).trans (h.block k hk hh)⟩
theorem Box.wth {w w':World} {b lo hi:Nat} {cs:List Value} (h:Box w b cs) (hw:Within lo hi w w') (hb:b<lo\/hi<=b):Box w' b cs:=by
 have h2:=hw.block b h.lt hb;exact ⟨zM h.lt hw.size,fun j v hj=>(World.cell?_of_block (w:=w) (a:=⟨b,j,none⟩) h2).trans (h.cell j v hj),fun j=>(World.frozen?_of_block (w:=w) (a:=⟨b,j,none⟩) h2).trans (h.free j)⟩
theorem Own.wth {α:Type} {E:Elt α} {e:TypeId} {base lo hi:Nat} {w w':World} {v:Value} {xs:List α} (h:Own E e base w v xs) (hw:Within lo hi w w') (hhi:hi<=base):Own E e base w' v xs:=((Own.top h).within hw hhi).1
theorem eql_rep (x y:ReportT) (w:World):(binOp .eql 53 (vReport x) (vReport y)).run Tryz.prog w=.ok (.bool (x == y)) w:=by
 have hS:Tryz.prog.underlying 53=some (.struct (Tryz.prog.fieldsOf 53)):=by kernel_rfl
 have hp:Tryz.prog.stoodInHeld 53=false:=by kernel_rfl
 rw [run_eql_struct,show (10000:Nat)=9999+1 from rfl,run_equalIn_agg w 9999 53 _ _ hS hp];simp only [Program.fieldsOf,Tryz.underlying53];go_simp;obtain ⟨a,b,c⟩:=x;obtain ⟨d,e,f⟩:=y;have h:((⟨a,b,c⟩:ReportT) == ⟨d,e,f⟩)=decide (a=d/\b=e/\c=f):=by
  rw [Bool.eq_iff_iff,beq_iff_eq,decide_eq_true_iff];simp
 rw [h];by_cases h1:a=d <;> by_cases h2:b=e <;> by_cases h3:c=f <;> simp [h1,h2,h3]
theorem eql_run {x y:ReportT} {b:Bool} (h:(x == y)=b) (w:World):(binOp .eql 53 (vReport x) (vReport y)).run Tryz.prog w=.ok (.bool b) w:=by rw [eql_rep,h]
theorem infoReportN:(Tryz.prog.info? 53).map (fun i=>(i.zero,i.size,i.bytes))=some (some (vReport zReport),3,24):=by kernel_rfl
theorem infoSlF:(Tryz.prog.info? 49).map (fun i=>(i.zero,i.size,i.bytes))=some (some (.slice none 0 0),1,24):=by kernel_rfl
theorem BldG.at {α:Type} {E:Elt α} {er e:TypeId} {base rb tp:Nat} {w:World} {v:Value} {xss:List (List α)} (h:BldG E er e base rb tp w v xss) {k:Nat} {xs:List α} (hk:xss[k]?=some xs) :
 ∃ g off cap ro rc,v=.slice (some ⟨g,off,none⟩) xss.length cap/\w.cell? ⟨g,off+k,none⟩=some (.slice ro xs.length rc)/\OwnT E er rb tp w (.slice ro xs.length rc) xs:=by
 obtain ⟨hs,h1,h2,h3,_⟩:=h;have hkl:=(zS.1 hk).1;rcases Rds.cases h1.1.rds with ⟨h0,_⟩ | ⟨b,off,cap,hv,hlt,hc⟩
 . rw [h0] at h2;simp at h2;omega
 . have e1:hs[k]?=some (hs[k]'(by omega)):=zF (by omega)
   generalize hs[k]'(by omega)=x at e1;have h4:=h3 k x xs e1 hk;obtain ⟨ro,rc,hx⟩:=h4.1.shape;have h5:=(hc k x e1).2 0 (by decide);have h6:w.cell? ⟨b,off+(k * 1+0),none⟩=some x.val:=h5;rw [Nat.mul_one,Nat.add_zero,hx] at h6;rw [hx] at h4;exact ⟨b,off,cap,ro,rc,by rw [<- h2];exact hv,h6,h4⟩
end Go.Proofs.YtmindpfmgnnieaaGreatDoor
