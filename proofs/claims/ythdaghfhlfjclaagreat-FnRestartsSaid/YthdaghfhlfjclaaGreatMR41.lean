/- Lemmas on the way to the law FnRestarts. No condition. -/
import Derived.Test.YthdaghfhlfjclaaGreatMR40
import Derived.Test.YthdaghfhlfjclaaGreatMR34
import Derived.Test.YthdaghfhlfjclaaGreatMR37
import Derived.Test.YthdaghfhlfjclaaGreatMR39
import Derived.Test.YthdaghfhlfjclaaGreatMR38
namespace Go.Proofs.YthdaghfhlfjclaaGreat
set_option linter.unusedSimpArgs false
open Go.ChangeShapes Go.WideShapes Go.ChangeAt Go.RowKit Go.Sort
set_option linter.unusedVariables false
set_option maxRecDepth 100000
def RO (w0:World) (O:OffT) (C:Int) (e:Ending) (w':World):Prop :=
 (∃ a n c b m d,e=.returned (.tuple #[.agg #[.slice a n c,.slice b m d],.int .i64 C])/\RdOff w'.heap.size w' (.slice a n c) (.slice b m d) O)/\Below w0.heap.size w0 w'
theorem OffPost.ro {w0 w':World} {O:OffT} {C:Int} {e:Ending} (h:OffPost w0 O C e w'):RO w0 O C e w':=by
 obtain ⟨⟨a1,c1,a2,c2,h1,h2⟩,h3⟩:=h.sh;exact ⟨⟨_,_,_,_,_,_,h1,OwnO.rds h2⟩,h3⟩
theorem RefPost.ro {w0 w':World} {O:OffT} {C:Int} {e:Ending} (h:RefPost w0 O C e w'):RO w0 O C e w':=by
 obtain ⟨⟨a1,c1,a2,c2,h1,h2⟩,h3⟩:=h.sh;exact ⟨⟨_,_,_,_,_,_,h1,h2.rd⟩,h3⟩
theorem ra_ok {o:OffT} {xs ys:List StepT} (h:raC o xs ys=0):offB o=true/\xs.length+ys.length<=20/\(runP o (xs++ys)).2=xs.length+ys.length/\raO o xs ys=(runP o (xs++ys)).1:=by
 have h2:raO o xs ys=(runP o (xs++ys)).1:=by unfold raO;rw [if_pos h]
 have hle:=runP_le o (xs++ys);rw [zE] at hle;unfold raC at h;cases hv:offB o with
 | false=>rw [hv,if_pos rfl] at h;cases h
 | true =>
  rw [hv,if_neg (by decide)] at h;by_cases h20:20<xs.length+ys.length
  . rw [if_pos h20] at h;cases h
  . rw [if_neg h20] at h
    by_cases h3:(runP o (xs++ys)).2<xs.length+ys.length
    . rw [if_pos h3] at h;cases h
    . exact ⟨rfl,by omega,by omega,h2⟩
theorem minL_len (m:Int):∀ (xs:List StepT) (o:OffT) (l:List Int),minL o m xs=some l->l.length=xs.length
 | [],o,l,h=>by
  unfold minL at h;cases h;rfl
 | x :: xs,o,l,h=>by
  unfold minL at h;split at h
  . obtain ⟨l2,h2,rfl⟩:=Option.map_eq_some_iff.1 h
    rw [List.length_cons,List.length_cons,minL_len m xs _ l2 h2]
  . cases h
theorem sm_ok {o:OffT} {xs:List StepT} {m:Int} (h:smC o xs m=0):(smL o xs m).length=xs.length:=by
 unfold smC at h;unfold smL;split at h
 . cases h
 . rename_i hv
   rw [if_neg hv];split at h
   . cases h
   . rename_i hr
     rw [if_neg hr];split at h
     . cases h
     . rename_i hn
       cases hq:minL o m xs with
       | none=>exact absurd hq hn
       | some l=>exact minL_len m xs o l hq
theorem NeededTrays_w {xs:List StepT} {v:Value} {w:World} {A:Nat} (a:Int) (hai:I64 a) (ha:RdStepS A w v xs) :
 Calls Tryz.prog 30 #[v,.int .i64 a] w fun e w'=>(∃ u,e=.returned (.tuple #[u,.int .i64 (NTC xs a)])/\OwnInt64S w.heap.size w' u (NTR xs a))/\Below w.heap.size w w' :=
 (NeededTrays_c a hai ha).mono fun e w' ⟨u,h1,h2,h3⟩=>⟨⟨u,h1,h2⟩,h3⟩
theorem sNeededTrays_w {xs:List StepT} {v:Value} {w:World} {A:Nat} (a:Int) (hai:I64 a) (ha:RdStepS A w v xs) :
 Calls Tryz.prog 31 #[v,.int .i64 a] w fun e w'=>(∃ u,e=.returned (.tuple #[u,.int .i64 (NTC xs a)])/\OwnInt64S w.heap.size w' u (NTR xs a))/\Below w.heap.size w w' :=
 (sNeededTrays_c a hai ha).mono fun e w' ⟨u,h1,h2,h3⟩=>⟨⟨u,h1,h2⟩,h3⟩
end Go.Proofs.YthdaghfhlfjclaaGreat
