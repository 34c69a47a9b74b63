/-
  No cell of these rows narrows 'for every input' (looked for: loops, veiled, ifaces, maps, wideKeys, modest, calm, conditions, laid).
  DERIVED. THE GIVEN ROWS OF THIS SEAT. 11 by the template 'for every input the law returns true; each argument reads behind the call as it read before'; 0 by the template 'total and deterministic' (their statements: YtpnmcgjfemaleaaTotals.lean).
  GIVEN WITH THE SEED: the statements are not yours to turn. If you find one false, say at which input.
  Laid BY PROGRAM, IN A SANDBOX (cutbox-rows.mjs): the forced cells as the released guide's own fill.sh prints them over the translation 80e77bf29efd697d… (all of the seat's roots in one cut). By AI agents, Wed Nov 11 2026. No macro, syntax, notation, axiom, sorry.
-/
import Derived.Test.YtpnmcgjfemaleaaChecked
import GoSem.Claim
import GoSem.ClaimJoined
import GoSem.ClaimMapViews
import Derived.JoinedTies
import Derived.KernelRfl
namespace Go.Proofs.Ytpnmcgjfemaleaa
/- THE CELL 'sum', in the pinned program and in every row, IS THE sha256 OF THE DUMP (.gsa) THAT YtpnmcgjfemaleaaProg.lean LOADS. Nothing in Lean hashes anything: it is a label: what it is worth is what the hold of that sum in a sandbox is worth. -/
noncomputable def Try.pinned : Pinned := { name := "ytpnmcgjfemaleaa", sum := "80e77bf29efd697d45061a6ac8be59ab82f4f2ec4d300b8828716e34c1f4c99a", checked := Try.checked }
namespace Rows
def none {H : Type} : Left H := { results := [], args := [] }

/-- 'laws.FnExactValidJobs': WHATEVER THE INPUT: true; the input reads as it did. -/
def fnExactValidJobsSpec : ChangeSpec := { name := "fnExactValidJobs", fn := fun _ => fun
  | [d] => { results := [.lit (.bool true)], args := [d] }
  | _ => none }
def fnExactValidJobsRow : OpenClaim := { program := "ytpnmcgjfemaleaa", sum := "80e77bf29efd697d45061a6ac8be59ab82f4f2ec4d300b8828716e34c1f4c99a", func := "loop.example/g01012/laws.FnExactValidJobs", spec := "fnExactValidJobs", unfollowed := true, recurses := true, apart := false }
def FnExactValidJobsSaid : Prop := fnExactValidJobsRow.holds Try.pinned (OpenSpec.ofChange fnExactValidJobsSpec)

/-- ITS FALSE NEIGHBOUR: 'it returns false'. Refute it at one input. -/
def fnExactValidJobsWrong : ChangeSpec := { name := "fnExactValidJobs", fn := fun _ => fun
  | [d] => { results := [.lit (.bool false)], args := [d] }
  | _ => none }
def FnExactValidJobsWrongFalsely : Prop := fnExactValidJobsRow.holds Try.pinned (OpenSpec.ofChange fnExactValidJobsWrong)

/-- 'laws.FnExactSpanBound': WHATEVER THE INPUT: true; the input reads as it did. -/
def fnExactSpanBoundSpec : ChangeSpec := { name := "fnExactSpanBound", fn := fun _ => fun
  | [d] => { results := [.lit (.bool true)], args := [d] }
  | _ => none }
def fnExactSpanBoundRow : OpenClaim := { program := "ytpnmcgjfemaleaa", sum := "80e77bf29efd697d45061a6ac8be59ab82f4f2ec4d300b8828716e34c1f4c99a", func := "loop.example/g01012/laws.FnExactSpanBound", spec := "fnExactSpanBound", unfollowed := true, recurses := true, apart := false }
def FnExactSpanBoundSaid : Prop := fnExactSpanBoundRow.holds Try.pinned (OpenSpec.ofChange fnExactSpanBoundSpec)

/-- ITS FALSE NEIGHBOUR: 'it returns false'. Refute it at one input. -/
def fnExactSpanBoundWrong : ChangeSpec := { name := "fnExactSpanBound", fn := fun _ => fun
  | [d] => { results := [.lit (.bool false)], args := [d] }
  | _ => none }
def FnExactSpanBoundWrongFalsely : Prop := fnExactSpanBoundRow.holds Try.pinned (OpenSpec.ofChange fnExactSpanBoundWrong)

/-- 'laws.FnExactBestOrder': WHATEVER THE INPUT: true; the input reads as it did. -/
def fnExactBestOrderSpec : ChangeSpec := { name := "fnExactBestOrder", fn := fun _ => fun
  | [d] => { results := [.lit (.bool true)], args := [d] }
  | _ => none }
def fnExactBestOrderRow : OpenClaim := { program := "ytpnmcgjfemaleaa", sum := "80e77bf29efd697d45061a6ac8be59ab82f4f2ec4d300b8828716e34c1f4c99a", func := "loop.example/g01012/laws.FnExactBestOrder", spec := "fnExactBestOrder", unfollowed := true, recurses := true, apart := false }
def FnExactBestOrderSaid : Prop := fnExactBestOrderRow.holds Try.pinned (OpenSpec.ofChange fnExactBestOrderSpec)

/-- ITS FALSE NEIGHBOUR: 'it returns false'. Refute it at one input. -/
def fnExactBestOrderWrong : ChangeSpec := { name := "fnExactBestOrder", fn := fun _ => fun
  | [d] => { results := [.lit (.bool false)], args := [d] }
  | _ => none }
def FnExactBestOrderWrongFalsely : Prop := fnExactBestOrderRow.holds Try.pinned (OpenSpec.ofChange fnExactBestOrderWrong)

/-- 'laws.FnExactJohnsonOrder': WHATEVER THE INPUT: true; the input reads as it did. -/
def fnExactJohnsonOrderSpec : ChangeSpec := { name := "fnExactJohnsonOrder", fn := fun _ => fun
  | [d] => { results := [.lit (.bool true)], args := [d] }
  | _ => none }
def fnExactJohnsonOrderRow : OpenClaim := { program := "ytpnmcgjfemaleaa", sum := "80e77bf29efd697d45061a6ac8be59ab82f4f2ec4d300b8828716e34c1f4c99a", func := "loop.example/g01012/laws.FnExactJohnsonOrder", spec := "fnExactJohnsonOrder", unfollowed := true, recurses := true, apart := false }
def FnExactJohnsonOrderSaid : Prop := fnExactJohnsonOrderRow.holds Try.pinned (OpenSpec.ofChange fnExactJohnsonOrderSpec)

/-- ITS FALSE NEIGHBOUR: 'it returns false'. Refute it at one input. -/
def fnExactJohnsonOrderWrong : ChangeSpec := { name := "fnExactJohnsonOrder", fn := fun _ => fun
  | [d] => { results := [.lit (.bool false)], args := [d] }
  | _ => none }
def FnExactJohnsonOrderWrongFalsely : Prop := fnExactJohnsonOrderRow.holds Try.pinned (OpenSpec.ofChange fnExactJohnsonOrderWrong)

/-- 'laws.FnExactInsertOrder': WHATEVER THE INPUT: true; the input reads as it did. -/
def fnExactInsertOrderSpec : ChangeSpec := { name := "fnExactInsertOrder", fn := fun _ => fun
  | [d] => { results := [.lit (.bool true)], args := [d] }
  | _ => none }
def fnExactInsertOrderRow : OpenClaim := { program := "ytpnmcgjfemaleaa", sum := "80e77bf29efd697d45061a6ac8be59ab82f4f2ec4d300b8828716e34c1f4c99a", func := "loop.example/g01012/laws.FnExactInsertOrder", spec := "fnExactInsertOrder", inPlace := ["slices.overlaps[int64]"], unfollowed := true, recurses := true, apart := false }
def FnExactInsertOrderSaid : Prop := fnExactInsertOrderRow.holds Try.pinned (OpenSpec.ofChange fnExactInsertOrderSpec)

/-- ITS FALSE NEIGHBOUR: 'it returns false'. Refute it at one input. -/
def fnExactInsertOrderWrong : ChangeSpec := { name := "fnExactInsertOrder", fn := fun _ => fun
  | [d] => { results := [.lit (.bool false)], args := [d] }
  | _ => none }
def FnExactInsertOrderWrongFalsely : Prop := fnExactInsertOrderRow.holds Try.pinned (OpenSpec.ofChange fnExactInsertOrderWrong)

/-- 'laws.FnExactIdleMinutes': WHATEVER THE INPUT: true; the input reads as it did. -/
def fnExactIdleMinutesSpec : ChangeSpec := { name := "fnExactIdleMinutes", fn := fun _ => fun
  | [d1, d2, d3] => { results := [.lit (.bool true)], args := [d1, d2, d3] }
  | _ => none }
def fnExactIdleMinutesRow : OpenClaim := { program := "ytpnmcgjfemaleaa", sum := "80e77bf29efd697d45061a6ac8be59ab82f4f2ec4d300b8828716e34c1f4c99a", func := "loop.example/g01012/laws.FnExactIdleMinutes", spec := "fnExactIdleMinutes", unfollowed := true, recurses := true, apart := false }
def FnExactIdleMinutesSaid : Prop := fnExactIdleMinutesRow.holds Try.pinned (OpenSpec.ofChange fnExactIdleMinutesSpec)

/-- ITS FALSE NEIGHBOUR: 'it returns false'. Refute it at one input. -/
def fnExactIdleMinutesWrong : ChangeSpec := { name := "fnExactIdleMinutes", fn := fun _ => fun
  | [d1, d2, d3] => { results := [.lit (.bool false)], args := [d1, d2, d3] }
  | _ => none }
def FnExactIdleMinutesWrongFalsely : Prop := fnExactIdleMinutesRow.holds Try.pinned (OpenSpec.ofChange fnExactIdleMinutesWrong)

/-- 'laws.FnExactSpanOf': WHATEVER THE INPUT: true; the input reads as it did. -/
def fnExactSpanOfSpec : ChangeSpec := { name := "fnExactSpanOf", fn := fun _ => fun
  | [d1, d2] => { results := [.lit (.bool true)], args := [d1, d2] }
  | _ => none }
def fnExactSpanOfRow : OpenClaim := { program := "ytpnmcgjfemaleaa", sum := "80e77bf29efd697d45061a6ac8be59ab82f4f2ec4d300b8828716e34c1f4c99a", func := "loop.example/g01012/laws.FnExactSpanOf", spec := "fnExactSpanOf", unfollowed := true, recurses := true, apart := false }
def FnExactSpanOfSaid : Prop := fnExactSpanOfRow.holds Try.pinned (OpenSpec.ofChange fnExactSpanOfSpec)

/-- ITS FALSE NEIGHBOUR: 'it returns false'. Refute it at one input. -/
def fnExactSpanOfWrong : ChangeSpec := { name := "fnExactSpanOf", fn := fun _ => fun
  | [d1, d2] => { results := [.lit (.bool false)], args := [d1, d2] }
  | _ => none }
def FnExactSpanOfWrongFalsely : Prop := fnExactSpanOfRow.holds Try.pinned (OpenSpec.ofChange fnExactSpanOfWrong)

/-- 'laws.FnExactEndTimes': WHATEVER THE INPUT: true; the input reads as it did. -/
def fnExactEndTimesSpec : ChangeSpec := { name := "fnExactEndTimes", fn := fun _ => fun
  | [d1, d2] => { results := [.lit (.bool true)], args := [d1, d2] }
  | _ => none }
def fnExactEndTimesRow : OpenClaim := { program := "ytpnmcgjfemaleaa", sum := "80e77bf29efd697d45061a6ac8be59ab82f4f2ec4d300b8828716e34c1f4c99a", func := "loop.example/g01012/laws.FnExactEndTimes", spec := "fnExactEndTimes", unfollowed := true, recurses := true, apart := false }
def FnExactEndTimesSaid : Prop := fnExactEndTimesRow.holds Try.pinned (OpenSpec.ofChange fnExactEndTimesSpec)

/-- ITS FALSE NEIGHBOUR: 'it returns false'. Refute it at one input. -/
def fnExactEndTimesWrong : ChangeSpec := { name := "fnExactEndTimes", fn := fun _ => fun
  | [d1, d2] => { results := [.lit (.bool false)], args := [d1, d2] }
  | _ => none }
def FnExactEndTimesWrongFalsely : Prop := fnExactEndTimesRow.holds Try.pinned (OpenSpec.ofChange fnExactEndTimesWrong)

/-- 'laws.FnExactLateJobs': WHATEVER THE INPUT: true; the input reads as it did. -/
def fnExactLateJobsSpec : ChangeSpec := { name := "fnExactLateJobs", fn := fun _ => fun
  | [d1, d2, d3] => { results := [.lit (.bool true)], args := [d1, d2, d3] }
  | _ => none }
def fnExactLateJobsRow : OpenClaim := { program := "ytpnmcgjfemaleaa", sum := "80e77bf29efd697d45061a6ac8be59ab82f4f2ec4d300b8828716e34c1f4c99a", func := "loop.example/g01012/laws.FnExactLateJobs", spec := "fnExactLateJobs", unfollowed := true, recurses := true, apart := false }
def FnExactLateJobsSaid : Prop := fnExactLateJobsRow.holds Try.pinned (OpenSpec.ofChange fnExactLateJobsSpec)

/-- ITS FALSE NEIGHBOUR: 'it returns false'. Refute it at one input. -/
def fnExactLateJobsWrong : ChangeSpec := { name := "fnExactLateJobs", fn := fun _ => fun
  | [d1, d2, d3] => { results := [.lit (.bool false)], args := [d1, d2, d3] }
  | _ => none }
def FnExactLateJobsWrongFalsely : Prop := fnExactLateJobsRow.holds Try.pinned (OpenSpec.ofChange fnExactLateJobsWrong)

/-- 'laws.FnSchedules': WHATEVER THE INPUT: true; the input reads as it did. -/
def fnSchedulesSpec : ChangeSpec := { name := "fnSchedules", fn := fun _ => fun
  | [d1, d2] => { results := [.lit (.bool true)], args := [d1, d2] }
  | _ => none }
def fnSchedulesRow : OpenClaim := { program := "ytpnmcgjfemaleaa", sum := "80e77bf29efd697d45061a6ac8be59ab82f4f2ec4d300b8828716e34c1f4c99a", func := "loop.example/g01012/laws.FnSchedules", spec := "fnSchedules", inPlace := ["slices.overlaps[int64]"], unfollowed := true, recurses := true, apart := false }
def FnSchedulesSaid : Prop := fnSchedulesRow.holds Try.pinned (OpenSpec.ofChange fnSchedulesSpec)

/-- ITS FALSE NEIGHBOUR: 'it returns false'. Refute it at one input. -/
def fnSchedulesWrong : ChangeSpec := { name := "fnSchedules", fn := fun _ => fun
  | [d1, d2] => { results := [.lit (.bool false)], args := [d1, d2] }
  | _ => none }
def FnSchedulesWrongFalsely : Prop := fnSchedulesRow.holds Try.pinned (OpenSpec.ofChange fnSchedulesWrong)

/-- 'laws.FnEnds': WHATEVER THE INPUT: true; the input reads as it did. -/
def fnEndsSpec : ChangeSpec := { name := "fnEnds", fn := fun _ => fun
  | [d1, d2] => { results := [.lit (.bool true)], args := [d1, d2] }
  | _ => none }
def fnEndsRow : OpenClaim := { program := "ytpnmcgjfemaleaa", sum := "80e77bf29efd697d45061a6ac8be59ab82f4f2ec4d300b8828716e34c1f4c99a", func := "loop.example/g01012/laws.FnEnds", spec := "fnEnds", unfollowed := true, recurses := true, apart := false }
def FnEndsSaid : Prop := fnEndsRow.holds Try.pinned (OpenSpec.ofChange fnEndsSpec)

/-- ITS FALSE NEIGHBOUR: 'it returns false'. Refute it at one input. -/
def fnEndsWrong : ChangeSpec := { name := "fnEnds", fn := fun _ => fun
  | [d1, d2] => { results := [.lit (.bool false)], args := [d1, d2] }
  | _ => none }
def FnEndsWrongFalsely : Prop := fnEndsRow.holds Try.pinned (OpenSpec.ofChange fnEndsWrong)

/- THE SECOND FORM. 'bulk': how many values and letters a reading holds, each counted each time it is reached (what is shared counts as often as it is met; a slice's spare places count too). A statement '..UptoSaid' is the law's where the arguments, and the package variables that the reading takes, are together of bulk at most 1048576: NARROWER than '..Said'. Prove '..Said' where nothing that the law and all that it calls make is longer than what came in: it says more and counts as full. Else prove '..UptoSaid'. A law counts once. -/
mutual
def uptoBulk {H : Type} : DataW H → Nat
  | .lit (.string bytes) => bytes.length + 1
  | .lit _ => 1
  | .nil => 1
  | .ptr d => uptoBulk d + 1
  | .slice elems spare => uptoBulkAll elems + uptoBulkAll spare + 1
  | .agg parts => uptoBulkAll parts + 1
  | .iface _ d => uptoBulk d + 1
  | .map entries => uptoBulkEntries entries + 1
  | .held _ => 1
def uptoBulkAll {H : Type} : List (DataW H) → Nat
  | [] => 0
  | d :: r => uptoBulk d + uptoBulkAll r
def uptoBulkEntries {H : Type} : List (Lit × DataW H) → Nat
  | [] => 0
  | x :: r => uptoBulkEntry x + uptoBulkEntries r
def uptoBulkEntry {H : Type} : Lit × DataW H → Nat
  | (.string bytes, d) => bytes.length + uptoBulk d + 1
  | (_, d) => uptoBulk d + 1
 end
def uptoSmall : (H : Type) → List (DataW H) → Bool := fun _ ds => decide (uptoBulkAll ds ≤ 1048576)
def OpenSpec.upto (s : _root_.Go.ChangeSpec) : _root_.Go.OpenSpec := { _root_.Go.OpenSpec.ofChange s with cond := some uptoSmall }

/-- 'laws.FnExactValidJobs', WHERE WHAT IT READS IS OF BULK AT MOST 1048576: true; the input reads as it did. -/
def fnExactValidJobsUptoRow : OpenClaim := { program := "ytpnmcgjfemaleaa", sum := "80e77bf29efd697d45061a6ac8be59ab82f4f2ec4d300b8828716e34c1f4c99a", func := "loop.example/g01012/laws.FnExactValidJobs", spec := "fnExactValidJobs", unfollowed := true, recurses := true, apart := false, narrowed := true }
def FnExactValidJobsUptoSaid : Prop := fnExactValidJobsUptoRow.holds Try.pinned (OpenSpec.upto fnExactValidJobsSpec)

/-- 'laws.FnExactSpanBound', WHERE WHAT IT READS IS OF BULK AT MOST 1048576: true; the input reads as it did. -/
def fnExactSpanBoundUptoRow : OpenClaim := { program := "ytpnmcgjfemaleaa", sum := "80e77bf29efd697d45061a6ac8be59ab82f4f2ec4d300b8828716e34c1f4c99a", func := "loop.example/g01012/laws.FnExactSpanBound", spec := "fnExactSpanBound", unfollowed := true, recurses := true, apart := false, narrowed := true }
def FnExactSpanBoundUptoSaid : Prop := fnExactSpanBoundUptoRow.holds Try.pinned (OpenSpec.upto fnExactSpanBoundSpec)

/-- 'laws.FnExactBestOrder', WHERE WHAT IT READS IS OF BULK AT MOST 1048576: true; the input reads as it did. -/
def fnExactBestOrderUptoRow : OpenClaim := { program := "ytpnmcgjfemaleaa", sum := "80e77bf29efd697d45061a6ac8be59ab82f4f2ec4d300b8828716e34c1f4c99a", func := "loop.example/g01012/laws.FnExactBestOrder", spec := "fnExactBestOrder", unfollowed := true, recurses := true, apart := false, narrowed := true }
def FnExactBestOrderUptoSaid : Prop := fnExactBestOrderUptoRow.holds Try.pinned (OpenSpec.upto fnExactBestOrderSpec)

/-- 'laws.FnExactJohnsonOrder', WHERE WHAT IT READS IS OF BULK AT MOST 1048576: true; the input reads as it did. -/
def fnExactJohnsonOrderUptoRow : OpenClaim := { program := "ytpnmcgjfemaleaa", sum := "80e77bf29efd697d45061a6ac8be59ab82f4f2ec4d300b8828716e34c1f4c99a", func := "loop.example/g01012/laws.FnExactJohnsonOrder", spec := "fnExactJohnsonOrder", unfollowed := true, recurses := true, apart := false, narrowed := true }
def FnExactJohnsonOrderUptoSaid : Prop := fnExactJohnsonOrderUptoRow.holds Try.pinned (OpenSpec.upto fnExactJohnsonOrderSpec)

/-- 'laws.FnExactInsertOrder', WHERE WHAT IT READS IS OF BULK AT MOST 1048576: true; the input reads as it did. -/
def fnExactInsertOrderUptoRow : OpenClaim := { program := "ytpnmcgjfemaleaa", sum := "80e77bf29efd697d45061a6ac8be59ab82f4f2ec4d300b8828716e34c1f4c99a", func := "loop.example/g01012/laws.FnExactInsertOrder", spec := "fnExactInsertOrder", inPlace := ["slices.overlaps[int64]"], unfollowed := true, recurses := true, apart := false, narrowed := true }
def FnExactInsertOrderUptoSaid : Prop := fnExactInsertOrderUptoRow.holds Try.pinned (OpenSpec.upto fnExactInsertOrderSpec)

/-- 'laws.FnExactIdleMinutes', WHERE WHAT IT READS IS OF BULK AT MOST 1048576: true; the input reads as it did. -/
def fnExactIdleMinutesUptoRow : OpenClaim := { program := "ytpnmcgjfemaleaa", sum := "80e77bf29efd697d45061a6ac8be59ab82f4f2ec4d300b8828716e34c1f4c99a", func := "loop.example/g01012/laws.FnExactIdleMinutes", spec := "fnExactIdleMinutes", unfollowed := true, recurses := true, apart := false, narrowed := true }
def FnExactIdleMinutesUptoSaid : Prop := fnExactIdleMinutesUptoRow.holds Try.pinned (OpenSpec.upto fnExactIdleMinutesSpec)

/-- 'laws.FnExactSpanOf', WHERE WHAT IT READS IS OF BULK AT MOST 1048576: true; the input reads as it did. -/
def fnExactSpanOfUptoRow : OpenClaim := { program := "ytpnmcgjfemaleaa", sum := "80e77bf29efd697d45061a6ac8be59ab82f4f2ec4d300b8828716e34c1f4c99a", func := "loop.example/g01012/laws.FnExactSpanOf", spec := "fnExactSpanOf", unfollowed := true, recurses := true, apart := false, narrowed := true }
def FnExactSpanOfUptoSaid : Prop := fnExactSpanOfUptoRow.holds Try.pinned (OpenSpec.upto fnExactSpanOfSpec)

/-- 'laws.FnExactEndTimes', WHERE WHAT IT READS IS OF BULK AT MOST 1048576: true; the input reads as it did. -/
def fnExactEndTimesUptoRow : OpenClaim := { program := "ytpnmcgjfemaleaa", sum := "80e77bf29efd697d45061a6ac8be59ab82f4f2ec4d300b8828716e34c1f4c99a", func := "loop.example/g01012/laws.FnExactEndTimes", spec := "fnExactEndTimes", unfollowed := true, recurses := true, apart := false, narrowed := true }
def FnExactEndTimesUptoSaid : Prop := fnExactEndTimesUptoRow.holds Try.pinned (OpenSpec.upto fnExactEndTimesSpec)

/-- 'laws.FnExactLateJobs', WHERE WHAT IT READS IS OF BULK AT MOST 1048576: true; the input reads as it did. -/
def fnExactLateJobsUptoRow : OpenClaim := { program := "ytpnmcgjfemaleaa", sum := "80e77bf29efd697d45061a6ac8be59ab82f4f2ec4d300b8828716e34c1f4c99a", func := "loop.example/g01012/laws.FnExactLateJobs", spec := "fnExactLateJobs", unfollowed := true, recurses := true, apart := false, narrowed := true }
def FnExactLateJobsUptoSaid : Prop := fnExactLateJobsUptoRow.holds Try.pinned (OpenSpec.upto fnExactLateJobsSpec)

/-- 'laws.FnSchedules', WHERE WHAT IT READS IS OF BULK AT MOST 1048576: true; the input reads as it did. -/
def fnSchedulesUptoRow : OpenClaim := { program := "ytpnmcgjfemaleaa", sum := "80e77bf29efd697d45061a6ac8be59ab82f4f2ec4d300b8828716e34c1f4c99a", func := "loop.example/g01012/laws.FnSchedules", spec := "fnSchedules", inPlace := ["slices.overlaps[int64]"], unfollowed := true, recurses := true, apart := false, narrowed := true }
def FnSchedulesUptoSaid : Prop := fnSchedulesUptoRow.holds Try.pinned (OpenSpec.upto fnSchedulesSpec)

/-- 'laws.FnEnds', WHERE WHAT IT READS IS OF BULK AT MOST 1048576: true; the input reads as it did. -/
def fnEndsUptoRow : OpenClaim := { program := "ytpnmcgjfemaleaa", sum := "80e77bf29efd697d45061a6ac8be59ab82f4f2ec4d300b8828716e34c1f4c99a", func := "loop.example/g01012/laws.FnEnds", spec := "fnEnds", unfollowed := true, recurses := true, apart := false, narrowed := true }
def FnEndsUptoSaid : Prop := fnEndsUptoRow.holds Try.pinned (OpenSpec.upto fnEndsSpec)

end Rows
end Go.Proofs.Ytpnmcgjfemaleaa
