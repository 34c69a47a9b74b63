/- Insertion sort with a comparison, laid off the library at this dump. No condition. -/
import Derived.Shelf.SlSortCmp.Insertion
import Derived.Ground.SlsfProg
import Derived.Test.YtpnmcgjfemaleaaProg
namespace Go.Proofs
open Go.Shelf
def Try.mIns_ren : Go.Shelf.Ren := ⟨fun | 20 => 101 | n => n, fun | 24 => 2 | 22 => 29 | 3 => 3 | 25 => 62 | 4 => 4 | 0 => 0 | n => n, fun | n => n⟩
theorem Try.mIns : Go.Proofs.SlLaysF.n20 Try.prog Try.mIns_ren := {
  mixed := by kernel_rfl
  f20 := ⟨Try.f101.name, by decide, Try.func101.trans (congrArg some (by kernel_rfl))⟩
  t0 := Try.underlying0
  a0 := Try.isAgg0
  z0 := Try.sizeOf0
  v0 := Try.zeroValue0
  t3 := Try.underlying3
  a3 := Try.isAgg3
  z3 := Try.sizeOf3
  v3 := Try.zeroValue3
  t4 := Try.underlying4
  a4 := Try.isAgg4
  z4 := Try.sizeOf4
  v4 := Try.zeroValue4
  t22 := Try.underlying29
  a22 := Try.isAgg29
  z22 := Try.sizeOf29
  v22 := Try.zeroValue29
  a24 := Try.isAgg2
  z24 := Try.sizeOf2
  t25 := Try.underlying62
  a25 := Try.isAgg62
  z25 := Try.sizeOf62
  v25 := Try.zeroValue62 }
end Go.Proofs
