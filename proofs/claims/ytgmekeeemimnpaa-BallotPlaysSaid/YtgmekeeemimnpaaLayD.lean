/- The library's DeleteFunc, laid over this program. -/
import Derived.Shelf.SlicesE.DeleteFunc
import Derived.Test.YtgmekeeemimnpaaChecked
namespace Go.Proofs.Ytgmekeeemimnpaa
open Go Go.Shelf
def lay_delI_ren : Go.Shelf.Ren := ⟨fun | 10 => 124 | 6 => 145 | n => n, fun | 22 => 25 | 23 => 3 | 25 => 24 | 3 => 3 | 4 => 4 | 0 => 0 | n => n, fun | n => n⟩
theorem lay_delI : Go.Proofs.SlLaysH.n10 Try.prog lay_delI_ren := {
  mixed := by kernel_rfl
  f6 := ⟨Try.f145.name, by decide, Try.func145.trans (congrArg some (by kernel_rfl))⟩
  f10 := ⟨Try.f124.name, by decide, Try.func124.trans (congrArg some (by kernel_rfl))⟩
  t0 := Try.underlying0
  a0 := Try.isAgg0
  z0 := Try.sizeOf0
  v0 := Try.zeroValue0
  t3 := Try.underlying3
  a3 := Try.isAgg3
  z3 := Try.sizeOf3
  v3 := Try.zeroValue3
  t4 := Try.underlying4
  a4 := Try.isAgg4
  z4 := Try.sizeOf4
  v4 := Try.zeroValue4
  t22 := Try.underlying25
  a22 := Try.isAgg25
  z22 := Try.sizeOf25
  v22 := Try.zeroValue25
  a23 := Try.isAgg3
  z23 := Try.sizeOf3
  t25 := Try.underlying24
  a25 := Try.isAgg24
  z25 := Try.sizeOf24
  v25 := Try.zeroValue24 }
end Go.Proofs.Ytgmekeeemimnpaa
