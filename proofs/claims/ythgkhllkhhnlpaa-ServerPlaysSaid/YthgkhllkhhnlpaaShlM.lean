/- Contracts of the library, laid at this program. -/
import Derived.Test.YthgkhllkhhnlpaaProg
import Derived.Shelf.SlMaps.Clone
namespace Go.Proofs.Ythgkhllkhhnlpaa
open Go.Shelf
def cloneA_ren : Go.Shelf.Ren := ⟨fun | 5 => 47 | 7 => 76 | n => n, fun | 23 => 80 | 25 => 35 | 3 => 3 | 4 => 4 | 20 => 20 | n => n, fun | n => n⟩
theorem cloneA : Go.Proofs.SlLaysW.n5 Try.prog cloneA_ren := {
  mixed := by kernel_rfl
  f5 := ⟨Try.f47.name, by decide, Try.func47.trans (congrArg some (by kernel_rfl))⟩
  f7 := Try.func76.trans (congrArg some (by kernel_rfl))
  t4 := Try.underlying4
  a4 := Try.isAgg4
  z4 := Try.sizeOf4
  v4 := Try.zeroValue4
  t20 := Try.underlying20
  a20 := Try.isAgg20
  z20 := Try.sizeOf20
  v20 := Try.zeroValue20
  t23 := Try.underlying80
  a23 := Try.isAgg80
  z23 := Try.sizeOf80
  v23 := Try.zeroValue80 }
end Go.Proofs.Ythgkhllkhhnlpaa
