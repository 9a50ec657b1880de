/- The laying of the library's slices.Delete at [][]int: the numbers of its functions and types in this program. -/
import Derived.Shelf.SlicesE.Delete
import Derived.Test.YtobdkfhmmpigiaaGreatRows
namespace Go.Proofs.YtobdkfhmmpigiaaGreat
open Go.Shelf
def laysSlE45_f65_ren : Go.Shelf.Ren := ⟨fun | 45 => 65 | n => n, fun | 22 => 25 | 23 => 30 | 3 => 3 | 4 => 4 | 0 => 0 | n => n, fun | n => n⟩
theorem laysSlE45_f65 : Go.Proofs.SlLaysE.n45 Tryz.prog laysSlE45_f65_ren := {
  mixed := by kernel_rfl
  f45 := ⟨Tryz.f65.name, by decide, Tryz.func65.trans (congrArg some (by kernel_rfl))⟩
  t0 := Tryz.underlying0
  a0 := Tryz.isAgg0
  z0 := Tryz.sizeOf0
  v0 := Tryz.zeroValue0
  t3 := Tryz.underlying3
  a3 := Tryz.isAgg3
  z3 := Tryz.sizeOf3
  v3 := Tryz.zeroValue3
  t4 := Tryz.underlying4
  a4 := Tryz.isAgg4
  z4 := Tryz.sizeOf4
  v4 := Tryz.zeroValue4
  t22 := Tryz.underlying25
  a22 := Tryz.isAgg25
  z22 := Tryz.sizeOf25
  v22 := Tryz.zeroValue25
  a23 := Tryz.isAgg30
  z23 := Tryz.sizeOf30 }
end Go.Proofs.YtobdkfhmmpigiaaGreat
