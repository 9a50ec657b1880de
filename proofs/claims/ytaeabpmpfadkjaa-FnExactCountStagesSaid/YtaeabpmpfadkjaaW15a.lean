/- Chapter 15: the walks of the statements on CountStages and CountPassing. -/
import Derived.Test.YtaeabpmpfadkjaaC15a
namespace Go.Proofs.Ytaeabpmpfadkjaa
open Go.RowKit Go.Deep

set_option maxHeartbeats 2000000 in
theorem lawCountStages (w : World) (x0 : Int) (_g0 : In64 x0) :
    Calls Try.prog 3 #[.int .i64 x0] w fun e w' => e = .returned (.bool true) ∧ Below w.heap.size w w' := by
  have hB0 : Below w.heap.size w w := Below.refl _ _
  go_enter Try.func3, Try.ntmps3
  go_wp2_with fail
  refine (specCountStages x0 w  ).mono ?_
  rintro e w' ⟨rfl, rfl⟩
  go_wp2_with fail
  refine (implCountStages x0 w  ).mono ?_
  rintro e w' ⟨rfl, rfl⟩
  go_wp2_with fail
  go_ret
  exact ⟨rfl, hB0⟩

set_option maxHeartbeats 2000000 in
theorem lawCountPassing (w : World) (x0 : Int) (_g0 : In64 x0) :
    Calls Try.prog 4 #[.int .i64 x0] w fun e w' => e = .returned (.bool true) ∧ Below w.heap.size w w' := by
  have hB0 : Below w.heap.size w w := Below.refl _ _
  go_enter Try.func4, Try.ntmps4
  go_wp2_with fail
  refine (specCountPassing x0 w  ).mono ?_
  rintro e w' ⟨rfl, rfl⟩
  go_wp2_with fail
  refine (implCountPassing x0 w  ).mono ?_
  rintro e w' ⟨rfl, rfl⟩
  go_wp2_with fail
  go_ret
  exact ⟨rfl, hB0⟩

end Go.Proofs.Ytaeabpmpfadkjaa
