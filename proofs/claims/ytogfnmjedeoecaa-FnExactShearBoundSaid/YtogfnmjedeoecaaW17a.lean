/- Chapter 17: the walk of ShearBound. -/
import Derived.Test.YtogfnmjedeoecaaC17a
namespace Go.Proofs.Ytogfnmjedeoecaa
open Go.RowKit Go.Deep

set_option maxHeartbeats 2000000 in
theorem lawShearBound (w : World) (x0 : Int) (_g0 : In64 x0) :
    Calls Try.prog 3 #[.int .i64 x0] w fun e w' => e = .returned (.bool true) ∧ Below w.heap.size w w' := by
  have hB0 : Below w.heap.size w w := Below.refl _ _
  go_enter Try.func3, Try.ntmps3
  go_wp2_with fail
  refine (specShear x0 w  ).mono ?_
  rintro e w1 ⟨rfl, hb1⟩
  have hs1 := hb1.size
  have hB1 := hB0.trans (hb1.mono hB0.size)
  go_wp2_with fail
  refine (implShear x0 w1  ).mono ?_
  rintro e w2 ⟨rfl, hb2⟩
  have hs2 := hb2.size
  have hB2 := hB1.trans (hb2.mono hB1.size)
  go_wp2_with fail
  go_ret
  exact ⟨rfl, hB2⟩

end Go.Proofs.Ytogfnmjedeoecaa
