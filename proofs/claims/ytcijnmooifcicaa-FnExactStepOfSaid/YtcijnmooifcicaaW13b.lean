/- Chapter 13: the walk of StepOf. -/
import Derived.Test.YtcijnmooifcicaaC13b
namespace Go.Proofs.Ytcijnmooifcicaa
open Go.RowKit Go.Deep

set_option maxHeartbeats 2000000 in
theorem lawStepOf (w : World) (x0 : Int) (x1 : Int) (_g0 : In64 x0) (_g1 : In64 x1) :
    Calls Try.prog 4 #[.int .i64 x0, .int .i64 x1] w fun e w' => e = .returned (.bool true) ∧ Below w.heap.size w w' := by
  have hB0 : Below w.heap.size w w := Below.refl _ _
  go_enter Try.func4, Try.ntmps4
  go_wp2_with fail
  refine (specStep x0 x1 w  ).mono ?_
  rintro e w1 ⟨AW0, nW0, cW0, rfl, oW0, hb1⟩
  have hs1 := hb1.size
  have hB1 := hB0.trans (hb1.mono hB0.size)
  have iW0 := oW0.blk_
  go_wp2_with fail
  refine (implStep x0 x1 w1  ).mono ?_
  rintro e w2 ⟨AG0, nG0, cG0, rfl, oG0, hb2⟩
  have hs2 := hb2.size
  have hB2 := hB1.trans (hb2.mono hB1.size)
  replace oW0 := oW0.below hb2
  have iG0 := oG0.blk_
  obtain rfl : nW0 = nG0 := by rw [← oW0.lenI, oG0.lenI]
  have hl0 : nW0 ≤ 1048576 := by rw [← oW0.lenI]; exact stepV_len _ _
  go_wp2_with fail
  refine (eqIntS_yes AG0 AW0 nW0 cG0 cW0 _ w2 oG0.rd oW0.rd (by unfold maxLen; omega)).mono ?_
  rintro e w3 ⟨rfl, hb3⟩
  have hs3 := hb3.size
  have hB3 := hB2.trans (hb3.mono hB2.size)
  replace oW0 := oW0.below hb3
  replace oG0 := oG0.below hb3
  go_wp2_with fail
  refine (markIntS_any AG0 nW0 cG0 _ _ (1) w3 oG0 (by omega) (by omega) (by omega)).mono ?_
  rintro e w4 ⟨rfl, oN, hg4⟩
  have hs4 := hg4.size
  have hB4 := below_of_grown hB3 hg4 hB3.size (fun g e => by have := iG0 g e; omega)
  replace oW0 := oW0.kept hg4 (fun g e1 e2 => by have := iW0 g e1; have := iG0 g e2.symm; omega)
  clear oG0
  have oG0 := oN
  clear oN
  go_wp2_with fail
  refine (heldIntS_any AG0 nW0 cG0 (1) w4 oG0.rd (by omega) (by omega) (by omega)).mono ?_
  rintro e w5 ⟨rfl, hb5⟩
  have hs5 := hb5.size
  have hB5 := hB4.trans (hb5.mono hB4.size)
  replace oW0 := oW0.below hb5
  replace oG0 := oG0.below hb5
  go_wp2_with fail
  refine (implStep x0 x1 w5  ).mono ?_
  rintro e w6 ⟨AK0, nK0, cK0, rfl, oK0, hb6⟩
  have hs6 := hb6.size
  have hB6 := hB5.trans (hb6.mono hB5.size)
  replace oW0 := oW0.below hb6
  replace oG0 := oG0.below hb6
  have iK0 := oK0.blk_
  obtain rfl : nK0 = nW0 := by rw [← oK0.lenI, oW0.lenI]
  go_wp2_with fail
  refine (eqIntS_yes AK0 AW0 nK0 cK0 cW0 _ w6 oK0.rd oW0.rd (by unfold maxLen; omega)).mono ?_
  rintro e w7 ⟨rfl, hb7⟩
  have hs7 := hb7.size
  have hB7 := hB6.trans (hb7.mono hB6.size)
  replace oW0 := oW0.below hb7
  replace oG0 := oG0.below hb7
  replace oK0 := oK0.below hb7
  go_wp2_with fail
  refine (heldIntS_any AG0 nK0 cG0 (1) w7 oG0.rd (by omega) (by omega) (by omega)).mono ?_
  rintro e w8 ⟨rfl, hb8⟩
  have hs8 := hb8.size
  have hB8 := hB7.trans (hb8.mono hB7.size)
  replace oW0 := oW0.below hb8
  replace oG0 := oG0.below hb8
  replace oK0 := oK0.below hb8
  go_wp2_with fail
  go_ret
  exact ⟨rfl, hB8⟩

end Go.Proofs.Ytcijnmooifcicaa
