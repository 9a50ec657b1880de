/- Chapter 15: the walk of RoundsNeeded. -/
import Derived.Test.YtaeabpmpfadkjaaC15m
namespace Go.Proofs.Ytaeabpmpfadkjaa
open Go.RowKit Go.Deep
set_option linter.unusedVariables false

set_option maxHeartbeats 4000000 in
theorem lawRoundsNeeded (w : World) (A0 : Option Addr) (n0 c0 : Nat) (z0 : List Int) (g0 : RdArg w A0 n0 c0 z0) :
    Calls Try.prog 9 #[.slice A0 n0 c0] w fun e w' => e = .returned (.bool true) ∧ Below w.heap.size w w' := by
  have ha0 := g0.1
  by_cases hn0 : 1048576 < n0
  · go_enter Try.func9, Try.ntmps9
    go_wp2
    go_ret
    exact ⟨rfl, by first | exact Below.refl _ _ | exact below_alloc w _⟩
  replace hn0 : n0 ≤ 1048576 := by omega
  clear g0
  have hB0 : Below w.heap.size w w := Below.refl _ _
  go_enter Try.func9, Try.ntmps9
  go_wp2_with fail
  refine (toIntS_any A0 n0 c0 z0 w (ha0.below hB0) hn0).mono ?_
  rintro e w1 ⟨AP0, cP0, rfl, oP0, hb1⟩
  have hs1 := hb1.size
  have hB1 := hB0.trans (hb1.mono hB0.size)
  have iP0 := oP0.blk_
  go_wp2_with fail
  refine (specRounds AP0 n0 cP0 z0 w1 oP0.rd hn0 ).mono ?_
  rintro e w2 ⟨rfl, hb2⟩
  have hs2 := hb2.size
  have hB2 := hB1.trans (hb2.mono hB1.size)
  replace oP0 := oP0.below hb2
  clear oP0
  go_wp2_with fail
  refine (toIntS_any A0 n0 c0 z0 w2 (ha0.below hB2) hn0).mono ?_
  rintro e w3 ⟨AX0, cX0, rfl, oX0, hb3⟩
  have hs3 := hb3.size
  have hB3 := hB2.trans (hb3.mono hB2.size)
  have iX0 := oX0.blk_
  go_wp2_with fail
  refine (implRounds AX0 n0 cX0 z0 w3 oX0.rd hn0 ).mono ?_
  rintro e w4 ⟨rfl, hb4⟩
  have hs4 := hb4.size
  have hB4 := hB3.trans (hb4.mono hB3.size)
  replace oX0 := oX0.below hb4
  go_wp2_with fail
  refine (toIntS_any A0 n0 c0 z0 w4 (ha0.below hB4) hn0).mono ?_
  rintro e w5 ⟨AT0, cT0, rfl, oT0, hb5⟩
  have hs5 := hb5.size
  have hB5 := hB4.trans (hb5.mono hB4.size)
  replace oX0 := oX0.below hb5
  have iT0 := oT0.blk_
  go_wp2_with fail
  refine (eqIntS_yes AX0 AT0 n0 cX0 cT0 _ w5 oX0.rd oT0.rd (by unfold maxLen; omega)).mono ?_
  rintro e w6 ⟨rfl, hb6⟩
  have hs6 := hb6.size
  have hB6 := hB5.trans (hb6.mono hB5.size)
  replace oX0 := oX0.below hb6
  replace oT0 := oT0.below hb6
  clear oT0
  go_wp2_with fail
  go_ret
  exact ⟨rfl, hB6⟩

end Go.Proofs.Ytaeabpmpfadkjaa
