/- Chapter 13: the walk of BalanceOf. -/
import Derived.Test.YtcijnmooifcicaaC13a
namespace Go.Proofs.Ytcijnmooifcicaa
open Go.RowKit Go.Deep

set_option maxHeartbeats 2000000 in
theorem lawBalanceOf (w : World) (A0 : Option Addr) (n0 c0 : Nat) (z0 : List Int) (g0 : RdArg w A0 n0 c0 z0) :
    Calls Try.prog 5 #[.slice A0 n0 c0] w fun e w' => e = .returned (.bool true) ∧ Below w.heap.size w w' := by
  have ha0 := g0.1
  by_cases hn0 : 1048576 < n0
  · go_enter Try.func5, Try.ntmps5
    go_wp2
    go_ret
    exact ⟨rfl, Below.refl _ _⟩
  replace hn0 : n0 ≤ 1048576 := by omega
  clear g0
  have hB0 : Below w.heap.size w w := Below.refl _ _
  go_enter Try.func5, Try.ntmps5
  go_wp2_with fail
  refine (toIntS_any A0 n0 c0 z0 w (ha0.below hB0) hn0).mono ?_
  rintro e w1 ⟨AP0, cP0, rfl, oP0, hb1⟩
  have hs1 := hb1.size
  have hB1 := hB0.trans (hb1.mono hB0.size)
  have iP0 := oP0.blk_
  go_wp2_with fail
  refine (specBalance AP0 n0 cP0 z0 w1 oP0.rd hn0 ).mono ?_
  rintro e w' ⟨rfl, rfl⟩
  go_wp2_with fail
  refine (toIntS_any A0 n0 c0 z0 w1 (ha0.below hB1) hn0).mono ?_
  rintro e w2 ⟨AX0, cX0, rfl, oX0, hb2⟩
  have hs2 := hb2.size
  have hB2 := hB1.trans (hb2.mono hB1.size)
  replace oP0 := oP0.below hb2
  have iX0 := oX0.blk_
  go_wp2_with fail
  refine (implBalance AX0 n0 cX0 z0 w2 oX0.rd hn0 ).mono ?_
  rintro e w' ⟨rfl, rfl⟩
  go_wp2_with fail
  refine (toIntS_any A0 n0 c0 z0 w2 (ha0.below hB2) hn0).mono ?_
  rintro e w3 ⟨AT0, cT0, rfl, oT0, hb3⟩
  have hs3 := hb3.size
  have hB3 := hB2.trans (hb3.mono hB2.size)
  replace oP0 := oP0.below hb3
  replace oX0 := oX0.below hb3
  have iT0 := oT0.blk_
  go_wp2_with fail
  refine (eqIntS_yes AX0 AT0 n0 cX0 cT0 z0 w3 oX0.rd oT0.rd (by unfold maxLen; omega)).mono ?_
  rintro e w4 ⟨rfl, hb4⟩
  have hs4 := hb4.size
  have hB4 := hB3.trans (hb4.mono hB3.size)
  replace oP0 := oP0.below hb4
  replace oX0 := oX0.below hb4
  replace oT0 := oT0.below hb4
  go_wp2_with fail
  go_ret
  exact ⟨rfl, hB4⟩

end Go.Proofs.Ytcijnmooifcicaa
