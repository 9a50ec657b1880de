/- Chapter 14: the walk of SettingsOk. -/
import Derived.Test.YtchmmaokommnaaaC14d
namespace Go.Proofs.Ytchmmaokommnaaa
open Go.RowKit Go.Deep

set_option maxHeartbeats 2000000 in
theorem lawSettingsOk (w : World) (x0 : Int) (A1 : Option Addr) (n1 c1 : Nat) (z1 : List Int) (_g0 : In64 x0) (g1 : RdArg w A1 n1 c1 z1) :
    Calls Try.prog 4 #[.int .i64 x0, .slice A1 n1 c1] w fun e w' => e = .returned (.bool true) ∧ Below w.heap.size w w' := by
  have ha1 := g1.1
  by_cases hn1 : 1048576 < n1
  · go_enter Try.func4, Try.ntmps4
    go_wp2
    go_ret
    exact ⟨rfl, Below.refl _ _⟩
  replace hn1 : n1 ≤ 1048576 := by omega
  clear g1
  have hB0 : Below w.heap.size w w := Below.refl _ _
  go_enter Try.func4, Try.ntmps4
  go_wp2_with fail
  refine (toIntS_any A1 n1 c1 z1 w (ha1.below hB0) hn1).mono ?_
  rintro e w1 ⟨AP1, cP1, rfl, oP1, hb1⟩
  have hs1 := hb1.size
  have hB1 := hB0.trans (hb1.mono hB0.size)
  have iP1 := oP1.blk_
  go_wp2_with fail
  refine (specSettings x0 AP1 n1 cP1 z1 w1 oP1.rd hn1 ).mono ?_
  rintro e w2 ⟨rfl, hb2⟩
  have hs2 := hb2.size
  have hB2 := hB1.trans (hb2.mono hB1.size)
  replace oP1 := oP1.below hb2
  go_wp2_with fail
  refine (toIntS_any A1 n1 c1 z1 w2 (ha1.below hB2) hn1).mono ?_
  rintro e w3 ⟨AX1, cX1, rfl, oX1, hb3⟩
  have hs3 := hb3.size
  have hB3 := hB2.trans (hb3.mono hB2.size)
  replace oP1 := oP1.below hb3
  have iX1 := oX1.blk_
  go_wp2_with fail
  refine (implSettings x0 AX1 n1 cX1 z1 w3 oX1.rd hn1 ).mono ?_
  rintro e w4 ⟨rfl, hb4⟩
  have hs4 := hb4.size
  have hB4 := hB3.trans (hb4.mono hB3.size)
  replace oP1 := oP1.below hb4
  replace oX1 := oX1.below hb4
  go_wp2_with fail
  refine (toIntS_any A1 n1 c1 z1 w4 (ha1.below hB4) hn1).mono ?_
  rintro e w5 ⟨AT1, cT1, rfl, oT1, hb5⟩
  have hs5 := hb5.size
  have hB5 := hB4.trans (hb5.mono hB4.size)
  replace oP1 := oP1.below hb5
  replace oX1 := oX1.below hb5
  have iT1 := oT1.blk_
  go_wp2_with fail
  refine (eqIntS_yes AX1 AT1 n1 cX1 cT1 z1 w5 oX1.rd oT1.rd (by unfold maxLen; omega)).mono ?_
  rintro e w6 ⟨rfl, hb6⟩
  have hs6 := hb6.size
  have hB6 := hB5.trans (hb6.mono hB5.size)
  replace oP1 := oP1.below hb6
  replace oX1 := oX1.below hb6
  replace oT1 := oT1.below hb6
  go_wp2_with fail
  go_ret
  exact ⟨rfl, hB6⟩

end Go.Proofs.Ytchmmaokommnaaa
