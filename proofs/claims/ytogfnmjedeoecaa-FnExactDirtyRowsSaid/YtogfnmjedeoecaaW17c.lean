/- Chapter 17: the walk of DirtyRows. -/
import Derived.Test.YtogfnmjedeoecaaC17c
namespace Go.Proofs.Ytogfnmjedeoecaa
open Go.RowKit Go.Deep
set_option linter.unusedVariables false

set_option maxHeartbeats 2000000 in
theorem lawDirtyRows (w : World) (A0 : Option Addr) (n0 c0 : Nat) (z0 : List (List Int)) (x1 : Int) (g0 : RdArgM w A0 n0 c0 z0) (_g1 : In64 x1) :
    Calls Try.prog 6 #[.slice A0 n0 c0, .int .i64 x1] w fun e w' => e = .returned (.bool true) ∧ Below w.heap.size w w' := by
  have ha := g0.1
  have hcap : n0 ≤ maxLen := Nat.le_trans g0.2.1 g0.2.2
  clear g0
  have hB0 : Below w.heap.size w w := Below.refl _ _
  go_enter Try.func6, Try.ntmps6
  go_wp2_with fail
  refine (szIntSS_any A0 n0 c0 z0 w ha hcap).mono ?_
  rintro e w' ⟨r, rfl, hr, rfl⟩
  rcases hr with rfl | ⟨hr0, hsz⟩
  · go_wp2
    go_ret
    exact ⟨rfl, hB0⟩
  have HS := Lib.hid hsz
  have hn : n0 ≤ 1048576 := by omega
  clear hsz
  go_wp2_with fail
  refine (toIntSS_any A0 n0 c0 z0 w (ha.below hB0) HS.out).mono ?_
  rintro e w1 ⟨AP, cP, rfl, oP, hb1⟩
  have hs1 := hb1.size
  have hB1 := hB0.trans (hb1.mono hB0.size)
  go_wp2_with fail
  refine (specDirty AP n0 cP z0 x1 w1 oP.rd hn).mono ?_
  rintro e w' ⟨rfl, rfl⟩
  go_wp2_with fail
  refine (toIntSS_any A0 n0 c0 z0 w1 (ha.below hB1) HS.out).mono ?_
  rintro e w2 ⟨AX, cX, rfl, oX, hb2⟩
  have hs2 := hb2.size
  have hB2 := hB1.trans (hb2.mono hB1.size)
  replace oP := oP.below hb2
  go_wp2_with fail
  refine (implDirty AX n0 cX z0 x1 w2 oX.rd hn).mono ?_
  rintro e w' ⟨rfl, rfl⟩
  go_wp2_with fail
  refine (toIntSS_any A0 n0 c0 z0 w2 (ha.below hB2) HS.out).mono ?_
  rintro e w3 ⟨AT, cT, rfl, oT, hb3⟩
  have hs3 := hb3.size
  have hB3 := hB2.trans (hb3.mono hB2.size)
  replace oP := oP.below hb3
  replace oX := oX.below hb3
  go_wp2_with fail
  refine (eqIntSS_yes AX AT n0 cX cT z0 w3 oX.rd oT.rd hn).mono ?_
  rintro e w4 ⟨rfl, hb4⟩
  have hs4 := hb4.size
  have hB4 := hB3.trans (hb4.mono hB3.size)
  replace oP := oP.below hb4
  replace oX := oX.below hb4
  replace oT := oT.below hb4
  go_wp2_with fail
  go_ret
  exact ⟨rfl, hB4⟩

end Go.Proofs.Ytogfnmjedeoecaa
