/- Chapter 14: the walk of SettingsFor. -/
import Derived.Test.YtchmmaokommnaaaC14q
namespace Go.Proofs.Ytchmmaokommnaaa
open Go.RowKit Go.Deep
set_option linter.unusedVariables false

set_option maxHeartbeats 4000000 in
theorem lawSettingsFor (w : World) (A0 : Option Addr) (n0 c0 : Nat) (z0 : List Int) (g0 : RdArg w A0 n0 c0 z0) :
    Calls Try.prog 9 #[.slice A0 n0 c0] w fun e w' => e = .returned (.bool true) ∧ Below w.heap.size w w' := by
  have ha0 := g0.1
  by_cases hn0 : 1048576 < n0
  · go_enter Try.func9, Try.ntmps9
    go_wp2
    go_ret
    exact ⟨rfl, by first | exact Below.refl _ _ | exact below_alloc w _⟩
  replace hn0 : n0 ≤ 1048576 := by omega
  clear g0
  have hB0 : Below w.heap.size w w := Below.refl _ _
  go_enter Try.func9, Try.ntmps9
  go_wp2_with fail
  refine (toIntS_any A0 n0 c0 z0 w (ha0.below hB0) hn0).mono ?_
  rintro e w1 ⟨AP0, cP0, rfl, oP0, hb1⟩
  have hs1 := hb1.size
  have hB1 := hB0.trans (hb1.mono hB0.size)
  have iP0 := oP0.blk_
  go_wp2_with fail
  refine (specSettingsFor AP0 n0 cP0 z0 w1 oP0.rd hn0 ).mono ?_
  rintro e w2 ⟨AW0, nW0, cW0, rfl, oW0, hb2⟩
  have hs2 := hb2.size
  have hB2 := hB1.trans (hb2.mono hB1.size)
  replace oP0 := oP0.below hb2
  have iW0 := oW0.blk_
  clear oP0
  go_wp2_with fail
  refine (toIntS_any A0 n0 c0 z0 w2 (ha0.below hB2) hn0).mono ?_
  rintro e w3 ⟨AX0, cX0, rfl, oX0, hb3⟩
  have hs3 := hb3.size
  have hB3 := hB2.trans (hb3.mono hB2.size)
  replace oW0 := oW0.below hb3
  have iX0 := oX0.blk_
  go_wp2_with fail
  refine (implSettingsFor AX0 n0 cX0 z0 w3 oX0.rd hn0 ).mono ?_
  rintro e w4 ⟨AG0, nG0, cG0, rfl, oG0, hb4⟩
  have hs4 := hb4.size
  have hB4 := hB3.trans (hb4.mono hB3.size)
  replace oW0 := oW0.below hb4
  replace oX0 := oX0.below hb4
  have iG0 := oG0.blk_
  obtain rfl : nW0 = nG0 := by rw [← oW0.lenI, ← oG0.lenI]
  have hl0 : nW0 ≤ 1048576 := by rw [← oW0.lenI]; exact sfOut_le
  go_wp2_with fail
  refine (eqIntS_yes AG0 AW0 nW0 cG0 cW0 _ w4 oG0.rd oW0.rd (by unfold maxLen; omega)).mono ?_
  rintro e w5 ⟨rfl, hb5⟩
  have hs5 := hb5.size
  have hB5 := hB4.trans (hb5.mono hB4.size)
  replace oW0 := oW0.below hb5
  replace oX0 := oX0.below hb5
  replace oG0 := oG0.below hb5
  go_wp2_with fail
  refine (toIntS_any A0 n0 c0 z0 w5 (ha0.below hB5) hn0).mono ?_
  rintro e w6 ⟨AT0, cT0, rfl, oT0, hb6⟩
  have hs6 := hb6.size
  have hB6 := hB5.trans (hb6.mono hB5.size)
  replace oW0 := oW0.below hb6
  replace oX0 := oX0.below hb6
  replace oG0 := oG0.below hb6
  have iT0 := oT0.blk_
  go_wp2_with fail
  refine (eqIntS_yes AX0 AT0 n0 cX0 cT0 _ w6 oX0.rd oT0.rd (by unfold maxLen; omega)).mono ?_
  rintro e w7 ⟨rfl, hb7⟩
  have hs7 := hb7.size
  have hB7 := hB6.trans (hb7.mono hB6.size)
  replace oW0 := oW0.below hb7
  replace oX0 := oX0.below hb7
  replace oG0 := oG0.below hb7
  replace oT0 := oT0.below hb7
  clear oT0
  go_wp2_with fail
  refine (markIntS_any AX0 n0 cX0 _ _ (1) w7 oX0 (by omega) (by omega) (by omega)).mono ?_
  rintro e w8 ⟨rfl, oN, hg8⟩
  have hs8 := hg8.size
  have hB8 := below_of_grown hB7 hg8 hB7.size (fun g e => by have := iX0 g e; omega)
  replace oW0 := oW0.kept hg8 (fun g e1 e2 => by have := iW0 g e1; have := iX0 g e2.symm; omega)
  replace oG0 := oG0.kept hg8 (fun g e1 e2 => by have := iG0 g e1; have := iX0 g e2.symm; omega)
  clear oN oX0
  go_wp2_with fail
  refine (eqIntS_yes AG0 AW0 nW0 cG0 cW0 _ w8 oG0.rd oW0.rd (by unfold maxLen; omega)).mono ?_
  rintro e w9 ⟨rfl, hb9⟩
  have hs9 := hb9.size
  have hB9 := hB8.trans (hb9.mono hB8.size)
  replace oW0 := oW0.below hb9
  replace oG0 := oG0.below hb9
  go_wp2_with fail
  refine (markIntS_any AG0 nW0 cG0 _ _ (1) w9 oG0 (by omega) (by omega) (by omega)).mono ?_
  rintro e w10 ⟨rfl, oN, hg10⟩
  have hs10 := hg10.size
  have hB10 := below_of_grown hB9 hg10 hB9.size (fun g e => by have := iG0 g e; omega)
  replace oW0 := oW0.kept hg10 (fun g e1 e2 => by have := iW0 g e1; have := iG0 g e2.symm; omega)
  clear oG0
  have oG0 := oN
  clear oN
  go_wp2_with fail
  refine (heldIntS_any AG0 nW0 cG0 (1) w10 oG0.rd (by omega) (by omega) (by omega)).mono ?_
  rintro e w11 ⟨rfl, hb11⟩
  have hs11 := hb11.size
  have hB11 := hB10.trans (hb11.mono hB10.size)
  replace oW0 := oW0.below hb11
  replace oG0 := oG0.below hb11
  go_wp2_with fail
  refine (toIntS_any A0 n0 c0 z0 w11 (ha0.below hB11) hn0).mono ?_
  rintro e w12 ⟨AH0, cH0, rfl, oH0, hb12⟩
  have hs12 := hb12.size
  have hB12 := hB11.trans (hb12.mono hB11.size)
  replace oW0 := oW0.below hb12
  replace oG0 := oG0.below hb12
  have iH0 := oH0.blk_
  go_wp2_with fail
  refine (implSettingsFor AH0 n0 cH0 z0 w12 oH0.rd hn0 ).mono ?_
  rintro e w13 ⟨AK0, nK0, cK0, rfl, oK0, hb13⟩
  have hs13 := hb13.size
  have hB13 := hB12.trans (hb13.mono hB12.size)
  replace oW0 := oW0.below hb13
  replace oG0 := oG0.below hb13
  replace oH0 := oH0.below hb13
  have iK0 := oK0.blk_
  clear oH0
  obtain rfl : nK0 = nW0 := by rw [← oK0.lenI, ← oW0.lenI]
  go_wp2_with fail
  refine (eqIntS_yes AK0 AW0 nK0 cK0 cW0 _ w13 oK0.rd oW0.rd (by unfold maxLen; omega)).mono ?_
  rintro e w14 ⟨rfl, hb14⟩
  have hs14 := hb14.size
  have hB14 := hB13.trans (hb14.mono hB13.size)
  replace oW0 := oW0.below hb14
  replace oG0 := oG0.below hb14
  replace oK0 := oK0.below hb14
  go_wp2_with fail
  refine (heldIntS_any AG0 nK0 cG0 (1) w14 oG0.rd (by omega) (by omega) (by omega)).mono ?_
  rintro e w15 ⟨rfl, hb15⟩
  have hs15 := hb15.size
  have hB15 := hB14.trans (hb15.mono hB14.size)
  replace oW0 := oW0.below hb15
  replace oG0 := oG0.below hb15
  replace oK0 := oK0.below hb15
  go_wp2_with fail
  go_ret
  exact ⟨rfl, hB15⟩

end Go.Proofs.Ytchmmaokommnaaa
