/- Chapter 14: the walks of ApplyFabric and OrderOf. -/
import Derived.Test.YtchmmaokommnaaaC14h
namespace Go.Proofs.Ytchmmaokommnaaa
open Go.RowKit Go.Deep
set_option linter.unusedVariables false

set_option maxHeartbeats 4000000 in
theorem lawApplyFabric (w : World) (x0 : Int) (A1 : Option Addr) (n1 c1 : Nat) (z1 : List Int) (A2 : Option Addr) (n2 c2 : Nat) (z2 : List Int) (_g0 : In64 x0) (g1 : RdArg w A1 n1 c1 z1) (g2 : RdArg w A2 n2 c2 z2) :
    Calls Try.prog 7 #[.int .i64 x0, .slice A1 n1 c1, .slice A2 n2 c2] w fun e w' => e = .returned (.bool true) ∧ Below w.heap.size w w' := by
  have ha1 := g1.1
  have ha2 := g2.1
  by_cases hn1 : 1048576 < n1
  · go_enter Try.func7, Try.ntmps7
    go_wp2
    go_ret
    exact ⟨rfl, by first | exact Below.refl _ _ | exact below_alloc w _⟩
  replace hn1 : n1 ≤ 1048576 := by omega
  by_cases hn2 : 1048576 < n2
  · go_enter Try.func7, Try.ntmps7
    go_wp2
    go_ret
    exact ⟨rfl, by first | exact Below.refl _ _ | exact below_alloc w _⟩
  replace hn2 : n2 ≤ 1048576 := by omega
  clear g1
  clear g2
  have hB0 : Below w.heap.size w w := Below.refl _ _
  go_enter Try.func7, Try.ntmps7
  go_wp2_with fail
  refine (toIntS_any A1 n1 c1 z1 w (ha1.below hB0) hn1).mono ?_
  rintro e w1 ⟨AP1, cP1, rfl, oP1, hb1⟩
  have hs1 := hb1.size
  have hB1 := hB0.trans (hb1.mono hB0.size)
  have iP1 := oP1.blk_
  go_wp2_with fail
  refine (toIntS_any A2 n2 c2 z2 w1 (ha2.below hB1) hn2).mono ?_
  rintro e w2 ⟨AP2, cP2, rfl, oP2, hb2⟩
  have hs2 := hb2.size
  have hB2 := hB1.trans (hb2.mono hB1.size)
  replace oP1 := oP1.below hb2
  have iP2 := oP2.blk_
  go_wp2_with fail
  refine (specApply x0 AP1 n1 cP1 z1 AP2 n2 cP2 z2 w2 oP1.rd hn1 oP1.cap oP2.rd hn2 oP2.cap ).mono ?_
  rintro e w3 ⟨AW0, nW0, cW0, rfl, oW0, hb3⟩
  have hs3 := hb3.size
  have hB3 := hB2.trans (hb3.mono hB2.size)
  replace oP1 := oP1.below hb3
  replace oP2 := oP2.below hb3
  have iW0 := oW0.blk_
  clear oP1
  clear oP2
  go_wp2_with fail
  refine (toIntS_any A1 n1 c1 z1 w3 (ha1.below hB3) hn1).mono ?_
  rintro e w4 ⟨AX1, cX1, rfl, oX1, hb4⟩
  have hs4 := hb4.size
  have hB4 := hB3.trans (hb4.mono hB3.size)
  replace oW0 := oW0.below hb4
  have iX1 := oX1.blk_
  go_wp2_with fail
  refine (toIntS_any A2 n2 c2 z2 w4 (ha2.below hB4) hn2).mono ?_
  rintro e w5 ⟨AX2, cX2, rfl, oX2, hb5⟩
  have hs5 := hb5.size
  have hB5 := hB4.trans (hb5.mono hB4.size)
  replace oW0 := oW0.below hb5
  replace oX1 := oX1.below hb5
  have iX2 := oX2.blk_
  go_wp2_with fail
  refine (implApply x0 AX1 n1 cX1 z1 AX2 n2 cX2 z2 w5 oX1.rd hn1 oX1.cap oX2.rd hn2 oX2.cap ).mono ?_
  rintro e w6 ⟨AG0, nG0, cG0, rfl, oG0, hb6⟩
  have hs6 := hb6.size
  have hB6 := hB5.trans (hb6.mono hB5.size)
  replace oW0 := oW0.below hb6
  replace oX1 := oX1.below hb6
  replace oX2 := oX2.below hb6
  have iG0 := oG0.blk_
  obtain rfl : nW0 = nG0 := by rw [← oW0.lenI, ← oG0.lenI]
  have hl0 : nW0 ≤ 1048576 := by rw [← oW0.lenI]; exact appV_le _ _ _
  go_wp2_with fail
  refine (eqIntS_yes AG0 AW0 nW0 cG0 cW0 _ w6 oG0.rd oW0.rd (by unfold maxLen; omega)).mono ?_
  rintro e w7 ⟨rfl, hb7⟩
  have hs7 := hb7.size
  have hB7 := hB6.trans (hb7.mono hB6.size)
  replace oW0 := oW0.below hb7
  replace oX1 := oX1.below hb7
  replace oX2 := oX2.below hb7
  replace oG0 := oG0.below hb7
  go_wp2_with fail
  refine (toIntS_any A1 n1 c1 z1 w7 (ha1.below hB7) hn1).mono ?_
  rintro e w8 ⟨AT1, cT1, rfl, oT1, hb8⟩
  have hs8 := hb8.size
  have hB8 := hB7.trans (hb8.mono hB7.size)
  replace oW0 := oW0.below hb8
  replace oX1 := oX1.below hb8
  replace oX2 := oX2.below hb8
  replace oG0 := oG0.below hb8
  have iT1 := oT1.blk_
  go_wp2_with fail
  refine (eqIntS_yes AX1 AT1 n1 cX1 cT1 _ w8 oX1.rd oT1.rd (by unfold maxLen; omega)).mono ?_
  rintro e w9 ⟨rfl, hb9⟩
  have hs9 := hb9.size
  have hB9 := hB8.trans (hb9.mono hB8.size)
  replace oW0 := oW0.below hb9
  replace oX1 := oX1.below hb9
  replace oX2 := oX2.below hb9
  replace oG0 := oG0.below hb9
  replace oT1 := oT1.below hb9
  clear oT1
  go_wp2_with fail
  refine (toIntS_any A2 n2 c2 z2 w9 (ha2.below hB9) hn2).mono ?_
  rintro e w10 ⟨AT2, cT2, rfl, oT2, hb10⟩
  have hs10 := hb10.size
  have hB10 := hB9.trans (hb10.mono hB9.size)
  replace oW0 := oW0.below hb10
  replace oX1 := oX1.below hb10
  replace oX2 := oX2.below hb10
  replace oG0 := oG0.below hb10
  have iT2 := oT2.blk_
  go_wp2_with fail
  refine (eqIntS_yes AX2 AT2 n2 cX2 cT2 _ w10 oX2.rd oT2.rd (by unfold maxLen; omega)).mono ?_
  rintro e w11 ⟨rfl, hb11⟩
  have hs11 := hb11.size
  have hB11 := hB10.trans (hb11.mono hB10.size)
  replace oW0 := oW0.below hb11
  replace oX1 := oX1.below hb11
  replace oX2 := oX2.below hb11
  replace oG0 := oG0.below hb11
  replace oT2 := oT2.below hb11
  clear oT2
  go_wp2_with fail
  refine (markIntS_any AX1 n1 cX1 _ _ (1) w11 oX1 (by omega) (by omega) (by omega)).mono ?_
  rintro e w12 ⟨rfl, oN, hg12⟩
  have hs12 := hg12.size
  have hB12 := below_of_grown hB11 hg12 hB11.size (fun g e => by have := iX1 g e; omega)
  replace oW0 := oW0.kept hg12 (fun g e1 e2 => by have := iW0 g e1; have := iX1 g e2.symm; omega)
  replace oX2 := oX2.kept hg12 (fun g e1 e2 => by have := iX2 g e1; have := iX1 g e2.symm; omega)
  replace oG0 := oG0.kept hg12 (fun g e1 e2 => by have := iG0 g e1; have := iX1 g e2.symm; omega)
  clear oN oX1
  go_wp2_with fail
  refine (markIntS_any AX2 n2 cX2 _ _ (1 + (n1 : Int)) w12 oX2 (by omega) (by omega) (by omega)).mono ?_
  rintro e w13 ⟨rfl, oN, hg13⟩
  have hs13 := hg13.size
  have hB13 := below_of_grown hB12 hg13 hB12.size (fun g e => by have := iX2 g e; omega)
  replace oW0 := oW0.kept hg13 (fun g e1 e2 => by have := iW0 g e1; have := iX2 g e2.symm; omega)
  replace oG0 := oG0.kept hg13 (fun g e1 e2 => by have := iG0 g e1; have := iX2 g e2.symm; omega)
  clear oN oX2
  go_wp2_with fail
  refine (eqIntS_yes AG0 AW0 nW0 cG0 cW0 _ w13 oG0.rd oW0.rd (by unfold maxLen; omega)).mono ?_
  rintro e w14 ⟨rfl, hb14⟩
  have hs14 := hb14.size
  have hB14 := hB13.trans (hb14.mono hB13.size)
  replace oW0 := oW0.below hb14
  replace oG0 := oG0.below hb14
  go_wp2_with fail
  refine (markIntS_any AG0 nW0 cG0 _ _ (1) w14 oG0 (by omega) (by omega) (by omega)).mono ?_
  rintro e w15 ⟨rfl, oN, hg15⟩
  have hs15 := hg15.size
  have hB15 := below_of_grown hB14 hg15 hB14.size (fun g e => by have := iG0 g e; omega)
  replace oW0 := oW0.kept hg15 (fun g e1 e2 => by have := iW0 g e1; have := iG0 g e2.symm; omega)
  clear oG0
  have oG0 := oN
  clear oN
  go_wp2_with fail
  refine (heldIntS_any AG0 nW0 cG0 (1) w15 oG0.rd (by omega) (by omega) (by omega)).mono ?_
  rintro e w16 ⟨rfl, hb16⟩
  have hs16 := hb16.size
  have hB16 := hB15.trans (hb16.mono hB15.size)
  replace oW0 := oW0.below hb16
  replace oG0 := oG0.below hb16
  go_wp2_with fail
  refine (toIntS_any A1 n1 c1 z1 w16 (ha1.below hB16) hn1).mono ?_
  rintro e w17 ⟨AH1, cH1, rfl, oH1, hb17⟩
  have hs17 := hb17.size
  have hB17 := hB16.trans (hb17.mono hB16.size)
  replace oW0 := oW0.below hb17
  replace oG0 := oG0.below hb17
  have iH1 := oH1.blk_
  go_wp2_with fail
  refine (toIntS_any A2 n2 c2 z2 w17 (ha2.below hB17) hn2).mono ?_
  rintro e w18 ⟨AH2, cH2, rfl, oH2, hb18⟩
  have hs18 := hb18.size
  have hB18 := hB17.trans (hb18.mono hB17.size)
  replace oW0 := oW0.below hb18
  replace oG0 := oG0.below hb18
  replace oH1 := oH1.below hb18
  have iH2 := oH2.blk_
  go_wp2_with fail
  refine (implApply x0 AH1 n1 cH1 z1 AH2 n2 cH2 z2 w18 oH1.rd hn1 oH1.cap oH2.rd hn2 oH2.cap ).mono ?_
  rintro e w19 ⟨AK0, nK0, cK0, rfl, oK0, hb19⟩
  have hs19 := hb19.size
  have hB19 := hB18.trans (hb19.mono hB18.size)
  replace oW0 := oW0.below hb19
  replace oG0 := oG0.below hb19
  replace oH1 := oH1.below hb19
  replace oH2 := oH2.below hb19
  have iK0 := oK0.blk_
  clear oH1
  clear oH2
  obtain rfl : nK0 = nW0 := by rw [← oK0.lenI, ← oW0.lenI]
  go_wp2_with fail
  refine (eqIntS_yes AK0 AW0 nK0 cK0 cW0 _ w19 oK0.rd oW0.rd (by unfold maxLen; omega)).mono ?_
  rintro e w20 ⟨rfl, hb20⟩
  have hs20 := hb20.size
  have hB20 := hB19.trans (hb20.mono hB19.size)
  replace oW0 := oW0.below hb20
  replace oG0 := oG0.below hb20
  replace oK0 := oK0.below hb20
  go_wp2_with fail
  refine (heldIntS_any AG0 nK0 cG0 (1) w20 oG0.rd (by omega) (by omega) (by omega)).mono ?_
  rintro e w21 ⟨rfl, hb21⟩
  have hs21 := hb21.size
  have hB21 := hB20.trans (hb21.mono hB20.size)
  replace oW0 := oW0.below hb21
  replace oG0 := oG0.below hb21
  replace oK0 := oK0.below hb21
  go_wp2_with fail
  go_ret
  exact ⟨rfl, hB21⟩

set_option maxHeartbeats 4000000 in
theorem lawOrderOf (w : World) (x0 : Int) (A1 : Option Addr) (n1 c1 : Nat) (z1 : List Int) (_g0 : In64 x0) (g1 : RdArg w A1 n1 c1 z1) :
    Calls Try.prog 8 #[.int .i64 x0, .slice A1 n1 c1] w fun e w' => e = .returned (.bool true) ∧ Below w.heap.size w w' := by
  have ha1 := g1.1
  by_cases hn1 : 1048576 < n1
  · go_enter Try.func8, Try.ntmps8
    go_wp2
    go_ret
    exact ⟨rfl, by first | exact Below.refl _ _ | exact below_alloc w _⟩
  replace hn1 : n1 ≤ 1048576 := by omega
  clear g1
  have hB0 : Below w.heap.size w w := Below.refl _ _
  go_enter Try.func8, Try.ntmps8
  go_wp2_with fail
  refine (toIntS_any A1 n1 c1 z1 w (ha1.below hB0) hn1).mono ?_
  rintro e w1 ⟨AP1, cP1, rfl, oP1, hb1⟩
  have hs1 := hb1.size
  have hB1 := hB0.trans (hb1.mono hB0.size)
  have iP1 := oP1.blk_
  go_wp2_with fail
  refine (specOrderOf x0 AP1 n1 cP1 z1 w1 oP1.rd hn1 oP1.cap ).mono ?_
  rintro e w2 ⟨AW0, nW0, cW0, rfl, oW0, hb2⟩
  have hs2 := hb2.size
  have hB2 := hB1.trans (hb2.mono hB1.size)
  replace oP1 := oP1.below hb2
  have iW0 := oW0.blk_
  clear oP1
  go_wp2_with fail
  refine (toIntS_any A1 n1 c1 z1 w2 (ha1.below hB2) hn1).mono ?_
  rintro e w3 ⟨AX1, cX1, rfl, oX1, hb3⟩
  have hs3 := hb3.size
  have hB3 := hB2.trans (hb3.mono hB2.size)
  replace oW0 := oW0.below hb3
  have iX1 := oX1.blk_
  go_wp2_with fail
  refine (implOrderOf x0 AX1 n1 cX1 z1 w3 oX1.rd hn1 oX1.cap ).mono ?_
  rintro e w4 ⟨AG0, nG0, cG0, rfl, oG0, hb4⟩
  have hs4 := hb4.size
  have hB4 := hB3.trans (hb4.mono hB3.size)
  replace oW0 := oW0.below hb4
  replace oX1 := oX1.below hb4
  have iG0 := oG0.blk_
  obtain rfl : nW0 = nG0 := by rw [← oW0.lenI, ← oG0.lenI]
  have hl0 : nW0 ≤ 1048576 := by rw [← oW0.lenI]; exact ofV_le _ _
  go_wp2_with fail
  refine (eqIntS_yes AG0 AW0 nW0 cG0 cW0 _ w4 oG0.rd oW0.rd (by unfold maxLen; omega)).mono ?_
  rintro e w5 ⟨rfl, hb5⟩
  have hs5 := hb5.size
  have hB5 := hB4.trans (hb5.mono hB4.size)
  replace oW0 := oW0.below hb5
  replace oX1 := oX1.below hb5
  replace oG0 := oG0.below hb5
  go_wp2_with fail
  refine (toIntS_any A1 n1 c1 z1 w5 (ha1.below hB5) hn1).mono ?_
  rintro e w6 ⟨AT1, cT1, rfl, oT1, hb6⟩
  have hs6 := hb6.size
  have hB6 := hB5.trans (hb6.mono hB5.size)
  replace oW0 := oW0.below hb6
  replace oX1 := oX1.below hb6
  replace oG0 := oG0.below hb6
  have iT1 := oT1.blk_
  go_wp2_with fail
  refine (eqIntS_yes AX1 AT1 n1 cX1 cT1 _ w6 oX1.rd oT1.rd (by unfold maxLen; omega)).mono ?_
  rintro e w7 ⟨rfl, hb7⟩
  have hs7 := hb7.size
  have hB7 := hB6.trans (hb7.mono hB6.size)
  replace oW0 := oW0.below hb7
  replace oX1 := oX1.below hb7
  replace oG0 := oG0.below hb7
  replace oT1 := oT1.below hb7
  clear oT1
  go_wp2_with fail
  refine (markIntS_any AX1 n1 cX1 _ _ (1) w7 oX1 (by omega) (by omega) (by omega)).mono ?_
  rintro e w8 ⟨rfl, oN, hg8⟩
  have hs8 := hg8.size
  have hB8 := below_of_grown hB7 hg8 hB7.size (fun g e => by have := iX1 g e; omega)
  replace oW0 := oW0.kept hg8 (fun g e1 e2 => by have := iW0 g e1; have := iX1 g e2.symm; omega)
  replace oG0 := oG0.kept hg8 (fun g e1 e2 => by have := iG0 g e1; have := iX1 g e2.symm; omega)
  clear oN oX1
  go_wp2_with fail
  refine (eqIntS_yes AG0 AW0 nW0 cG0 cW0 _ w8 oG0.rd oW0.rd (by unfold maxLen; omega)).mono ?_
  rintro e w9 ⟨rfl, hb9⟩
  have hs9 := hb9.size
  have hB9 := hB8.trans (hb9.mono hB8.size)
  replace oW0 := oW0.below hb9
  replace oG0 := oG0.below hb9
  go_wp2_with fail
  refine (markIntS_any AG0 nW0 cG0 _ _ (1) w9 oG0 (by omega) (by omega) (by omega)).mono ?_
  rintro e w10 ⟨rfl, oN, hg10⟩
  have hs10 := hg10.size
  have hB10 := below_of_grown hB9 hg10 hB9.size (fun g e => by have := iG0 g e; omega)
  replace oW0 := oW0.kept hg10 (fun g e1 e2 => by have := iW0 g e1; have := iG0 g e2.symm; omega)
  clear oG0
  have oG0 := oN
  clear oN
  go_wp2_with fail
  refine (heldIntS_any AG0 nW0 cG0 (1) w10 oG0.rd (by omega) (by omega) (by omega)).mono ?_
  rintro e w11 ⟨rfl, hb11⟩
  have hs11 := hb11.size
  have hB11 := hB10.trans (hb11.mono hB10.size)
  replace oW0 := oW0.below hb11
  replace oG0 := oG0.below hb11
  go_wp2_with fail
  refine (toIntS_any A1 n1 c1 z1 w11 (ha1.below hB11) hn1).mono ?_
  rintro e w12 ⟨AH1, cH1, rfl, oH1, hb12⟩
  have hs12 := hb12.size
  have hB12 := hB11.trans (hb12.mono hB11.size)
  replace oW0 := oW0.below hb12
  replace oG0 := oG0.below hb12
  have iH1 := oH1.blk_
  go_wp2_with fail
  refine (implOrderOf x0 AH1 n1 cH1 z1 w12 oH1.rd hn1 oH1.cap ).mono ?_
  rintro e w13 ⟨AK0, nK0, cK0, rfl, oK0, hb13⟩
  have hs13 := hb13.size
  have hB13 := hB12.trans (hb13.mono hB12.size)
  replace oW0 := oW0.below hb13
  replace oG0 := oG0.below hb13
  replace oH1 := oH1.below hb13
  have iK0 := oK0.blk_
  clear oH1
  obtain rfl : nK0 = nW0 := by rw [← oK0.lenI, ← oW0.lenI]
  go_wp2_with fail
  refine (eqIntS_yes AK0 AW0 nK0 cK0 cW0 _ w13 oK0.rd oW0.rd (by unfold maxLen; omega)).mono ?_
  rintro e w14 ⟨rfl, hb14⟩
  have hs14 := hb14.size
  have hB14 := hB13.trans (hb14.mono hB13.size)
  replace oW0 := oW0.below hb14
  replace oG0 := oG0.below hb14
  replace oK0 := oK0.below hb14
  go_wp2_with fail
  refine (heldIntS_any AG0 nK0 cG0 (1) w14 oG0.rd (by omega) (by omega) (by omega)).mono ?_
  rintro e w15 ⟨rfl, hb15⟩
  have hs15 := hb15.size
  have hB15 := hB14.trans (hb15.mono hB14.size)
  replace oW0 := oW0.below hb15
  replace oG0 := oG0.below hb15
  replace oK0 := oK0.below hb15
  go_wp2_with fail
  go_ret
  exact ⟨rfl, hB15⟩

end Go.Proofs.Ytchmmaokommnaaa
