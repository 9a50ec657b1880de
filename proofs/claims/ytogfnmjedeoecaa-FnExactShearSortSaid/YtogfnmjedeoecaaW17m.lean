/- Chapter 17: the walk of ShearSort. -/
import Derived.Test.YtogfnmjedeoecaaC17m
namespace Go.Proofs.Ytogfnmjedeoecaa
open Go.RowKit Go.Deep
set_option linter.unusedVariables false

set_option maxHeartbeats 4000000 in
theorem lawShearSort (w : World) (A0 : Option Addr) (n0 c0 : Nat) (z0 : List (List Int)) (g0 : RdArgM w A0 n0 c0 z0) :
    Calls Try.prog 11 #[.slice A0 n0 c0] w fun e w' => e = .returned (.bool true) ∧ Below w.heap.size w w' := by
  have ha := g0.1
  have hcap : n0 ≤ maxLen := Nat.le_trans g0.2.1 g0.2.2
  clear g0
  have hB0 : Below w.heap.size w w := Below.refl _ _
  go_enter Try.func11, Try.ntmps11
  go_wp2_with fail
  refine (szIntSS_any A0 n0 c0 z0 w ha hcap).mono ?_
  rintro e w' ⟨r, rfl, hr, rfl⟩
  rcases hr with rfl | ⟨hr0, hsz⟩
  · go_wp2
    go_ret
    exact ⟨rfl, hB0⟩
  have HS := Lib.hid hsz
  have hn : n0 ≤ 1048576 := by omega
  have htot : tot z0 n0 ≤ 1048576 := by omega
  clear hsz
  go_wp2_with fail
  refine (toIntSS_r A0 n0 c0 z0 w (ha.below hB0) HS.out).mono ?_
  rintro e w1 ⟨AP, cP, rfl, oP, hb1⟩
  have hs1 := hb1.size
  have hB1 := hB0.trans (hb1.mono hB0.size)
  go_wp2_with fail
  refine (specShear AP n0 cP z0 w1 oP.rd hn).mono ?_
  rintro e w2 ⟨AW, nW, cW, rfl, oW, hb2⟩
  have hs2 := hb2.size
  have hB2 := hB1.trans (hb2.mono hB1.size)
  replace oP := oP.below hb2
  go_wp2_with fail
  refine (toIntSS_r A0 n0 c0 z0 w2 (ha.below hB2) HS.out).mono ?_
  rintro e w3 ⟨AX, cX, rfl, oX, hb3⟩
  have hs3 := hb3.size
  have hB3 := hB2.trans (hb3.mono hB2.size)
  replace oW := oW.below hb3
  go_wp2_with fail
  refine (implShear AX n0 cX z0 w3 oX.rd hn).mono ?_
  rintro e w4 ⟨AG, nG, cG, rfl, oG, hb4⟩
  have hs4 := hb4.size
  have hB4 := hB3.trans (hb4.mono hB3.size)
  replace oW := oW.below hb4
  replace oX := oX.below hb4
  obtain rfl : nW = nG := by rw [← oW.1, ← oG.1]
  have HT := Lib.hid (show nW + tot (shearV z0) nW ≤ 1048576 by have := shearV_tot z0; rw [oW.1] at this; exact this)
  have hl : nW ≤ 1048576 := by have := HT.out; omega
  have htw : tot (shearV z0) nW ≤ 1048576 := by have := HT.out; omega
  go_wp2_with fail
  refine (eqIntSS_yes AG AW nW cG cW _ w4 oG.rd oW.rd hl).mono ?_
  rintro e w5 ⟨rfl, hb5⟩
  have hs5 := hb5.size
  have hB5 := hB4.trans (hb5.mono hB4.size)
  replace oW := oW.below hb5
  replace oX := oX.below hb5
  replace oG := oG.below hb5
  go_wp2_with fail
  refine (toIntSS_r A0 n0 c0 z0 w5 (ha.below hB5) HS.out).mono ?_
  rintro e w6 ⟨AT, cT, rfl, oT, hb6⟩
  have hs6 := hb6.size
  have hB6 := hB5.trans (hb6.mono hB5.size)
  replace oW := oW.below hb6
  replace oX := oX.below hb6
  replace oG := oG.below hb6
  clear oP
  go_wp2_with fail
  refine (eqIntSS_yes AX AT n0 cX cT z0 w6 oX.rd oT.rd hn).mono ?_
  rintro e w7 ⟨rfl, hb7⟩
  have hs7 := hb7.size
  have hB7 := hB6.trans (hb7.mono hB6.size)
  replace oW := oW.below hb7
  replace oX := oX.below hb7
  replace oG := oG.below hb7
  clear oT
  go_wp2_with fail
  refine (markIntSS_r AX n0 cX w2.heap.size w3.heap.size z0 1 w7 oX HS.out (by omega) (by omega)).mono ?_
  rintro e w8 ⟨rfl, oN, hg8⟩
  have hs8 := hg8.size
  have hB8 := hB7.trans ((hg8.below (Nat.le_refl _) (by omega)).mono (by have := hB2.size; omega))
  replace oW := oW.chg hg8 (by omega)
  replace oG := oG.chg hg8 (by omega)
  clear oN oX
  go_wp2_with fail
  refine (eqIntSS_yes AG AW nW cG cW _ w8 oG.rd oW.rd hl).mono ?_
  rintro e w9 ⟨rfl, hb9⟩
  have hs9 := hb9.size
  have hB9 := hB8.trans (hb9.mono hB8.size)
  replace oW := oW.below hb9
  replace oG := oG.below hb9
  go_wp2_with fail
  refine (markIntSS_r AG nW cG w3.heap.size w4.heap.size (shearV z0) 1 w9 oG HT.out (by omega) (by omega)).mono ?_
  rintro e w10 ⟨rfl, oN, hg10⟩
  have hs10 := hg10.size
  have hB10 := hB9.trans ((hg10.below (Nat.le_refl _) (by omega)).mono (by have := hB3.size; omega))
  replace oW := oW.chg hg10 (by omega)
  have HLG := oG.1
  clear oG
  have oG := oN
  clear oN
  go_wp2_with fail
  refine (heldIntSS_any AG nW cG (shearV z0) (1) w10 HLG oG.rd HT.out (by omega) (by omega)).mono ?_
  rintro e w11 ⟨rfl, hb11⟩
  have hs11 := hb11.size
  have hB11 := hB10.trans (hb11.mono hB10.size)
  replace oW := oW.below hb11
  replace oG := oG.below hb11
  go_wp2_with fail
  refine (toIntSS_r A0 n0 c0 z0 w11 (ha.below hB11) HS.out).mono ?_
  rintro e w12 ⟨AH, cH, rfl, oH, hb12⟩
  have hs12 := hb12.size
  have hB12 := hB11.trans (hb12.mono hB11.size)
  replace oW := oW.below hb12
  replace oG := oG.below hb12
  go_wp2_with fail
  refine (implShear AH n0 cH z0 w12 oH.rd hn).mono ?_
  rintro e w13 ⟨AK, nK, cK, rfl, oK, hb13⟩
  have hs13 := hb13.size
  have hB13 := hB12.trans (hb13.mono hB12.size)
  replace oW := oW.below hb13
  replace oG := oG.below hb13
  obtain rfl : nK = nW := by rw [← oK.1, ← oW.1]
  go_wp2_with fail
  refine (eqIntSS_yes AK AW nK cK cW _ w13 oK.rd oW.rd hl).mono ?_
  rintro e w14 ⟨rfl, hb14⟩
  have hs14 := hb14.size
  have hB14 := hB13.trans (hb14.mono hB13.size)
  replace oW := oW.below hb14
  replace oG := oG.below hb14
  replace oK := oK.below hb14
  go_wp2_with fail
  refine (heldIntSS_any AG nK cG (shearV z0) (1) w14 HLG oG.rd HT.out (by omega) (by omega)).mono ?_
  rintro e w15 ⟨rfl, hb15⟩
  have hs15 := hb15.size
  have hB15 := hB14.trans (hb15.mono hB14.size)
  replace oW := oW.below hb15
  replace oG := oG.below hb15
  replace oK := oK.below hb15
  go_wp2_with fail
  go_ret
  exact ⟨rfl, hB15⟩

end Go.Proofs.Ytogfnmjedeoecaa
