/- Chapter 15: the walk of RunStages. -/
import Derived.Test.YtaeabpmpfadkjaaC15h
import Derived.Test.YtaeabpmpfadkjaaMat3
namespace Go.Proofs.Ytaeabpmpfadkjaa
open Go.RowKit Go.Deep
set_option linter.unusedVariables false

set_option maxHeartbeats 4000000 in
theorem lawRunStages (w : World) (x0 : Int) (A1 : Option Addr) (n1 c1 : Nat) (z1 : List (List Int)) (_g0 : In64 x0) (g1 : RdArgM w A1 n1 c1 z1) :
    Calls Try.prog 10 #[.int .i64 x0, .slice A1 n1 c1] w fun e w' => e = .returned (.bool true) ∧ Below w.heap.size w w' := by
  have ha1 := g1.1
  have hcap1 : n1 ≤ maxLen := Nat.le_trans g1.2.1 g1.2.2
  clear g1
  have hB0 : Below w.heap.size w w := Below.refl _ _
  go_enter Try.func10, Try.ntmps10
  go_wp2_with fail
  refine (szIntSS_any A1 n1 c1 z1 _ (by first | exact ha1 | exact ha1.below (below_alloc _ _)) hcap1).mono ?_
  rintro e w' ⟨r1, rfl, hr1, rfl⟩
  rcases hr1 with rfl | ⟨hr1, hsz1⟩
  · go_wp2
    go_ret
    exact ⟨rfl, hB0⟩
  have HS1 := Lib.hid hsz1
  have hn1 : n1 ≤ 1048576 := by omega
  have htot1 : tot z1 n1 ≤ 1048576 := by omega
  clear hsz1
  go_wp2_with fail
  refine (toIntSS_r A1 n1 c1 z1 w (ha1.below hB0) HS1.out).mono ?_
  rintro e w1 ⟨AP1, cP1, rfl, oP1, hb1⟩
  have hs1 := hb1.size
  have hB1 := hB0.trans (hb1.mono hB0.size)
  go_wp2_with fail
  refine (specRunStages x0 AP1 n1 cP1 z1 w1 oP1.rd hn1 (rows_le HS1.out) ).mono ?_
  rintro e w2 ⟨AW0, nW0, cW0, rfl, oW0, hb2⟩
  have hs2 := hb2.size
  have hB2 := hB1.trans (hb2.mono hB1.size)
  replace oP1 := oP1.below hb2
  have iW0 := oW0.blk_
  clear oP1
  go_wp2_with fail
  refine (toIntSS_r A1 n1 c1 z1 w2 (ha1.below hB2) HS1.out).mono ?_
  rintro e w3 ⟨AX1, cX1, rfl, oX1, hb3⟩
  have hs3 := hb3.size
  have hB3 := hB2.trans (hb3.mono hB2.size)
  replace oW0 := oW0.below hb3
  go_wp2_with fail
  refine (implRunStages x0 AX1 n1 cX1 z1 w3 oX1.rd hn1 (rows_le HS1.out) ).mono ?_
  rintro e w4 ⟨AG0, nG0, cG0, rfl, oG0, hb4⟩
  have hs4 := hb4.size
  have hB4 := hB3.trans (hb4.mono hB3.size)
  replace oW0 := oW0.below hb4
  replace oX1 := oX1.below hb4
  have iG0 := oG0.blk_
  obtain rfl : nW0 = nG0 := by rw [← oW0.lenI, ← oG0.lenI]
  have hl0 : nW0 ≤ 1048576 := by rw [← oW0.lenI]; exact runV_le _ _
  go_wp2_with fail
  refine (eqIntS_yes AG0 AW0 nW0 cG0 cW0 _ w4 oG0.rd oW0.rd (by unfold maxLen; omega)).mono ?_
  rintro e w5 ⟨rfl, hb5⟩
  have hs5 := hb5.size
  have hB5 := hB4.trans (hb5.mono hB4.size)
  replace oW0 := oW0.below hb5
  replace oX1 := oX1.below hb5
  replace oG0 := oG0.below hb5
  go_wp2_with fail
  refine (toIntSS_r A1 n1 c1 z1 w5 (ha1.below hB5) HS1.out).mono ?_
  rintro e w6 ⟨AT1, cT1, rfl, oT1, hb6⟩
  have hs6 := hb6.size
  have hB6 := hB5.trans (hb6.mono hB5.size)
  replace oW0 := oW0.below hb6
  replace oX1 := oX1.below hb6
  replace oG0 := oG0.below hb6
  go_wp2_with fail
  refine (eqIntSS_yes AX1 AT1 n1 cX1 cT1 _ w6 oX1.rd oT1.rd hn1).mono ?_
  rintro e w7 ⟨rfl, hb7⟩
  have hs7 := hb7.size
  have hB7 := hB6.trans (hb7.mono hB6.size)
  replace oW0 := oW0.below hb7
  replace oX1 := oX1.below hb7
  replace oG0 := oG0.below hb7
  replace oT1 := oT1.below hb7
  clear oT1
  go_wp2_with fail
  refine (markIntSS_r AX1 n1 cX1 w2.heap.size w3.heap.size z1 (1) w7 oX1 HS1.out (by omega) (by omega)).mono ?_
  rintro e w8 ⟨rfl, oN, hg8⟩
  have hs8 := hg8.size
  have hB8 := hB7.trans ((hg8.below (Nat.le_refl _) (by omega)).mono (by have := hB2.size; omega))
  replace oW0 := oW0.chg hg8 (fun g e => by have := iW0 g e; omega)
  replace oG0 := oG0.chg hg8 (fun g e => by have := iG0 g e; omega)
  clear oN oX1
  go_wp2_with fail
  refine (eqIntS_yes AG0 AW0 nW0 cG0 cW0 _ w8 oG0.rd oW0.rd (by unfold maxLen; omega)).mono ?_
  rintro e w9 ⟨rfl, hb9⟩
  have hs9 := hb9.size
  have hB9 := hB8.trans (hb9.mono hB8.size)
  replace oW0 := oW0.below hb9
  replace oG0 := oG0.below hb9
  go_wp2_with fail
  refine (markIntS_any AG0 nW0 cG0 _ _ (1) w9 oG0 (by omega) (by omega) (by omega)).mono ?_
  rintro e w10 ⟨rfl, oN, hg10⟩
  have hs10 := hg10.size
  have hB10 := below_of_grown hB9 hg10 hB9.size (fun g e => by have := iG0 g e; omega)
  replace oW0 := oW0.kept hg10 (fun g e1 e2 => by have := iW0 g e1; have := iG0 g e2.symm; omega)
  clear oG0
  have oG0 := oN
  clear oN
  go_wp2_with fail
  refine (heldIntS_any AG0 nW0 cG0 (1) w10 oG0.rd (by omega) (by omega) (by omega)).mono ?_
  rintro e w11 ⟨rfl, hb11⟩
  have hs11 := hb11.size
  have hB11 := hB10.trans (hb11.mono hB10.size)
  replace oW0 := oW0.below hb11
  replace oG0 := oG0.below hb11
  go_wp2_with fail
  refine (toIntSS_r A1 n1 c1 z1 w11 (ha1.below hB11) HS1.out).mono ?_
  rintro e w12 ⟨AH1, cH1, rfl, oH1, hb12⟩
  have hs12 := hb12.size
  have hB12 := hB11.trans (hb12.mono hB11.size)
  replace oW0 := oW0.below hb12
  replace oG0 := oG0.below hb12
  go_wp2_with fail
  refine (implRunStages x0 AH1 n1 cH1 z1 w12 oH1.rd hn1 (rows_le HS1.out) ).mono ?_
  rintro e w13 ⟨AK0, nK0, cK0, rfl, oK0, hb13⟩
  have hs13 := hb13.size
  have hB13 := hB12.trans (hb13.mono hB12.size)
  replace oW0 := oW0.below hb13
  replace oG0 := oG0.below hb13
  replace oH1 := oH1.below hb13
  have iK0 := oK0.blk_
  clear oH1
  obtain rfl : nK0 = nW0 := by rw [← oK0.lenI, ← oW0.lenI]
  go_wp2_with fail
  refine (eqIntS_yes AK0 AW0 nK0 cK0 cW0 _ w13 oK0.rd oW0.rd (by unfold maxLen; omega)).mono ?_
  rintro e w14 ⟨rfl, hb14⟩
  have hs14 := hb14.size
  have hB14 := hB13.trans (hb14.mono hB13.size)
  replace oW0 := oW0.below hb14
  replace oG0 := oG0.below hb14
  replace oK0 := oK0.below hb14
  go_wp2_with fail
  refine (heldIntS_any AG0 nK0 cG0 (1) w14 oG0.rd (by omega) (by omega) (by omega)).mono ?_
  rintro e w15 ⟨rfl, hb15⟩
  have hs15 := hb15.size
  have hB15 := hB14.trans (hb15.mono hB14.size)
  replace oW0 := oW0.below hb15
  replace oG0 := oG0.below hb15
  replace oK0 := oK0.below hb15
  go_wp2_with fail
  go_ret
  exact ⟨rfl, hB15⟩

end Go.Proofs.Ytaeabpmpfadkjaa
