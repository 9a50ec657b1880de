/- Chapter 13: the walk of CountFrom. -/
import Derived.Test.YtcijnmooifcicaaC13j
namespace Go.Proofs.Ytcijnmooifcicaa
open Go.RowKit Go.Deep
set_option linter.unusedVariables false

set_option maxHeartbeats 4000000 in
theorem lawCountFrom (w : World) (x0 : Int) (A0 : Option Addr) (n0 c0 : Nat) (z0 : List (List Int)) (A1 : Option Addr) (n1 c1 : Nat) (z1 : List Int) (_h0 : In64 x0) (g0 : RdArgM w A0 n0 c0 z0) (g1 : RdArg w A1 n1 c1 z1) :
    Calls Try.prog 10 #[.agg #[.int .i64 x0, .slice A0 n0 c0], .slice A1 n1 c1] w fun e w' => e = .returned (.bool true) ∧ Below w.heap.size w w' := by
  have ha0 := g0.1
  have ha1 := g1.1
  have hcap0 : n0 ≤ maxLen := Nat.le_trans g0.2.1 g0.2.2
  by_cases hn1 : 1048576 < n1
  · go_enter Try.func10, Try.ntmps10
    go_wp2
    go_ret
    exact ⟨rfl, by first | exact Below.refl _ _ | exact below_alloc w _⟩
  replace hn1 : n1 ≤ 1048576 := by omega
  clear g0
  clear g1
  have hB0 : Below w.heap.size w w := Below.refl _ _
  go_enter Try.func10, Try.ntmps10
  go_wp2_with fail
  refine (szNetwork_any x0 A0 n0 c0 z0 _ (ha0.below (below_alloc _ _)) hcap0).mono ?_
  rintro e w1 ⟨r0, rfl, hrr0, hr1⟩
  have hb1 := (below_alloc w _).trans (hr1.mono (by simp))
  have hs1 := hb1.size
  have ht1 := hr1.size
  simp at ht1
  have hq0a := hr1.cell (p := ⟨w.heap.size, 0, none⟩) (by simp)
  have hq0b := hr1.cell (p := ⟨w.heap.size, 1, none⟩) (by simp)
  replace hq0a : w1.cell? ⟨w.heap.size, 0, none⟩ = some (.int .i64 x0) := by rw [hq0a]; simp
  replace hq0b : w1.cell? ⟨w.heap.size, 1, none⟩ = some (.slice A0 n0 c0) := by rw [hq0b]; simp
  clear hr1
  have hB1 := hB0.trans (hb1.mono hB0.size)
  rcases hrr0 with rfl | ⟨hr0, hsz0⟩
  · go_wp2
    go_ret
    exact ⟨rfl, hB1⟩
  have HS0 := Lib.hid hsz0
  have hn0 : n0 ≤ 1048576 := by omega
  have htot0 : tot z0 n0 ≤ 1048576 := by omega
  clear hsz0
  go_wp2_with fail
  refine (toNetwork_r x0 A0 n0 c0 z0 _ (ha0.below hB1) HS0.out).mono ?_
  rintro e w2 ⟨AP0, cP0, rfl, oP0, hr2⟩
  have hb2 := hr2
  have hs2 := hb2.size
  have ht2 := hr2.size
  replace hq0a := (hb2.cell (p := ⟨w.heap.size, 0, none⟩) (by show w.heap.size < _; omega)).trans hq0a
  replace hq0b := (hb2.cell (p := ⟨w.heap.size, 1, none⟩) (by show w.heap.size < _; omega)).trans hq0b
  clear hr2
  have hB2 := hB1.trans (hb2.mono hB1.size)
  go_wp2_with fail
  refine (toIntS_any A1 n1 c1 z1 _ (ha1.below hB2) hn1).mono ?_
  rintro e w3 ⟨AP1, cP1, rfl, oP1, hr3⟩
  have hb3 := hr3
  have hs3 := hb3.size
  have ht3 := hr3.size
  replace hq0a := (hb3.cell (p := ⟨w.heap.size, 0, none⟩) (by show w.heap.size < _; omega)).trans hq0a
  replace hq0b := (hb3.cell (p := ⟨w.heap.size, 1, none⟩) (by show w.heap.size < _; omega)).trans hq0b
  clear hr3
  have hB3 := hB2.trans (hb3.mono hB2.size)
  replace oP0 := oP0.below hb3
  have iP1 := oP1.blk_
  go_wp2_with fail
  refine (specCountFrom x0 AP0 n0 cP0 z0 AP1 n1 cP1 z1 _ oP0.rd hn0 oP1.rd hn1 ).mono ?_
  rintro e w4 ⟨AW0, nW0, cW0, rfl, oW0, hr4⟩
  have hb4 := hr4
  have hs4 := hb4.size
  have ht4 := hr4.size
  replace hq0a := (hb4.cell (p := ⟨w.heap.size, 0, none⟩) (by show w.heap.size < _; omega)).trans hq0a
  replace hq0b := (hb4.cell (p := ⟨w.heap.size, 1, none⟩) (by show w.heap.size < _; omega)).trans hq0b
  clear hr4
  have hB4 := hB3.trans (hb4.mono hB3.size)
  replace oP0 := oP0.below hb4
  replace oP1 := oP1.below hb4
  have iW0 := oW0.blk_
  clear oP0
  clear oP1
  go_wp2_with fail
  refine (toNetwork_r x0 A0 n0 c0 z0 _ (ha0.below hB4) HS0.out).mono ?_
  rintro e w5 ⟨AX0, cX0, rfl, oX0, hr5⟩
  have hb5 := hr5
  have hs5 := hb5.size
  have ht5 := hr5.size
  replace hq0a := (hb5.cell (p := ⟨w.heap.size, 0, none⟩) (by show w.heap.size < _; omega)).trans hq0a
  replace hq0b := (hb5.cell (p := ⟨w.heap.size, 1, none⟩) (by show w.heap.size < _; omega)).trans hq0b
  clear hr5
  have hB5 := hB4.trans (hb5.mono hB4.size)
  replace oW0 := oW0.below hb5
  go_wp2_with fail
  refine (toIntS_any A1 n1 c1 z1 _ ((ha1.below hB5).below (below_alloc _ _)) hn1).mono ?_
  rintro e w6 ⟨AX1, cX1, rfl, oX1, hr6⟩
  have hb6 := (below_alloc w5 _).trans (hr6.mono (by simp))
  have hs6 := hb6.size
  have ht6 := hr6.size
  simp at ht6
  replace hq0a := (hb6.cell (p := ⟨w.heap.size, 0, none⟩) (by show w.heap.size < _; omega)).trans hq0a
  replace hq0b := (hb6.cell (p := ⟨w.heap.size, 1, none⟩) (by show w.heap.size < _; omega)).trans hq0b
  have hq1a := hr6.cell (p := ⟨w5.heap.size, 0, none⟩) (by simp)
  have hq1b := hr6.cell (p := ⟨w5.heap.size, 1, none⟩) (by simp)
  replace hq1a : w6.cell? ⟨w5.heap.size, 0, none⟩ = some (.int .i64 x0) := by rw [hq1a]; simp
  replace hq1b : w6.cell? ⟨w5.heap.size, 1, none⟩ = some (.slice AX0 n0 cX0) := by rw [hq1b]; simp
  clear hr6
  have hB6 := hB5.trans (hb6.mono hB5.size)
  replace oW0 := oW0.below hb6
  replace oX0 := oX0.below hb6
  have iX1 := oX1.blk_
  simp at iX1
  go_wp2_with fail
  refine (implCountFrom x0 AX0 n0 cX0 z0 AX1 n1 cX1 z1 _ oX0.rd hn0 oX1.rd hn1 ).mono ?_
  rintro e w7 ⟨AG0, nG0, cG0, rfl, oG0, hr7⟩
  have hb7 := hr7
  have hs7 := hb7.size
  have ht7 := hr7.size
  replace hq0a := (hb7.cell (p := ⟨w.heap.size, 0, none⟩) (by show w.heap.size < _; omega)).trans hq0a
  replace hq0b := (hb7.cell (p := ⟨w.heap.size, 1, none⟩) (by show w.heap.size < _; omega)).trans hq0b
  replace hq1a := (hb7.cell (p := ⟨w5.heap.size, 0, none⟩) (by show w5.heap.size < _; omega)).trans hq1a
  replace hq1b := (hb7.cell (p := ⟨w5.heap.size, 1, none⟩) (by show w5.heap.size < _; omega)).trans hq1b
  clear hr7
  have hB7 := hB6.trans (hb7.mono hB6.size)
  replace oW0 := oW0.below hb7
  replace oX0 := oX0.below hb7
  replace oX1 := oX1.below hb7
  have iG0 := oG0.blk_
  obtain rfl : nW0 = nG0 := by rw [← oW0.lenI, ← oG0.lenI]
  have hl0 : nW0 ≤ 1048576 := by rw [← oW0.lenI]; exact cfOut_le (by rw [ha1.lenI]; exact hn1)
  go_wp2_with fail
  refine (eqIntS_yes AG0 AW0 nW0 cG0 cW0 _ _ oG0.rd oW0.rd (by unfold maxLen; omega)).mono ?_
  rintro e w8 ⟨rfl, hr8⟩
  have hb8 := hr8
  have hs8 := hb8.size
  have ht8 := hr8.size
  replace hq0a := (hb8.cell (p := ⟨w.heap.size, 0, none⟩) (by show w.heap.size < _; omega)).trans hq0a
  replace hq0b := (hb8.cell (p := ⟨w.heap.size, 1, none⟩) (by show w.heap.size < _; omega)).trans hq0b
  replace hq1a := (hb8.cell (p := ⟨w5.heap.size, 0, none⟩) (by show w5.heap.size < _; omega)).trans hq1a
  replace hq1b := (hb8.cell (p := ⟨w5.heap.size, 1, none⟩) (by show w5.heap.size < _; omega)).trans hq1b
  clear hr8
  have hB8 := hB7.trans (hb8.mono hB7.size)
  replace oW0 := oW0.below hb8
  replace oX0 := oX0.below hb8
  replace oX1 := oX1.below hb8
  replace oG0 := oG0.below hb8
  have RX := oX0.rd
  have RA := ha0.below hB8
  go_wp2_with fail
  go_region_held3 (fun w' => w'.cell? ⟨w.heap.size, 0, none⟩ = some (.int .i64 x0) ∧ w'.cell? ⟨w.heap.size, 1, none⟩ = some (.slice A0 n0 c0) ∧ w'.cell? ⟨w5.heap.size, 0, none⟩ = some (.int .i64 x0) ∧ w'.cell? ⟨w5.heap.size, 1, none⟩ = some (.slice AX0 n0 cX0)) (go_keep) (first | (go_at_call 24; refine (toNetwork_r x0 A0 n0 c0 z0 _ (by first | exact RA | exact RA.drewN _) HS0.out).mono ?_; rintro e wA ⟨AT, cT, rfl, oT, hbA⟩; have lA : w8.heap.size ≤ wA.heap.size := hbA.size; have s0 := (hbA.cell (p := ⟨w.heap.size, 0, none⟩) (by first | (show w.heap.size < _; omega) | (simp; omega))).trans hq0a; have s1 := (hbA.cell (p := ⟨w.heap.size, 1, none⟩) (by first | (show w.heap.size < _; omega) | (simp; omega))).trans hq0b; have s2 := (hbA.cell (p := ⟨w5.heap.size, 0, none⟩) (by first | (show w5.heap.size < _; omega) | (simp; omega))).trans hq1a; have s3 := (hbA.cell (p := ⟨w5.heap.size, 1, none⟩) (by first | (show w5.heap.size < _; omega) | (simp; omega))).trans hq1b) | (go_at_call 26; refine (eqNetwork_yes _ AX0 AT n0 cX0 cT z0 _ (by first | exact RX.below hbA | exact (RX.drewN _).below hbA | exact (RX.below hbA).drewN _ | exact ((RX.drewN _).below hbA).drewN _) (by first | exact oT.rd | exact oT.rd.drewN _) hn0).mono ?_; rintro e w9 ⟨rfl, hbB⟩; have u0 := (hbB.cell (p := ⟨w.heap.size, 0, none⟩) (by show w.heap.size < _; omega)).trans s0; have u1 := (hbB.cell (p := ⟨w.heap.size, 1, none⟩) (by show w.heap.size < _; omega)).trans s1; have u2 := (hbB.cell (p := ⟨w5.heap.size, 0, none⟩) (by show w5.heap.size < _; omega)).trans s2; have u3 := (hbB.cell (p := ⟨w5.heap.size, 1, none⟩) (by show w5.heap.size < _; omega)).trans s3))
  have hA' : Below w8.heap.size w8 wA := ((Below.refl _ _ : Below w8.heap.size w8 w8).drew).trans (hbA.mono (Nat.le_refl _))
  have hr9 : Below w8.heap.size w8 w9 := hA'.trans (hbB.mono hA'.size)
  clear hbA hbB oT RX RA
  have hb9 := hr9
  have hs9 := hb9.size
  have ht9 := hr9.size
  replace hq0a := (hb9.cell (p := ⟨w.heap.size, 0, none⟩) (by show w.heap.size < _; omega)).trans hq0a
  replace hq0b := (hb9.cell (p := ⟨w.heap.size, 1, none⟩) (by show w.heap.size < _; omega)).trans hq0b
  replace hq1a := (hb9.cell (p := ⟨w5.heap.size, 0, none⟩) (by show w5.heap.size < _; omega)).trans hq1a
  replace hq1b := (hb9.cell (p := ⟨w5.heap.size, 1, none⟩) (by show w5.heap.size < _; omega)).trans hq1b
  clear hr9
  have hB9 := hB8.trans (hb9.mono hB8.size)
  replace oW0 := oW0.below hb9
  replace oX0 := oX0.below hb9
  replace oX1 := oX1.below hb9
  replace oG0 := oG0.below hb9
  go_wp2_with fail
  refine (toIntS_any A1 n1 c1 z1 _ (ha1.below hB9) hn1).mono ?_
  rintro e w10 ⟨AT1, cT1, rfl, oT1, hr10⟩
  have hb10 := hr10
  have hs10 := hb10.size
  have ht10 := hr10.size
  replace hq0a := (hb10.cell (p := ⟨w.heap.size, 0, none⟩) (by show w.heap.size < _; omega)).trans hq0a
  replace hq0b := (hb10.cell (p := ⟨w.heap.size, 1, none⟩) (by show w.heap.size < _; omega)).trans hq0b
  replace hq1a := (hb10.cell (p := ⟨w5.heap.size, 0, none⟩) (by show w5.heap.size < _; omega)).trans hq1a
  replace hq1b := (hb10.cell (p := ⟨w5.heap.size, 1, none⟩) (by show w5.heap.size < _; omega)).trans hq1b
  clear hr10
  have hB10 := hB9.trans (hb10.mono hB9.size)
  replace oW0 := oW0.below hb10
  replace oX0 := oX0.below hb10
  replace oX1 := oX1.below hb10
  replace oG0 := oG0.below hb10
  have iT1 := oT1.blk_
  go_wp2_with fail
  refine (eqIntS_yes AX1 AT1 n1 cX1 cT1 _ _ oX1.rd oT1.rd (by unfold maxLen; omega)).mono ?_
  rintro e w11 ⟨rfl, hr11⟩
  have hb11 := hr11
  have hs11 := hb11.size
  have ht11 := hr11.size
  replace hq0a := (hb11.cell (p := ⟨w.heap.size, 0, none⟩) (by show w.heap.size < _; omega)).trans hq0a
  replace hq0b := (hb11.cell (p := ⟨w.heap.size, 1, none⟩) (by show w.heap.size < _; omega)).trans hq0b
  replace hq1a := (hb11.cell (p := ⟨w5.heap.size, 0, none⟩) (by show w5.heap.size < _; omega)).trans hq1a
  replace hq1b := (hb11.cell (p := ⟨w5.heap.size, 1, none⟩) (by show w5.heap.size < _; omega)).trans hq1b
  clear hr11
  have hB11 := hB10.trans (hb11.mono hB10.size)
  replace oW0 := oW0.below hb11
  replace oX0 := oX0.below hb11
  replace oX1 := oX1.below hb11
  replace oG0 := oG0.below hb11
  replace oT1 := oT1.below hb11
  clear oT1
  go_wp2_with fail
  refine (markNetwork_r _ AX0 n0 cX0 w4.heap.size w5.heap.size z0 (1) w11 oX0 HS0.out (by omega) (by omega) (by omega)).mono ?_
  rintro e w12 ⟨rfl, oN, hg12⟩
  have hs12 := hg12.size
  have hB12 := hB11.trans ((hg12.below (Nat.le_refl _) (by omega)).mono (by have := hB4.size; omega))
  have hm12 := hg12.below (Nat.le_refl _) (by omega)
  replace hq0a := (hm12.cell (p := ⟨w.heap.size, 0, none⟩) (by show w.heap.size < _; omega)).trans hq0a
  replace hq0b := (hm12.cell (p := ⟨w.heap.size, 1, none⟩) (by show w.heap.size < _; omega)).trans hq0b
  clear hm12
  replace oW0 := oW0.chg hg12 (fun g e => by have := iW0 g e; omega)
  replace oX1 := oX1.chg hg12 (fun g e => by have := iX1 g e; omega)
  replace oG0 := oG0.chg hg12 (fun g e => by have := iG0 g e; omega)
  clear oN oX0
  go_wp2_with fail
  refine (markIntS_any AX1 n1 cX1 _ _ (1 + (tot z0 n0 : Int)) w12 oX1 (by omega) (by omega) (by omega)).mono ?_
  rintro e w13 ⟨rfl, oN, hg13⟩
  have hs13 := hg13.size
  have hB13 := below_of_grown hB12 hg13 hB12.size (fun g e => by have := iX1 g e; omega)
  have hm13 := below_of_grown (Below.refl (w.heap.size + 1) w12) hg13 (by omega) (fun g e => by have := iX1 g e; omega)
  replace hq0a := (hm13.cell (p := ⟨w.heap.size, 0, none⟩) (by show w.heap.size < _; omega)).trans hq0a
  replace hq0b := (hm13.cell (p := ⟨w.heap.size, 1, none⟩) (by show w.heap.size < _; omega)).trans hq0b
  clear hm13
  replace oW0 := oW0.kept hg13 (fun g e1 e2 => by have := iW0 g e1; have := iX1 g e2.symm; omega)
  replace oG0 := oG0.kept hg13 (fun g e1 e2 => by have := iG0 g e1; have := iX1 g e2.symm; omega)
  clear oN oX1
  go_wp2_with fail
  refine (eqIntS_yes AG0 AW0 nW0 cG0 cW0 _ _ oG0.rd oW0.rd (by unfold maxLen; omega)).mono ?_
  rintro e w14 ⟨rfl, hr14⟩
  have hb14 := hr14
  have hs14 := hb14.size
  have ht14 := hr14.size
  replace hq0a := (hb14.cell (p := ⟨w.heap.size, 0, none⟩) (by show w.heap.size < _; omega)).trans hq0a
  replace hq0b := (hb14.cell (p := ⟨w.heap.size, 1, none⟩) (by show w.heap.size < _; omega)).trans hq0b
  clear hr14
  have hB14 := hB13.trans (hb14.mono hB13.size)
  replace oW0 := oW0.below hb14
  replace oG0 := oG0.below hb14
  go_wp2_with fail
  refine (markIntS_any AG0 nW0 cG0 _ _ (1) w14 oG0 (by omega) (by omega) (by omega)).mono ?_
  rintro e w15 ⟨rfl, oN, hg15⟩
  have hs15 := hg15.size
  have hB15 := below_of_grown hB14 hg15 hB14.size (fun g e => by have := iG0 g e; omega)
  have hm15 := below_of_grown (Below.refl (w.heap.size + 1) w14) hg15 (by omega) (fun g e => by have := iG0 g e; omega)
  replace hq0a := (hm15.cell (p := ⟨w.heap.size, 0, none⟩) (by show w.heap.size < _; omega)).trans hq0a
  replace hq0b := (hm15.cell (p := ⟨w.heap.size, 1, none⟩) (by show w.heap.size < _; omega)).trans hq0b
  clear hm15
  replace oW0 := oW0.kept hg15 (fun g e1 e2 => by have := iW0 g e1; have := iG0 g e2.symm; omega)
  clear oG0
  have oG0 := oN
  clear oN
  go_wp2_with fail
  refine (heldIntS_any AG0 nW0 cG0 (1) _ oG0.rd (by omega) (by omega) (by omega)).mono ?_
  rintro e w16 ⟨rfl, hr16⟩
  have hb16 := hr16
  have hs16 := hb16.size
  have ht16 := hr16.size
  replace hq0a := (hb16.cell (p := ⟨w.heap.size, 0, none⟩) (by show w.heap.size < _; omega)).trans hq0a
  replace hq0b := (hb16.cell (p := ⟨w.heap.size, 1, none⟩) (by show w.heap.size < _; omega)).trans hq0b
  clear hr16
  have hB16 := hB15.trans (hb16.mono hB15.size)
  replace oW0 := oW0.below hb16
  replace oG0 := oG0.below hb16
  go_wp2_with fail
  refine (toNetwork_r x0 A0 n0 c0 z0 _ (ha0.below hB16) HS0.out).mono ?_
  rintro e w17 ⟨AH0, cH0, rfl, oH0, hr17⟩
  have hb17 := hr17
  have hs17 := hb17.size
  have ht17 := hr17.size
  replace hq0a := (hb17.cell (p := ⟨w.heap.size, 0, none⟩) (by show w.heap.size < _; omega)).trans hq0a
  replace hq0b := (hb17.cell (p := ⟨w.heap.size, 1, none⟩) (by show w.heap.size < _; omega)).trans hq0b
  clear hr17
  have hB17 := hB16.trans (hb17.mono hB16.size)
  replace oW0 := oW0.below hb17
  replace oG0 := oG0.below hb17
  go_wp2_with fail
  refine (toIntS_any A1 n1 c1 z1 _ (ha1.below hB17) hn1).mono ?_
  rintro e w18 ⟨AH1, cH1, rfl, oH1, hr18⟩
  have hb18 := hr18
  have hs18 := hb18.size
  have ht18 := hr18.size
  replace hq0a := (hb18.cell (p := ⟨w.heap.size, 0, none⟩) (by show w.heap.size < _; omega)).trans hq0a
  replace hq0b := (hb18.cell (p := ⟨w.heap.size, 1, none⟩) (by show w.heap.size < _; omega)).trans hq0b
  clear hr18
  have hB18 := hB17.trans (hb18.mono hB17.size)
  replace oW0 := oW0.below hb18
  replace oG0 := oG0.below hb18
  replace oH0 := oH0.below hb18
  have iH1 := oH1.blk_
  go_wp2_with fail
  refine (implCountFrom x0 AH0 n0 cH0 z0 AH1 n1 cH1 z1 _ oH0.rd hn0 oH1.rd hn1 ).mono ?_
  rintro e w19 ⟨AK0, nK0, cK0, rfl, oK0, hr19⟩
  have hb19 := hr19
  have hs19 := hb19.size
  have ht19 := hr19.size
  replace hq0a := (hb19.cell (p := ⟨w.heap.size, 0, none⟩) (by show w.heap.size < _; omega)).trans hq0a
  replace hq0b := (hb19.cell (p := ⟨w.heap.size, 1, none⟩) (by show w.heap.size < _; omega)).trans hq0b
  clear hr19
  have hB19 := hB18.trans (hb19.mono hB18.size)
  replace oW0 := oW0.below hb19
  replace oG0 := oG0.below hb19
  replace oH0 := oH0.below hb19
  replace oH1 := oH1.below hb19
  have iK0 := oK0.blk_
  clear oH0
  clear oH1
  obtain rfl : nK0 = nW0 := by rw [← oK0.lenI, ← oW0.lenI]
  go_wp2_with fail
  refine (eqIntS_yes AK0 AW0 nK0 cK0 cW0 _ _ oK0.rd oW0.rd (by unfold maxLen; omega)).mono ?_
  rintro e w20 ⟨rfl, hr20⟩
  have hb20 := hr20
  have hs20 := hb20.size
  have ht20 := hr20.size
  replace hq0a := (hb20.cell (p := ⟨w.heap.size, 0, none⟩) (by show w.heap.size < _; omega)).trans hq0a
  replace hq0b := (hb20.cell (p := ⟨w.heap.size, 1, none⟩) (by show w.heap.size < _; omega)).trans hq0b
  clear hr20
  have hB20 := hB19.trans (hb20.mono hB19.size)
  replace oW0 := oW0.below hb20
  replace oG0 := oG0.below hb20
  replace oK0 := oK0.below hb20
  go_wp2_with fail
  refine (heldIntS_any AG0 nK0 cG0 (1) _ oG0.rd (by omega) (by omega) (by omega)).mono ?_
  rintro e w21 ⟨rfl, hr21⟩
  have hb21 := hr21
  have hs21 := hb21.size
  have ht21 := hr21.size
  replace hq0a := (hb21.cell (p := ⟨w.heap.size, 0, none⟩) (by show w.heap.size < _; omega)).trans hq0a
  replace hq0b := (hb21.cell (p := ⟨w.heap.size, 1, none⟩) (by show w.heap.size < _; omega)).trans hq0b
  clear hr21
  have hB21 := hB20.trans (hb21.mono hB20.size)
  replace oW0 := oW0.below hb21
  replace oG0 := oG0.below hb21
  replace oK0 := oK0.below hb21
  go_wp2_with fail
  go_ret
  exact ⟨rfl, hB21⟩

end Go.Proofs.Ytcijnmooifcicaa
