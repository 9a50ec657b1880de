/- Chapter 13: the walk of TokensOk. -/
import Derived.Test.YtcijnmooifcicaaC13c
namespace Go.Proofs.Ytcijnmooifcicaa
open Go.RowKit Go.Deep
set_option linter.unusedVariables false

set_option maxHeartbeats 4000000 in
theorem lawTokensOk (w : World) (x0 : Int) (A0 : Option Addr) (n0 c0 : Nat) (z0 : List (List Int)) (A1 : Option Addr) (n1 c1 : Nat) (z1 : List Int) (_h0 : In64 x0) (g0 : RdArgM w A0 n0 c0 z0) (g1 : RdArg w A1 n1 c1 z1) :
    Calls Try.prog 6 #[.agg #[.int .i64 x0, .slice A0 n0 c0], .slice A1 n1 c1] w fun e w' => e = .returned (.bool true) ∧ Below w.heap.size w w' := by
  have ha0 := g0.1
  have ha1 := g1.1
  have hcap0 : n0 ≤ maxLen := Nat.le_trans g0.2.1 g0.2.2
  by_cases hn1 : 1048576 < n1
  · go_enter Try.func6, Try.ntmps6
    go_wp2
    go_ret
    exact ⟨rfl, by first | exact Below.refl _ _ | exact below_alloc w _⟩
  replace hn1 : n1 ≤ 1048576 := by omega
  clear g0
  clear g1
  have hB0 : Below w.heap.size w w := Below.refl _ _
  go_enter Try.func6, Try.ntmps6
  go_wp2_with fail
  refine (szNetwork_any x0 A0 n0 c0 z0 _ (ha0.below (below_alloc _ _)) hcap0).mono ?_
  rintro e w1 ⟨r0, rfl, hrr0, hr1⟩
  have hb1 := (below_alloc w _).trans (hr1.mono (by simp))
  have hs1 := hb1.size
  have ht1 := hr1.size
  simp at ht1
  have hq0a := hr1.cell (p := ⟨w.heap.size, 0, none⟩) (by simp)
  have hq0b := hr1.cell (p := ⟨w.heap.size, 1, none⟩) (by simp)
  replace hq0a : w1.cell? ⟨w.heap.size, 0, none⟩ = some (.int .i64 x0) := by rw [hq0a]; simp
  replace hq0b : w1.cell? ⟨w.heap.size, 1, none⟩ = some (.slice A0 n0 c0) := by rw [hq0b]; simp
  clear hr1
  have hB1 := hB0.trans (hb1.mono hB0.size)
  rcases hrr0 with rfl | ⟨hr0, hsz0⟩
  · go_wp2
    go_ret
    exact ⟨rfl, hB1⟩
  have HS0 := Lib.hid hsz0
  have hn0 : n0 ≤ 1048576 := by omega
  have htot0 : tot z0 n0 ≤ 1048576 := by omega
  clear hsz0
  go_wp2_with fail
  refine (toNetwork_r x0 A0 n0 c0 z0 _ (ha0.below hB1) HS0.out).mono ?_
  rintro e w2 ⟨AP0, cP0, rfl, oP0, hr2⟩
  have hb2 := hr2
  have hs2 := hb2.size
  have ht2 := hr2.size
  replace hq0a := (hb2.cell (p := ⟨w.heap.size, 0, none⟩) (by show w.heap.size < _; omega)).trans hq0a
  replace hq0b := (hb2.cell (p := ⟨w.heap.size, 1, none⟩) (by show w.heap.size < _; omega)).trans hq0b
  clear hr2
  have hB2 := hB1.trans (hb2.mono hB1.size)
  go_wp2_with fail
  refine (toIntS_any A1 n1 c1 z1 _ (ha1.below hB2) hn1).mono ?_
  rintro e w3 ⟨AP1, cP1, rfl, oP1, hr3⟩
  have hb3 := hr3
  have hs3 := hb3.size
  have ht3 := hr3.size
  replace hq0a := (hb3.cell (p := ⟨w.heap.size, 0, none⟩) (by show w.heap.size < _; omega)).trans hq0a
  replace hq0b := (hb3.cell (p := ⟨w.heap.size, 1, none⟩) (by show w.heap.size < _; omega)).trans hq0b
  clear hr3
  have hB3 := hB2.trans (hb3.mono hB2.size)
  replace oP0 := oP0.below hb3
  have iP1 := oP1.blk_
  go_wp2_with fail
  refine (specTokensOk x0 AP0 n0 cP0 z0 AP1 n1 cP1 z1 _ oP0.rd hn0 oP1.rd hn1 ).mono ?_
  rintro e w4 ⟨rfl, hr4⟩
  have hb4 := hr4
  have hs4 := hb4.size
  have ht4 := hr4.size
  replace hq0a := (hb4.cell (p := ⟨w.heap.size, 0, none⟩) (by show w.heap.size < _; omega)).trans hq0a
  replace hq0b := (hb4.cell (p := ⟨w.heap.size, 1, none⟩) (by show w.heap.size < _; omega)).trans hq0b
  clear hr4
  have hB4 := hB3.trans (hb4.mono hB3.size)
  replace oP0 := oP0.below hb4
  replace oP1 := oP1.below hb4
  clear oP0
  clear oP1
  go_wp2_with fail
  refine (toNetwork_r x0 A0 n0 c0 z0 _ (ha0.below hB4) HS0.out).mono ?_
  rintro e w5 ⟨AX0, cX0, rfl, oX0, hr5⟩
  have hb5 := hr5
  have hs5 := hb5.size
  have ht5 := hr5.size
  replace hq0a := (hb5.cell (p := ⟨w.heap.size, 0, none⟩) (by show w.heap.size < _; omega)).trans hq0a
  replace hq0b := (hb5.cell (p := ⟨w.heap.size, 1, none⟩) (by show w.heap.size < _; omega)).trans hq0b
  clear hr5
  have hB5 := hB4.trans (hb5.mono hB4.size)
  go_wp2_with fail
  refine (toIntS_any A1 n1 c1 z1 _ ((ha1.below hB5).below (below_alloc _ _)) hn1).mono ?_
  rintro e w6 ⟨AX1, cX1, rfl, oX1, hr6⟩
  have hb6 := (below_alloc w5 _).trans (hr6.mono (by simp))
  have hs6 := hb6.size
  have ht6 := hr6.size
  simp at ht6
  replace hq0a := (hb6.cell (p := ⟨w.heap.size, 0, none⟩) (by show w.heap.size < _; omega)).trans hq0a
  replace hq0b := (hb6.cell (p := ⟨w.heap.size, 1, none⟩) (by show w.heap.size < _; omega)).trans hq0b
  have hq1a := hr6.cell (p := ⟨w5.heap.size, 0, none⟩) (by simp)
  have hq1b := hr6.cell (p := ⟨w5.heap.size, 1, none⟩) (by simp)
  replace hq1a : w6.cell? ⟨w5.heap.size, 0, none⟩ = some (.int .i64 x0) := by rw [hq1a]; simp
  replace hq1b : w6.cell? ⟨w5.heap.size, 1, none⟩ = some (.slice AX0 n0 cX0) := by rw [hq1b]; simp
  clear hr6
  have hB6 := hB5.trans (hb6.mono hB5.size)
  replace oX0 := oX0.below hb6
  have iX1 := oX1.blk_
  simp at iX1
  go_wp2_with fail
  refine (implTokensOk x0 AX0 n0 cX0 z0 AX1 n1 cX1 z1 _ oX0.rd hn0 oX1.rd hn1 ).mono ?_
  rintro e w7 ⟨rfl, hr7⟩
  have hb7 := hr7
  have hs7 := hb7.size
  have ht7 := hr7.size
  replace hq0a := (hb7.cell (p := ⟨w.heap.size, 0, none⟩) (by show w.heap.size < _; omega)).trans hq0a
  replace hq0b := (hb7.cell (p := ⟨w.heap.size, 1, none⟩) (by show w.heap.size < _; omega)).trans hq0b
  replace hq1a := (hb7.cell (p := ⟨w5.heap.size, 0, none⟩) (by show w5.heap.size < _; omega)).trans hq1a
  replace hq1b := (hb7.cell (p := ⟨w5.heap.size, 1, none⟩) (by show w5.heap.size < _; omega)).trans hq1b
  clear hr7
  have hB7 := hB6.trans (hb7.mono hB6.size)
  replace oX0 := oX0.below hb7
  replace oX1 := oX1.below hb7
  have RX := oX0.rd
  have RA := ha0.below hB7
  go_wp2_with fail
  go_region_held3 (fun w' => w'.cell? ⟨w.heap.size, 0, none⟩ = some (.int .i64 x0) ∧ w'.cell? ⟨w.heap.size, 1, none⟩ = some (.slice A0 n0 c0) ∧ w'.cell? ⟨w5.heap.size, 0, none⟩ = some (.int .i64 x0) ∧ w'.cell? ⟨w5.heap.size, 1, none⟩ = some (.slice AX0 n0 cX0)) (go_keep) (first | (go_at_call 24; refine (toNetwork_r x0 A0 n0 c0 z0 _ (by first | exact RA | exact RA.drewN _) HS0.out).mono ?_; rintro e wA ⟨AT, cT, rfl, oT, hbA⟩; have lA : w7.heap.size ≤ wA.heap.size := hbA.size; have s0 := (hbA.cell (p := ⟨w.heap.size, 0, none⟩) (by first | (show w.heap.size < _; omega) | (simp; omega))).trans hq0a; have s1 := (hbA.cell (p := ⟨w.heap.size, 1, none⟩) (by first | (show w.heap.size < _; omega) | (simp; omega))).trans hq0b; have s2 := (hbA.cell (p := ⟨w5.heap.size, 0, none⟩) (by first | (show w5.heap.size < _; omega) | (simp; omega))).trans hq1a; have s3 := (hbA.cell (p := ⟨w5.heap.size, 1, none⟩) (by first | (show w5.heap.size < _; omega) | (simp; omega))).trans hq1b) | (go_at_call 26; refine (eqNetwork_yes _ AX0 AT n0 cX0 cT z0 _ (by first | exact RX.below hbA | exact (RX.drewN _).below hbA | exact (RX.below hbA).drewN _ | exact ((RX.drewN _).below hbA).drewN _) (by first | exact oT.rd | exact oT.rd.drewN _) hn0).mono ?_; rintro e w8 ⟨rfl, hbB⟩; have u0 := (hbB.cell (p := ⟨w.heap.size, 0, none⟩) (by show w.heap.size < _; omega)).trans s0; have u1 := (hbB.cell (p := ⟨w.heap.size, 1, none⟩) (by show w.heap.size < _; omega)).trans s1; have u2 := (hbB.cell (p := ⟨w5.heap.size, 0, none⟩) (by show w5.heap.size < _; omega)).trans s2; have u3 := (hbB.cell (p := ⟨w5.heap.size, 1, none⟩) (by show w5.heap.size < _; omega)).trans s3))
  have hA' : Below w7.heap.size w7 wA := ((Below.refl _ _ : Below w7.heap.size w7 w7).drew).trans (hbA.mono (Nat.le_refl _))
  have hr8 : Below w7.heap.size w7 w8 := hA'.trans (hbB.mono hA'.size)
  clear hbA hbB oT RX RA
  have hb8 := hr8
  have hs8 := hb8.size
  have ht8 := hr8.size
  replace hq0a := (hb8.cell (p := ⟨w.heap.size, 0, none⟩) (by show w.heap.size < _; omega)).trans hq0a
  replace hq0b := (hb8.cell (p := ⟨w.heap.size, 1, none⟩) (by show w.heap.size < _; omega)).trans hq0b
  replace hq1a := (hb8.cell (p := ⟨w5.heap.size, 0, none⟩) (by show w5.heap.size < _; omega)).trans hq1a
  replace hq1b := (hb8.cell (p := ⟨w5.heap.size, 1, none⟩) (by show w5.heap.size < _; omega)).trans hq1b
  clear hr8
  have hB8 := hB7.trans (hb8.mono hB7.size)
  replace oX0 := oX0.below hb8
  replace oX1 := oX1.below hb8
  go_wp2_with fail
  refine (toIntS_any A1 n1 c1 z1 _ (ha1.below hB8) hn1).mono ?_
  rintro e w9 ⟨AT1, cT1, rfl, oT1, hr9⟩
  have hb9 := hr9
  have hs9 := hb9.size
  have ht9 := hr9.size
  replace hq0a := (hb9.cell (p := ⟨w.heap.size, 0, none⟩) (by show w.heap.size < _; omega)).trans hq0a
  replace hq0b := (hb9.cell (p := ⟨w.heap.size, 1, none⟩) (by show w.heap.size < _; omega)).trans hq0b
  replace hq1a := (hb9.cell (p := ⟨w5.heap.size, 0, none⟩) (by show w5.heap.size < _; omega)).trans hq1a
  replace hq1b := (hb9.cell (p := ⟨w5.heap.size, 1, none⟩) (by show w5.heap.size < _; omega)).trans hq1b
  clear hr9
  have hB9 := hB8.trans (hb9.mono hB8.size)
  replace oX0 := oX0.below hb9
  replace oX1 := oX1.below hb9
  have iT1 := oT1.blk_
  go_wp2_with fail
  refine (eqIntS_yes AX1 AT1 n1 cX1 cT1 _ _ oX1.rd oT1.rd (by unfold maxLen; omega)).mono ?_
  rintro e w10 ⟨rfl, hr10⟩
  have hb10 := hr10
  have hs10 := hb10.size
  have ht10 := hr10.size
  replace hq0a := (hb10.cell (p := ⟨w.heap.size, 0, none⟩) (by show w.heap.size < _; omega)).trans hq0a
  replace hq0b := (hb10.cell (p := ⟨w.heap.size, 1, none⟩) (by show w.heap.size < _; omega)).trans hq0b
  replace hq1a := (hb10.cell (p := ⟨w5.heap.size, 0, none⟩) (by show w5.heap.size < _; omega)).trans hq1a
  replace hq1b := (hb10.cell (p := ⟨w5.heap.size, 1, none⟩) (by show w5.heap.size < _; omega)).trans hq1b
  clear hr10
  have hB10 := hB9.trans (hb10.mono hB9.size)
  replace oX0 := oX0.below hb10
  replace oX1 := oX1.below hb10
  replace oT1 := oT1.below hb10
  clear oT1
  go_wp2_with fail
  go_ret
  exact ⟨rfl, hB10⟩

end Go.Proofs.Ytcijnmooifcicaa
