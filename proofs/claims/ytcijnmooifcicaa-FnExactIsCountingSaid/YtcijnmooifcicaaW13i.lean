/- Chapter 13: the walk of IsCounting. -/
import Derived.Test.YtcijnmooifcicaaC13i
namespace Go.Proofs.Ytcijnmooifcicaa
open Go.RowKit Go.Deep
set_option linter.unusedVariables false

set_option maxHeartbeats 4000000 in
theorem lawIsCounting (w : World) (x0 : Int) (A0 : Option Addr) (n0 c0 : Nat) (z0 : List (List Int)) (x1 : Int) (_h0 : In64 x0) (g0 : RdArgM w A0 n0 c0 z0) (_g1 : In64 x1) :
    Calls Try.prog 8 #[.agg #[.int .i64 x0, .slice A0 n0 c0], .int .i64 x1] w fun e w' => e = .returned (.bool true) ∧ Below w.heap.size w w' := by
  have ha0 := g0.1
  have hcap0 : n0 ≤ maxLen := Nat.le_trans g0.2.1 g0.2.2
  clear g0
  have hB0 : Below w.heap.size w w := Below.refl _ _
  go_enter Try.func8, Try.ntmps8
  go_wp2_with fail
  refine (szNetwork_any x0 A0 n0 c0 z0 _ (ha0.below (below_alloc _ _)) hcap0).mono ?_
  rintro e w1 ⟨r0, rfl, hrr0, hr1⟩
  have hb1 := (below_alloc w _).trans (hr1.mono (by simp))
  have hs1 := hb1.size
  have ht1 := hr1.size
  simp at ht1
  have hq0a := hr1.cell (p := ⟨w.heap.size, 0, none⟩) (by simp)
  have hq0b := hr1.cell (p := ⟨w.heap.size, 1, none⟩) (by simp)
  replace hq0a : w1.cell? ⟨w.heap.size, 0, none⟩ = some (.int .i64 x0) := by rw [hq0a]; simp
  replace hq0b : w1.cell? ⟨w.heap.size, 1, none⟩ = some (.slice A0 n0 c0) := by rw [hq0b]; simp
  clear hr1
  have hB1 := hB0.trans (hb1.mono hB0.size)
  rcases hrr0 with rfl | ⟨hr0, hsz0⟩
  · go_wp2
    go_ret
    exact ⟨rfl, hB1⟩
  have HS0 := Lib.hid hsz0
  have hn0 : n0 ≤ 1048576 := by omega
  have htot0 : tot z0 n0 ≤ 1048576 := by omega
  clear hsz0
  go_wp2_with fail
  refine (toNetwork_r x0 A0 n0 c0 z0 _ (ha0.below hB1) HS0.out).mono ?_
  rintro e w2 ⟨AP0, cP0, rfl, oP0, hr2⟩
  have hb2 := hr2
  have hs2 := hb2.size
  have ht2 := hr2.size
  replace hq0a := (hb2.cell (p := ⟨w.heap.size, 0, none⟩) (by show w.heap.size < _; omega)).trans hq0a
  replace hq0b := (hb2.cell (p := ⟨w.heap.size, 1, none⟩) (by show w.heap.size < _; omega)).trans hq0b
  clear hr2
  have hB2 := hB1.trans (hb2.mono hB1.size)
  go_wp2_with fail
  refine (specIsCounting x0 AP0 n0 cP0 z0 x1 _ oP0.rd hn0 ).mono ?_
  rintro e w3 ⟨rfl, hr3⟩
  have hb3 := hr3
  have hs3 := hb3.size
  have ht3 := hr3.size
  replace hq0a := (hb3.cell (p := ⟨w.heap.size, 0, none⟩) (by show w.heap.size < _; omega)).trans hq0a
  replace hq0b := (hb3.cell (p := ⟨w.heap.size, 1, none⟩) (by show w.heap.size < _; omega)).trans hq0b
  clear hr3
  have hB3 := hB2.trans (hb3.mono hB2.size)
  replace oP0 := oP0.below hb3
  clear oP0
  go_wp2_with fail
  refine (toNetwork_r x0 A0 n0 c0 z0 _ (ha0.below hB3) HS0.out).mono ?_
  rintro e w4 ⟨AX0, cX0, rfl, oX0, hr4⟩
  have hb4 := hr4
  have hs4 := hb4.size
  have ht4 := hr4.size
  replace hq0a := (hb4.cell (p := ⟨w.heap.size, 0, none⟩) (by show w.heap.size < _; omega)).trans hq0a
  replace hq0b := (hb4.cell (p := ⟨w.heap.size, 1, none⟩) (by show w.heap.size < _; omega)).trans hq0b
  clear hr4
  have hB4 := hB3.trans (hb4.mono hB3.size)
  go_wp2_with fail
  refine (implIsCounting x0 AX0 n0 cX0 z0 x1 _ (oX0.rd.below (below_alloc _ _)) hn0 ).mono ?_
  rintro e w5 ⟨rfl, hr5⟩
  have hb5 := (below_alloc w4 _).trans (hr5.mono (by simp))
  have hs5 := hb5.size
  have ht5 := hr5.size
  simp at ht5
  replace hq0a := (hb5.cell (p := ⟨w.heap.size, 0, none⟩) (by show w.heap.size < _; omega)).trans hq0a
  replace hq0b := (hb5.cell (p := ⟨w.heap.size, 1, none⟩) (by show w.heap.size < _; omega)).trans hq0b
  have hq1a := hr5.cell (p := ⟨w4.heap.size, 0, none⟩) (by simp)
  have hq1b := hr5.cell (p := ⟨w4.heap.size, 1, none⟩) (by simp)
  replace hq1a : w5.cell? ⟨w4.heap.size, 0, none⟩ = some (.int .i64 x0) := by rw [hq1a]; simp
  replace hq1b : w5.cell? ⟨w4.heap.size, 1, none⟩ = some (.slice AX0 n0 cX0) := by rw [hq1b]; simp
  clear hr5
  have hB5 := hB4.trans (hb5.mono hB4.size)
  replace oX0 := oX0.below hb5
  have RX := oX0.rd
  have RA := ha0.below hB5
  go_wp2_with fail
  go_region_held3 (fun w' => w'.cell? ⟨w.heap.size, 0, none⟩ = some (.int .i64 x0) ∧ w'.cell? ⟨w.heap.size, 1, none⟩ = some (.slice A0 n0 c0) ∧ w'.cell? ⟨w4.heap.size, 0, none⟩ = some (.int .i64 x0) ∧ w'.cell? ⟨w4.heap.size, 1, none⟩ = some (.slice AX0 n0 cX0)) (go_keep) (first | (go_at_call 24; refine (toNetwork_r x0 A0 n0 c0 z0 _ (by first | exact RA | exact RA.drewN _) HS0.out).mono ?_; rintro e wA ⟨AT, cT, rfl, oT, hbA⟩; have lA : w5.heap.size ≤ wA.heap.size := hbA.size; have s0 := (hbA.cell (p := ⟨w.heap.size, 0, none⟩) (by first | (show w.heap.size < _; omega) | (simp; omega))).trans hq0a; have s1 := (hbA.cell (p := ⟨w.heap.size, 1, none⟩) (by first | (show w.heap.size < _; omega) | (simp; omega))).trans hq0b; have s2 := (hbA.cell (p := ⟨w4.heap.size, 0, none⟩) (by first | (show w4.heap.size < _; omega) | (simp; omega))).trans hq1a; have s3 := (hbA.cell (p := ⟨w4.heap.size, 1, none⟩) (by first | (show w4.heap.size < _; omega) | (simp; omega))).trans hq1b) | (go_at_call 26; refine (eqNetwork_yes _ AX0 AT n0 cX0 cT z0 _ (by first | exact RX.below hbA | exact (RX.drewN _).below hbA | exact (RX.below hbA).drewN _ | exact ((RX.drewN _).below hbA).drewN _) (by first | exact oT.rd | exact oT.rd.drewN _) hn0).mono ?_; rintro e w6 ⟨rfl, hbB⟩; have u0 := (hbB.cell (p := ⟨w.heap.size, 0, none⟩) (by show w.heap.size < _; omega)).trans s0; have u1 := (hbB.cell (p := ⟨w.heap.size, 1, none⟩) (by show w.heap.size < _; omega)).trans s1; have u2 := (hbB.cell (p := ⟨w4.heap.size, 0, none⟩) (by show w4.heap.size < _; omega)).trans s2; have u3 := (hbB.cell (p := ⟨w4.heap.size, 1, none⟩) (by show w4.heap.size < _; omega)).trans s3))
  have hA' : Below w5.heap.size w5 wA := ((Below.refl _ _ : Below w5.heap.size w5 w5).drew).trans (hbA.mono (Nat.le_refl _))
  have hr6 : Below w5.heap.size w5 w6 := hA'.trans (hbB.mono hA'.size)
  clear hbA hbB oT RX RA
  have hb6 := hr6
  have hs6 := hb6.size
  have ht6 := hr6.size
  replace hq0a := (hb6.cell (p := ⟨w.heap.size, 0, none⟩) (by show w.heap.size < _; omega)).trans hq0a
  replace hq0b := (hb6.cell (p := ⟨w.heap.size, 1, none⟩) (by show w.heap.size < _; omega)).trans hq0b
  replace hq1a := (hb6.cell (p := ⟨w4.heap.size, 0, none⟩) (by show w4.heap.size < _; omega)).trans hq1a
  replace hq1b := (hb6.cell (p := ⟨w4.heap.size, 1, none⟩) (by show w4.heap.size < _; omega)).trans hq1b
  clear hr6
  have hB6 := hB5.trans (hb6.mono hB5.size)
  replace oX0 := oX0.below hb6
  go_wp2_with fail
  go_ret
  exact ⟨rfl, hB6⟩

end Go.Proofs.Ytcijnmooifcicaa
