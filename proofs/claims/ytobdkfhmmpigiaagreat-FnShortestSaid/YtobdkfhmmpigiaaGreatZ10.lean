/- FnShortest: the walk of the law. -/
import Derived.Test.YtobdkfhmmpigiaaGreatZ9c
import Derived.Deep.RegionHeld3
import Derived.Deep.DeepCutAuto
namespace Go.Proofs.YtobdkfhmmpigiaaGreat
open Go.RowKit Go.Deep
set_option linter.unusedVariables false

theorem below_oneD {B : Nat} {a wr wA : World} (h : Below B a wr) {m : Nat} (hA : Below wr.heap.size (wr.drewN m) wA) (hB : B ≤ wr.heap.size) : Below B a wA := (below_drewN h m).trans (hA.mono hB)
theorem lit_at {n k : Nat} (h1 : 1 ≤ n) (h4 : n ≤ 4) (hk : (n : Int) - 1 = k) : (∀ h, ([.int .i64 0, .int .i64 1, .int .i64 3, .int .i64 5] : List Value)[k]'h = .int .i64 (lpV n : Nat)) ∧ (∀ h, ([.int .i64 0, .int .i64 1, .int .i64 3, .int .i64 3] : List Value)[k]'h = .int .i64 (ldV n : Nat)) := by
  obtain ⟨a, b, c, d⟩ := lpV_one
  obtain ⟨a', b', c', d'⟩ := ldV_one
  have hc : n = 1 ∨ n = 2 ∨ n = 3 ∨ n = 4 := by omega
  rcases hc with rfl | rfl | rfl | rfl
  · obtain rfl : k = 0 := by omega
    rw [a, a']; exact ⟨fun _ => rfl, fun _ => rfl⟩
  · obtain rfl : k = 1 := by omega
    rw [b, b']; exact ⟨fun _ => rfl, fun _ => rfl⟩
  · obtain rfl : k = 2 := by omega
    rw [c, c']; exact ⟨fun _ => rfl, fun _ => rfl⟩
  · obtain rfl : k = 3 := by omega
    rw [d, d']; exact ⟨fun _ => rfl, fun _ => rfl⟩
set_option maxHeartbeats 32000000 in
set_option maxRecDepth 100000 in
theorem lawShortest (w : World) (A0 : Option Addr) (n0 c0 : Nat) (bs : List Int) (g : RdArgB w A0 n0 c0 bs) :
    Calls Tryz.prog 3 #[.slice A0 n0 c0] w fun e w' => e = .returned (.bool true) ∧ Below w.heap.size w w' := by
  have HA := Lib.hid g.1
  have HZ := Lib.hid g.2
  clear g
  by_cases hn0 : 1048576 < n0
  · go_enter Tryz.func3, Tryz.ntmps3
    go_wp2
    go_ret
    exact ⟨rfl, Below.refl _ _⟩
  replace hn0 : n0 ≤ 1048576 := by omega
  go_enter Tryz.func3, Tryz.ntmps3
  go_wp2_with fail
  refine (specSize A0 n0 c0 0 3 1 4 bs w HA.out HZ.out hn0 (by omega) (by omega) (by omega) (by omega) (by omega)).mono ?_
  rintro e w1 ⟨x, hx, rfl, hB1⟩
  obtain ⟨n, hn, h1, h4⟩ : ∃ n : Nat, (1 : Int) + x = n ∧ 1 ≤ n ∧ n ≤ 4 := ⟨1 + x, by omega, by omega, by omega⟩
  rw [hn]
  clear hn hx
  go_wp2_with fail
  refine (implLeastP n w1 h1 h4).mono ?_
  rintro e w2 ⟨rfl, hb⟩
  have hB2 := hB1.trans (hb.mono hB1.size)
  clear hb hB1
  go_wp2_with fail
  refine (implLeastD n w2 h1 h4).mono ?_
  rintro e w3 ⟨rfl, hb⟩
  have hB3 := hB2.trans (hb.mono hB2.size)
  clear hb hB2
  go_wp2_with fail
  refine (implShort n w3 h1 h4).mono ?_
  rintro e w4 ⟨A1, c1, rfl, rX, hb⟩
  have hB4 := hB3.trans (hb.mono hB3.size)
  clear hb hB3

  obtain ⟨k, hk, hk4⟩ : ∃ k : Nat, (n : Int) - 1 = k ∧ k < 4 := ⟨n - 1, by omega, by omega⟩
  obtain ⟨l1, l2⟩ := lit_at h1 h4 hk
  have hk4i : (k : Int) < 4 := by omega
  go_wp2_with fail
  have hal := ((below_alloc w4 (.cells #[.int .i64 (n : Int), .slice A1 (lpV n) c1] 27)).trans ((below_alloc (w4.alloc (.cells #[.int .i64 (n : Int), .slice A1 (lpV n) c1] 27)) (.cells #[.int .i64 0, .int .i64 1, .int .i64 3, .int .i64 5] 3)).mono (by simp <;> omega))).trans ((below_alloc ((w4.alloc (.cells #[.int .i64 (n : Int), .slice A1 (lpV n) c1] 27)).alloc (.cells #[.int .i64 0, .int .i64 1, .int .i64 3, .int .i64 5] 3)) (.cells #[.int .i64 0, .int .i64 1, .int .i64 3, .int .i64 3] 3)).mono (by simp <;> omega))
  replace rX := rX.below hal
  have rBX := ((own_netbox w4 (n : Int) A1 (lpV n) c1).below (below_alloc (w4.alloc (.cells #[.int .i64 (n : Int), .slice A1 (lpV n) c1] 27)) (.cells #[.int .i64 0, .int .i64 1, .int .i64 3, .int .i64 5] 3))).below (below_alloc ((w4.alloc (.cells #[.int .i64 (n : Int), .slice A1 (lpV n) c1] 27)).alloc (.cells #[.int .i64 0, .int .i64 1, .int .i64 3, .int .i64 5] 3)) (.cells #[.int .i64 0, .int .i64 1, .int .i64 3, .int .i64 3] 3))
  have hB5 := hB4.trans (hal.mono hB4.size)
  clear hal l1 l2 hB4
  refine (batSorting n A1 c1 _ rX h1 h4).mono ?_
  rintro e w6 ⟨rfl, hb⟩
  have hB6 := hB5.trans (hb.mono hB5.size)
  replace rX := rX.below hb
  replace rBX := rBX.below hb
  clear hb hB5
  obtain ⟨b0, b1, b2, b3, b4⟩ := own_box2 rBX
  go_wp2_with fail
  clear b0 b1 b2 b3 b4
  refine (batStd n A1 c1 _ rX h1 h4).mono ?_
  rintro e w7 ⟨rfl, hb⟩
  have hB7 := hB6.trans (hb.mono hB6.size)
  replace rX := rX.below hb
  replace rBX := rBX.below hb
  clear hb hB6
  obtain ⟨b0, b1, b2, b3, b4⟩ := own_box2 rBX
  go_wp2_with fail
  clear b0 b1 b2 b3 b4
  refine (batShortest n A1 c1 _ rX h1 h4).mono ?_
  rintro e w8 ⟨rfl, hb⟩
  have hB8 := hB7.trans (hb.mono hB7.size)
  replace rX := rX.below hb
  replace rBX := rBX.below hb
  clear hb hB7
  obtain ⟨b0, b1, b2, b3, b4⟩ := own_box2 rBX
  go_wp2_with fail
  clear b0 b1 b2 b3 b4
  refine (batLean n A1 c1 _ rX h1 h4).mono ?_
  rintro e w9 ⟨rfl, hb⟩
  have hB9 := hB8.trans (hb.mono hB8.size)
  replace rX := rX.below hb
  replace rBX := rBX.below hb
  clear hb hB8
  go_wp2_with fail
  refine (implBound n _ h1 h4).mono ?_
  rintro e w10 ⟨rfl, hb⟩
  have hB10 := hB9.trans (hb.mono hB9.size)
  replace rX := rX.below hb
  replace rBX := rBX.below hb
  clear hb hB9
  obtain ⟨b0, b1, b2, b3, b4⟩ := own_box2 rBX
  go_wp2_with fail
  clear b0 b1 b2 b3 b4
  refine (batDepth n A1 c1 _ rX h1 h4).mono ?_
  rintro e w11 ⟨D, rfl, hD, hb⟩
  have hB11 := hB10.trans (hb.mono hB10.size)
  replace rX := rX.below hb
  replace rBX := rBX.below hb
  clear hb hB10
  clear rX rBX
  have hD1 : decide ((D : Int) < (ldV n : Nat)) = false := decide_eq_false (by have := hD.out; omega)
  have hD2 : decide (D < ldV n) = false := decide_eq_false (by have := hD.out; omega)
  clear hD
  go_upto_region 9 with fail
  go_cut [105] (fun v wx => v = .bool false ∧ ∃ wz, wz = wx ∧ Below w.heap.size w wz)
  case first =>
    clear hD1 hD2 hk hk4 hk4i
    by_cases hp : lpV n = 0
    · go_wp2_with fail
      go_meet
      case rel => exact ⟨rfl, _, rfl, hB11⟩
    · have hp1 : (0 : Int) < (lpV n : Nat) := by omega
      by_cases h3 : n ≤ 3
      · have h3i : (n : Int) ≤ 3 := by omega
        obtain ⟨q, hq⟩ : ∃ q, q + 1 = lpV n := ⟨lpV n - 1, by omega⟩
        have hqi : ((lpV n : Nat) : Int) - 1 = (q : Int) := by omega
        have h2 : 2 ≤ n := by
          rcases Nat.lt_or_ge n 2 with h | h
          · exact absurd ((show n = 1 by omega) ▸ lpV_one.1) hp
          · exact h
        have HQ := Lib.hid hq
        have hl3 := (lp_le h1 h4).2.1 h3
        clear hq hp
        go_wp2_with fail
        refine (cntLow n _ h2 h3 q HQ.out).mono ?_
        rintro e w12 ⟨rfl, hb⟩
        have hB12 := hB11.trans (hb.mono hB11.size)
        clear hb hB11
        go_wp2_with fail
        refine (cntAt n (lpV n) _ h2 h3 hl3).mono ?_
        rintro e w13 ⟨c, rfl, hc1, hc2, hb⟩
        have hB13 := hB12.trans (hb.mono hB12.size)
        have hc3 : decide ((c : Int) < 1) = false := decide_eq_false (by have := hc2.2 (Nat.le_refl _); omega)
        have hc4 : decide (c < 1) = false := decide_eq_false (by have := hc2.2 (Nat.le_refl _); omega)
        clear hb hB12 hc2
        go_wp2_with fail
        go_meet
        case rel => exact ⟨rfl, _, rfl, hB13⟩
      · have h3i : decide ((n : Int) ≤ 3) = false := decide_eq_false (by omega)
        have h3n : decide (n ≤ 3) = false := decide_eq_false (by omega)
        go_wp2_with fail
        go_meet
        case rel => exact ⟨rfl, _, rfl, hB11⟩
  case rest =>
    obtain ⟨rfl, wz, rfl, hB0⟩ := hcut
    go_wp2_with fail
    refine (specSorting A0 n0 c0 bs _ (HA.out.below hB0) HZ.out hn0).mono ?_
    rintro e w6 ⟨W, m, A2, c2, z, rfl, ⟨hW1, hW4⟩, hm, hYL, rY, hb⟩
    have hB6 := hB0.trans (hb.mono hB0.size)
    have hzl := rY.1
    have HYL := Lib.hid (y_law hW1 hW4 hYL hzl)
    have hal := below_alloc w6 (.cells #[.int .i64 (W : Int), .slice A2 m c2] 27)
    replace rY := rY.below hal
    have rBY := own_netbox w6 (W : Int) A2 m c2
    have hB7 := hB6.trans (hal.mono hB6.size)
    have HY := Lib.hid rY
    have HBY := Lib.hid rBY
    have HBW := Lib.hid hB7
    clear hYL hzl hb hB0 hB6 hal rY rBY hB7
    obtain ⟨wq, hwq⟩ : ∃ wq, w6.alloc (.cells #[.int .i64 (W : Int), .slice A2 m c2] 27) = wq := ⟨_, rfl⟩
    rw [hwq] at HY HBY HBW
    have HWQ := Lib.hid hwq
    clear hwq
    go_upto_region 12 with fail
    rw [HWQ.out]
    go_cut [134] (fun v wx => v = .bool false ∧ ∃ wz, wz = wx ∧ Below wq.heap.size wq wz)
    case first =>
      obtain ⟨b0, b1, b2, b3, b4⟩ := own_box2 HBY.out
      obtain ⟨f1, f2, f3, f4⟩ := HYL.out
      have CLP := Lib.hid (fun wx => implLeastP W wx hW1 hW4)
      have CLD := Lib.hid (fun wx => implLeastD W wx hW1 hW4)
      have CDP := Lib.hid (fun wx (h : RdM wx A2 m z) => netDepth W m A2 c2 z wx f2 h hW1 hW4 (by omega) f3)
      have CSH := Lib.hid (fun wx (h : RdM wx A2 m z) => netShortest W m A2 c2 z wx f2 h hW1 hW4 (by omega) f4)
      have hm1 : decide ((m : Int) < (lpV W : Nat)) = false := decide_eq_false (by omega)
      have hm2 : decide (m < lpV W) = false := decide_eq_false (by omega)
      clear f1 f2 f3 f4
      refine wp_region_held_drew (S := (fun w' => w'.cell? ⟨w6.heap.size, 0, none⟩ = some (.int .i64 (W : Int)) ∧ w'.cell? ⟨w6.heap.size, 1, none⟩ = some (.slice A2 m c2))) (by kernel_rfl) ?_ (fun hHeld => ?_)
      · go_keep
      refine wpAnyH_take (i := 0) (oi := { dst := _, op := _, type := _, pos := _, after := _, guard := none }) (v := ?_) rfl (by kernel_rfl) (by kernel_rfl) (by kernel_rfl) (fun _ _ _ h => h) (Or.inl ⟨by rfl, ?_⟩) (by assumption) ?_
      rotate_left
      · intro w hSw; (try dsimp only at hSw); go_simp; (try with_reducible rfl)
      try simp only [Act.put, List.setIfInBounds_toArray, List.set_cons_zero, List.set_cons_succ]
      refine wpAnyH_take (i := 1) (oi := { dst := _, op := _, type := _, pos := _, after := _, guard := none }) (v := ?_) rfl (by kernel_rfl) (by kernel_rfl) (by kernel_rfl) (fun _ _ _ h => h) (Or.inl ⟨by rfl, ?_⟩) (by assumption) ?_
      rotate_left
      · intro w hSw; (try dsimp only at hSw); go_simp; (try with_reducible rfl)
      try simp only [Act.put, List.setIfInBounds_toArray, List.set_cons_zero, List.set_cons_succ]
      refine wpAnyH_take (i := 2) (oi := { dst := _, op := _, type := _, pos := _, after := _, guard := none }) (v := ?_) rfl (by kernel_rfl) (by kernel_rfl) (by kernel_rfl) (fun _ _ _ h => h) (Or.inl ⟨by rfl, ?_⟩) (by assumption) ?_
      rotate_left
      · intro w hSw; (try dsimp only at hSw); go_simp; (try with_reducible rfl)
      try simp only [Act.put, List.setIfInBounds_toArray, List.set_cons_zero, List.set_cons_succ]
      refine wpAnyH_take (i := 3) (oi := { dst := _, op := _, type := _, pos := _, after := _, guard := none }) (v := ?_) rfl (by kernel_rfl) (by kernel_rfl) (by kernel_rfl) (fun _ _ _ h => h) (Or.inl ⟨by rfl, ?_⟩) (by assumption) ?_
      rotate_left
      · intro w hSw; (try dsimp only at hSw); go_simp; (try with_reducible rfl)
      try simp only [Act.put, List.setIfInBounds_toArray, List.set_cons_zero, List.set_cons_succ]
      refine wpAnyH_take (i := 4) (oi := { dst := _, op := _, type := _, pos := _, after := _, guard := none }) (v := ?_) rfl (by kernel_rfl) (by kernel_rfl) (by kernel_rfl) (fun _ _ _ h => h) (Or.inl ⟨by rfl, ?_⟩) (by assumption) ?_
      rotate_left
      · intro w hSw; (try dsimp only at hSw); go_simp; (try with_reducible rfl)
      try simp only [Act.put, List.setIfInBounds_toArray, List.set_cons_zero, List.set_cons_succ]
      refine wpAnyH_ready (rs := [5]) (by kernel_rfl) (by simp) ?_
      refine AllReadyH.cons rfl (fun K hK => ?_) AllReadyH.nil
      go_simp
      refine (CLP.out _).mono ?_
      rintro e wA ⟨rfl, hbA⟩
      have hA := RdM.below (by exact HY.out) hbA
      have ltA := Nat.lt_of_lt_of_le b4 hbA.size
      have sA1 := (hbA.cell (p := ⟨w6.heap.size, 0, none⟩) b4).trans b0
      have sA2 := (hbA.cell (p := ⟨w6.heap.size, 1, none⟩) b4).trans b1
      try go_simp
      refine hK.out _ _ ⟨sA1, sA2⟩ (fun hHeld1 => ?_)
      clear hK K
      try simp only [Act.put, List.setIfInBounds_toArray, List.set_cons_zero, List.set_cons_succ]
      refine wpAnyH_take (i := 6) (oi := { dst := _, op := _, type := _, pos := _, after := _, guard := none }) (v := ?_) rfl (by kernel_rfl) (by kernel_rfl) (by kernel_rfl) (fun _ _ _ h => h) (Or.inl ⟨by rfl, ?_⟩) (by assumption) ?_
      rotate_left
      · intro w hSw; (try dsimp only at hSw); go_simp; (try with_reducible rfl)
      try simp only [Act.put, List.setIfInBounds_toArray, List.set_cons_zero, List.set_cons_succ]
      refine wpAnyH_take (i := 7) (oi := { dst := _, op := _, type := _, pos := _, after := _, guard := none }) (v := ?_) rfl (by kernel_rfl) (by kernel_rfl) (by kernel_rfl) (fun _ _ _ h => h) (Or.inl ⟨by rfl, ?_⟩) (by assumption) ?_
      rotate_left
      · intro w hSw; (try dsimp only at hSw); go_simp; (try with_reducible rfl)
      try simp only [Act.put, List.setIfInBounds_toArray, List.set_cons_zero, List.set_cons_succ]
      refine wpAnyH_take (i := 8) (oi := { dst := _, op := _, type := _, pos := _, after := _, guard := some (7, false) }) (v := ?_) rfl (by kernel_rfl) (by kernel_rfl) (by kernel_rfl) (fun _ _ _ h => h) (Or.inl ⟨by rfl, ?_⟩) (by assumption) ?_
      rotate_left
      · intro w hSw; (try dsimp only at hSw); go_simp; (try with_reducible rfl)
      try simp only [Act.put, List.setIfInBounds_toArray, List.set_cons_zero, List.set_cons_succ]
      refine wpAnyH_take (i := 10) (oi := { dst := _, op := _, type := _, pos := _, after := _, guard := some (7, false) }) (v := ?_) rfl (by kernel_rfl) (by kernel_rfl) (by kernel_rfl) (fun _ _ _ h => h) (Or.inl ⟨by rfl, ?_⟩) (by assumption) ?_
      rotate_left
      · intro w hSw; (try dsimp only at hSw); go_simp; (try with_reducible rfl)
      try simp only [Act.put, List.setIfInBounds_toArray, List.set_cons_zero, List.set_cons_succ]
      refine wpAnyH_take (i := 11) (oi := { dst := _, op := _, type := _, pos := _, after := _, guard := some (7, false) }) (v := ?_) rfl (by kernel_rfl) (by kernel_rfl) (by kernel_rfl) (fun _ _ _ h => h) (Or.inl ⟨by rfl, ?_⟩) (by assumption) ?_
      rotate_left
      · intro w hSw; (try dsimp only at hSw); go_simp; (try with_reducible rfl)
      try simp only [Act.put, List.setIfInBounds_toArray, List.set_cons_zero, List.set_cons_succ]
      refine wpAnyH_ready (rs := [9]) (by kernel_rfl) (by simp) ?_
      refine AllReadyH.cons rfl (fun K hK => ?_) AllReadyH.nil
      go_simp
      refine (CDP.out _ (by exact hA)).mono ?_
      rintro e wB ⟨D, rfl, hD, hbB⟩
      have hB := RdM.below (by exact hA) hbB
      have ltB := Nat.lt_of_lt_of_le ltA hbB.size
      have sB1 := (hbB.cell (p := ⟨w6.heap.size, 0, none⟩) ltA).trans sA1
      have sB2 := (hbB.cell (p := ⟨w6.heap.size, 1, none⟩) ltA).trans sA2
      have hD1 : decide ((D : Int) < (ldV W : Nat)) = false := decide_eq_false (by have := hD.out; omega)
      have hD2 : decide (D < ldV W) = false := decide_eq_false (by have := hD.out; omega)
      clear hD
      try go_simp
      refine hK.out _ _ ⟨sB1, sB2⟩ (fun hHeld2 => ?_)
      clear hK K
      try simp only [Act.put, List.setIfInBounds_toArray, List.set_cons_zero, List.set_cons_succ]
      refine wpAnyH_ready (rs := [12]) (by kernel_rfl) (by simp) ?_
      refine AllReadyH.cons rfl (fun K hK => ?_) AllReadyH.nil
      go_simp
      refine (CLD.out _).mono ?_
      rintro e wC ⟨rfl, hbC⟩
      have hC := RdM.below (by exact hB) hbC
      have ltC := Nat.lt_of_lt_of_le ltB hbC.size
      have sC1 := (hbC.cell (p := ⟨w6.heap.size, 0, none⟩) ltB).trans sB1
      have sC2 := (hbC.cell (p := ⟨w6.heap.size, 1, none⟩) ltB).trans sB2
      try go_simp
      refine hK.out _ _ ⟨sC1, sC2⟩ (fun hHeld3 => ?_)
      clear hK K
      try simp only [Act.put, List.setIfInBounds_toArray, List.set_cons_zero, List.set_cons_succ]
      refine wpAnyH_take (i := 13) (oi := { dst := _, op := _, type := _, pos := _, after := _, guard := some (7, false) }) (v := ?_) rfl (by kernel_rfl) (by kernel_rfl) (by kernel_rfl) (fun _ _ _ h => h) (Or.inl ⟨by rfl, ?_⟩) (by assumption) ?_
      rotate_left
      · intro w hSw; (try dsimp only at hSw); go_simp; (try with_reducible rfl)
      try simp only [Act.put, List.setIfInBounds_toArray, List.set_cons_zero, List.set_cons_succ]
      refine wpAnyH_take (i := 14) (oi := { dst := _, op := _, type := _, pos := _, after := _, guard := none }) (v := ?_) rfl (by kernel_rfl) (by kernel_rfl) (by kernel_rfl) (fun _ _ _ h => h) (Or.inl ⟨by rfl, ?_⟩) (by assumption) ?_
      rotate_left
      · intro w hSw; (try dsimp only at hSw); go_simp; (try with_reducible rfl)
      try simp only [Act.put, List.setIfInBounds_toArray, List.set_cons_zero, List.set_cons_succ]
      refine wpAnyH_take (i := 15) (oi := { dst := _, op := _, type := _, pos := _, after := _, guard := none }) (v := ?_) rfl (by kernel_rfl) (by kernel_rfl) (by kernel_rfl) (fun _ _ _ h => h) (Or.inl ⟨by rfl, ?_⟩) (by assumption) ?_
      rotate_left
      · intro w hSw; (try dsimp only at hSw); go_simp; (try with_reducible rfl)
      try simp only [Act.put, List.setIfInBounds_toArray, List.set_cons_zero, List.set_cons_succ]
      refine wpAnyH_take (i := 16) (oi := { dst := _, op := _, type := _, pos := _, after := _, guard := some (15, false) }) (v := ?_) rfl (by kernel_rfl) (by kernel_rfl) (by kernel_rfl) (fun _ _ _ h => h) (Or.inl ⟨by rfl, ?_⟩) (by assumption) ?_
      rotate_left
      · intro w hSw; (try dsimp only at hSw); go_simp; (try with_reducible rfl)
      try simp only [Act.put, List.setIfInBounds_toArray, List.set_cons_zero, List.set_cons_succ]
      refine wpAnyH_take (i := 18) (oi := { dst := _, op := _, type := _, pos := _, after := _, guard := some (15, false) }) (v := ?_) rfl (by kernel_rfl) (by kernel_rfl) (by kernel_rfl) (fun _ _ _ h => h) (Or.inl ⟨by rfl, ?_⟩) (by assumption) ?_
      rotate_left
      · intro w hSw; (try dsimp only at hSw); go_simp; (try with_reducible rfl)
      try simp only [Act.put, List.setIfInBounds_toArray, List.set_cons_zero, List.set_cons_succ]
      refine wpAnyH_take (i := 19) (oi := { dst := _, op := _, type := _, pos := _, after := _, guard := some (15, false) }) (v := ?_) rfl (by kernel_rfl) (by kernel_rfl) (by kernel_rfl) (fun _ _ _ h => h) (Or.inl ⟨by rfl, ?_⟩) (by assumption) ?_
      rotate_left
      · intro w hSw; (try dsimp only at hSw); go_simp; (try with_reducible rfl)
      try simp only [Act.put, List.setIfInBounds_toArray, List.set_cons_zero, List.set_cons_succ]
      refine wpAnyH_take (i := 20) (oi := { dst := _, op := _, type := _, pos := _, after := _, guard := some (15, false) }) (v := ?_) rfl (by kernel_rfl) (by kernel_rfl) (by kernel_rfl) (fun _ _ _ h => h) (Or.inl ⟨by rfl, ?_⟩) (by assumption) ?_
      rotate_left
      · intro w hSw; (try dsimp only at hSw); go_simp; (try with_reducible rfl)
      try simp only [Act.put, List.setIfInBounds_toArray, List.set_cons_zero, List.set_cons_succ]
      refine wpAnyH_take (i := 21) (oi := { dst := _, op := _, type := _, pos := _, after := _, guard := some (15, false) }) (v := ?_) rfl (by kernel_rfl) (by kernel_rfl) (by kernel_rfl) (fun _ _ _ h => h) (Or.inl ⟨by rfl, ?_⟩) (by assumption) ?_
      rotate_left
      · intro w hSw; (try dsimp only at hSw); go_simp; (try with_reducible rfl)
      try simp only [Act.put, List.setIfInBounds_toArray, List.set_cons_zero, List.set_cons_succ]
      refine wpAnyH_take (i := 22) (oi := { dst := _, op := _, type := _, pos := _, after := _, guard := some (15, false) }) (v := ?_) rfl (by kernel_rfl) (by kernel_rfl) (by kernel_rfl) (fun _ _ _ h => h) (Or.inl ⟨by rfl, ?_⟩) (by assumption) ?_
      rotate_left
      · intro w hSw; (try dsimp only at hSw); go_simp; (try with_reducible rfl)
      try simp only [Act.put, List.setIfInBounds_toArray, List.set_cons_zero, List.set_cons_succ]
      refine wpAnyH_ready (rs := [17]) (by kernel_rfl) (by simp) ?_
      refine AllReadyH.cons rfl (fun K hK => ?_) AllReadyH.nil
      go_simp
      refine (CSH.out _ (by exact hC)).mono ?_
      rintro e wD ⟨rfl, hbD⟩
      have hD := RdM.below (by exact hC) hbD
      have ltD := Nat.lt_of_lt_of_le ltC hbD.size
      have sD1 := (hbD.cell (p := ⟨w6.heap.size, 0, none⟩) ltC).trans sC1
      have sD2 := (hbD.cell (p := ⟨w6.heap.size, 1, none⟩) ltC).trans sC2
      try go_simp
      refine hK.out _ _ ⟨sD1, sD2⟩ (fun hHeld4 => ?_)
      clear hK K
      try simp only [Act.put, List.setIfInBounds_toArray, List.set_cons_zero, List.set_cons_succ]
      refine wpAnyH_ready (rs := [23]) (by kernel_rfl) (by simp) ?_
      refine AllReadyH.cons rfl (fun K hK => ?_) AllReadyH.nil
      go_simp
      refine (CLP.out _).mono ?_
      rintro e wE ⟨rfl, hbE⟩
      have hE := RdM.below (by exact hD) hbE
      have ltE := Nat.lt_of_lt_of_le ltD hbE.size
      have sE1 := (hbE.cell (p := ⟨w6.heap.size, 0, none⟩) ltD).trans sD1
      have sE2 := (hbE.cell (p := ⟨w6.heap.size, 1, none⟩) ltD).trans sD2
      try go_simp
      refine hK.out _ _ ⟨sE1, sE2⟩ (fun hHeld5 => ?_)
      clear hK K
      try simp only [Act.put, List.setIfInBounds_toArray, List.set_cons_zero, List.set_cons_succ]
      refine wpAnyH_take (i := 24) (oi := { dst := _, op := _, type := _, pos := _, after := _, guard := some (15, false) }) (v := ?_) rfl (by kernel_rfl) (by kernel_rfl) (by kernel_rfl) (fun _ _ _ h => h) (Or.inl ⟨by rfl, ?_⟩) (by assumption) ?_
      rotate_left
      · intro w hSw; (try dsimp only at hSw); go_simp; (try with_reducible rfl)
      try simp only [Act.put, List.setIfInBounds_toArray, List.set_cons_zero, List.set_cons_succ]
      refine wpAnyH_take (i := 25) (oi := { dst := _, op := _, type := _, pos := _, after := _, guard := some (15, false) }) (v := ?_) rfl (by kernel_rfl) (by kernel_rfl) (by kernel_rfl) (fun _ _ _ h => h) (Or.inl ⟨by rfl, ?_⟩) (by assumption) ?_
      rotate_left
      · intro w hSw; (try dsimp only at hSw); go_simp; (try with_reducible rfl)
      try simp only [Act.put, List.setIfInBounds_toArray, List.set_cons_zero, List.set_cons_succ]
      refine wpAnyH_take (i := 26) (oi := { dst := _, op := _, type := _, pos := _, after := _, guard := none }) (v := ?_) rfl (by kernel_rfl) (by kernel_rfl) (by kernel_rfl) (fun _ _ _ h => h) (Or.inl ⟨by rfl, ?_⟩) (by assumption) ?_
      rotate_left
      · intro w hSw; (try dsimp only at hSw); go_simp; (try with_reducible rfl)
      try simp only [Act.put, List.setIfInBounds_toArray, List.set_cons_zero, List.set_cons_succ]
      refine wpAnyH_done (by kernel_rfl) ?_ _
      go_wp2_with fail
      have tA : Below wq.heap.size wq wA := (by first | exact (Below.refl wq.heap.size wq).trans (hbA.mono (Below.refl wq.heap.size wq).size) | exact below_oneD (Below.refl wq.heap.size wq) hbA (Below.refl wq.heap.size wq).size)
      have tB : Below wq.heap.size wq wB := (by first | exact (tA).trans (hbB.mono (tA).size) | exact below_oneD (tA) hbB (tA).size)
      have tC : Below wq.heap.size wq wC := (by first | exact (tB).trans (hbC.mono (tB).size) | exact below_oneD (tB) hbC (tB).size)
      have tD : Below wq.heap.size wq wD := (by first | exact (tC).trans (hbD.mono (tC).size) | exact below_oneD (tC) hbD (tC).size)
      have tE : Below wq.heap.size wq wE := (by first | exact (tD).trans (hbE.mono (tD).size) | exact below_oneD (tD) hbE (tD).size)
      go_meet
      case rel => exact ⟨rfl, _, rfl, (by first | exact tE | exact below_drewN (tE) _ | exact (tE).drew)⟩
    case rest =>
      obtain ⟨rfl, wz, rfl, hbW⟩ := hcut
      have hB8 := HBW.out.trans (hbW.mono HBW.out.size)
      clear hbW HBY HY HBW HYL
      go_wp2_with fail
      refine (specSize A0 n0 c0 1 1 2 3 bs _ (HA.out.below hB8) HZ.out hn0 (by omega) (by omega) (by omega) (by omega) (by omega)).mono ?_
      rintro e w9 ⟨x2, hx2, rfl, hb⟩
      have hB9 := hB8.trans (hb.mono hB8.size)
      clear hb hB8
      obtain ⟨m2, hm2e, hm2, hm3⟩ : ∃ m2 : Nat, (2 : Int) + x2 = m2 ∧ 2 ≤ m2 ∧ m2 ≤ 3 := ⟨2 + x2, by omega, by omega, by omega⟩
      rw [hm2e]
      clear hm2e hx2
      go_wp2_with fail
      refine (specSize A0 n0 c0 2 3 0 3 bs _ (HA.out.below hB9) HZ.out hn0 (by omega) (by omega) (by omega) (by omega) (by omega)).mono ?_
      rintro e w10 ⟨k2, hk2, rfl, hb⟩
      have hB10 := hB9.trans (hb.mono hB9.size)
      clear hb hB9
      rw [Int.zero_add]
      go_wp2_with fail
      refine (setsAt m2 k2 _ hm2 hm3 hk2).mono ?_
      rintro e w11 ⟨s, rfl, hse, hb⟩
      have hB11 := hB10.trans (hb.mono hB10.size)
      clear hb hB10
      go_wp2_with fail
      refine (kindsAt m2 k2 s _ hm2 hm3 hk2 hse).mono ?_
      rintro e w12 ⟨q, rfl, ⟨hq1, hq2, hq3, hq4⟩, hb⟩
      have hB12 := hB11.trans (hb.mono hB11.size)
      clear hb hB11 hse
      go_wp2_with fail
      refine (cntAt m2 k2 _ hm2 hm3 hk2).mono ?_
      rintro e w13 ⟨c, rfl, hc1, hc2, hb⟩
      have hB13 := hB12.trans (hb.mono hB12.size)
      clear hb hB12
      have HQ4 := Lib.hid hq4
      have HC2 := Lib.hid hc2
      have CL := Lib.hid (fun wx => implLeastP m2 wx (by omega) (by omega))
      have hq1i : (1 : Int) ≤ q := by omega
      have hq2i : (q : Int) ≤ s := by omega
      clear hq4 hc2
      rcases Nat.eq_zero_or_pos k2 with hk0 | hk0
      · subst hk0
        obtain rfl : s = 1 := by rcases HQ4.out with h | h <;> omega
        obtain rfl : q = 1 := by omega
        by_cases hl : lpV m2 ≤ 0
        · have hcp : 0 < c := HC2.out.2 hl
          have hcpi : (0 : Int) < c := by omega
          have hl0 : lpV m2 = 0 := by omega
          clear hq1 hq2 hq3 hq1i hq2i HQ4 HC2 hk2
          go_wp2_with fail
          refine (CL.out _).mono ?_
          rintro e w14 ⟨rfl, hb⟩
          have hB14 := hB13.trans (hb.mono hB13.size)
          clear hb hB13
          go_wp2_with fail
          go_ret
          exact ⟨rfl, hB14⟩
        · have hc0 : c = 0 := by have := HC2.out; omega
          subst hc0
          have hl1 : decide (((lpV m2 : Nat) : Int) ≤ 0) = false := decide_eq_false (by omega)
          have hl2 : decide (lpV m2 ≤ 0) = false := decide_eq_false (by omega)
          have hl3 : decide (lpV m2 = 0) = false := decide_eq_false (by omega)
          clear hq1 hq2 hq3 hq1i hq2i HQ4 HC2 hk2 hl
          go_wp2_with fail
          refine (CL.out _).mono ?_
          rintro e w14 ⟨rfl, hb⟩
          have hB14 := hB13.trans (hb.mono hB13.size)
          clear hb hB13
          go_wp2_with fail
          go_ret
          exact ⟨rfl, hB14⟩
      · have hk0i : (0 : Int) < k2 := by omega
        by_cases hl : lpV m2 ≤ k2
        · have hcp : 0 < c := HC2.out.2 hl
          have hcpi : (0 : Int) < c := by omega
          have hli : ((lpV m2 : Nat) : Int) ≤ k2 := by omega
          clear HQ4 HC2
          go_wp2_with fail
          refine (CL.out _).mono ?_
          rintro e w14 ⟨rfl, hb⟩
          have hB14 := hB13.trans (hb.mono hB13.size)
          clear hb hB13
          go_wp2_with fail
          go_ret
          exact ⟨rfl, hB14⟩
        · have hc0 : c = 0 := by have := HC2.out; omega
          subst hc0
          have hl1 : decide (((lpV m2 : Nat) : Int) ≤ (k2 : Int)) = false := decide_eq_false (by omega)
          have hl2 : decide (lpV m2 ≤ k2) = false := decide_eq_false hl
          clear HQ4 HC2 hl
          go_wp2_with fail
          refine (CL.out _).mono ?_
          rintro e w14 ⟨rfl, hb⟩
          have hB14 := hB13.trans (hb.mono hB13.size)
          clear hb hB13
          go_wp2_with fail
          go_ret
          exact ⟨rfl, hB14⟩
end Go.Proofs.YtobdkfhmmpigiaaGreat
