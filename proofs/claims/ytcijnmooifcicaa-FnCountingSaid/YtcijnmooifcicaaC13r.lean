/- Chapter 13: the walk of FnCounting. -/
import Derived.Test.YtcijnmooifcicaaC13s
import Derived.Test.YtcijnmooifcicaaC13o
import Derived.Test.YtcijnmooifcicaaC13q
import Derived.Test.YtcijnmooifcicaaC13j
import Derived.Deep.RegionHeld3
import Derived.Deep.DeepCutAuto
namespace Go.Proofs.Ytcijnmooifcicaa
open Go.RowKit Go.Deep
set_option linter.unusedVariables false

theorem specSize3 (A : Option Addr) (n c N : Nat) (zs : List Int) (w : World) (ha : RdU w A n zs) (hz : ∀ z ∈ zs, 0 ≤ z ∧ z < 256) (hn : n ≤ 1048576) (hN : N ≤ 1000) :
    Calls Try.prog 42 #[.slice A n c, .int .i64 N, .int .i64 0, .int .i64 3] w fun e w' => ∃ x V : Nat, e = .returned (.int .i64 x) ∧ RowKit.wrap64 (2 ^ x) = (V : Int) ∧ (V = 1 ∨ V = 2 ∨ V = 4 ∨ V = 8) ∧ x ≤ 3 ∧ Below w.heap.size w w' := by
  refine (specSize A n c N 3 0 3 zs w ha hz hn hN (by omega) (by omega) (by omega) (by omega)).mono ?_
  rintro e w' ⟨x, hx, rfl, hb⟩
  refine ⟨x, 2 ^ x, by rw [Int.zero_add], wrap_pow x (by omega), ?_, hx, hb⟩
  have hc : x = 0 ∨ x = 1 ∨ x = 2 ∨ x = 3 := by omega
  rcases hc with rfl | rfl | rfl | rfl
  · exact .inl rfl
  · exact .inr (.inl rfl)
  · exact .inr (.inr (.inl rfl))
  · exact .inr (.inr (.inr rfl))
theorem below_oneD {B : Nat} {a wr wA : World} (h : Below B a wr) {m : Nat} (hA : Below wr.heap.size (wr.drewN m) wA) (hB : B ≤ wr.heap.size) : Below B a wA := (below_drewN h m).trans (hA.mono hB)
theorem own_cnt {w : World} {g W B i a : Nat} {l : List Int} (h : OwnI w B 3 (some ⟨g, 0, none⟩) W W (cntL W l i)) (ha : nth l i = a) (hW : a < W) :
    w.cell? ⟨g, a, none⟩ = some (.int .i64 (cnt l i a : Nat)) ∧ w.frozen? ⟨g, a, none⟩ = false ∧ OwnI (w.setCell ⟨g, a, none⟩ (.int .i64 ((cnt l i a : Int) + 1))) B 3 (some ⟨g, 0, none⟩) W W (cntL W l (i + 1)) := by
  obtain ⟨g', u, hg, _, _, hu, hc, hf⟩ := Own.at_ h hW
  injection hg with hg
  injection hg with hg
  subst hg
  rw [List.getElem?_map, List.getElem?_eq_getElem (show a < (cntL W l i).length by rw [cntL_len]; exact hW)] at hu
  have e := cntL_nth (l := l) (k := i) hW
  rw [nth_eq (by rw [cntL_len]; exact hW)] at e
  rw [e] at hu
  have hu2 : u = .int .i64 (cnt l i a : Nat) := by simpa using hu.symm
  have h2 := h.setI (x := (cnt l i a : Int) + 1) hW
  rw [cntL_set ha hW] at h2
  exact ⟨hu2 ▸ hc, hf, h2⟩

set_option maxHeartbeats 32000000 in
set_option maxRecDepth 100000 in
theorem lawCounting (w : World) (A0 : Option Addr) (n0 c0 : Nat) (bs : List Int) (g : RdArgB w A0 n0 c0 bs) :
    Calls Try.prog 11 #[.slice A0 n0 c0] w fun e w' => e = .returned (.bool true) ∧ Below w.heap.size w w' := by
  have HA := Lib.hid g.1
  have HZ := Lib.hid g.2
  clear g
  by_cases hn0 : 1048576 < n0
  · go_enter Try.func11, Try.ntmps11
    go_wp2
    go_ret
    exact ⟨rfl, Below.refl _ _⟩
  replace hn0 : n0 ≤ 1048576 := by omega
  go_enter Try.func11, Try.ntmps11
  go_wp2_with fail
  refine (specNetwork A0 n0 c0 0 bs w HA.out HZ.out hn0 (by omega)).mono ?_
  rintro e w1 ⟨W, A1, m, c1, zss, rfl, hW, hm, hR, rX, hB0⟩
  have hm6 : m ≤ 1048576 := by omega
  obtain ⟨hW1, hW6⟩ := hW
  have hWW : W ≤ 1048576 := by omega
  have HNET := Lib.hid (netR_ok hR hW1 (by omega) (by omega))
  have HR := Lib.hid hR
  have hal := below_alloc w1 (.cells #[.int .i64 (W : Int), .slice A1 m c1] 35)
  replace rX := rX.below hal
  have rBX := own_netbox w1 (W : Int) A1 m c1
  have hB1 := hB0.trans (hal.mono hB0.size)
  obtain ⟨gX, hgX⟩ : ∃ gX, w1.heap.size = gX := ⟨_, rfl⟩
  clear hR hB0 hal hgX
  clear gX
  go_wp2_with fail
  refine (specMakeTokens A0 n0 c0 20 W bs _ (HA.out.below hB1) HZ.out hn0 (by omega) (by omega)).mono ?_
  rintro e w2 ⟨AT, cT, ts, rfl, rT, hT, hb⟩
  have hB2 := hB1.trans (hb.mono hB1.size)
  replace rX := rX.below hb
  replace rBX := rBX.below hb
  clear hb hB1 
  obtain ⟨tk, hTO⟩ := tok_law HR.out.1 HNET.out hT
  have HT := Lib.hid (show ∀ x : Int, x ∈ ts → 0 ≤ x ∧ x ≤ 1000 from fun x hx => by have := nums_mem hT x hx; omega)
  have HTO := Lib.hid hTO
  clear hT hTO
  obtain ⟨b0, b1, b2, b3, b4⟩ := own_box rBX
  go_wp2_with fail
  refine (implCountTokens W A1 m c1 zss AT W cT ts _ rX hm6 rT hWW).mono ?_
  rintro e w3 ⟨A2, n2, c2, rfl, o2, hb⟩
  have hB3 := hB2.trans (hb.mono hB2.size)
  replace rX := rX.below hb
  replace rBX := rBX.below hb
  replace rT := rT.below hb
  clear hb hB2 b0 b1 b2 b3 b4
  rw [HTO.out.ok]
  rw [HTO.out.out] at o2
  obtain rfl : W = n2 := by rw [← o2.lenI, HTO.out.len]
  have r2 := o2.rd
  clear o2
  go_wp2_with fail
  refine (lawSum A2 W c2 tk _ r2 (by omega) HTO.out.small).mono ?_
  rintro e w' ⟨rfl, rfl⟩
  rw [HTO.out.sum]
  go_wp2_with fail
  refine (lawSum AT W cT ts _ rT (by omega) HT.out).mono ?_
  rintro e w' ⟨rfl, rfl⟩
  clear r2
  obtain ⟨b0, b1, b2, b3, b4⟩ := own_box rBX
  go_wp2_with fail
  refine (implTokensOk W A1 m c1 zss AT W cT ts _ rX hm6 rT hWW).mono ?_
  rintro e w4 ⟨rfl, hb⟩
  have hB4 := hB3.trans (hb.mono hB3.size)
  replace rX := rX.below hb
  replace rBX := rBX.below hb
  replace rT := rT.below hb
  clear hb hB3 b0 b1 b2 b3 b4
  rw [HTO.out.ok]
  clear rT
  go_wp2_with fail
  refine (specEntries A0 n0 c0 40 W bs _ (HA.out.below hB4) HZ.out hn0 (by omega) hW1 (by omega)).mono ?_
  rintro e w5 ⟨AE, k, cE, es, rfl, hk, rE, hE, hb⟩
  have hB5 := hB4.trans (hb.mono hB4.size)
  replace rX := rX.below hb
  replace rBX := rBX.below hb
  clear hb hB4 
  obtain ⟨eo, hEO⟩ := ent_law HR.out.1 HNET.out hE (by omega)
  have HE := Lib.hid hE
  have HEO := Lib.hid hEO
  have hk6 : k ≤ 1048576 := by omega
  clear hE hEO
  go_wp2_with (at_make; refine wpL_make _ rfl _ _ 22 rfl 3 (.int .i64 0) 8 Try.underlying22 intInfo rfl _ _ _ _ W rfl rfl rfl rfl (by omega) (by unfold maxLen; omega) ?_)
  intro wM oM hbM hsM
  have HOa := Lib.hid (show OwnI wM w5.heap.size 3 (some ⟨w5.heap.size, 0, none⟩) W W (cntL W es 0) by rw [OwnI, ← cntL_zero, List.map_replicate]; exact oM)
  have HBMa := Lib.hid hbM
  clear oM hbM hsM
  go_wp2_with fail
  go_loopw [71] (fun iv wr => ∃ i : Nat, i ≤ k ∧ iv = .int .i64 i ∧ OwnI wr w5.heap.size 3 (some ⟨w5.heap.size, 0, none⟩) W W (cntL W es i) ∧ Below w5.heap.size w5 wr) (fun iv _ => k - (intOf iv).toNat)
  case atStart => exact ⟨0, Nat.zero_le _, rfl, HOa.out, HBMa.out⟩
  case round =>
    obtain ⟨i, hi, rfl, ho, hbl⟩ := hrel
    by_cases hlt : i < k
    · obtain ⟨a, ha, haW⟩ := HE.out.2 i hlt
      obtain ⟨a1', rfl, _, l1⟩ := (rE.below hbl).at_ hlt
      rw [ha] at l1
      obtain ⟨q0, q1, q2⟩ := own_cnt ho ha haW
      have hcl := cnt_le es i a
      have HQ2 := Lib.hid q2
      have HB2 := Lib.hid (hbl.setCell (p := ⟨w5.heap.size, a, none⟩) (Nat.le_refl _) (.int .i64 ((cnt es i a : Int) + 1)))
      obtain ⟨cc, hcc⟩ : ∃ cc, cnt es i a = cc := ⟨_, rfl⟩
      rw [hcc] at q0 HQ2 HB2 hcl
      clear q2 ho hbl ha hcc
      go_wp2_with fail
      go_roundw
      case rel => exact ⟨i + 1, by omega, by go_num, HQ2.out, HB2.out⟩
      case measure => simp [intOf]; omega
    · obtain rfl : i = k := by omega
      have rI := ho
      have hb := hbl
      clear ho hbl
      have hB6 := hB5.trans (hb.mono hB5.size)
      obtain ⟨w6, hw6⟩ : ∃ wz, wr = wz := ⟨_, rfl⟩
      replace rX := rX.below hb
      replace rBX := rBX.below hb
      replace rE := rE.below hb
      clear hb hB5
      clear hw6
      obtain ⟨b0, b1, b2, b3, b4⟩ := own_box rBX
      go_wp2_with fail
      refine (implTrace W A1 m c1 zss AE i cE es _ rX hm6 rE hk6).mono ?_
      rintro e w7 ⟨A3, n3, c3, rfl, o3, hb⟩
      have hB7 := hB6.trans (hb.mono hB6.size)
      replace rX := rX.below hb
      replace rBX := rBX.below hb
      replace rE := rE.below hb
      replace rI := rI.below hb
      clear hb hB6 b0 b1 b2 b3 b4
      rw [HEO.out.ok]
      rw [HEO.out.out] at o3
      obtain rfl : i = n3 := by rw [← o3.lenI, HEO.out.len]
      have rN := o3.rd
      clear o3
      obtain ⟨k, rfl⟩ : ∃ k, k = i := ⟨_, rfl⟩
      go_wp2_with (at_make; refine wpL_make _ rfl _ _ 22 rfl 3 (.int .i64 0) 8 Try.underlying22 intInfo rfl _ _ _ _ W rfl rfl rfl rfl (by omega) (by unfold maxLen; omega) ?_)
      intro wM oM hbM hsM
      have HOb := Lib.hid (show OwnI wM w7.heap.size 3 (some ⟨w7.heap.size, 0, none⟩) W W (cntL W eo 0) by rw [OwnI, ← cntL_zero, List.map_replicate]; exact oM)
      have HBMb := Lib.hid hbM
      clear oM hbM hsM
      go_wp2_with fail
      go_loopw [92] (fun iv wr => ∃ i : Nat, i ≤ k ∧ iv = .int .i64 i ∧ OwnI wr w7.heap.size 3 (some ⟨w7.heap.size, 0, none⟩) W W (cntL W eo i) ∧ Below w7.heap.size w7 wr) (fun iv _ => k - (intOf iv).toNat)
      case atStart => exact ⟨0, Nat.zero_le _, rfl, HOb.out, HBMb.out⟩
      case round =>
        obtain ⟨i, hi, rfl, ho, hbl⟩ := hrel
        by_cases hlt : i < k
        · obtain ⟨a, ha, haW⟩ := HEO.out.mem i hlt
          obtain ⟨a1', rfl, _, l1⟩ := (rN.below hbl).at_ hlt
          rw [ha] at l1
          obtain ⟨q0, q1, q2⟩ := own_cnt ho ha haW
          have hcl := cnt_le eo i a
          have HQ2 := Lib.hid q2
          have HB2 := Lib.hid (hbl.setCell (p := ⟨w7.heap.size, a, none⟩) (Nat.le_refl _) (.int .i64 ((cnt eo i a : Int) + 1)))
          obtain ⟨cc, hcc⟩ : ∃ cc, cnt eo i a = cc := ⟨_, rfl⟩
          rw [hcc] at q0 HQ2 HB2 hcl
          clear q2 ho hbl ha hcc
          go_wp2_with fail
          go_roundw
          case rel => exact ⟨i + 1, by omega, by go_num, HQ2.out, HB2.out⟩
          case measure => simp [intOf]; omega
        · obtain rfl : i = k := by omega
          have rC := ho
          have hb := hbl
          clear ho hbl
          have hB8 := hB7.trans (hb.mono hB7.size)
          obtain ⟨w8, hw8⟩ : ∃ wz, wr = wz := ⟨_, rfl⟩
          replace rX := rX.below hb
          replace rBX := rBX.below hb
          replace rE := rE.below hb
          replace rI := rI.below hb
          replace rN := rN.below hb
          clear hb hB7
          clear hw8
          obtain ⟨k, rfl⟩ : ∃ k, k = i := ⟨_, rfl⟩
          obtain ⟨b0, b1, b2, b3, b4⟩ := own_box rBX
          go_wp2_with fail
          refine (implCountTokens W A1 m c1 zss _ W W (cntL W es k) _ rX hm6 rI.rd hWW).mono ?_
          rintro e w9 ⟨A4, n4, c4, rfl, o4, hb⟩
          have hB9 := hB8.trans (hb.mono hB8.size)
          replace rX := rX.below hb
          replace rBX := rBX.below hb
          replace rE := rE.below hb
          replace rI := rI.below hb
          replace rN := rN.below hb
          replace rC := rC.below hb
          clear hb hB8 b0 b1 b2 b3 b4
          rw [HEO.out.tok]
          rw [HEO.out.run] at o4
          obtain rfl : W = n4 := by rw [← o4.lenI, cntL_len]
          go_wp2_with fail
          refine (lawSame A4 _ W c4 W (cntL W eo k) _ o4.rd rC.rd hWW).mono ?_
          rintro e w' ⟨rfl, rfl⟩
          clear o4 rI rC rE rN
          have HX := Lib.hid rX
          have HBX := Lib.hid rBX
          have HBW := Lib.hid hB9
          clear rX rBX hB9
          go_upto_region 28 with fail
          go_cut [152] (fun v wx => v = .bool false ∧ ∃ wz, wz = wx ∧ Below w'.heap.size w' wz)
          case first =>
            obtain ⟨b0, b1, b2, b3, b4⟩ := own_box HBX.out
            by_cases h4 : W ≤ 4
            · obtain ⟨b, c, f1, f2, f3, f4⟩ := few_law HR.out hW1 h4 (by omega)
              have CI1 := Lib.hid (show ∀ w', RdM w' A1 m zss → Calls Try.prog 31 #[.agg #[.int .i64 W, .slice A1 m c1], .int .i64 1] w' fun e w2 => e = .returned (.bool b) ∧ Below w'.heap.size w' w2 from fun w' h => f1 ▸ implIsCounting W A1 m c1 zss 1 w' h hm6)
              have CS := Lib.hid (show ∀ w', RdM w' A1 m zss → Calls Try.prog 41 #[.agg #[.int .i64 W, .slice A1 m c1]] w' fun e w2 => e = .returned (.bool b) ∧ Below w'.heap.size w' w2 from fun w' h => f2 ▸ implIsSorting W m A1 c1 zss w' HR.out h hW1 h4 (by omega))
              have CI2 := Lib.hid (show ∀ w', RdM w' A1 m zss → Calls Try.prog 31 #[.agg #[.int .i64 W, .slice A1 m c1], .int .i64 2] w' fun e w2 => e = .returned (.bool c) ∧ Below w'.heap.size w' w2 from fun w' h => f3 ▸ implIsCounting W A1 m c1 zss 2 w' h hm6)
              have h4i : (W : Int) ≤ 4 := by omega
              clear f1 f2 f3
              cases c with
              | true =>
                obtain rfl : b = true := f4 rfl
                clear f4
                refine wp_region_held_drew (S := (fun w' => w'.cell? ⟨w1.heap.size, 0, none⟩ = some (.int .i64 (W : Int)) ∧ w'.cell? ⟨w1.heap.size, 1, none⟩ = some (.slice A1 m c1))) (by kernel_rfl) ?_ (fun hHeld => ?_)
                · go_keep
                refine wpAnyH_take (i := 0) (oi := { dst := _, op := _, type := _, pos := _, after := _, guard := none }) (v := ?_) rfl (by kernel_rfl) (by kernel_rfl) (by kernel_rfl) (fun _ _ _ h => h) (Or.inl ⟨by rfl, ?_⟩) (by assumption) ?_
                rotate_left
                · intro w hSw; (try dsimp only at hSw); go_simp; (try with_reducible rfl)
                try simp only [Act.put, List.setIfInBounds_toArray, List.set_cons_zero, List.set_cons_succ]
                refine wpAnyH_take (i := 1) (oi := { dst := _, op := _, type := _, pos := _, after := _, guard := none }) (v := ?_) rfl (by kernel_rfl) (by kernel_rfl) (by kernel_rfl) (fun _ _ _ h => h) (Or.inl ⟨by rfl, ?_⟩) (by assumption) ?_
                rotate_left
                · intro w hSw; (try dsimp only at hSw); go_simp; (try with_reducible rfl)
                try simp only [Act.put, List.setIfInBounds_toArray, List.set_cons_zero, List.set_cons_succ]
                refine wpAnyH_take (i := 2) (oi := { dst := _, op := _, type := _, pos := _, after := _, guard := none }) (v := ?_) rfl (by kernel_rfl) (by kernel_rfl) (by kernel_rfl) (fun _ _ _ h => h) (Or.inl ⟨by rfl, ?_⟩) (by assumption) ?_
                rotate_left
                · intro w hSw; (try dsimp only at hSw); go_simp; (try with_reducible rfl)
                try simp only [Act.put, List.setIfInBounds_toArray, List.set_cons_zero, List.set_cons_succ]
                refine wpAnyH_take (i := 3) (oi := { dst := _, op := _, type := _, pos := _, after := _, guard := some (2, true) }) (v := ?_) rfl (by kernel_rfl) (by kernel_rfl) (by kernel_rfl) (fun _ _ _ h => h) (Or.inl ⟨by rfl, ?_⟩) (by assumption) ?_
                rotate_left
                · intro w hSw; (try dsimp only at hSw); go_simp; (try with_reducible rfl)
                try simp only [Act.put, List.setIfInBounds_toArray, List.set_cons_zero, List.set_cons_succ]
                refine wpAnyH_take (i := 5) (oi := { dst := _, op := _, type := _, pos := _, after := _, guard := some (2, true) }) (v := ?_) rfl (by kernel_rfl) (by kernel_rfl) (by kernel_rfl) (fun _ _ _ h => h) (Or.inl ⟨by rfl, ?_⟩) (by assumption) ?_
                rotate_left
                · intro w hSw; (try dsimp only at hSw); go_simp; (try with_reducible rfl)
                try simp only [Act.put, List.setIfInBounds_toArray, List.set_cons_zero, List.set_cons_succ]
                refine wpAnyH_ready (rs := [4]) (by kernel_rfl) (by simp) ?_
                refine AllReadyH.cons rfl (fun K hK => ?_) AllReadyH.nil
                go_simp
                refine (CI1.out _ (by exact HX.out)).mono ?_
                rintro e wA ⟨rfl, hbA⟩
                have hA := RdM.below (by exact HX.out) hbA
                have ltA := Nat.lt_of_lt_of_le b4 hbA.size
                have sa1 := (hbA.cell (p := ⟨w1.heap.size, 0, none⟩) b4).trans b0
                have sa2 := (hbA.cell (p := ⟨w1.heap.size, 1, none⟩) b4).trans b1
                try go_simp
                refine hK.out _ _ ⟨sa1, sa2⟩ (fun hHeld1 => ?_)
                clear hK K
                try simp only [Act.put, List.setIfInBounds_toArray, List.set_cons_zero, List.set_cons_succ]
                refine wpAnyH_ready (rs := [6]) (by kernel_rfl) (by simp) ?_
                refine AllReadyH.cons rfl (fun K hK => ?_) AllReadyH.nil
                go_simp
                refine (CS.out _ (by exact hA)).mono ?_
                rintro e wB ⟨rfl, hbB⟩
                have hB := RdM.below (by exact hA) hbB
                have ltB := Nat.lt_of_lt_of_le ltA hbB.size
                have sb1 := (hbB.cell (p := ⟨w1.heap.size, 0, none⟩) ltA).trans sa1
                have sb2 := (hbB.cell (p := ⟨w1.heap.size, 1, none⟩) ltA).trans sa2
                try go_simp
                refine hK.out _ _ ⟨sb1, sb2⟩ (fun hHeld2 => ?_)
                clear hK K
                try simp only [Act.put, List.setIfInBounds_toArray, List.set_cons_zero, List.set_cons_succ]
                refine wpAnyH_take (i := 7) (oi := { dst := _, op := _, type := _, pos := _, after := _, guard := some (2, true) }) (v := ?_) rfl (by kernel_rfl) (by kernel_rfl) (by kernel_rfl) (fun _ _ _ h => h) (Or.inl ⟨by rfl, ?_⟩) (by assumption) ?_
                rotate_left
                · intro w hSw; (try dsimp only at hSw); go_simp; (try with_reducible rfl)
                try simp only [Act.put, List.setIfInBounds_toArray, List.set_cons_zero, List.set_cons_succ]
                refine wpAnyH_take (i := 8) (oi := { dst := _, op := _, type := _, pos := _, after := _, guard := some (2, true) }) (v := ?_) rfl (by kernel_rfl) (by kernel_rfl) (by kernel_rfl) (fun _ _ _ h => h) (Or.inl ⟨by rfl, ?_⟩) (by assumption) ?_
                rotate_left
                · intro w hSw; (try dsimp only at hSw); go_simp; (try with_reducible rfl)
                try simp only [Act.put, List.setIfInBounds_toArray, List.set_cons_zero, List.set_cons_succ]
                refine wpAnyH_take (i := 9) (oi := { dst := _, op := _, type := _, pos := _, after := _, guard := some (8, false) }) (v := ?_) rfl (by kernel_rfl) (by kernel_rfl) (by kernel_rfl) (fun _ _ _ h => h) (Or.inl ⟨by rfl, ?_⟩) (by assumption) ?_
                rotate_left
                · intro w hSw; (try dsimp only at hSw); go_simp; (try with_reducible rfl)
                try simp only [Act.put, List.setIfInBounds_toArray, List.set_cons_zero, List.set_cons_succ]
                refine wpAnyH_ready (rs := [10]) (by kernel_rfl) (by simp) ?_
                refine AllReadyH.cons rfl (fun K hK => ?_) AllReadyH.nil
                go_simp
                refine (CI2.out _ (by exact hB)).mono ?_
                rintro e wC ⟨rfl, hbC⟩
                have hC := RdM.below (by exact hB) hbC
                have ltC := Nat.lt_of_lt_of_le ltB hbC.size
                have sc1 := (hbC.cell (p := ⟨w1.heap.size, 0, none⟩) ltB).trans sb1
                have sc2 := (hbC.cell (p := ⟨w1.heap.size, 1, none⟩) ltB).trans sb2
                try go_simp
                refine hK.out _ _ ⟨sc1, sc2⟩ (fun hHeld3 => ?_)
                clear hK K
                try simp only [Act.put, List.setIfInBounds_toArray, List.set_cons_zero, List.set_cons_succ]
                refine wpAnyH_take (i := 11) (oi := { dst := _, op := _, type := _, pos := _, after := _, guard := some (8, false) }) (v := ?_) rfl (by kernel_rfl) (by kernel_rfl) (by kernel_rfl) (fun _ _ _ h => h) (Or.inl ⟨by rfl, ?_⟩) (by assumption) ?_
                rotate_left
                · intro w hSw; (try dsimp only at hSw); go_simp; (try with_reducible rfl)
                try simp only [Act.put, List.setIfInBounds_toArray, List.set_cons_zero, List.set_cons_succ]
                refine wpAnyH_take (i := 12) (oi := { dst := _, op := _, type := _, pos := _, after := _, guard := some (11, true) }) (v := ?_) rfl (by kernel_rfl) (by kernel_rfl) (by kernel_rfl) (fun _ _ _ h => h) (Or.inl ⟨by rfl, ?_⟩) (by assumption) ?_
                rotate_left
                · intro w hSw; (try dsimp only at hSw); go_simp; (try with_reducible rfl)
                try simp only [Act.put, List.setIfInBounds_toArray, List.set_cons_zero, List.set_cons_succ]
                refine wpAnyH_ready (rs := [13]) (by kernel_rfl) (by simp) ?_
                refine AllReadyH.cons rfl (fun K hK => ?_) AllReadyH.nil
                go_simp
                refine (CI1.out _ (by exact hC)).mono ?_
                rintro e wD ⟨rfl, hbD⟩
                have hD := RdM.below (by exact hC) hbD
                have ltD := Nat.lt_of_lt_of_le ltC hbD.size
                have sd1 := (hbD.cell (p := ⟨w1.heap.size, 0, none⟩) ltC).trans sc1
                have sd2 := (hbD.cell (p := ⟨w1.heap.size, 1, none⟩) ltC).trans sc2
                try go_simp
                refine hK.out _ _ ⟨sd1, sd2⟩ (fun hHeld4 => ?_)
                clear hK K
                try simp only [Act.put, List.setIfInBounds_toArray, List.set_cons_zero, List.set_cons_succ]
                refine wpAnyH_take (i := 14) (oi := { dst := _, op := _, type := _, pos := _, after := _, guard := some (11, true) }) (v := ?_) rfl (by kernel_rfl) (by kernel_rfl) (by kernel_rfl) (fun _ _ _ h => h) (Or.inl ⟨by rfl, ?_⟩) (by assumption) ?_
                rotate_left
                · intro w hSw; (try dsimp only at hSw); go_simp; (try with_reducible rfl)
                try simp only [Act.put, List.setIfInBounds_toArray, List.set_cons_zero, List.set_cons_succ]
                refine wpAnyH_take (i := 15) (oi := { dst := _, op := _, type := _, pos := _, after := _, guard := some (8, false) }) (v := ?_) rfl (by kernel_rfl) (by kernel_rfl) (by kernel_rfl) (fun _ _ _ h => h) (Or.inl ⟨by rfl, ?_⟩) (by assumption) ?_
                rotate_left
                · intro w hSw; (try dsimp only at hSw); go_simp; (try with_reducible rfl)
                try simp only [Act.put, List.setIfInBounds_toArray, List.set_cons_zero, List.set_cons_succ]
                refine wpAnyH_take (i := 16) (oi := { dst := _, op := _, type := _, pos := _, after := _, guard := some (2, true) }) (v := ?_) rfl (by kernel_rfl) (by kernel_rfl) (by kernel_rfl) (fun _ _ _ h => h) (Or.inl ⟨by rfl, ?_⟩) (by assumption) ?_
                rotate_left
                · intro w hSw; (try dsimp only at hSw); go_simp; (try with_reducible rfl)
                try simp only [Act.put, List.setIfInBounds_toArray, List.set_cons_zero, List.set_cons_succ]
                refine wpAnyH_take (i := 17) (oi := { dst := _, op := _, type := _, pos := _, after := _, guard := none }) (v := ?_) rfl (by kernel_rfl) (by kernel_rfl) (by kernel_rfl) (fun _ _ _ h => h) (Or.inl ⟨by rfl, ?_⟩) (by assumption) ?_
                rotate_left
                · intro w hSw; (try dsimp only at hSw); go_simp; (try with_reducible rfl)
                try simp only [Act.put, List.setIfInBounds_toArray, List.set_cons_zero, List.set_cons_succ]
                refine wpAnyH_done (by kernel_rfl) ?_ _
                go_wp2_with fail
                have tA : Below w'.heap.size w' wA := (by first | exact (Below.refl w'.heap.size w').trans (hbA.mono (Below.refl w'.heap.size w').size) | exact below_oneD (Below.refl w'.heap.size w') hbA (Below.refl w'.heap.size w').size)
                have tB : Below w'.heap.size w' wB := (by first | exact (tA).trans (hbB.mono (tA).size) | exact below_oneD (tA) hbB (tA).size)
                have tC : Below w'.heap.size w' wC := (by first | exact (tB).trans (hbC.mono (tB).size) | exact below_oneD (tB) hbC (tB).size)
                have tD : Below w'.heap.size w' wD := (by first | exact (tC).trans (hbD.mono (tC).size) | exact below_oneD (tC) hbD (tC).size)
                go_meet
                case rel => exact ⟨rfl, _, rfl, (by first | exact tD | exact below_drewN (tD) _ | exact (tD).drew)⟩
              | false =>
                clear f4
                cases b with
                | true =>
                  refine wp_region_held_drew (S := (fun w' => w'.cell? ⟨w1.heap.size, 0, none⟩ = some (.int .i64 (W : Int)) ∧ w'.cell? ⟨w1.heap.size, 1, none⟩ = some (.slice A1 m c1))) (by kernel_rfl) ?_ (fun hHeld => ?_)
                  · go_keep
                  refine wpAnyH_take (i := 0) (oi := { dst := _, op := _, type := _, pos := _, after := _, guard := none }) (v := ?_) rfl (by kernel_rfl) (by kernel_rfl) (by kernel_rfl) (fun _ _ _ h => h) (Or.inl ⟨by rfl, ?_⟩) (by assumption) ?_
                  rotate_left
                  · intro w hSw; (try dsimp only at hSw); go_simp; (try with_reducible rfl)
                  try simp only [Act.put, List.setIfInBounds_toArray, List.set_cons_zero, List.set_cons_succ]
                  refine wpAnyH_take (i := 1) (oi := { dst := _, op := _, type := _, pos := _, after := _, guard := none }) (v := ?_) rfl (by kernel_rfl) (by kernel_rfl) (by kernel_rfl) (fun _ _ _ h => h) (Or.inl ⟨by rfl, ?_⟩) (by assumption) ?_
                  rotate_left
                  · intro w hSw; (try dsimp only at hSw); go_simp; (try with_reducible rfl)
                  try simp only [Act.put, List.setIfInBounds_toArray, List.set_cons_zero, List.set_cons_succ]
                  refine wpAnyH_take (i := 2) (oi := { dst := _, op := _, type := _, pos := _, after := _, guard := none }) (v := ?_) rfl (by kernel_rfl) (by kernel_rfl) (by kernel_rfl) (fun _ _ _ h => h) (Or.inl ⟨by rfl, ?_⟩) (by assumption) ?_
                  rotate_left
                  · intro w hSw; (try dsimp only at hSw); go_simp; (try with_reducible rfl)
                  try simp only [Act.put, List.setIfInBounds_toArray, List.set_cons_zero, List.set_cons_succ]
                  refine wpAnyH_take (i := 3) (oi := { dst := _, op := _, type := _, pos := _, after := _, guard := some (2, true) }) (v := ?_) rfl (by kernel_rfl) (by kernel_rfl) (by kernel_rfl) (fun _ _ _ h => h) (Or.inl ⟨by rfl, ?_⟩) (by assumption) ?_
                  rotate_left
                  · intro w hSw; (try dsimp only at hSw); go_simp; (try with_reducible rfl)
                  try simp only [Act.put, List.setIfInBounds_toArray, List.set_cons_zero, List.set_cons_succ]
                  refine wpAnyH_take (i := 5) (oi := { dst := _, op := _, type := _, pos := _, after := _, guard := some (2, true) }) (v := ?_) rfl (by kernel_rfl) (by kernel_rfl) (by kernel_rfl) (fun _ _ _ h => h) (Or.inl ⟨by rfl, ?_⟩) (by assumption) ?_
                  rotate_left
                  · intro w hSw; (try dsimp only at hSw); go_simp; (try with_reducible rfl)
                  try simp only [Act.put, List.setIfInBounds_toArray, List.set_cons_zero, List.set_cons_succ]
                  refine wpAnyH_ready (rs := [4]) (by kernel_rfl) (by simp) ?_
                  refine AllReadyH.cons rfl (fun K hK => ?_) AllReadyH.nil
                  go_simp
                  refine (CI1.out _ (by exact HX.out)).mono ?_
                  rintro e wA ⟨rfl, hbA⟩
                  have hA := RdM.below (by exact HX.out) hbA
                  have ltA := Nat.lt_of_lt_of_le b4 hbA.size
                  have sa1 := (hbA.cell (p := ⟨w1.heap.size, 0, none⟩) b4).trans b0
                  have sa2 := (hbA.cell (p := ⟨w1.heap.size, 1, none⟩) b4).trans b1
                  try go_simp
                  refine hK.out _ _ ⟨sa1, sa2⟩ (fun hHeld5 => ?_)
                  clear hK K
                  try simp only [Act.put, List.setIfInBounds_toArray, List.set_cons_zero, List.set_cons_succ]
                  refine wpAnyH_ready (rs := [6]) (by kernel_rfl) (by simp) ?_
                  refine AllReadyH.cons rfl (fun K hK => ?_) AllReadyH.nil
                  go_simp
                  refine (CS.out _ (by exact hA)).mono ?_
                  rintro e wB ⟨rfl, hbB⟩
                  have hB := RdM.below (by exact hA) hbB
                  have ltB := Nat.lt_of_lt_of_le ltA hbB.size
                  have sb1 := (hbB.cell (p := ⟨w1.heap.size, 0, none⟩) ltA).trans sa1
                  have sb2 := (hbB.cell (p := ⟨w1.heap.size, 1, none⟩) ltA).trans sa2
                  try go_simp
                  refine hK.out _ _ ⟨sb1, sb2⟩ (fun hHeld6 => ?_)
                  clear hK K
                  try simp only [Act.put, List.setIfInBounds_toArray, List.set_cons_zero, List.set_cons_succ]
                  refine wpAnyH_take (i := 7) (oi := { dst := _, op := _, type := _, pos := _, after := _, guard := some (2, true) }) (v := ?_) rfl (by kernel_rfl) (by kernel_rfl) (by kernel_rfl) (fun _ _ _ h => h) (Or.inl ⟨by rfl, ?_⟩) (by assumption) ?_
                  rotate_left
                  · intro w hSw; (try dsimp only at hSw); go_simp; (try with_reducible rfl)
                  try simp only [Act.put, List.setIfInBounds_toArray, List.set_cons_zero, List.set_cons_succ]
                  refine wpAnyH_take (i := 8) (oi := { dst := _, op := _, type := _, pos := _, after := _, guard := some (2, true) }) (v := ?_) rfl (by kernel_rfl) (by kernel_rfl) (by kernel_rfl) (fun _ _ _ h => h) (Or.inl ⟨by rfl, ?_⟩) (by assumption) ?_
                  rotate_left
                  · intro w hSw; (try dsimp only at hSw); go_simp; (try with_reducible rfl)
                  try simp only [Act.put, List.setIfInBounds_toArray, List.set_cons_zero, List.set_cons_succ]
                  refine wpAnyH_take (i := 9) (oi := { dst := _, op := _, type := _, pos := _, after := _, guard := some (8, false) }) (v := ?_) rfl (by kernel_rfl) (by kernel_rfl) (by kernel_rfl) (fun _ _ _ h => h) (Or.inl ⟨by rfl, ?_⟩) (by assumption) ?_
                  rotate_left
                  · intro w hSw; (try dsimp only at hSw); go_simp; (try with_reducible rfl)
                  try simp only [Act.put, List.setIfInBounds_toArray, List.set_cons_zero, List.set_cons_succ]
                  refine wpAnyH_ready (rs := [10]) (by kernel_rfl) (by simp) ?_
                  refine AllReadyH.cons rfl (fun K hK => ?_) AllReadyH.nil
                  go_simp
                  refine (CI2.out _ (by exact hB)).mono ?_
                  rintro e wC ⟨rfl, hbC⟩
                  have hC := RdM.below (by exact hB) hbC
                  have ltC := Nat.lt_of_lt_of_le ltB hbC.size
                  have sc1 := (hbC.cell (p := ⟨w1.heap.size, 0, none⟩) ltB).trans sb1
                  have sc2 := (hbC.cell (p := ⟨w1.heap.size, 1, none⟩) ltB).trans sb2
                  try go_simp
                  refine hK.out _ _ ⟨sc1, sc2⟩ (fun hHeld7 => ?_)
                  clear hK K
                  try simp only [Act.put, List.setIfInBounds_toArray, List.set_cons_zero, List.set_cons_succ]
                  refine wpAnyH_take (i := 11) (oi := { dst := _, op := _, type := _, pos := _, after := _, guard := some (8, false) }) (v := ?_) rfl (by kernel_rfl) (by kernel_rfl) (by kernel_rfl) (fun _ _ _ h => h) (Or.inl ⟨by rfl, ?_⟩) (by assumption) ?_
                  rotate_left
                  · intro w hSw; (try dsimp only at hSw); go_simp; (try with_reducible rfl)
                  try simp only [Act.put, List.setIfInBounds_toArray, List.set_cons_zero, List.set_cons_succ]
                  refine wpAnyH_take (i := 12) (oi := { dst := _, op := _, type := _, pos := _, after := _, guard := some (11, true) }) (v := undef) rfl (by kernel_rfl) (by kernel_rfl) (by kernel_rfl) (fun _ _ _ h => h) (Or.inr ⟨by rfl, rfl⟩) (by assumption) ?_
                  try simp only [Act.put, List.setIfInBounds_toArray, List.set_cons_zero, List.set_cons_succ]
                  refine wpAnyH_take (i := 13) (oi := { dst := _, op := _, type := _, pos := _, after := _, guard := some (11, true) }) (v := undef) rfl (by kernel_rfl) (by kernel_rfl) (by kernel_rfl) (fun _ _ _ h => h) (Or.inr ⟨by rfl, rfl⟩) (by assumption) ?_
                  try simp only [Act.put, List.setIfInBounds_toArray, List.set_cons_zero, List.set_cons_succ]
                  refine wpAnyH_take (i := 14) (oi := { dst := _, op := _, type := _, pos := _, after := _, guard := some (11, true) }) (v := undef) rfl (by kernel_rfl) (by kernel_rfl) (by kernel_rfl) (fun _ _ _ h => h) (Or.inr ⟨by rfl, rfl⟩) (by assumption) ?_
                  try simp only [Act.put, List.setIfInBounds_toArray, List.set_cons_zero, List.set_cons_succ]
                  refine wpAnyH_take (i := 15) (oi := { dst := _, op := _, type := _, pos := _, after := _, guard := some (8, false) }) (v := ?_) rfl (by kernel_rfl) (by kernel_rfl) (by kernel_rfl) (fun _ _ _ h => h) (Or.inl ⟨by rfl, ?_⟩) (by assumption) ?_
                  rotate_left
                  · intro w hSw; (try dsimp only at hSw); go_simp; (try with_reducible rfl)
                  try simp only [Act.put, List.setIfInBounds_toArray, List.set_cons_zero, List.set_cons_succ]
                  refine wpAnyH_take (i := 16) (oi := { dst := _, op := _, type := _, pos := _, after := _, guard := some (2, true) }) (v := ?_) rfl (by kernel_rfl) (by kernel_rfl) (by kernel_rfl) (fun _ _ _ h => h) (Or.inl ⟨by rfl, ?_⟩) (by assumption) ?_
                  rotate_left
                  · intro w hSw; (try dsimp only at hSw); go_simp; (try with_reducible rfl)
                  try simp only [Act.put, List.setIfInBounds_toArray, List.set_cons_zero, List.set_cons_succ]
                  refine wpAnyH_take (i := 17) (oi := { dst := _, op := _, type := _, pos := _, after := _, guard := none }) (v := ?_) rfl (by kernel_rfl) (by kernel_rfl) (by kernel_rfl) (fun _ _ _ h => h) (Or.inl ⟨by rfl, ?_⟩) (by assumption) ?_
                  rotate_left
                  · intro w hSw; (try dsimp only at hSw); go_simp; (try with_reducible rfl)
                  try simp only [Act.put, List.setIfInBounds_toArray, List.set_cons_zero, List.set_cons_succ]
                  refine wpAnyH_done (by kernel_rfl) ?_ _
                  go_wp2_with fail
                  have tA : Below w'.heap.size w' wA := (by first | exact (Below.refl w'.heap.size w').trans (hbA.mono (Below.refl w'.heap.size w').size) | exact below_oneD (Below.refl w'.heap.size w') hbA (Below.refl w'.heap.size w').size)
                  have tB : Below w'.heap.size w' wB := (by first | exact (tA).trans (hbB.mono (tA).size) | exact below_oneD (tA) hbB (tA).size)
                  have tC : Below w'.heap.size w' wC := (by first | exact (tB).trans (hbC.mono (tB).size) | exact below_oneD (tB) hbC (tB).size)
                  go_meet
                  case rel => exact ⟨rfl, _, rfl, (by first | exact tC | exact below_drewN (tC) _ | exact (tC).drew)⟩
                | false =>
                  refine wp_region_held_drew (S := (fun w' => w'.cell? ⟨w1.heap.size, 0, none⟩ = some (.int .i64 (W : Int)) ∧ w'.cell? ⟨w1.heap.size, 1, none⟩ = some (.slice A1 m c1))) (by kernel_rfl) ?_ (fun hHeld => ?_)
                  · go_keep
                  refine wpAnyH_take (i := 0) (oi := { dst := _, op := _, type := _, pos := _, after := _, guard := none }) (v := ?_) rfl (by kernel_rfl) (by kernel_rfl) (by kernel_rfl) (fun _ _ _ h => h) (Or.inl ⟨by rfl, ?_⟩) (by assumption) ?_
                  rotate_left
                  · intro w hSw; (try dsimp only at hSw); go_simp; (try with_reducible rfl)
                  try simp only [Act.put, List.setIfInBounds_toArray, List.set_cons_zero, List.set_cons_succ]
                  refine wpAnyH_take (i := 1) (oi := { dst := _, op := _, type := _, pos := _, after := _, guard := none }) (v := ?_) rfl (by kernel_rfl) (by kernel_rfl) (by kernel_rfl) (fun _ _ _ h => h) (Or.inl ⟨by rfl, ?_⟩) (by assumption) ?_
                  rotate_left
                  · intro w hSw; (try dsimp only at hSw); go_simp; (try with_reducible rfl)
                  try simp only [Act.put, List.setIfInBounds_toArray, List.set_cons_zero, List.set_cons_succ]
                  refine wpAnyH_take (i := 2) (oi := { dst := _, op := _, type := _, pos := _, after := _, guard := none }) (v := ?_) rfl (by kernel_rfl) (by kernel_rfl) (by kernel_rfl) (fun _ _ _ h => h) (Or.inl ⟨by rfl, ?_⟩) (by assumption) ?_
                  rotate_left
                  · intro w hSw; (try dsimp only at hSw); go_simp; (try with_reducible rfl)
                  try simp only [Act.put, List.setIfInBounds_toArray, List.set_cons_zero, List.set_cons_succ]
                  refine wpAnyH_take (i := 3) (oi := { dst := _, op := _, type := _, pos := _, after := _, guard := some (2, true) }) (v := ?_) rfl (by kernel_rfl) (by kernel_rfl) (by kernel_rfl) (fun _ _ _ h => h) (Or.inl ⟨by rfl, ?_⟩) (by assumption) ?_
                  rotate_left
                  · intro w hSw; (try dsimp only at hSw); go_simp; (try with_reducible rfl)
                  try simp only [Act.put, List.setIfInBounds_toArray, List.set_cons_zero, List.set_cons_succ]
                  refine wpAnyH_take (i := 5) (oi := { dst := _, op := _, type := _, pos := _, after := _, guard := some (2, true) }) (v := ?_) rfl (by kernel_rfl) (by kernel_rfl) (by kernel_rfl) (fun _ _ _ h => h) (Or.inl ⟨by rfl, ?_⟩) (by assumption) ?_
                  rotate_left
                  · intro w hSw; (try dsimp only at hSw); go_simp; (try with_reducible rfl)
                  try simp only [Act.put, List.setIfInBounds_toArray, List.set_cons_zero, List.set_cons_succ]
                  refine wpAnyH_ready (rs := [4]) (by kernel_rfl) (by simp) ?_
                  refine AllReadyH.cons rfl (fun K hK => ?_) AllReadyH.nil
                  go_simp
                  refine (CI1.out _ (by exact HX.out)).mono ?_
                  rintro e wA ⟨rfl, hbA⟩
                  have hA := RdM.below (by exact HX.out) hbA
                  have ltA := Nat.lt_of_lt_of_le b4 hbA.size
                  have sa1 := (hbA.cell (p := ⟨w1.heap.size, 0, none⟩) b4).trans b0
                  have sa2 := (hbA.cell (p := ⟨w1.heap.size, 1, none⟩) b4).trans b1
                  try go_simp
                  refine hK.out _ _ ⟨sa1, sa2⟩ (fun hHeld5 => ?_)
                  clear hK K
                  try simp only [Act.put, List.setIfInBounds_toArray, List.set_cons_zero, List.set_cons_succ]
                  refine wpAnyH_ready (rs := [6]) (by kernel_rfl) (by simp) ?_
                  refine AllReadyH.cons rfl (fun K hK => ?_) AllReadyH.nil
                  go_simp
                  refine (CS.out _ (by exact hA)).mono ?_
                  rintro e wB ⟨rfl, hbB⟩
                  have hB := RdM.below (by exact hA) hbB
                  have ltB := Nat.lt_of_lt_of_le ltA hbB.size
                  have sb1 := (hbB.cell (p := ⟨w1.heap.size, 0, none⟩) ltA).trans sa1
                  have sb2 := (hbB.cell (p := ⟨w1.heap.size, 1, none⟩) ltA).trans sa2
                  try go_simp
                  refine hK.out _ _ ⟨sb1, sb2⟩ (fun hHeld6 => ?_)
                  clear hK K
                  try simp only [Act.put, List.setIfInBounds_toArray, List.set_cons_zero, List.set_cons_succ]
                  refine wpAnyH_take (i := 7) (oi := { dst := _, op := _, type := _, pos := _, after := _, guard := some (2, true) }) (v := ?_) rfl (by kernel_rfl) (by kernel_rfl) (by kernel_rfl) (fun _ _ _ h => h) (Or.inl ⟨by rfl, ?_⟩) (by assumption) ?_
                  rotate_left
                  · intro w hSw; (try dsimp only at hSw); go_simp; (try with_reducible rfl)
                  try simp only [Act.put, List.setIfInBounds_toArray, List.set_cons_zero, List.set_cons_succ]
                  refine wpAnyH_take (i := 8) (oi := { dst := _, op := _, type := _, pos := _, after := _, guard := some (2, true) }) (v := ?_) rfl (by kernel_rfl) (by kernel_rfl) (by kernel_rfl) (fun _ _ _ h => h) (Or.inl ⟨by rfl, ?_⟩) (by assumption) ?_
                  rotate_left
                  · intro w hSw; (try dsimp only at hSw); go_simp; (try with_reducible rfl)
                  try simp only [Act.put, List.setIfInBounds_toArray, List.set_cons_zero, List.set_cons_succ]
                  refine wpAnyH_take (i := 9) (oi := { dst := _, op := _, type := _, pos := _, after := _, guard := some (8, false) }) (v := ?_) rfl (by kernel_rfl) (by kernel_rfl) (by kernel_rfl) (fun _ _ _ h => h) (Or.inl ⟨by rfl, ?_⟩) (by assumption) ?_
                  rotate_left
                  · intro w hSw; (try dsimp only at hSw); go_simp; (try with_reducible rfl)
                  try simp only [Act.put, List.setIfInBounds_toArray, List.set_cons_zero, List.set_cons_succ]
                  refine wpAnyH_ready (rs := [10]) (by kernel_rfl) (by simp) ?_
                  refine AllReadyH.cons rfl (fun K hK => ?_) AllReadyH.nil
                  go_simp
                  refine (CI2.out _ (by exact hB)).mono ?_
                  rintro e wC ⟨rfl, hbC⟩
                  have hC := RdM.below (by exact hB) hbC
                  have ltC := Nat.lt_of_lt_of_le ltB hbC.size
                  have sc1 := (hbC.cell (p := ⟨w1.heap.size, 0, none⟩) ltB).trans sb1
                  have sc2 := (hbC.cell (p := ⟨w1.heap.size, 1, none⟩) ltB).trans sb2
                  try go_simp
                  refine hK.out _ _ ⟨sc1, sc2⟩ (fun hHeld7 => ?_)
                  clear hK K
                  try simp only [Act.put, List.setIfInBounds_toArray, List.set_cons_zero, List.set_cons_succ]
                  refine wpAnyH_take (i := 11) (oi := { dst := _, op := _, type := _, pos := _, after := _, guard := some (8, false) }) (v := ?_) rfl (by kernel_rfl) (by kernel_rfl) (by kernel_rfl) (fun _ _ _ h => h) (Or.inl ⟨by rfl, ?_⟩) (by assumption) ?_
                  rotate_left
                  · intro w hSw; (try dsimp only at hSw); go_simp; (try with_reducible rfl)
                  try simp only [Act.put, List.setIfInBounds_toArray, List.set_cons_zero, List.set_cons_succ]
                  refine wpAnyH_take (i := 12) (oi := { dst := _, op := _, type := _, pos := _, after := _, guard := some (11, true) }) (v := undef) rfl (by kernel_rfl) (by kernel_rfl) (by kernel_rfl) (fun _ _ _ h => h) (Or.inr ⟨by rfl, rfl⟩) (by assumption) ?_
                  try simp only [Act.put, List.setIfInBounds_toArray, List.set_cons_zero, List.set_cons_succ]
                  refine wpAnyH_take (i := 13) (oi := { dst := _, op := _, type := _, pos := _, after := _, guard := some (11, true) }) (v := undef) rfl (by kernel_rfl) (by kernel_rfl) (by kernel_rfl) (fun _ _ _ h => h) (Or.inr ⟨by rfl, rfl⟩) (by assumption) ?_
                  try simp only [Act.put, List.setIfInBounds_toArray, List.set_cons_zero, List.set_cons_succ]
                  refine wpAnyH_take (i := 14) (oi := { dst := _, op := _, type := _, pos := _, after := _, guard := some (11, true) }) (v := undef) rfl (by kernel_rfl) (by kernel_rfl) (by kernel_rfl) (fun _ _ _ h => h) (Or.inr ⟨by rfl, rfl⟩) (by assumption) ?_
                  try simp only [Act.put, List.setIfInBounds_toArray, List.set_cons_zero, List.set_cons_succ]
                  refine wpAnyH_take (i := 15) (oi := { dst := _, op := _, type := _, pos := _, after := _, guard := some (8, false) }) (v := ?_) rfl (by kernel_rfl) (by kernel_rfl) (by kernel_rfl) (fun _ _ _ h => h) (Or.inl ⟨by rfl, ?_⟩) (by assumption) ?_
                  rotate_left
                  · intro w hSw; (try dsimp only at hSw); go_simp; (try with_reducible rfl)
                  try simp only [Act.put, List.setIfInBounds_toArray, List.set_cons_zero, List.set_cons_succ]
                  refine wpAnyH_take (i := 16) (oi := { dst := _, op := _, type := _, pos := _, after := _, guard := some (2, true) }) (v := ?_) rfl (by kernel_rfl) (by kernel_rfl) (by kernel_rfl) (fun _ _ _ h => h) (Or.inl ⟨by rfl, ?_⟩) (by assumption) ?_
                  rotate_left
                  · intro w hSw; (try dsimp only at hSw); go_simp; (try with_reducible rfl)
                  try simp only [Act.put, List.setIfInBounds_toArray, List.set_cons_zero, List.set_cons_succ]
                  refine wpAnyH_take (i := 17) (oi := { dst := _, op := _, type := _, pos := _, after := _, guard := none }) (v := ?_) rfl (by kernel_rfl) (by kernel_rfl) (by kernel_rfl) (fun _ _ _ h => h) (Or.inl ⟨by rfl, ?_⟩) (by assumption) ?_
                  rotate_left
                  · intro w hSw; (try dsimp only at hSw); go_simp; (try with_reducible rfl)
                  try simp only [Act.put, List.setIfInBounds_toArray, List.set_cons_zero, List.set_cons_succ]
                  refine wpAnyH_done (by kernel_rfl) ?_ _
                  go_wp2_with fail
                  have tA : Below w'.heap.size w' wA := (by first | exact (Below.refl w'.heap.size w').trans (hbA.mono (Below.refl w'.heap.size w').size) | exact below_oneD (Below.refl w'.heap.size w') hbA (Below.refl w'.heap.size w').size)
                  have tB : Below w'.heap.size w' wB := (by first | exact (tA).trans (hbB.mono (tA).size) | exact below_oneD (tA) hbB (tA).size)
                  have tC : Below w'.heap.size w' wC := (by first | exact (tB).trans (hbC.mono (tB).size) | exact below_oneD (tB) hbC (tB).size)
                  go_meet
                  case rel => exact ⟨rfl, _, rfl, (by first | exact tC | exact below_drewN (tC) _ | exact (tC).drew)⟩
            · have h4i : decide ((W : Int) ≤ 4) = false := decide_eq_false (by omega)
              have h4n : decide (W ≤ 4) = false := decide_eq_false h4
              refine wp_region_held_drew (S := (fun w' => w'.cell? ⟨w1.heap.size, 0, none⟩ = some (.int .i64 (W : Int)) ∧ w'.cell? ⟨w1.heap.size, 1, none⟩ = some (.slice A1 m c1))) (by kernel_rfl) ?_ (fun hHeld => ?_)
              · go_keep
              refine wpAnyH_take (i := 0) (oi := { dst := _, op := _, type := _, pos := _, after := _, guard := none }) (v := ?_) rfl (by kernel_rfl) (by kernel_rfl) (by kernel_rfl) (fun _ _ _ h => h) (Or.inl ⟨by rfl, ?_⟩) (by assumption) ?_
              rotate_left
              · intro w hSw; (try dsimp only at hSw); go_simp; (try with_reducible rfl)
              try simp only [Act.put, List.setIfInBounds_toArray, List.set_cons_zero, List.set_cons_succ]
              refine wpAnyH_take (i := 1) (oi := { dst := _, op := _, type := _, pos := _, after := _, guard := none }) (v := ?_) rfl (by kernel_rfl) (by kernel_rfl) (by kernel_rfl) (fun _ _ _ h => h) (Or.inl ⟨by rfl, ?_⟩) (by assumption) ?_
              rotate_left
              · intro w hSw; (try dsimp only at hSw); go_simp; (try with_reducible rfl)
              try simp only [Act.put, List.setIfInBounds_toArray, List.set_cons_zero, List.set_cons_succ]
              refine wpAnyH_take (i := 2) (oi := { dst := _, op := _, type := _, pos := _, after := _, guard := none }) (v := ?_) rfl (by kernel_rfl) (by kernel_rfl) (by kernel_rfl) (fun _ _ _ h => h) (Or.inl ⟨by rfl, ?_⟩) (by assumption) ?_
              rotate_left
              · intro w hSw; (try dsimp only at hSw); go_simp; (try with_reducible rfl)
              try simp only [Act.put, List.setIfInBounds_toArray, List.set_cons_zero, List.set_cons_succ]
              refine wpAnyH_take (i := 3) (oi := { dst := _, op := _, type := _, pos := _, after := _, guard := some (2, true) }) (v := undef) rfl (by kernel_rfl) (by kernel_rfl) (by kernel_rfl) (fun _ _ _ h => h) (Or.inr ⟨by rfl, rfl⟩) (by assumption) ?_
              try simp only [Act.put, List.setIfInBounds_toArray, List.set_cons_zero, List.set_cons_succ]
              refine wpAnyH_take (i := 4) (oi := { dst := _, op := _, type := _, pos := _, after := _, guard := some (2, true) }) (v := undef) rfl (by kernel_rfl) (by kernel_rfl) (by kernel_rfl) (fun _ _ _ h => h) (Or.inr ⟨by rfl, rfl⟩) (by assumption) ?_
              try simp only [Act.put, List.setIfInBounds_toArray, List.set_cons_zero, List.set_cons_succ]
              refine wpAnyH_take (i := 5) (oi := { dst := _, op := _, type := _, pos := _, after := _, guard := some (2, true) }) (v := undef) rfl (by kernel_rfl) (by kernel_rfl) (by kernel_rfl) (fun _ _ _ h => h) (Or.inr ⟨by rfl, rfl⟩) (by assumption) ?_
              try simp only [Act.put, List.setIfInBounds_toArray, List.set_cons_zero, List.set_cons_succ]
              refine wpAnyH_take (i := 6) (oi := { dst := _, op := _, type := _, pos := _, after := _, guard := some (2, true) }) (v := undef) rfl (by kernel_rfl) (by kernel_rfl) (by kernel_rfl) (fun _ _ _ h => h) (Or.inr ⟨by rfl, rfl⟩) (by assumption) ?_
              try simp only [Act.put, List.setIfInBounds_toArray, List.set_cons_zero, List.set_cons_succ]
              refine wpAnyH_take (i := 7) (oi := { dst := _, op := _, type := _, pos := _, after := _, guard := some (2, true) }) (v := undef) rfl (by kernel_rfl) (by kernel_rfl) (by kernel_rfl) (fun _ _ _ h => h) (Or.inr ⟨by rfl, rfl⟩) (by assumption) ?_
              try simp only [Act.put, List.setIfInBounds_toArray, List.set_cons_zero, List.set_cons_succ]
              refine wpAnyH_take (i := 8) (oi := { dst := _, op := _, type := _, pos := _, after := _, guard := some (2, true) }) (v := undef) rfl (by kernel_rfl) (by kernel_rfl) (by kernel_rfl) (fun _ _ _ h => h) (Or.inr ⟨by rfl, rfl⟩) (by assumption) ?_
              try simp only [Act.put, List.setIfInBounds_toArray, List.set_cons_zero, List.set_cons_succ]
              refine wpAnyH_take (i := 9) (oi := { dst := _, op := _, type := _, pos := _, after := _, guard := some (8, false) }) (v := undef) rfl (by kernel_rfl) (by kernel_rfl) (by kernel_rfl) (fun _ _ _ h => h) (Or.inr ⟨by rfl, rfl⟩) (by assumption) ?_
              try simp only [Act.put, List.setIfInBounds_toArray, List.set_cons_zero, List.set_cons_succ]
              refine wpAnyH_take (i := 10) (oi := { dst := _, op := _, type := _, pos := _, after := _, guard := some (8, false) }) (v := undef) rfl (by kernel_rfl) (by kernel_rfl) (by kernel_rfl) (fun _ _ _ h => h) (Or.inr ⟨by rfl, rfl⟩) (by assumption) ?_
              try simp only [Act.put, List.setIfInBounds_toArray, List.set_cons_zero, List.set_cons_succ]
              refine wpAnyH_take (i := 11) (oi := { dst := _, op := _, type := _, pos := _, after := _, guard := some (8, false) }) (v := undef) rfl (by kernel_rfl) (by kernel_rfl) (by kernel_rfl) (fun _ _ _ h => h) (Or.inr ⟨by rfl, rfl⟩) (by assumption) ?_
              try simp only [Act.put, List.setIfInBounds_toArray, List.set_cons_zero, List.set_cons_succ]
              refine wpAnyH_take (i := 12) (oi := { dst := _, op := _, type := _, pos := _, after := _, guard := some (11, true) }) (v := undef) rfl (by kernel_rfl) (by kernel_rfl) (by kernel_rfl) (fun _ _ _ h => h) (Or.inr ⟨by rfl, rfl⟩) (by assumption) ?_
              try simp only [Act.put, List.setIfInBounds_toArray, List.set_cons_zero, List.set_cons_succ]
              refine wpAnyH_take (i := 13) (oi := { dst := _, op := _, type := _, pos := _, after := _, guard := some (11, true) }) (v := undef) rfl (by kernel_rfl) (by kernel_rfl) (by kernel_rfl) (fun _ _ _ h => h) (Or.inr ⟨by rfl, rfl⟩) (by assumption) ?_
              try simp only [Act.put, List.setIfInBounds_toArray, List.set_cons_zero, List.set_cons_succ]
              refine wpAnyH_take (i := 14) (oi := { dst := _, op := _, type := _, pos := _, after := _, guard := some (11, true) }) (v := undef) rfl (by kernel_rfl) (by kernel_rfl) (by kernel_rfl) (fun _ _ _ h => h) (Or.inr ⟨by rfl, rfl⟩) (by assumption) ?_
              try simp only [Act.put, List.setIfInBounds_toArray, List.set_cons_zero, List.set_cons_succ]
              refine wpAnyH_take (i := 15) (oi := { dst := _, op := _, type := _, pos := _, after := _, guard := some (8, false) }) (v := undef) rfl (by kernel_rfl) (by kernel_rfl) (by kernel_rfl) (fun _ _ _ h => h) (Or.inr ⟨by rfl, rfl⟩) (by assumption) ?_
              try simp only [Act.put, List.setIfInBounds_toArray, List.set_cons_zero, List.set_cons_succ]
              refine wpAnyH_take (i := 16) (oi := { dst := _, op := _, type := _, pos := _, after := _, guard := some (2, true) }) (v := undef) rfl (by kernel_rfl) (by kernel_rfl) (by kernel_rfl) (fun _ _ _ h => h) (Or.inr ⟨by rfl, rfl⟩) (by assumption) ?_
              try simp only [Act.put, List.setIfInBounds_toArray, List.set_cons_zero, List.set_cons_succ]
              refine wpAnyH_take (i := 17) (oi := { dst := _, op := _, type := _, pos := _, after := _, guard := none }) (v := ?_) rfl (by kernel_rfl) (by kernel_rfl) (by kernel_rfl) (fun _ _ _ h => h) (Or.inl ⟨by rfl, ?_⟩) (by assumption) ?_
              rotate_left
              · intro w hSw; (try dsimp only at hSw); go_simp; (try with_reducible rfl)
              try simp only [Act.put, List.setIfInBounds_toArray, List.set_cons_zero, List.set_cons_succ]
              refine wpAnyH_done (by kernel_rfl) ?_ _
              go_wp2_with fail
              go_meet
              case rel => exact ⟨rfl, _, rfl, (by first | exact Below.refl w'.heap.size w' | exact below_drewN (Below.refl w'.heap.size w') _ | exact (Below.refl w'.heap.size w').drew)⟩
          case rest =>
            obtain ⟨rfl, wz, rfl, hbW⟩ := hcut
            have hB20 := HBW.out.trans (hbW.mono HBW.out.size)
            clear hbW HBX HX HBW
            go_wp2_with fail
            refine (specSize3 A0 n0 c0 1 bs _ (HA.out.below hB20) HZ.out hn0 (by omega)).mono ?_
            rintro e w21 ⟨x, V, rfl, eV, hV, hx3, hb⟩
            have hB21 := hB20.trans (hb.mono hB20.size)
            clear hb hB20 
            have hV8 : V ≤ 8 := by omega
            have hV1 : 1 ≤ V := by omega
            have hVV : V ≤ 1048576 := by omega
            have HV := Lib.hid hV
            have HNY := Lib.hid (bi_net hV)
            obtain ⟨mz, hmz, hmz24⟩ := biL_len hV
            have EV := Lib.hid eV
            have x3 : (x : Int) ≤ 3 := by omega
            clear hV
            go_wp2_with fail
            try rw [EV.out]
            refine (implBitonic V _ HV.out).mono ?_
            rintro e w22 ⟨AY, mY, cY, rfl, hlY, rY, hb⟩
            obtain rfl : mY = mz := by rw [← hlY, hmz]
            have HLY := Lib.hid hlY
            have hB22 := hB21.trans (hb.mono hB21.size)
            have hal := below_alloc w22 (.cells #[.int .i64 (V : Int), .slice AY mY cY] 35)
            replace rY := rY.below hal
            have rBY := own_netbox w22 (V : Int) AY mY cY
            have hB23 := hB22.trans (hal.mono hB22.size)
            have HY := Lib.hid rY
            have HBY := Lib.hid rBY
            have HBW := Lib.hid hB23
            clear eV hmz hlY hb hB21 hB22 hal rY rBY hB23
            obtain ⟨wq, hwq⟩ : ∃ wq, w22.alloc (.cells #[.int .i64 (V : Int), .slice AY mY cY] 35) = wq := ⟨_, rfl⟩
            rw [hwq] at HY HBY HBW
            have HWQ := Lib.hid hwq
            clear hwq
            go_upto_region 32 with fail
            rw [HWQ.out]
            go_cut [22, 23] (fun u v wx => ∃ wz A5 c5 ts2 so, wz = wx ∧ u = .slice A5 V c5 ∧ v = .bool true ∧ RdI wz A5 V so ∧ (V ≤ c5 ∧ c5 ≤ maxLen) ∧ Hid (TokL V mY (biL V) ts2 so ∧ Nums 7 V ts2) ∧ Below wq.heap.size wq wz)
            case first =>
              obtain ⟨b0, b1, b2, b3, b4⟩ := own_box HBY.out
              have haq := HA.out.below HBW.out
              go_region_held3 (fun w' => w'.cell? ⟨w22.heap.size, 0, none⟩ = some (.int .i64 (V : Int)) ∧ w'.cell? ⟨w22.heap.size, 1, none⟩ = some (.slice AY mY cY)) (go_keep) (first | (go_at_call 37; refine (specMakeTokens A0 n0 c0 60 V bs _ (by exact haq) HZ.out hn0 (by omega) (by omega)).mono ?_; rintro e wA ⟨AT2, cT2, ts2, rfl, rT2, hT2, hbA⟩; have s1 := (hbA.cell (p := ⟨w22.heap.size, 0, none⟩) b4).trans b0; have s2 := (hbA.cell (p := ⟨w22.heap.size, 1, none⟩) b4).trans b1; have rYA := RdM.below (by exact HY.out) hbA; have ltA := Nat.lt_of_lt_of_le b4 hbA.size; obtain ⟨so, hSO⟩ := tok_law HLY.out HNY.out hT2; have HSO := Lib.hid hSO; have HT2 := Lib.hid hT2; clear hSO hT2) | (go_at_call 33; refine (implCountTokens V AY mY cY (biL V) AT2 V cT2 ts2 _ (by exact rYA) (by omega) (by exact rT2) hVV).mono ?_; rw [HSO.out.ok, HSO.out.out]; rintro e wB ⟨A5, n5, c5, rfl, o5, hbB⟩; have s3 := (hbB.cell (p := ⟨w22.heap.size, 0, none⟩) ltA).trans s1; have s4 := (hbB.cell (p := ⟨w22.heap.size, 1, none⟩) ltA).trans s2; obtain rfl : V = n5 := by rw [← o5.lenI, HSO.out.len]))
              all_goals
                have tA : Below wq.heap.size wq wA := (by first | exact (Below.refl wq.heap.size wq).trans hbA | exact below_oneD (Below.refl wq.heap.size wq) hbA (Nat.le_refl _))
                have tB : Below wq.heap.size wq wB := (by first | exact tA.trans (hbB.mono tA.size) | exact below_oneD tA hbB tA.size)
                have hc5 := o5.cap
                have r5 := o5.rd
                clear o5
                go_wp2_with fail
                go_meet
                case rel => exact ⟨_, A5, c5, ts2, so, rfl, rfl, rfl, (by exact r5), hc5, Lib.hid ⟨HSO.out, HT2.out⟩, (by first | exact tB | exact below_drewN tB _)⟩
            case rest =>
              obtain ⟨wz, A5, c5, ts2, so, rfl, rfl, rfl, r5, hc5, HTK, hbZ⟩ := hcut
              obtain ⟨q, hBL⟩ := bit_law HV.out HTK.out.2 HLY.out HTK.out.1
              have HBL := Lib.hid hBL
              have hq49 := hBL.q49
              have HSM := Lib.hid (show so.sum = (q : Int) by rw [HTK.out.1.sum, hBL.sum])
              obtain ⟨bv, hbv⟩ : ∃ bv, balV so = bv := ⟨_, rfl⟩
              have hbv1 : bv ≤ 1 := by rw [← hbv]; exact hBL.bal
              have HBV := Lib.hid hbv
              clear hBL hbv
              have hB24 := HBW.out.trans (hbZ.mono HBW.out.size)
              have rY := HY.out.below hbZ
              have rBY := HBY.out.below hbZ
              clear hbZ HY HBY HBW
              go_wp2_with fail
              refine (specEntries A0 n0 c0 80 V bs _ (HA.out.below hB24) HZ.out hn0 (by omega) hV1 hV8).mono ?_
              rintro e w25 ⟨AF, k2, cF, fs, rfl, hk2, rF, hF, hb⟩
              have hB25 := hB24.trans (hb.mono hB24.size)
              replace rY := rY.below hb
              replace rBY := rBY.below hb
              replace r5 := r5.below hb
              clear hb hB24 
              obtain ⟨fo, hFO⟩ := ent_law HLY.out HNY.out hF (by omega)
              have HFL := Lib.hid (from_law HV.out hF hk2 HLY.out hFO)
              have HFO := Lib.hid hFO
              have hk26 : k2 ≤ 1048576 := by omega
              clear hF hFO
              obtain ⟨b0, b1, b2, b3, b4⟩ := own_box rBY
              go_wp2_with fail
              refine (implCountFrom V AY mY cY (biL V) AF k2 cF fs _ rY (by omega) rF hk26).mono ?_
              rintro e w26 ⟨AL, nL, cL, rfl, oL, hb⟩
              have hB26 := hB25.trans (hb.mono hB25.size)
              replace rY := rY.below hb
              replace rBY := rBY.below hb
              replace r5 := r5.below hb
              replace rF := rF.below hb
              clear hb hB25 b0 b1 b2 b3 b4
              rw [HFO.out.nums] at oL
              obtain rfl : k2 = nL := by rw [← oL.lenI, cfTo_len]
              have rL := oL.rd
              clear oL rY rBY rF
              go_wp2_with fail
              refine (lawSum A5 V c5 so _ r5 (by omega) HTK.out.1.small).mono ?_
              rintro e w' ⟨rfl, rfl⟩
              rw [HSM.out]
              go_wp2_with fail
              refine (implStep V q _).mono ?_
              rintro e w27 ⟨AP, nP, cP, rfl, oP, hb⟩
              have hB27 := hB26.trans (hb.mono hB26.size)
              replace r5 := r5.below hb
              replace rL := rL.below hb
              clear hb hB26 
              rw [HBL.out.stepOf] at oP
              obtain rfl : V = nP := by rw [← oP.lenI, HTK.out.1.len]
              have rP := oP.rd
              clear oP
              go_wp2_with fail
              refine (implHasStep A5 V c5 so _ r5 hV8 hc5.1 hc5.2 HTK.out.1.small).mono ?_
              rintro e w' ⟨rfl, rfl⟩
              rw [HBL.out.step]
              go_wp2_with fail
              refine (lawSame A5 AP V c5 cP so _ r5 rP hVV).mono ?_
              rintro e w' ⟨rfl, rfl⟩
              go_wp2_with fail
              refine (lawSorted AL k2 cL (cfTo (V : Int) fo k2) _ rL hk26).mono ?_
              rintro e w28 ⟨AS, cS, rfl, oS, hb⟩
              have hB28 := hB27.trans (hb.mono hB27.size)
              replace r5 := r5.below hb
              replace rL := rL.below hb
              replace rP := rP.below hb
              clear hb hB27 
              rw [HFL.out] at oS
              have rS := oS.rd
              clear oS rL
              go_wp2_with fail
              refine (lawStairs k2 _ (by omega)).mono ?_
              rintro e w29 ⟨AR, cR, rfl, oR, hb⟩
              have hB29 := hB28.trans (hb.mono hB28.size)
              replace r5 := r5.below hb
              replace rP := rP.below hb
              replace rS := rS.below hb
              clear hb hB28 
              have rR := oR.rd
              clear oR
              go_wp2_with fail
              refine (lawSame AS AR k2 cS cR (marks 0 k2) _ rS rR hk26).mono ?_
              rintro e w' ⟨rfl, rfl⟩
              clear rS rR
              go_wp2_with fail
              refine (implBalance A5 V c5 so _ r5 hVV).mono ?_
              rintro e w' ⟨rfl, rfl⟩
              rw [HBV.out]
              go_wp2_with fail
              refine (lawSum AP V cP so _ rP (by omega) HTK.out.1.small).mono ?_
              rintro e w' ⟨rfl, rfl⟩
              rw [HSM.out]
              go_wp2_with fail
              refine (lawSum A5 V c5 so _ r5 (by omega) HTK.out.1.small).mono ?_
              rintro e w' ⟨rfl, rfl⟩
              rw [HSM.out]
              go_wp2_with fail
              go_ret
              exact ⟨rfl, hB29⟩
end Go.Proofs.Ytcijnmooifcicaa
