/- Chapter 17: the walk of FnMeshes. -/
import Derived.Test.YtogfnmjedeoecaaC17r
import Derived.Test.YtogfnmjedeoecaaArgB
import Derived.Deep.RegionHeld3
namespace Go.Proofs.Ytogfnmjedeoecaa
open Go.RowKit Go.Deep
set_option linter.unusedVariables false

theorem rdM_at {w : World} {a : Addr} {n k M : Nat} {zss : List (List Int)} (h : RdM w (some a) n zss) (hk : k < n) (hr : ∀ i, i < n → (row zss i).length = M) : ∃ B d, w.cell? (a.add k) = some (.slice B M d) ∧ RdI w B M (row zss k) ∧ a.block < w.heap.size := by
  obtain ⟨a', B, m, d, e, hlt, hc, hB, _⟩ := h.2 k hk
  injection e with e
  subst e
  obtain rfl : m = M := by rw [← hB.lenI, hr k hk]
  exact ⟨B, d, hc, hB, hlt⟩
theorem rdM_some {w : World} {A : Option Addr} {n : Nat} {zss : List (List Int)} (h : RdM w A n zss) (h0 : 0 < n) : ∃ a, A = some a := by
  obtain ⟨a', _, _, _, e, _⟩ := h.2 0 h0
  exact ⟨a', e⟩
theorem nat_beq (K : Nat) : ((K : Int) == 0) = decide (K = 0) := by rw [Bool.eq_iff_iff, beq_iff_eq, decide_eq_true_eq]; omega
theorem below_oneD {B : Nat} {a wr wA : World} (h : Below B a wr) {m : Nat} (hA : Below wr.heap.size (wr.drewN m) wA) (hB : B ≤ wr.heap.size) : Below B a wA := (below_drewN h m).trans (hA.mono hB)
theorem specSize12 (A : Option Addr) (n c N : Nat) (zs : List Int) (w : World) (ha : RdU w A n zs) (hz : ∀ z ∈ zs, 0 ≤ z ∧ z < 256) (hn : n ≤ 1048576) (hN : N ≤ 1000) :
    Calls Try.prog 44 #[.slice A n c, .int .i64 N, .int .i64 (-3), .int .i64 9] w fun e w' => ∃ x : Int, e = .returned (.int .i64 x) ∧ Below w.heap.size w w' := by
  refine (specSize A n c N 12 (-3) 9 zs w ha hz hn hN (by omega) (by omega) (by omega) (by omega)).mono ?_
  rintro e w' ⟨x, hx, rfl, hb⟩
  exact ⟨_, rfl, hb⟩

set_option maxHeartbeats 16000000 in
set_option maxRecDepth 100000 in
theorem lawMeshes (w : World) (A0 : Option Addr) (n0 c0 : Nat) (bs : List Int) (g : RdArgB w A0 n0 c0 bs) :
    Calls Try.prog 12 #[.slice A0 n0 c0] w fun e w' => e = .returned (.bool true) ∧ Below w.heap.size w w' := by
  have HA := Lib.hid g.1
  have HZ := Lib.hid g.2
  clear g
  by_cases hn0 : 1048576 < n0
  · go_enter Try.func12, Try.ntmps12
    go_wp2
    go_ret
    exact ⟨rfl, Below.refl _ _⟩
  replace hn0 : n0 ≤ 1048576 := by omega
  go_enter Try.func12, Try.ntmps12
  go_wp2_with fail
  refine (specMeshDrawn A0 n0 c0 0 bs w HA.out HZ.out hn0 (by omega)).mono ?_
  rintro e w1 ⟨A1, n, c1, M, zss, rfl, h1, h2, h3, hl, rM, hB1⟩
  obtain ⟨S, T, G, A, C, X, Q, E, K, hM⟩ := mesh_law hl h1 h2 h3
  obtain ⟨hn1, hn4⟩ := h1
  obtain ⟨hM1, hM4⟩ := h2
  have hNM := mesh_num hn4 hM4
  obtain ⟨L, hL⟩ : ∃ L, n * M = L := ⟨_, rfl⟩
  rw [hL] at hNM
  have eL : (M : Int) * (n : Int) = (L : Int) := by rw [← hL, Int.natCast_mul, Int.mul_comm]
  have HL := Lib.hid hL
  have HR := Lib.hid h3
  have HLEN := Lib.hid hl
  obtain ⟨b, hbd, hKb⟩ := hM.bound
  have HBD := Lib.hid hbd
  have HM := Lib.hid hM
  have hn6 : n ≤ 1048576 := by omega
  have hM6 : M ≤ 1048576 := by omega
  have hL6 : L ≤ 1048576 := by omega
  clear hM hL h3 hl hbd
  go_wp2_with fail
  refine (implSnakeOf A1 n c1 zss _ rM hn6).mono ?_
  rintro e w2 ⟨AS, nS, cS, rfl, oS, hb⟩
  have hB2 := hB1.trans (hb.mono hB1.size)
  replace rM := rM.below hb
  clear hb hB1
  have hcS := oS.cap
  obtain rfl : nS = L := by rw [← oS.lenI, HM.out.snake, HM.out.lenS, HL.out]
  rw [HM.out.snake] at oS
  have rS := oS.rd
  clear oS
  go_wp2_with fail
  refine (implShear A1 n c1 zss _ rM hn6).mono ?_
  rintro e w3 ⟨AG, nG, cG, rfl, oG, hb⟩
  have hB3 := hB2.trans (hb.mono hB2.size)
  replace rM := rM.below hb
  replace rS := rS.below hb
  clear hb hB2
  rw [HM.out.num]
  have rG := oG.rd
  rw [HM.out.shear] at rG
  clear oG
  obtain ⟨a1, rfl⟩ := rdM_some rM (by omega)
  obtain ⟨B0, d0, l0, _, _⟩ := rdM_at rM (show 0 < n by omega) HR.out
  replace l0 : w3.cell? a1 = some (.slice B0 M d0) := l0
  have hnG := rG.1
  obtain rfl : nG = n := by rw [← hnG]; exact HM.out.lenG
  clear hnG
  go_wp2_with fail
  refine (implSnakeOf AG nG cG G _ rG hn6).mono ?_
  rintro e w4 ⟨AT, nT, cT, rfl, oT, hb⟩
  have hB4 := hB3.trans (hb.mono hB3.size)
  replace rM := rM.below hb
  replace rS := rS.below hb
  replace rG := rG.below hb
  clear hb hB3
  obtain rfl : nT = nS := by rw [← oT.lenI, HM.out.top, HM.out.lenT, HL.out]
  rw [HM.out.top] at oT
  have rT := oT.rd
  clear oT l0 rG
  go_wp2_with fail
  refine (implMeshOf AS nT cS S nG M _ rS hL6 hcS).mono ?_
  rintro e w5 ⟨AB, nB, cB, rfl, oB, hb⟩
  have hB5 := hB4.trans (hb.mono hB4.size)
  replace rM := rM.below hb
  replace rS := rS.below hb
  replace rT := rT.below hb
  clear hb hB4
  have rB := oB.rd
  rw [show mofL nT S (nG : Int) (M : Int) = zss by rw [← HL.out]; exact HM.out.back] at rB
  rw [show okMesh nT (nG : Int) (M : Int) = true by rw [← HL.out]; exact HM.out.fits]
  obtain rfl : nB = nG := by rw [← rB.1]; exact HLEN.out
  clear oB
  go_wp2_with fail
  refine (implMesh (some a1) nB c1 zss _ rM hn6).mono ?_
  rintro e w' ⟨rfl, rfl⟩
  rw [HM.out.ok]
  go_wp2_with fail
  refine (implBound (nB : Nat) _).mono ?_
  rintro e w6 ⟨rfl, hb⟩
  have hB6 := hB5.trans (hb.mono hB5.size)
  replace rM := rM.below hb
  replace rS := rS.below hb
  replace rT := rT.below hb
  replace rB := rB.below hb
  clear hb hB5
  rw [HBD.out]
  go_wp2_with fail
  refine (lawRises AT nT cT T _ rT hL6).mono ?_
  rintro e w7 ⟨rfl, hb⟩
  have hB7 := hB6.trans (hb.mono hB6.size)
  replace rM := rM.below hb
  replace rS := rS.below hb
  replace rT := rT.below hb
  replace rB := rB.below hb
  clear hb hB6
  rw [HM.out.rises]
  go_wp2_with fail
  refine (lawSorted AS nT cS S _ rS hL6).mono ?_
  rintro e w8 ⟨AU, cU, rfl, oU, hb⟩
  have hB8 := hB7.trans (hb.mono hB7.size)
  replace rM := rM.below hb
  replace rS := rS.below hb
  replace rT := rT.below hb
  replace rB := rB.below hb
  clear hb hB7
  have rU := oU.rd
  rw [HM.out.sort] at rU
  clear oU
  go_wp2_with fail
  refine (lawSame AU AT nT cU cT T _ rU rT hL6).mono ?_
  rintro e w' ⟨rfl, rfl⟩
  clear rU rT
  go_wp2_with fail
  refine (implSnakeOf AB nB cB zss _ rB hn6).mono ?_
  rintro e w9 ⟨AV, nV, cV, rfl, oV, hb⟩
  have hB9 := hB8.trans (hb.mono hB8.size)
  replace rM := rM.below hb
  replace rS := rS.below hb
  replace rB := rB.below hb
  clear hb hB8
  obtain rfl : nV = nT := by rw [← oV.lenI, HM.out.snake, HM.out.lenS, HL.out]
  rw [HM.out.snake] at oV
  have rV := oV.rd
  clear oV rB
  go_wp2_with fail
  refine (lawSame AV AS nV cV cS S _ rV rS hL6).mono ?_
  rintro e w' ⟨rfl, rfl⟩
  clear rV
  go_wp2_with fail
  refine (specSize12 A0 n0 c0 20 bs _ (HA.out.below hB9) HZ.out hn0 (by omega)).mono ?_
  rintro e w10 ⟨v, rfl, hb⟩
  have hB10 := hB9.trans (hb.mono hB9.size)
  replace rM := rM.below hb
  replace rS := rS.below hb
  clear hb hB9
  obtain ⟨d, hd, hd2⟩ := HM.out.few v
  have HD := Lib.hid hd
  have hd3 : (d : Int) ≤ ((nB : Int) + 1) / 2 := by omega
  clear hd
  go_wp2_with fail
  refine (implSortRows (some a1) nB c1 zss _ rM hn6).mono ?_
  rintro e w11 ⟨AA, nA, cA, rfl, oA, hb⟩
  have hB11 := hB10.trans (hb.mono hB10.size)
  replace rM := rM.below hb
  replace rS := rS.below hb
  clear hb hB10
  have rA := oA.rd
  rw [HM.out.rowsA] at rA
  obtain rfl : nA = nB := by rw [← rA.1]; exact HM.out.lenA
  clear oA
  go_wp2_with fail
  refine (implSortColumns AA nA cA A _ rA hn6).mono ?_
  rintro e w12 ⟨AC, nC, cC, rfl, oC, hb⟩
  have hB12 := hB11.trans (hb.mono hB11.size)
  replace rM := rM.below hb
  replace rS := rS.below hb
  replace rA := rA.below hb
  clear hb hB11
  have rC := oC.rd
  rw [HM.out.colsC] at rC
  obtain rfl : nC = nA := by rw [← rC.1]; exact HM.out.lenC
  clear oC
  go_wp2_with fail
  refine (implDirty AC nC cC C v _ rC hn6).mono ?_
  rintro e w' ⟨rfl, rfl⟩
  rw [HD.out]
  go_wp2_with fail
  refine (implDirty AA nC cA A v _ rA hn6).mono ?_
  rintro e w' ⟨rfl, rfl⟩
  go_wp2_with fail
  refine (implDirty (some a1) nC c1 zss v _ rM hn6).mono ?_
  rintro e w' ⟨rfl, rfl⟩
  rw [HM.out.dirt v]
  go_wp2_with fail
  refine (implTurnedMesh (some a1) nC c1 zss _ rM hn6).mono ?_
  rintro e w13 ⟨AX, nX, cX, rfl, oX, hb⟩
  have hB13 := hB12.trans (hb.mono hB12.size)
  replace rM := rM.below hb
  replace rS := rS.below hb
  replace rA := rA.below hb
  replace rC := rC.below hb
  clear hb hB12
  have rX := oX.rd
  rw [HM.out.turnX] at rX
  obtain rfl : nX = M := by rw [← rX.1]; exact HM.out.lenX
  clear oX
  go_wp2_with fail
  refine (implTurnedMesh AX nX cX X _ rX hM6).mono ?_
  rintro e w14 ⟨AY, nY, cY, rfl, oY, hb⟩
  have hB14 := hB13.trans (hb.mono hB13.size)
  replace rM := rM.below hb
  replace rS := rS.below hb
  replace rA := rA.below hb
  replace rC := rC.below hb
  replace rX := rX.below hb
  clear hb hB13
  have rY := oY.rd
  rw [HM.out.turnY] at rY
  obtain rfl : nY = nC := by rw [← rY.1]; exact HLEN.out
  clear oY
  go_wp2_with fail
  refine (implSortColumns (some a1) nY c1 zss _ rM hn6).mono ?_
  rintro e w15 ⟨AQ, nQ, cQ, rfl, oQ, hb⟩
  have hB15 := hB14.trans (hb.mono hB14.size)
  replace rM := rM.below hb
  replace rS := rS.below hb
  replace rA := rA.below hb
  replace rC := rC.below hb
  replace rX := rX.below hb
  replace rY := rY.below hb
  clear hb hB14
  have rQ := oQ.rd
  rw [HM.out.colsQ] at rQ
  obtain rfl : nQ = nY := by rw [← rQ.1]; exact HM.out.lenQ
  clear oQ
  go_wp2_with fail
  refine (implTurnedMesh AQ nQ cQ Q _ rQ hn6).mono ?_
  rintro e w16 ⟨AE, nE, cE, rfl, oE, hb⟩
  have hB16 := hB15.trans (hb.mono hB15.size)
  replace rM := rM.below hb
  replace rS := rS.below hb
  replace rA := rA.below hb
  replace rC := rC.below hb
  replace rX := rX.below hb
  replace rY := rY.below hb
  replace rQ := rQ.below hb
  clear hb hB15
  have rE := oE.rd
  rw [HM.out.turnE] at rE
  obtain rfl : nE = nX := by rw [← rE.1]; exact HM.out.lenE
  clear oE rQ
  obtain ⟨aY, rfl⟩ := rdM_some rY (by omega)
  obtain ⟨aA, rfl⟩ := rdM_some rA (by omega)
  obtain ⟨aC, rfl⟩ := rdM_some rC (by omega)
  obtain ⟨aX, rfl⟩ := rdM_some rX (by omega)
  obtain ⟨aE, rfl⟩ := rdM_some rE (by omega)
  have FM := Lib.hid rM
  have FY := Lib.hid rY
  have FA := Lib.hid rA
  have FC := Lib.hid rC
  have FX := Lib.hid rX
  have FE := Lib.hid rE
  have FS := Lib.hid rS
  have HBW := Lib.hid hB16
  clear rM rY rA rC rX rE rS hB16
  go_wp2_with fail
  go_loopw [162] (fun iv wr => ∃ k : Nat, k ≤ nQ ∧ iv = .int .i64 k ∧ Below w16.heap.size w16 wr) (fun iv _ => nQ - (intOf iv).toNat)
  case atStart => exact ⟨0, Nat.zero_le _, rfl, Below.refl _ _⟩
  case round =>
    obtain ⟨k, hk, rfl, hbl⟩ := hrel
    by_cases hlt : k < nQ
    · obtain ⟨B1, d1, l1, q1, _⟩ := rdM_at (FM.out.below hbl) hlt HR.out
      obtain ⟨B2, d2, l2, q2, _⟩ := rdM_at (FY.out.below hbl) hlt HR.out
      obtain ⟨B3, d3, l3, q3, _⟩ := rdM_at (FA.out.below hbl) hlt HM.out.inA
      have HSA := Lib.hid (HM.out.sameA k hlt)
      go_wp2_with fail
      refine (lawSame B2 B1 nE d2 d1 (row zss k) _ q2 q1 hM6).mono ?_
      rintro e w' ⟨rfl, rfl⟩
      go_wp2_with fail
      refine (lawSorted B3 nE d3 (row A k) _ q3 hM6).mono ?_
      rintro e v1 ⟨A5, c5, rfl, o5, hb5⟩
      have hbl5 := hbl.trans (hb5.mono hbl.size)
      replace q1 := q1.below hb5
      clear q2 q3 hb5 hbl
      go_wp2_with fail
      refine (lawSorted B1 nE d1 (row zss k) _ q1 hM6).mono ?_
      rintro e v2 ⟨A6, c6, rfl, o6, hb6⟩
      have hbl6 := hbl5.trans (hb6.mono hbl5.size)
      replace o5 := o5.below hb6
      rw [HSA.out] at o5
      obtain ⟨B4, d4, l4, _, _⟩ := rdM_at (FC.out.below hbl6) hlt HM.out.inC
      clear q1 hb6 hbl5
      go_wp2_with fail
      refine (lawSame A5 A6 nE c5 c6 (srt (row zss k)) _ o5.rd o6.rd hM6).mono ?_
      rintro e w' ⟨rfl, rfl⟩
      clear o5 o6
      go_wp2_with fail
      go_roundw
      case rel => exact ⟨k + 1, by omega, by go_num, hbl6⟩
      case measure => simp [intOf]; omega
    · obtain rfl : k = nQ := by omega
      have HB1 := Lib.hid hbl
      go_wp2_with fail
      go_loopw [197] (fun iv wr => ∃ k : Nat, k ≤ nE ∧ iv = .int .i64 k ∧ Below w16.heap.size w16 wr) (fun iv _ => nE - (intOf iv).toNat)
      case atStart => exact ⟨0, Nat.zero_le _, rfl, HB1.out⟩
      case round =>
        clear hbl
        obtain ⟨i, hi, rfl, hbl⟩ := hrel
        by_cases hlt2 : i < nE
        · obtain ⟨B1, d1, l1, q1, _⟩ := rdM_at (FX.out.below hbl) hlt2 HM.out.inX
          obtain ⟨B2, d2, l2, q2, hE2⟩ := rdM_at (FE.out.below hbl) hlt2 HM.out.inE
          rw [HM.out.sameE i hlt2] at q2
          have HBL := Lib.hid hbl
          clear hbl
          go_wp2_with fail
          go_region_held3 (fun w' => w'.cell? (aE.add i) = some (.slice B2 k d2)) (go_keep) (first | (go_at_call 43; refine (lawSorted B1 k d1 (row X i) _ (by exact q1) (by omega)).mono ?_; rintro e wA ⟨A5, c5, rfl, o5, hb5⟩; have s1 := (hb5.cell (p := aE.add i) (by rw [block_of_add]; exact hE2)).trans l2; have q3 := Rd.below (by exact q2) hb5) | (go_at_call 42; refine (lawSame B2 A5 k d2 c5 (srt (row X i)) _ (by exact q3) (by exact o5.rd) (by omega)).mono ?_; rintro e w' ⟨rfl, rfl⟩))
          all_goals
            go_wp2_with fail
            go_roundw
            case rel => exact ⟨i + 1, by omega, by go_num, (by first | exact HBL.out.trans (hb5.mono HBL.out.size) | exact below_oneD HBL.out hb5 HBL.out.size | exact below_drewN (HBL.out.trans (hb5.mono HBL.out.size)) _ | exact below_drewN (below_oneD HBL.out hb5 HBL.out.size) _)⟩
            case measure => simp [intOf]; omega
        · obtain rfl : i = nE := by omega
          have HNO := Lib.hid HM.out.none
          have hBW := HBW.out.trans (hbl.mono HBW.out.size)
          have rS := FS.out.below hbl
          go_wp2_with fail
          refine (lawRises AS nV cS S _ rS hL6).mono ?_
          rintro e v3 ⟨rfl, hb7⟩
          rw [← HNO.out]
          go_wp2_with fail
          go_ret
          exact ⟨by rw [nat_beq]; simp, hBW.trans (hb7.mono hBW.size)⟩
end Go.Proofs.Ytogfnmjedeoecaa
