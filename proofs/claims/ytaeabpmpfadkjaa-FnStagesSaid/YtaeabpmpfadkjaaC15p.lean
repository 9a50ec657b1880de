/- Chapter 15: the walk of FnStages. -/
import Derived.Test.YtaeabpmpfadkjaaC15m
import Derived.Test.YtaeabpmpfadkjaaC15o
import Derived.Test.YtaeabpmpfadkjaaArgB
import Derived.Deep.RegionHeld3
namespace Go.Proofs.Ytaeabpmpfadkjaa
open Go.RowKit Go.Deep
set_option linter.unusedVariables false

theorem rdM_at {w : World} {a : Addr} {n k M : Nat} {zss : List (List Int)} (h : RdM w (some a) n zss) (hk : k < n) (hr : ∀ i, i < n → (row zss i).length = M) : ∃ B d, w.cell? (a.add k) = some (.slice B M d) ∧ RdI w B M (row zss k) ∧ a.block < w.heap.size := by
  obtain ⟨a', B, m, d, e, hlt, hc, hB, _⟩ := h.2 k hk
  injection e with e
  subst e
  obtain rfl : m = M := by rw [← hB.lenI, hr k hk]
  exact ⟨B, d, hc, hB, hlt⟩
theorem rdM_some {w : World} {A : Option Addr} {n : Nat} {zss : List (List Int)} (h : RdM w A n zss) (h0 : 0 < n) : ∃ a, A = some a := by
  obtain ⟨a', _, _, _, e, _⟩ := h.2 0 h0
  exact ⟨a', e⟩
theorem specSize0 (A : Option Addr) (n c N D : Nat) (zs : List Int) (w : World) (ha : RdU w A n zs) (hz : ∀ z ∈ zs, 0 ≤ z ∧ z < 256) (hn : n ≤ 1048576) (hN : N ≤ 1000) (hD2 : D ≤ 50) :
    Calls Try.prog 42 #[.slice A n c, .int .i64 N, .int .i64 0, .int .i64 D] w fun e w' => ∃ x : Nat, x ≤ D ∧ e = .returned (.int .i64 x) ∧ Below w.heap.size w w' := by
  refine (specSize A n c N D 0 D zs w ha hz hn hN (by omega) hD2 (by omega) (by omega)).mono ?_
  rintro e w' ⟨x, hx, rfl, hb⟩
  exact ⟨x, hx, by rw [Int.zero_add], hb⟩
theorem doMeet_pair {zs : List Int} {n i k x y : Nat} (hl : zs.length = n) (ho : ordV zs = true) (hk : k < i) (hi : i < n) (hx : nth zs i = x) (hy : nth zs k = y) : doMeetV n x i y k = pairMeet zs i k := by
  obtain ⟨hn, ho2⟩ := ordV_out ho hl
  obtain ⟨x', hx', hxn⟩ := ord_get ho2 (k := i) (by omega)
  obtain ⟨y', hy', hyn⟩ := ord_get ho2 (k := k) (by omega)
  have hne := ord_inj ho2 hk (by omega)
  have e1 : x' = x := by omega
  have e2 : y' = y := by omega
  subst e1 e2
  have hN : IsN (n : Int) := isN_of hn
  rw [doMeetV, decide_eq_true ⟨⟨hN, by omega, by omega⟩, ⟨hN, by omega, by omega⟩, by omega, by omega⟩, Bool.true_and, pairMeet, hl, hx, hy]
  simp only [Int.toNat_natCast]
theorem pathV_law {n a b : Nat} (hn : n = 2 ∨ n = 4 ∨ n = 8) (ha : a < n) (hb : b < n) : (pathV n a b).length = stgN n ∧ ∀ J, J + 1 = stgN n → nth (pathV n a b) J = (b : Int) := by
  have e : pathV n a b = pathL n a b := by
    rw [pathV, if_pos ⟨isN_of hn, by omega, by omega⟩]
    simp only [Int.toNat_natCast]
  rw [e]
  refine ⟨pathL_len _ _ _, fun J hJ => ?_⟩
  rw [pathL, nth_pathR _ _ _ _ _ (by omega), hJ, pos_end hn ha hb]
structure NumL (n K J Q R P h : Nat) : Prop where
  stg : stgN n = K
  st : stgV (n : Int) = (K : Int)
  k1 : K = J + 1
  two : RowKit.wrap64 (2 ^ K) = (n : Int)
  mul : (K : Int) * (n : Int) = (Q : Int)
  half : (Q : Int) / 2 = (R : Int)
  ways : RowKit.wrap64 (2 ^ R) = (P : Int)
  pass : passV (n : Int) = (P : Int)
  hh : n / 2 = h
  k3 : K ≤ 3
  q24 : Q ≤ 24
  p4096 : P ≤ 4096
theorem num_law {n : Nat} (hn : n = 2 ∨ n = 4 ∨ n = 8) : ∃ K J Q R P h, NumL n K J Q R P h := by
  rcases hn with rfl | rfl | rfl
  · exact ⟨1, 0, 2, 1, 2, 1, rfl, rfl, rfl, by rw [wrap_pow 1 (by omega)], rfl, rfl, by rw [wrap_pow 1 (by omega)], rfl, rfl, by omega, by omega, by omega⟩
  · exact ⟨2, 1, 8, 4, 16, 2, rfl, rfl, rfl, by rw [wrap_pow 2 (by omega)], rfl, rfl, by rw [wrap_pow 4 (by omega)], rfl, rfl, by omega, by omega, by omega⟩
  · exact ⟨3, 2, 24, 12, 4096, 4, rfl, rfl, rfl, by rw [wrap_pow 3 (by omega)], rfl, rfl, by rw [wrap_pow 12 (by omega)], rfl, rfl, by omega, by omega, by omega⟩
/-- Whether some two of the paths so far meet. -/
def mtP (zs : List Int) (i : Nat) : Bool := !passTo zs i
def mtR (zs : List Int) (i k : Nat) : Bool := !(passTo zs i && rowTo zs i k)
theorem mtP_zero (zs : List Int) : mtP zs 0 = false := by rw [mtP, pass_zero]; rfl
theorem mtR_zero (zs : List Int) (i : Nat) : mtR zs i 0 = mtP zs i := by rw [mtR, mtP, row_zero, Bool.and_true]
theorem mtR_end (zs : List Int) (i : Nat) : mtR zs i i = mtP zs (i + 1) := by
  have e : passTo zs (i + 1) = (passTo zs i && rowTo zs i i) := by rw [passTo]
  rw [mtR, mtP, e]
theorem mtR_succ (zs : List Int) (i k : Nat) : mtR zs i (k + 1) = (mtR zs i k || pairMeet zs i k) := by
  rw [mtR, mtR]
  have e : rowTo zs i (k + 1) = (rowTo zs i k && !pairMeet zs i k) := by rw [rowTo]
  rw [e]
  cases passTo zs i <;> cases rowTo zs i k <;> cases pairMeet zs i k <;> rfl
theorem mt_all {zs : List Int} {n : Nat} (hl : zs.length = n) (ho : ordV zs = true) : mtP zs n = !canV zs := by rw [mtP, canV, ho, Bool.true_and, passB, hl]

set_option maxHeartbeats 32000000 in
set_option maxRecDepth 100000 in
theorem lawStages (w : World) (A0 : Option Addr) (n0 c0 : Nat) (bs : List Int) (g : RdArgB w A0 n0 c0 bs) :
    Calls Try.prog 12 #[.slice A0 n0 c0] w fun e w' => e = .returned (.bool true) ∧ Below w.heap.size w w' := by
  have HA := Lib.hid g.1
  have HZ := Lib.hid g.2
  clear g
  by_cases hn0 : 1048576 < n0
  · go_enter Try.func12, Try.ntmps12
    go_wp2
    go_ret
    exact ⟨rfl, Below.refl _ _⟩
  replace hn0 : n0 ≤ 1048576 := by omega
  go_enter Try.func12, Try.ntmps12
  go_wp2_with fail
  refine (specPassing A0 n0 c0 0 bs w HA.out HZ.out hn0 (by omega)).mono ?_
  rintro e w1 ⟨A1, n, c1, zs, rfl, hn, rO, hcap, ho, hB1⟩
  obtain ⟨hcap1, hcap2⟩ := hcap
  unfold maxLen at hcap2
  have hn8 : n ≤ 8 := by omega
  have hn2 : 2 ≤ n := by omega
  have hpos : 0 < n := by omega
  have hn6 : n ≤ 1048576 := by omega
  have hl := rO.lenI
  obtain ⟨K, J, Q, R, P, h, hNL⟩ := num_law hn
  have hk1 : K ≤ J + 1 := by have := hNL.k1; omega
  have hk2 : J < K := by have := hNL.k1; omega
  have hk3 := hNL.k3
  have hq24 := hNL.q24
  have hp4096 := hNL.p4096
  have eh : (n : Int) / 2 = (h : Int) := by have := hNL.hh; omega
  have hh4 : h ≤ 4 := by have := hNL.hh; omega
  have eK : (K : Int) - 1 = (J : Int) := by omega
  obtain ⟨m1, hm1⟩ : ∃ m1, n - 1 = m1 := ⟨_, rfl⟩
  have en1 : (n : Int) - 1 = (m1 : Int) := by omega
  have hm1l : m1 < n := by omega
  clear hm1
  have HNL := Lib.hid hNL
  obtain ⟨r, hr, hr1, hrn, hrc⟩ := rn_law hl hn2 ho
  have HRV := Lib.hid hr
  have HN := Lib.hid hn
  have HO := Lib.hid ho
  have HLEN := Lib.hid hl
  have HRC := Lib.hid hrc
  have HMT := Lib.hid (mt_all hl ho)
  clear hn ho hl hr hrc hNL
  go_wp2_with fail
  refine (implCanPass A1 n c1 zs _ rO hn6).mono ?_
  rintro e w2 ⟨rfl, hb⟩
  have hB2 := hB1.trans (hb.mono hB1.size)
  replace rO := rO.below hb
  clear hb hB1
  go_wp2_with fail
  refine (implStageSettings A1 n c1 zs _ rO hn6).mono ?_
  rintro e w3 ⟨AS, nS, cS, rfl, oS, hb⟩
  have hB3 := hB2.trans (hb.mono hB2.size)
  replace rO := rO.below hb
  clear hb hB2
  have rS := oS.rd
  clear oS
  go_wp2_with fail
  refine (implRounds A1 n c1 zs _ rO hn6).mono ?_
  rintro e w4 ⟨rfl, hb⟩
  have hB4 := hB3.trans (hb.mono hB3.size)
  replace rO := rO.below hb
  replace rS := rS.below hb
  clear hb hB3
  rw [HRV.out]
  cases hcan : canV zs with
  | true =>
    have hr0 := HRC.out.1 hcan
    subst hr0
    have HPL := Lib.hid (pass_law HLEN.out hcan)
    obtain rfl : nS = K := by rw [← rS.1, HPL.out.1, HNL.out.stg]
    have HRU := Lib.hid (runOk_of HN.out HPL.out.1 HPL.out.2.1 HPL.out.2.2.1)
    have HCAN := Lib.hid hcan
    rw [hcan] at HMT
    clear hcan
    go_wp2_with fail
    refine (implRunStages n AS nS cS (swV zs) _ rS (by omega) (fun k hk => by rw [HPL.out.2.1 k (by rw [HNL.out.stg]; exact hk)]; omega)).mono ?_
    rintro e w5 ⟨AR, nR, cR, rfl, oR, hb⟩
    have hB5 := hB4.trans (hb.mono hB4.size)
    replace rO := rO.below hb
    replace rS := rS.below hb
    clear hb hB4
    rw [HRU.out, HPL.out.2.2.2] at oR
    obtain rfl : nR = n := by rw [← oR.lenI]; exact HLEN.out
    have rR := oR.rd
    clear oR rS
    go_wp2_with fail
    refine (lawSame AR A1 nR cR c1 zs _ rR rO hn6).mono ?_
    rintro e w' ⟨rfl, rfl⟩
    clear rR
    go_wp2_with fail
    refine (show Calls Try.prog 42 #[.slice A0 n0 c0, .int .i64 20, .int .i64 0, .int .i64 (m1 : Nat)] _ _ from by exact specSize0 A0 n0 c0 20 m1 bs _ (HA.out.below hB5) HZ.out hn0 (by omega) (by omega)).mono ?_
    rintro e w6 ⟨a, ha, rfl, hb⟩
    have hB6 := hB5.trans (hb.mono hB5.size)
    replace rO := rO.below hb
    clear hb hB5
    go_wp2_with fail
    refine (show Calls Try.prog 42 #[.slice A0 n0 c0, .int .i64 21, .int .i64 0, .int .i64 (m1 : Nat)] _ _ from by exact specSize0 A0 n0 c0 21 m1 bs _ (HA.out.below hB6) HZ.out hn0 (by omega) (by omega)).mono ?_
    rintro e w7 ⟨b, hb, rfl, hb⟩
    have hB7 := hB6.trans (hb.mono hB6.size)
    replace rO := rO.below hb
    clear hb hB6
    have ha' : a < nR := by omega
    have hb' : b < nR := by omega
    have HPV := Lib.hid (pathV_law HN.out ha' hb')
    go_wp2_with fail
    refine (implPathOf nR a b _).mono ?_
    rintro e w8 ⟨AP, nP, cP, rfl, oP, hb⟩
    have hB8 := hB7.trans (hb.mono hB7.size)
    replace rO := rO.below hb
    clear hb hB7
    obtain rfl : nP = nS := by rw [← oP.lenI, HPV.out.1, HNL.out.stg]
    have rP := oP.rd
    clear oP
    go_wp2_with fail
    refine (implCountStages nR _).mono ?_
    rintro e w' ⟨rfl, rfl⟩
    rw [HNL.out.st]
    obtain ⟨aP, rfl, _, lP⟩ := rP.at_ (show J < nP by omega)
    rw [HPV.out.2 J (by rw [HNL.out.stg]; omega)] at lP
    have e2 := HNL.out.two
    have e3 := HNL.out.mul
    have e4 := HNL.out.half
    have e5 := HNL.out.ways
    have hJK : (J : Int) < (nP : Int) := by omega
    have hJ0 : (0 : Int) ≤ (J : Int) := by omega
    have hwJ : IntKind.i64.wrap (J : Int) = (J : Int) := IntWalk.i64_in _ (by omega)
    have hwK : IntKind.i64.wrap ((nP : Int) - 1) = (J : Int) := by rw [eK]; exact hwJ
    have hwQ : IntKind.i64.wrap (Q : Int) = (Q : Int) := IntWalk.i64_in _ (by omega)
    have hwKn : IntKind.i64.wrap ((nP : Int) * (nR : Int)) = (Q : Int) := by rw [e3]; exact hwQ
    have hs1 : IntKind.i64.wrap (2 ^ nP) = (nR : Int) := by rw [IntWalk.i64_left]; exact e2
    have hs2 : IntKind.i64.wrap (2 ^ R) = (P : Int) := by rw [IntWalk.i64_left]; exact e5
    have hs3 : IntKind.i64.wrap ((Q : Int).tdiv 2) = (R : Int) := by rw [IntWalk.i64_quo _ _ (by omega)]; exact e4
    have hr12 : (R : Int) ≤ 12 := by omega
    have hwR : IntKind.i64.wrap (R : Int) = (R : Int) := IntWalk.i64_in _ (by omega)
    have hR0 : (0 : Int) ≤ (R : Int) := by omega
    have hK0 : (0 : Int) ≤ (nP : Int) := by omega
    have CP := Lib.hid (show ∀ w', Calls Try.prog 16 #[.int .i64 (nR : Nat)] w' (fun e w2 => e = .returned (.int .i64 (P : Nat)) ∧ w' = w2) from fun w' => HNL.out.pass ▸ implCountPassing nR w')
    clear rP
    go_wp2_with fail
    go_region_held3 (fun w' => w'.cell? (aP.add J) = some (.int .i64 b)) (go_keep) (first | (go_at_call 16; refine (CP.out _).mono ?_; rintro e w' ⟨rfl, rfl⟩))
    obtain ⟨a1, hA1, _, _⟩ := rO.at_ hpos
    subst hA1
    have FO := Lib.hid rO
    have HBW := Lib.hid hB8
    clear rO hB8 e2 e3 e4 e5 hwJ hwK hwQ hwKn hs1 hs2 hs3 hwR hR0 hK0 hJ0 hJK lP hr12 CP
    go_wp2_with fail
    go_loopw [13, 118] (fun mv iv wr => ∃ i : Nat, i ≤ nR ∧ iv = .int .i64 i ∧ mv = .bool (mtP zs i) ∧ Below w8.heap.size w8 wr) (fun _ iv _ => nR - (intOf iv).toNat)
    case atStart => exact ⟨0, Nat.zero_le _, rfl, by rw [mtP_zero], by first | exact below_drewN (Below.refl _ _) _ | exact Below.refl _ _⟩
    case round =>
      obtain ⟨i, hi, rfl, rfl, hbl⟩ := hrel
      by_cases hlt : i < nR
      · obtain ⟨x, hx, hxn⟩ := ord_get (ordV_out HO.out HLEN.out).2 (k := i) (by rw [HLEN.out]; exact hlt)
        obtain ⟨a1', ha1, _, l1⟩ := (FO.out.below hbl).at_ hlt
        injection ha1 with ha1
        subst ha1
        rw [hx] at l1
        have HX := Lib.hid hx
        have HM0 := Lib.hid (mtR_zero zs i)
        clear hx hxn
        go_wp2_with fail
        go_loopw [13, 127] (fun mv jv w2 => ∃ j : Nat, j ≤ i ∧ jv = .int .i64 j ∧ mv = .bool (mtR zs i j) ∧ Below w8.heap.size w8 w2) (fun _ jv _ => i - (intOf jv).toNat)
        case atStart => exact ⟨0, Nat.zero_le _, rfl, by rw [HM0.out], hbl⟩
        case round =>
          clear hbl l1
          obtain ⟨j, hj, rfl, rfl, hbl⟩ := hrel
          by_cases hlt2 : j < i
          · obtain ⟨y, hy, hyn⟩ := ord_get (ordV_out HO.out HLEN.out).2 (k := j) (by rw [HLEN.out]; omega)
            obtain ⟨a1', ha1, _, l2⟩ := (FO.out.below hbl).at_ (show j < nR by omega)
            injection ha1 with ha1
            subst ha1
            rw [hy] at l2
            have HDM := Lib.hid (doMeet_pair HLEN.out HO.out hlt2 hlt HX.out hy)
            have HNX := Lib.hid (mtR_succ zs i j)
            clear hy hyn
            cases hm : mtR zs i j with
            | true =>
              have HNX2 := Lib.hid (show mtR zs i (j + 1) = true by rw [HNX.out, hm]; rfl)
              clear hm
              go_wp2_with fail
              go_roundw
              case rel => exact ⟨j + 1, by omega, by go_num, by rw [HNX2.out], hbl⟩
              case measure => simp [intOf]; omega
            | false =>
              have HNX2 := Lib.hid (show mtR zs i (j + 1) = pairMeet zs i j by rw [HNX.out, hm]; rfl)
              clear hm
              go_wp2_with fail
              refine (implDoMeet nR x i y j _).mono ?_
              rintro e v1 ⟨rfl, hb⟩
              rw [HDM.out]
              have hbl2 := hbl.trans (hb.mono hbl.size)
              clear hb hbl
              go_wp2_with fail
              go_roundw
              case rel => exact ⟨j + 1, by omega, by go_num, by rw [HNX2.out], hbl2⟩
              case measure => simp [intOf]; omega
          · obtain rfl : j = i := by omega
            have HME := Lib.hid (mtR_end zs j)
            go_wp2_with fail
            go_roundw
            case rel => exact ⟨j + 1, by omega, by go_num, by rw [HME.out], hbl⟩
            case measure => simp [intOf]; omega
      · obtain rfl : i = nR := by omega
        rw [HMT.out]
        have hB1 := HBW.out.trans (hbl.mono HBW.out.size)
        clear hbl HBW
        go_wp2_with fail
        refine (implShift i a _).mono ?_
        rintro e v1 ⟨AQ, nQ, cQ, rfl, oQ, hb⟩
        have hB2 := hB1.trans (hb.mono hB1.size)
        have hnQ : nQ ≤ 1048576 := by rw [← oQ.lenI]; exact shiftV_len _ _
        have FQ := Lib.hid oQ.rd
        have HSC := Lib.hid (shift_can HN.out ha')
        have HBQ := Lib.hid hB2
        obtain ⟨B, hB⟩ : ∃ B, v1.heap.size = B := ⟨_, rfl⟩
        have HB := Lib.hid hB
        have HO2 := Lib.hid (show Own (v1.alloc (.cells #[] 24)) B 24 (some ⟨v1.heap.size, 0, none⟩) 0 0 [] from hB ▸ own_empty v1 24)
        have HBl := Lib.hid (show Below B v1 (v1.alloc (.cells #[] 24)) from hB ▸ below_alloc v1 _)
        clear hb hB1 oQ hB2 hB
        go_wp2_with fail
        go_loopw [19, 20] (fun tv iv wr => ∃ k : Nat, ∃ A c vs t, tv = .slice A k c ∧ iv = .int .i64 k ∧ k ≤ nP ∧ Hid (BRows i k t) ∧ Own wr B 24 A k c vs ∧ RowsIn wr B wr.heap.size A k (row t) vs ∧ Below B v1 wr) (fun _ iv _ => nP - (intOf iv).toNat)
        case atStart => exact ⟨0, _, _, [], [], rfl, rfl, Nat.zero_le _, Lib.hid (bRows_nil _), HO2.out, fun j hj => by omega, HBl.out⟩
        case round =>
          obtain ⟨k, A, c, vs, t, rfl, rfl, hk, HT, hown, hrs, hbl⟩ := hrel
          have hsr : B ≤ wr.heap.size := by have := hbl.size; rw [HB.out] at this; exact this
          by_cases hlt2 : k < nP
          · have HBr := Lib.hid (below_alloc wr (.cells #[] 3))
            have HRl := Lib.hid (show Below v1.heap.size v1 wr by rw [HB.out]; exact hbl)
            go_wp2_with fail
            go_loopw [21, 22] (fun rv jv w2 => ∃ j : Nat, ∃ R cR r, rv = .slice R j cR ∧ jv = .int .i64 j ∧ j ≤ h ∧ Hid (BPfx j r) ∧ OwnI w2 wr.heap.size 3 R j cR r ∧ Below wr.heap.size wr w2) (fun _ jv _ => h - (intOf jv).toNat)
            case atStart => exact ⟨0, _, _, [], rfl, rfl, Nat.zero_le _, Lib.hid bPfx_nil, own_empty wr _, HBr.out⟩
            case round =>
              obtain ⟨j, R, cR, r, rfl, rfl, hj, HP, hR, hb2⟩ := hrel
              have hs2 := hb2.size
              by_cases hlt3 : j < h
              · go_wp2_with fail
                refine (show Calls Try.prog 43 #[.slice A0 n0 c0, .int .i64 (30 + (k : Int) + (j : Int))] _ _ from by rw [show (30 + (k : Int) + (j : Int)) = ((30 + k + j : Nat) : Int) by omega]; exact specNum A0 n0 c0 (30 + k + j) bs _ (HA.out.below (HBQ.out.trans ((HRl.out.trans (hb2.mono HRl.out.size)).mono HBQ.out.size))) HZ.out hn0 (by omega)).mono ?_
                rintro e w4 ⟨y0, hy0, rfl, hb4⟩
                obtain ⟨y, hy⟩ : ∃ y, y0 % 2 = y := ⟨_, rfl⟩
                have ey : (y0 : Int) % 2 = (y : Int) := by omega
                have hy2 : y < 2 := by omega
                have hR4 := hR.below hb4
                have hb24 := hb2.trans (hb4.mono hs2)
                have hs4 := hb24.size
                clear hy hR hb2 hb4 hs2
                go_wp2_with (at_builtin; refine wpL_append1 _ rfl _ _ _ rfl _ 3 (.int .i64 0) 8 Try.underlying24 intInfo rfl _ j _ _ rfl hR4 _ rfl rfl (by unfold maxLen; omega) (by omega) hs4 ?_)
                intro A6 c6 w6 ho6 hg6 hat6
                have hb6 := own_below hR4 hb24 hs4 hg6
                go_wp2_with fail
                go_roundw
                case rel => exact ⟨j + 1, A6, c6, r ++ [(y : Int)], rfl, by go_num, by omega, Lib.hid (bPfx_snoc HP.out hy2), by simpa [OwnI] using ho6, hb6⟩
                case measure => (simp [intOf] <;> omega)
              · obtain rfl : j = h := by omega
                have HL := Lib.hid HT.out.1
                have hown2 := hown.below hb2
                have hbl2 := hbl.trans (hb2.mono hsr)
                have hsz2 : B ≤ wr.heap.size := by have := hbl2.size; rw [HB.out] at this; exact this
                have hrs2 := RowsIn.keep hrs (fun g h1 h2 h3 => hb2.block g h3)
                have hAA := hown.blk_
                have hRR := hR.blk_
                go_wp2_with (at_builtin; refine wpL_append1 _ rfl _ _ _ rfl B 24 (.slice none 0 0) 24 Try.underlying35 sliceInfo rfl _ k _ _ rfl hown2 (.slice R j cR) rfl rfl (by unfold maxLen; omega) (by omega) hsz2 ?_)
                intro A6 c6 w6 ho6 hg6 hat6
                have hb6 := own_below hown2 hbl2 hsz2 hg6
                have hrs6 := rowsIn_push (f := row (t ++ [r])) (cR := cR) hown2 (hrs2.congr fun j hj => row_snoc_lt (by rw [HL.out]; exact hj)) (fun q hq => (hAA q hq).2) hs2 (by rw [row_snoc_eq HL.out]; exact hR.more hsr) (fun q hq => (hRR q hq).1) hg6 hat6
                have HT2 := Lib.hid (bRows_snoc HT.out (by rw [HNL.out.hh]; exact HP.out.1) (by have := HP.out; rw [← HNL.out.hh] at this; exact bPfx_bits this))
                go_wp2_with fail
                go_roundw
                case rel => exact ⟨k + 1, A6, c6, _, t ++ [r], rfl, by go_num, by omega, HT2, ho6, hrs6, hb6⟩
                case measure => (simp [intOf] <;> omega)
          · obtain rfl : k = nP := by omega
            have HT3 := HT.out
            have hRL := run_law HN.out (by rw [HNL.out.stg]; exact HT3.1) (fun q hq => (HT3.2 q (by rw [← HNL.out.stg]; exact hq)).1) (fun q hq => (HT3.2 q (by rw [← HNL.out.stg]; exact hq)).2)
            have hRV := runOk_of HN.out (by rw [HNL.out.stg]; exact HT3.1) (fun q hq => (HT3.2 q (by rw [← HNL.out.stg]; exact hq)).1) (fun q hq => (HT3.2 q (by rw [← HNL.out.stg]; exact hq)).2)
            obtain ⟨u, hu⟩ : ∃ u, runTo i t (stgN i) = u := ⟨_, rfl⟩
            rw [hu] at hRL hRV
            have HRL := Lib.hid hRL
            have HRV2 := Lib.hid hRV
            have rT : RdM wr A k t := (show OwnR wr B wr.heap.size A k c t from ⟨HT3.1, vs, hown, fun q hq => (hown.blk_ q hq).2, hrs⟩).rd
            have rQ := FQ.out.below (show Below v1.heap.size v1 wr by rw [HB.out]; exact hbl)
            have hB3 := HBQ.out.trans ((show Below v1.heap.size v1 wr by rw [HB.out]; exact hbl).mono HBQ.out.size)
            clear hRL hRV hu HT3 hown hrs hbl
            go_wp2_with fail
            refine (implRunStages i A k c t _ rT (by omega) (fun q hq => by rw [(HT.out.2 q hq).1]; omega)).mono ?_
            rintro e v2 ⟨AU, nU, cU, rfl, oU, hb⟩
            rw [HRV2.out] at oU
            obtain rfl : nU = i := by rw [← oU.lenI]; exact HRL.out.len
            have hB4 := hB3.trans (hb.mono hB3.size)
            replace rT := rT.below hb
            replace rQ := rQ.below hb
            have rU := oU.rd
            clear oU hb hB3
            go_wp2_with fail
            refine (implStageSettings AU nU cU u _ rU (by omega)).mono ?_
            rintro e v3 ⟨AV, nV, cV, rfl, oV, hb⟩
            have rV := oV.rd
            rw [HRL.out.back] at rV
            rw [HRL.out.can]
            obtain rfl : nV = k := by rw [← rV.1]; exact HT.out.1
            have hB5 := hB4.trans (hb.mono hB4.size)
            replace rT := rT.below hb
            replace rQ := rQ.below hb
            replace rU := rU.below hb
            clear oV hb hB4
            obtain ⟨aT, rfl⟩ := rdM_some rT (by omega)
            obtain ⟨aV, rfl⟩ := rdM_some rV (by omega)
            have FT := Lib.hid rT
            have FV := Lib.hid rV
            clear rT rV
            go_wp2_with fail
            go_loopw [191] (fun iv wr => ∃ k : Nat, k ≤ nV ∧ iv = .int .i64 k ∧ v3 = wr) (fun iv _ => nV - (intOf iv).toNat)
            case atStart => exact ⟨0, Nat.zero_le _, rfl, rfl⟩
            case round =>
              obtain ⟨k, hk2, rfl, rfl⟩ := hrel
              by_cases hlt4 : k < nV
              · obtain ⟨B1, d1, l1, q1, _⟩ := rdM_at FT.out hlt4 (fun q hq => (HT.out.2 q hq).1)
                obtain ⟨B2, d2, l2, q2, _⟩ := rdM_at FV.out hlt4 (fun q hq => (HT.out.2 q hq).1)
                go_wp2_with fail
                refine (lawSame B1 B2 (nU / 2) d1 d2 (row t k) _ q1 q2 (by omega)).mono ?_
                rintro e w' ⟨rfl, rfl⟩
                go_wp2_with fail
                go_roundw
                case rel => exact ⟨k + 1, by omega, by go_num, by first | rfl | trivial⟩
                case measure => simp [intOf]; omega
              · obtain rfl : k = nV := by omega
                go_wp2_with fail
                refine (implCanPass AQ nQ cQ (shiftV nU a) _ rQ hnQ).mono ?_
                rintro e v4 ⟨rfl, hb⟩
                rw [HSC.out]
                have hB6 := hB5.trans (hb.mono hB5.size)
                replace rU := rU.below hb
                clear hb
                go_wp2_with fail
                refine (implCanPass AU nU cU u _ rU (by omega)).mono ?_
                rintro e v5 ⟨rfl, hb⟩
                rw [HRL.out.can]
                go_wp2_with fail
                go_ret
                exact ⟨rfl, hB6.trans (hb.mono hB6.size)⟩
  | false =>
    have hr0 : ¬ r = 1 := fun e => by rw [HRC.out.2 e] at hcan; cases hcan
    have er : ((r : Int) == 1) = false := by rw [beq_eq_false_iff_ne]; omega
    have HCAN := Lib.hid hcan
    rw [hcan] at HMT
    clear hcan rS
    go_wp2_with fail
    refine (show Calls Try.prog 42 #[.slice A0 n0 c0, .int .i64 20, .int .i64 0, .int .i64 (m1 : Nat)] _ _ from by exact specSize0 A0 n0 c0 20 m1 bs _ (HA.out.below hB4) HZ.out hn0 (by omega) (by omega)).mono ?_
    rintro e w5 ⟨a, ha, rfl, hb⟩
    have hB5 := hB4.trans (hb.mono hB4.size)
    replace rO := rO.below hb
    clear hb hB4
    go_wp2_with fail
    refine (show Calls Try.prog 42 #[.slice A0 n0 c0, .int .i64 21, .int .i64 0, .int .i64 (m1 : Nat)] _ _ from by exact specSize0 A0 n0 c0 21 m1 bs _ (HA.out.below hB5) HZ.out hn0 (by omega) (by omega)).mono ?_
    rintro e w6 ⟨b, hb, rfl, hb⟩
    have hB6 := hB5.trans (hb.mono hB5.size)
    replace rO := rO.below hb
    clear hb hB5
    have ha' : a < n := by omega
    have hb' : b < n := by omega
    have HPV := Lib.hid (pathV_law HN.out ha' hb')
    go_wp2_with fail
    refine (implPathOf n a b _).mono ?_
    rintro e w7 ⟨AP, nP, cP, rfl, oP, hb⟩
    have hB7 := hB6.trans (hb.mono hB6.size)
    replace rO := rO.below hb
    clear hb hB6
    obtain rfl : nP = K := by rw [← oP.lenI, HPV.out.1, HNL.out.stg]
    have rP := oP.rd
    clear oP
    go_wp2_with fail
    refine (implCountStages n _).mono ?_
    rintro e w' ⟨rfl, rfl⟩
    rw [HNL.out.st]
    obtain ⟨aP, rfl, _, lP⟩ := rP.at_ (show J < nP by omega)
    rw [HPV.out.2 J (by rw [HNL.out.stg]; omega)] at lP
    have e2 := HNL.out.two
    have e3 := HNL.out.mul
    have e4 := HNL.out.half
    have e5 := HNL.out.ways
    have hJK : (J : Int) < (nP : Int) := by omega
    have hJ0 : (0 : Int) ≤ (J : Int) := by omega
    have hwJ : IntKind.i64.wrap (J : Int) = (J : Int) := IntWalk.i64_in _ (by omega)
    have hwK : IntKind.i64.wrap ((nP : Int) - 1) = (J : Int) := by rw [eK]; exact hwJ
    have hwQ : IntKind.i64.wrap (Q : Int) = (Q : Int) := IntWalk.i64_in _ (by omega)
    have hwKn : IntKind.i64.wrap ((nP : Int) * (n : Int)) = (Q : Int) := by rw [e3]; exact hwQ
    have hs1 : IntKind.i64.wrap (2 ^ nP) = (n : Int) := by rw [IntWalk.i64_left]; exact e2
    have hs2 : IntKind.i64.wrap (2 ^ R) = (P : Int) := by rw [IntWalk.i64_left]; exact e5
    have hs3 : IntKind.i64.wrap ((Q : Int).tdiv 2) = (R : Int) := by rw [IntWalk.i64_quo _ _ (by omega)]; exact e4
    have hr12 : (R : Int) ≤ 12 := by omega
    have hwR : IntKind.i64.wrap (R : Int) = (R : Int) := IntWalk.i64_in _ (by omega)
    have hR0 : (0 : Int) ≤ (R : Int) := by omega
    have hK0 : (0 : Int) ≤ (nP : Int) := by omega
    have CP := Lib.hid (show ∀ w', Calls Try.prog 16 #[.int .i64 (n : Nat)] w' (fun e w2 => e = .returned (.int .i64 (P : Nat)) ∧ w' = w2) from fun w' => HNL.out.pass ▸ implCountPassing n w')
    clear rP
    go_wp2_with fail
    go_region_held3 (fun w' => w'.cell? (aP.add J) = some (.int .i64 b)) (go_keep) (first | (go_at_call 16; refine (CP.out _).mono ?_; rintro e w' ⟨rfl, rfl⟩))
    obtain ⟨a1, hA1, _, _⟩ := rO.at_ hpos
    subst hA1
    have FO := Lib.hid rO
    have HBW := Lib.hid hB7
    clear rO hB7 e2 e3 e4 e5 hwJ hwK hwQ hwKn hs1 hs2 hs3 hwR hR0 hK0 hJ0 hJK lP hr12 CP
    go_wp2_with fail
    go_loopw [13, 118] (fun mv iv wr => ∃ i : Nat, i ≤ n ∧ iv = .int .i64 i ∧ mv = .bool (mtP zs i) ∧ Below w7.heap.size w7 wr) (fun _ iv _ => n - (intOf iv).toNat)
    case atStart => exact ⟨0, Nat.zero_le _, rfl, by rw [mtP_zero], by first | exact below_drewN (Below.refl _ _) _ | exact Below.refl _ _⟩
    case round =>
      obtain ⟨i, hi, rfl, rfl, hbl⟩ := hrel
      by_cases hlt : i < n
      · obtain ⟨x, hx, hxn⟩ := ord_get (ordV_out HO.out HLEN.out).2 (k := i) (by rw [HLEN.out]; exact hlt)
        obtain ⟨a1', ha1, _, l1⟩ := (FO.out.below hbl).at_ hlt
        injection ha1 with ha1
        subst ha1
        rw [hx] at l1
        have HX := Lib.hid hx
        have HM0 := Lib.hid (mtR_zero zs i)
        clear hx hxn
        go_wp2_with fail
        go_loopw [13, 127] (fun mv jv w2 => ∃ j : Nat, j ≤ i ∧ jv = .int .i64 j ∧ mv = .bool (mtR zs i j) ∧ Below w7.heap.size w7 w2) (fun _ jv _ => i - (intOf jv).toNat)
        case atStart => exact ⟨0, Nat.zero_le _, rfl, by rw [HM0.out], hbl⟩
        case round =>
          clear hbl l1
          obtain ⟨j, hj, rfl, rfl, hbl⟩ := hrel
          by_cases hlt2 : j < i
          · obtain ⟨y, hy, hyn⟩ := ord_get (ordV_out HO.out HLEN.out).2 (k := j) (by rw [HLEN.out]; omega)
            obtain ⟨a1', ha1, _, l2⟩ := (FO.out.below hbl).at_ (show j < n by omega)
            injection ha1 with ha1
            subst ha1
            rw [hy] at l2
            have HDM := Lib.hid (doMeet_pair HLEN.out HO.out hlt2 hlt HX.out hy)
            have HNX := Lib.hid (mtR_succ zs i j)
            clear hy hyn
            cases hm : mtR zs i j with
            | true =>
              have HNX2 := Lib.hid (show mtR zs i (j + 1) = true by rw [HNX.out, hm]; rfl)
              clear hm
              go_wp2_with fail
              go_roundw
              case rel => exact ⟨j + 1, by omega, by go_num, by rw [HNX2.out], hbl⟩
              case measure => simp [intOf]; omega
            | false =>
              have HNX2 := Lib.hid (show mtR zs i (j + 1) = pairMeet zs i j by rw [HNX.out, hm]; rfl)
              clear hm
              go_wp2_with fail
              refine (implDoMeet n x i y j _).mono ?_
              rintro e v1 ⟨rfl, hb⟩
              rw [HDM.out]
              have hbl2 := hbl.trans (hb.mono hbl.size)
              clear hb hbl
              go_wp2_with fail
              go_roundw
              case rel => exact ⟨j + 1, by omega, by go_num, by rw [HNX2.out], hbl2⟩
              case measure => simp [intOf]; omega
          · obtain rfl : j = i := by omega
            have HME := Lib.hid (mtR_end zs j)
            go_wp2_with fail
            go_roundw
            case rel => exact ⟨j + 1, by omega, by go_num, by rw [HME.out], hbl⟩
            case measure => simp [intOf]; omega
      · obtain rfl : i = n := by omega
        rw [HMT.out]
        have hB1 := HBW.out.trans (hbl.mono HBW.out.size)
        clear hbl HBW
        go_wp2_with fail
        refine (implShift i a _).mono ?_
        rintro e v1 ⟨AQ, nQ, cQ, rfl, oQ, hb⟩
        have hB2 := hB1.trans (hb.mono hB1.size)
        have hnQ : nQ ≤ 1048576 := by rw [← oQ.lenI]; exact shiftV_len _ _
        have FQ := Lib.hid oQ.rd
        have HSC := Lib.hid (shift_can HN.out ha')
        have HBQ := Lib.hid hB2
        obtain ⟨B, hB⟩ : ∃ B, v1.heap.size = B := ⟨_, rfl⟩
        have HB := Lib.hid hB
        have HO2 := Lib.hid (show Own (v1.alloc (.cells #[] 24)) B 24 (some ⟨v1.heap.size, 0, none⟩) 0 0 [] from hB ▸ own_empty v1 24)
        have HBl := Lib.hid (show Below B v1 (v1.alloc (.cells #[] 24)) from hB ▸ below_alloc v1 _)
        clear hb hB1 oQ hB2 hB
        go_wp2_with fail
        go_loopw [19, 20] (fun tv iv wr => ∃ k : Nat, ∃ A c vs t, tv = .slice A k c ∧ iv = .int .i64 k ∧ k ≤ nP ∧ Hid (BRows i k t) ∧ Own wr B 24 A k c vs ∧ RowsIn wr B wr.heap.size A k (row t) vs ∧ Below B v1 wr) (fun _ iv _ => nP - (intOf iv).toNat)
        case atStart => exact ⟨0, _, _, [], [], rfl, rfl, Nat.zero_le _, Lib.hid (bRows_nil _), HO2.out, fun j hj => by omega, HBl.out⟩
        case round =>
          obtain ⟨k, A, c, vs, t, rfl, rfl, hk, HT, hown, hrs, hbl⟩ := hrel
          have hsr : B ≤ wr.heap.size := by have := hbl.size; rw [HB.out] at this; exact this
          by_cases hlt2 : k < nP
          · have HBr := Lib.hid (below_alloc wr (.cells #[] 3))
            have HRl := Lib.hid (show Below v1.heap.size v1 wr by rw [HB.out]; exact hbl)
            go_wp2_with fail
            go_loopw [21, 22] (fun rv jv w2 => ∃ j : Nat, ∃ R cR r, rv = .slice R j cR ∧ jv = .int .i64 j ∧ j ≤ h ∧ Hid (BPfx j r) ∧ OwnI w2 wr.heap.size 3 R j cR r ∧ Below wr.heap.size wr w2) (fun _ jv _ => h - (intOf jv).toNat)
            case atStart => exact ⟨0, _, _, [], rfl, rfl, Nat.zero_le _, Lib.hid bPfx_nil, own_empty wr _, HBr.out⟩
            case round =>
              obtain ⟨j, R, cR, r, rfl, rfl, hj, HP, hR, hb2⟩ := hrel
              have hs2 := hb2.size
              by_cases hlt3 : j < h
              · go_wp2_with fail
                refine (show Calls Try.prog 43 #[.slice A0 n0 c0, .int .i64 (30 + (k : Int) + (j : Int))] _ _ from by rw [show (30 + (k : Int) + (j : Int)) = ((30 + k + j : Nat) : Int) by omega]; exact specNum A0 n0 c0 (30 + k + j) bs _ (HA.out.below (HBQ.out.trans ((HRl.out.trans (hb2.mono HRl.out.size)).mono HBQ.out.size))) HZ.out hn0 (by omega)).mono ?_
                rintro e w4 ⟨y0, hy0, rfl, hb4⟩
                obtain ⟨y, hy⟩ : ∃ y, y0 % 2 = y := ⟨_, rfl⟩
                have ey : (y0 : Int) % 2 = (y : Int) := by omega
                have hy2 : y < 2 := by omega
                have hR4 := hR.below hb4
                have hb24 := hb2.trans (hb4.mono hs2)
                have hs4 := hb24.size
                clear hy hR hb2 hb4 hs2
                go_wp2_with (at_builtin; refine wpL_append1 _ rfl _ _ _ rfl _ 3 (.int .i64 0) 8 Try.underlying24 intInfo rfl _ j _ _ rfl hR4 _ rfl rfl (by unfold maxLen; omega) (by omega) hs4 ?_)
                intro A6 c6 w6 ho6 hg6 hat6
                have hb6 := own_below hR4 hb24 hs4 hg6
                go_wp2_with fail
                go_roundw
                case rel => exact ⟨j + 1, A6, c6, r ++ [(y : Int)], rfl, by go_num, by omega, Lib.hid (bPfx_snoc HP.out hy2), by simpa [OwnI] using ho6, hb6⟩
                case measure => (simp [intOf] <;> omega)
              · obtain rfl : j = h := by omega
                have HL := Lib.hid HT.out.1
                have hown2 := hown.below hb2
                have hbl2 := hbl.trans (hb2.mono hsr)
                have hsz2 : B ≤ wr.heap.size := by have := hbl2.size; rw [HB.out] at this; exact this
                have hrs2 := RowsIn.keep hrs (fun g h1 h2 h3 => hb2.block g h3)
                have hAA := hown.blk_
                have hRR := hR.blk_
                go_wp2_with (at_builtin; refine wpL_append1 _ rfl _ _ _ rfl B 24 (.slice none 0 0) 24 Try.underlying35 sliceInfo rfl _ k _ _ rfl hown2 (.slice R j cR) rfl rfl (by unfold maxLen; omega) (by omega) hsz2 ?_)
                intro A6 c6 w6 ho6 hg6 hat6
                have hb6 := own_below hown2 hbl2 hsz2 hg6
                have hrs6 := rowsIn_push (f := row (t ++ [r])) (cR := cR) hown2 (hrs2.congr fun j hj => row_snoc_lt (by rw [HL.out]; exact hj)) (fun q hq => (hAA q hq).2) hs2 (by rw [row_snoc_eq HL.out]; exact hR.more hsr) (fun q hq => (hRR q hq).1) hg6 hat6
                have HT2 := Lib.hid (bRows_snoc HT.out (by rw [HNL.out.hh]; exact HP.out.1) (by have := HP.out; rw [← HNL.out.hh] at this; exact bPfx_bits this))
                go_wp2_with fail
                go_roundw
                case rel => exact ⟨k + 1, A6, c6, _, t ++ [r], rfl, by go_num, by omega, HT2, ho6, hrs6, hb6⟩
                case measure => (simp [intOf] <;> omega)
          · obtain rfl : k = nP := by omega
            have HT3 := HT.out
            have hRL := run_law HN.out (by rw [HNL.out.stg]; exact HT3.1) (fun q hq => (HT3.2 q (by rw [← HNL.out.stg]; exact hq)).1) (fun q hq => (HT3.2 q (by rw [← HNL.out.stg]; exact hq)).2)
            have hRV := runOk_of HN.out (by rw [HNL.out.stg]; exact HT3.1) (fun q hq => (HT3.2 q (by rw [← HNL.out.stg]; exact hq)).1) (fun q hq => (HT3.2 q (by rw [← HNL.out.stg]; exact hq)).2)
            obtain ⟨u, hu⟩ : ∃ u, runTo i t (stgN i) = u := ⟨_, rfl⟩
            rw [hu] at hRL hRV
            have HRL := Lib.hid hRL
            have HRV2 := Lib.hid hRV
            have rT : RdM wr A k t := (show OwnR wr B wr.heap.size A k c t from ⟨HT3.1, vs, hown, fun q hq => (hown.blk_ q hq).2, hrs⟩).rd
            have rQ := FQ.out.below (show Below v1.heap.size v1 wr by rw [HB.out]; exact hbl)
            have hB3 := HBQ.out.trans ((show Below v1.heap.size v1 wr by rw [HB.out]; exact hbl).mono HBQ.out.size)
            clear hRL hRV hu HT3 hown hrs hbl
            go_wp2_with fail
            refine (implRunStages i A k c t _ rT (by omega) (fun q hq => by rw [(HT.out.2 q hq).1]; omega)).mono ?_
            rintro e v2 ⟨AU, nU, cU, rfl, oU, hb⟩
            rw [HRV2.out] at oU
            obtain rfl : nU = i := by rw [← oU.lenI]; exact HRL.out.len
            have hB4 := hB3.trans (hb.mono hB3.size)
            replace rT := rT.below hb
            replace rQ := rQ.below hb
            have rU := oU.rd
            clear oU hb hB3
            go_wp2_with fail
            refine (implStageSettings AU nU cU u _ rU (by omega)).mono ?_
            rintro e v3 ⟨AV, nV, cV, rfl, oV, hb⟩
            have rV := oV.rd
            rw [HRL.out.back] at rV
            rw [HRL.out.can]
            obtain rfl : nV = k := by rw [← rV.1]; exact HT.out.1
            have hB5 := hB4.trans (hb.mono hB4.size)
            replace rT := rT.below hb
            replace rQ := rQ.below hb
            replace rU := rU.below hb
            clear oV hb hB4
            obtain ⟨aT, rfl⟩ := rdM_some rT (by omega)
            obtain ⟨aV, rfl⟩ := rdM_some rV (by omega)
            have FT := Lib.hid rT
            have FV := Lib.hid rV
            clear rT rV
            go_wp2_with fail
            go_loopw [191] (fun iv wr => ∃ k : Nat, k ≤ nV ∧ iv = .int .i64 k ∧ v3 = wr) (fun iv _ => nV - (intOf iv).toNat)
            case atStart => exact ⟨0, Nat.zero_le _, rfl, rfl⟩
            case round =>
              obtain ⟨k, hk2, rfl, rfl⟩ := hrel
              by_cases hlt4 : k < nV
              · obtain ⟨B1, d1, l1, q1, _⟩ := rdM_at FT.out hlt4 (fun q hq => (HT.out.2 q hq).1)
                obtain ⟨B2, d2, l2, q2, _⟩ := rdM_at FV.out hlt4 (fun q hq => (HT.out.2 q hq).1)
                go_wp2_with fail
                refine (lawSame B1 B2 (nU / 2) d1 d2 (row t k) _ q1 q2 (by omega)).mono ?_
                rintro e w' ⟨rfl, rfl⟩
                go_wp2_with fail
                go_roundw
                case rel => exact ⟨k + 1, by omega, by go_num, by first | rfl | trivial⟩
                case measure => simp [intOf]; omega
              · obtain rfl : k = nV := by omega
                go_wp2_with fail
                refine (implCanPass AQ nQ cQ (shiftV nU a) _ rQ hnQ).mono ?_
                rintro e v4 ⟨rfl, hb⟩
                rw [HSC.out]
                have hB6 := hB5.trans (hb.mono hB5.size)
                replace rU := rU.below hb
                clear hb
                go_wp2_with fail
                refine (implCanPass AU nU cU u _ rU (by omega)).mono ?_
                rintro e v5 ⟨rfl, hb⟩
                rw [HRL.out.can]
                go_wp2_with fail
                go_ret
                exact ⟨rfl, hB6.trans (hb.mono hB6.size)⟩
end Go.Proofs.Ytaeabpmpfadkjaa
