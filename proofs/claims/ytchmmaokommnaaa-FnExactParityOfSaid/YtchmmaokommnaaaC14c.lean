/- Chapter 14: inversions and the parity of a short order. -/
import Derived.Test.YtchmmaokommnaaaC14b
namespace Go.Proofs.Ytchmmaokommnaaa
open Go.RowKit Go.Deep
set_option linter.unusedVariables false

theorem add_lit (a : Addr) (k : Nat) : a.add (k + 1) = ⟨a.block, a.off + (k + 1), none⟩ := by unfold Addr.add; rw [if_neg (by omega)]
theorem rd_from {w : World} {a : Addr} {n k : Nat} {zs : List Int} (h : RdI w (some a) n zs) (hk : k < n) : RdI w (some ⟨a.block, a.off + (k + 1), none⟩) (n - (k + 1)) (zs.drop (k + 1)) := by
  obtain ⟨hl, hc⟩ := h
  obtain ⟨ad, had, hb, hcell⟩ := hc (by omega)
  injection had with had
  subst had
  refine ⟨by simp at hl ⊢; omega, fun _ => ⟨_, rfl, hb, fun j u hu => ?_⟩⟩
  rw [← add_lit, add_of_add]
  apply hcell
  rw [List.map_drop, List.getElem?_drop] at hu
  exact hu
theorem rd_end {w : World} {a : Addr} {n k : Nat} {zs : List Int} (h : RdI w (some a) n zs) (hk : n = k + 1) : RdI w (some a) (n - (k + 1)) (zs.drop (k + 1)) := by
  have hl := h.lenI
  refine ⟨by simp; omega, fun h => by omega⟩

def rowInv (x : Int) (ys : List Int) : Nat → Nat
  | 0 => 0
  | j + 1 => rowInv x ys j + if nth ys j < x then 1 else 0
def invs (zs : List Int) : Nat → Nat
  | 0 => 0
  | k + 1 => invs zs k + rowInv (nth zs k) (zs.drop (k + 1)) (zs.length - (k + 1))
theorem row_zero (x : Int) (ys : List Int) : rowInv x ys 0 = 0 := rfl
theorem invs_zero (zs : List Int) : invs zs 0 = 0 := rfl
theorem row_on {x : Int} {ys : List Int} {j : Nat} (h : nth ys j < x) : rowInv x ys (j + 1) = rowInv x ys j + 1 := by rw [rowInv, if_pos h]
theorem row_off {x : Int} {ys : List Int} {j : Nat} (h : ¬ nth ys j < x) : rowInv x ys (j + 1) = rowInv x ys j := by rw [rowInv, if_neg h]; rfl
theorem invs_succ {zs : List Int} {n k : Nat} (hl : zs.length = n) : invs zs (k + 1) = invs zs k + rowInv (nth zs k) (zs.drop (k + 1)) (n - (k + 1)) := by rw [invs, hl]
theorem row_le (x : Int) (ys : List Int) (j : Nat) : rowInv x ys j ≤ j := by
  induction j with
  | zero => exact Nat.le_refl _
  | succ j ih => rw [rowInv]; split <;> omega
theorem invs_le {zs : List Int} (h : zs.length ≤ 8) (k : Nat) : invs zs k ≤ 8 * k := by
  induction k with
  | zero => exact Nat.le_refl _
  | succ k ih =>
    rw [invs]
    have := row_le (nth zs k) (zs.drop (k + 1)) (zs.length - (k + 1))
    omega
def parV (zs : List Int) : Int := if smallO zs = true then ((invs zs zs.length % 2 : Nat) : Int) else -1
theorem parV_no {zs : List Int} (h : smallO zs = false) : parV zs = -1 := by rw [parV, h]; rfl
theorem parV_yes {zs : List Int} {n : Nat} (hl : zs.length = n) (h : smallO zs = true) : parV zs = ((invs zs n % 2 : Nat) : Int) := by rw [parV, h, hl]; rfl
attribute [irreducible] rowInv invs

set_option maxHeartbeats 4000000 in
theorem implInversions (A : Option Addr) (n c : Nat) (zs : List Int) (w : World) (ha : RdI w A n zs) (hn8 : n ≤ 8) (hc1 : n ≤ c) (hc2 : c ≤ maxLen) :
    Calls Try.prog 42 #[.slice A n c] w fun e w' => e = .returned (.int .i64 (invs zs n)) ∧ w = w' := by
  have hl := Lib.hid ha.lenI
  unfold maxLen at hc2
  go_enter Try.func42, Try.ntmps42
  go_wp2
  go_loop [10, 3] (fun i s => ∃ k m : Nat, k ≤ n ∧ i = .int .i64 k ∧ s = .int .i64 m ∧ Hid (m = invs zs k)) (fun i _ => n - (intOf i).toNat)
  case atStart => exact ⟨0, 0, Nat.zero_le _, rfl, rfl, Lib.hid (by rw [invs_zero])⟩
  case round =>
    obtain ⟨k, m0, hk, rfl, rfl, HK⟩ := hrel
    obtain rfl := HK.out
    clear HK
    by_cases hlt : k < n
    · obtain ⟨a1, rfl, _, h1⟩ := (ha).at_ hlt
      have RR := Lib.hid (ha)
      by_cases hck : c = k + 1
      · have R := rd_end RR.out (show n = k + 1 by omega)
        go_wp2_with fail
        obtain ⟨r, hr⟩ : ∃ r, r = n - (k + 1) := ⟨_, rfl⟩
        have HR := Lib.hid hr
        have hr8 : r ≤ 8 := by omega
        rw [← hr] at R ⊢
        clear hr
        have hm0 : invs zs k ≤ 8 * k := invs_le (by rw [hl.out]; exact hn8) k
        go_loop [20, 3] (fun i s => ∃ j m : Nat, j ≤ r ∧ i = .int .i64 j ∧ s = .int .i64 m ∧ Hid (m = invs zs k + rowInv (nth zs k) (zs.drop (k + 1)) j) ∧ m ≤ 8 * k + j) (fun i _ => r - (intOf i).toNat)
        case atStart => exact ⟨0, _, Nat.zero_le _, rfl, rfl, Lib.hid (by rw [row_zero]; rfl), by omega⟩
        case round =>
          obtain ⟨j, m, hj, rfl, rfl, HM, hm⟩ := hrel
          by_cases hjr : j < r
          · obtain ⟨a3, ha3, _, h2⟩ := R.at_ hjr
            injection ha3 with ha3
            subst ha3
            by_cases hlt2 : nth (zs.drop (k + 1)) j < nth zs k
            · have H := Lib.hid (row_on hlt2)
              go_wp2
              go_round
              case rel => exact ⟨j + 1, m + 1, by omega, by go_num, by go_num, Lib.hid (by rw [H.out, HM.out]; omega), by omega⟩
              case measure => (simp [intOf] <;> omega)
            · have H := Lib.hid (row_off hlt2)
              have hge : nth zs k ≤ nth (zs.drop (k + 1)) j := by omega
              clear hlt2
              go_wp2
              go_round
              case rel => exact ⟨j + 1, m, by omega, by go_num, rfl, Lib.hid (by rw [H.out, HM.out]), by omega⟩
              case measure => (simp [intOf] <;> omega)
          · obtain rfl : j = r := by omega
            have H := Lib.hid (invs_succ (k := k) hl.out)
            have H2 := Lib.hid (show m = invs zs (k + 1) by rw [H.out, ← HR.out, HM.out])
            go_wp2
            go_round
            case rel => first | exact ⟨k + 1, m, by omega, by go_num, rfl, H2⟩ | exact ⟨_, _, _, _, _, ⟨k + 1, by omega, by go_num, m, rfl, H2⟩, rfl, rfl, rfl, rfl, rfl⟩
            case measure => (simp [intOf] <;> omega)

      · have R := rd_from RR.out hlt
        go_wp2_with fail
        obtain ⟨a2, ha2⟩ : ∃ a2 : Addr, a2 = ⟨a1.block, a1.off + (k + 1), none⟩ := ⟨_, rfl⟩
        rw [← ha2] at R ⊢
        clear ha2
        obtain ⟨r, hr⟩ : ∃ r, r = n - (k + 1) := ⟨_, rfl⟩
        have HR := Lib.hid hr
        have hr8 : r ≤ 8 := by omega
        rw [← hr] at R ⊢
        clear hr
        have hm0 : invs zs k ≤ 8 * k := invs_le (by rw [hl.out]; exact hn8) k
        go_loop [20, 3] (fun i s => ∃ j m : Nat, j ≤ r ∧ i = .int .i64 j ∧ s = .int .i64 m ∧ Hid (m = invs zs k + rowInv (nth zs k) (zs.drop (k + 1)) j) ∧ m ≤ 8 * k + j) (fun i _ => r - (intOf i).toNat)
        case atStart => exact ⟨0, _, Nat.zero_le _, rfl, rfl, Lib.hid (by rw [row_zero]; rfl), by omega⟩
        case round =>
          obtain ⟨j, m, hj, rfl, rfl, HM, hm⟩ := hrel
          by_cases hjr : j < r
          · obtain ⟨a3, ha3, _, h2⟩ := R.at_ hjr
            injection ha3 with ha3
            subst ha3
            by_cases hlt2 : nth (zs.drop (k + 1)) j < nth zs k
            · have H := Lib.hid (row_on hlt2)
              go_wp2
              go_round
              case rel => exact ⟨j + 1, m + 1, by omega, by go_num, by go_num, Lib.hid (by rw [H.out, HM.out]; omega), by omega⟩
              case measure => (simp [intOf] <;> omega)
            · have H := Lib.hid (row_off hlt2)
              have hge : nth zs k ≤ nth (zs.drop (k + 1)) j := by omega
              clear hlt2
              go_wp2
              go_round
              case rel => exact ⟨j + 1, m, by omega, by go_num, rfl, Lib.hid (by rw [H.out, HM.out]), by omega⟩
              case measure => (simp [intOf] <;> omega)
          · obtain rfl : j = r := by omega
            have H := Lib.hid (invs_succ (k := k) hl.out)
            have H2 := Lib.hid (show m = invs zs (k + 1) by rw [H.out, ← HR.out, HM.out])
            go_wp2
            go_round
            case rel => first | exact ⟨k + 1, m, by omega, by go_num, rfl, H2⟩ | exact ⟨_, _, _, _, _, ⟨k + 1, by omega, by go_num, m, rfl, H2⟩, rfl, rfl, rfl, rfl, rfl⟩
            case measure => (simp [intOf] <;> omega)

    · obtain rfl : k = n := by omega
      have hm0 : invs zs k ≤ 8 * k := invs_le (by rw [hl.out]; exact hn8) k
      go_wp2
      go_ret
      exact ⟨rfl, rfl⟩

set_option maxHeartbeats 1000000 in
theorem implParity (A : Option Addr) (n c : Nat) (zs : List Int) (w : World) (ha : RdI w A n zs) (hn : n ≤ 1048576) (hc : n ≤ c ∧ c ≤ maxLen) :
    Calls Try.prog 19 #[.slice A n c] w fun e w' => e = .returned (.int .i64 (parV zs)) ∧ Below w.heap.size w w' := by
  have C := implShort A n c zs w ha hn
  have hl := ha.lenI
  cases hg : smallO zs with
  | false =>
    have H := Lib.hid (parV_no hg)
    rw [hg] at C
    have CC := Lib.hid C
    clear C hg hl
    go_enter Try.func19, Try.ntmps19
    go_wp2_with fail
    refine CC.out.mono ?_
    rintro e w1 ⟨rfl, hb⟩
    go_wp2_with fail
    go_ret
    exact ⟨ret_int H.out.symm, hb⟩
  | true =>
    have H := Lib.hid (parV_yes hl hg)
    have hn8 := (small_out hg).1
    rw [hl] at hn8
    have hm0 : invs zs n ≤ 8 * n := invs_le (by omega) n
    rw [hg] at C
    have CC := Lib.hid C
    clear C hg hl
    go_enter Try.func19, Try.ntmps19
    go_wp2_with fail
    refine CC.out.mono ?_
    rintro e w1 ⟨rfl, hb⟩
    go_wp2_with fail
    refine (implInversions A n c zs w1 (ha.below hb) hn8 hc.1 hc.2).mono ?_
    rintro e w2 ⟨rfl, rfl⟩
    go_wp2_with fail
    go_ret
    exact ⟨ret_int (by rw [H.out]; simp), hb⟩

set_option maxHeartbeats 4000000 in
theorem specParity (A : Option Addr) (n c : Nat) (zs : List Int) (w : World) (ha : RdI w A n zs) (hn : n ≤ 1048576) (hc : n ≤ c ∧ c ≤ maxLen) :
    Calls Try.prog 18 #[.slice A n c] w fun e w' => e = .returned (.int .i64 (parV zs)) ∧ Below w.heap.size w w' := by
  have C := specSmall A n c zs w ha hn
  have hl := ha.lenI
  cases hg : smallO zs with
  | false =>
    have H := Lib.hid (parV_no hg)
    rw [hg] at C
    have CC := Lib.hid C
    clear C hg hl
    go_enter Try.func18, Try.ntmps18
    go_wp2_with fail
    refine CC.out.mono ?_
    rintro e w1 ⟨rfl, hb⟩
    go_wp2_with fail
    go_ret
    exact ⟨ret_int H.out.symm, hb⟩
  | true =>
    have HV := Lib.hid (parV_yes hl hg)
    have hn8 := (small_out hg).1
    rw [hl] at hn8
    rw [hg] at C
    have CC := Lib.hid C
    clear C hg
    replace hl := Lib.hid hl
    have hc1 := hc.1
    have hc2 := hc.2
    unfold maxLen at hc2
    clear hc
    go_enter Try.func18, Try.ntmps18
    go_wp2_with fail
    refine CC.out.mono ?_
    rintro e w1 ⟨rfl, hb⟩
    replace ha := ha.below hb
    have HB := Lib.hid hb
    clear hb
    go_wp2
    go_loop [13, 3] (fun i s => ∃ k m : Nat, k ≤ n ∧ i = .int .i64 k ∧ s = .int .i64 m ∧ Hid (m = invs zs k)) (fun i _ => n - (intOf i).toNat)
    case atStart => exact ⟨0, 0, Nat.zero_le _, rfl, rfl, Lib.hid (by rw [invs_zero])⟩
    case round =>
      obtain ⟨k, m0, hk, rfl, rfl, HK⟩ := hrel
      obtain rfl := HK.out
      clear HK
      by_cases hlt : k < n
      · obtain ⟨a1, rfl, _, h1⟩ := (ha).at_ hlt
        have RR := Lib.hid (ha)
        by_cases hck : c = k + 1
        · have R := rd_end RR.out (show n = k + 1 by omega)
          go_wp2_with fail
          obtain ⟨r, hr⟩ : ∃ r, r = n - (k + 1) := ⟨_, rfl⟩
          have HR := Lib.hid hr
          have hr8 : r ≤ 8 := by omega
          rw [← hr] at R ⊢
          clear hr
          have hm0 : invs zs k ≤ 8 * k := invs_le (by rw [hl.out]; exact hn8) k
          go_loop [23, 3] (fun i s => ∃ j m : Nat, j ≤ r ∧ i = .int .i64 j ∧ s = .int .i64 m ∧ Hid (m = invs zs k + rowInv (nth zs k) (zs.drop (k + 1)) j) ∧ m ≤ 8 * k + j) (fun i _ => r - (intOf i).toNat)
          case atStart => exact ⟨0, _, Nat.zero_le _, rfl, rfl, Lib.hid (by rw [row_zero]; rfl), by omega⟩
          case round =>
            obtain ⟨j, m, hj, rfl, rfl, HM, hm⟩ := hrel
            by_cases hjr : j < r
            · obtain ⟨a3, ha3, _, h2⟩ := R.at_ hjr
              injection ha3 with ha3
              subst ha3
              by_cases hlt2 : nth (zs.drop (k + 1)) j < nth zs k
              · have H := Lib.hid (row_on hlt2)
                go_wp2
                go_round
                case rel => exact ⟨j + 1, m + 1, by omega, by go_num, by go_num, Lib.hid (by rw [H.out, HM.out]; omega), by omega⟩
                case measure => (simp [intOf] <;> omega)
              · have H := Lib.hid (row_off hlt2)
                have hge : nth zs k ≤ nth (zs.drop (k + 1)) j := by omega
                clear hlt2
                go_wp2
                go_round
                case rel => exact ⟨j + 1, m, by omega, by go_num, rfl, Lib.hid (by rw [H.out, HM.out]), by omega⟩
                case measure => (simp [intOf] <;> omega)
            · obtain rfl : j = r := by omega
              have H := Lib.hid (invs_succ (k := k) hl.out)
              have H2 := Lib.hid (show m = invs zs (k + 1) by rw [H.out, ← HR.out, HM.out])
              go_wp2
              go_round
              case rel => first | exact ⟨k + 1, m, by omega, by go_num, rfl, H2⟩ | exact ⟨_, _, _, _, _, ⟨k + 1, by omega, by go_num, m, rfl, H2⟩, rfl, rfl, rfl, rfl, rfl⟩
              case measure => (simp [intOf] <;> omega)

        · have R := rd_from RR.out hlt
          go_wp2_with fail
          obtain ⟨a2, ha2⟩ : ∃ a2 : Addr, a2 = ⟨a1.block, a1.off + (k + 1), none⟩ := ⟨_, rfl⟩
          rw [← ha2] at R ⊢
          clear ha2
          obtain ⟨r, hr⟩ : ∃ r, r = n - (k + 1) := ⟨_, rfl⟩
          have HR := Lib.hid hr
          have hr8 : r ≤ 8 := by omega
          rw [← hr] at R ⊢
          clear hr
          have hm0 : invs zs k ≤ 8 * k := invs_le (by rw [hl.out]; exact hn8) k
          go_loop [23, 3] (fun i s => ∃ j m : Nat, j ≤ r ∧ i = .int .i64 j ∧ s = .int .i64 m ∧ Hid (m = invs zs k + rowInv (nth zs k) (zs.drop (k + 1)) j) ∧ m ≤ 8 * k + j) (fun i _ => r - (intOf i).toNat)
          case atStart => exact ⟨0, _, Nat.zero_le _, rfl, rfl, Lib.hid (by rw [row_zero]; rfl), by omega⟩
          case round =>
            obtain ⟨j, m, hj, rfl, rfl, HM, hm⟩ := hrel
            by_cases hjr : j < r
            · obtain ⟨a3, ha3, _, h2⟩ := R.at_ hjr
              injection ha3 with ha3
              subst ha3
              by_cases hlt2 : nth (zs.drop (k + 1)) j < nth zs k
              · have H := Lib.hid (row_on hlt2)
                go_wp2
                go_round
                case rel => exact ⟨j + 1, m + 1, by omega, by go_num, by go_num, Lib.hid (by rw [H.out, HM.out]; omega), by omega⟩
                case measure => (simp [intOf] <;> omega)
              · have H := Lib.hid (row_off hlt2)
                have hge : nth zs k ≤ nth (zs.drop (k + 1)) j := by omega
                clear hlt2
                go_wp2
                go_round
                case rel => exact ⟨j + 1, m, by omega, by go_num, rfl, Lib.hid (by rw [H.out, HM.out]), by omega⟩
                case measure => (simp [intOf] <;> omega)
            · obtain rfl : j = r := by omega
              have H := Lib.hid (invs_succ (k := k) hl.out)
              have H2 := Lib.hid (show m = invs zs (k + 1) by rw [H.out, ← HR.out, HM.out])
              go_wp2
              go_round
              case rel => first | exact ⟨k + 1, m, by omega, by go_num, rfl, H2⟩ | exact ⟨_, _, _, _, _, ⟨k + 1, by omega, by go_num, m, rfl, H2⟩, rfl, rfl, rfl, rfl, rfl⟩
              case measure => (simp [intOf] <;> omega)

      · obtain rfl : k = n := by omega
        have hm0 : invs zs k ≤ 8 * k := invs_le (by rw [hl.out]; exact hn8) k
        go_wp2
        go_ret
        exact ⟨ret_int (by rw [HV.out]; simp), HB.out⟩

end Go.Proofs.Ytchmmaokommnaaa
