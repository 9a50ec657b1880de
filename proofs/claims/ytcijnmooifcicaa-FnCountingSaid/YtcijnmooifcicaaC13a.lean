/- Chapter 13: the balance of a list. -/
import Derived.Test.YtcijnmooifcicaaIn
namespace Go.Proofs.Ytcijnmooifcicaa
open Go.RowKit Go.Deep
set_option linter.unusedVariables false

def mnTo (zs : List Int) : Nat → Int
  | 0 => nth zs 0
  | k + 1 => min (mnTo zs k) (nth zs k)
def mxTo (zs : List Int) : Nat → Int
  | 0 => nth zs 0
  | k + 1 => max (mxTo zs k) (nth zs k)
theorem mn_zero (zs : List Int) : mnTo zs 0 = nth zs 0 := rfl
theorem mx_zero (zs : List Int) : mxTo zs 0 = nth zs 0 := rfl
theorem mn_succ (zs : List Int) (k : Nat) : mnTo zs (k + 1) = min (mnTo zs k) (nth zs k) := rfl
theorem mx_succ (zs : List Int) (k : Nat) : mxTo zs (k + 1) = max (mxTo zs k) (nth zs k) := rfl
theorem mn_one (zs : List Int) : mnTo zs 1 = nth zs 0 := by rw [mn_succ, mn_zero]; omega
theorem mx_one (zs : List Int) : mxTo zs 1 = nth zs 0 := by rw [mx_succ, mx_zero]; omega
def balV (zs : List Int) : Int := if zs.length = 0 then -1 else wrap64 (mxTo zs zs.length - mnTo zs zs.length)
theorem bal_no {zs : List Int} (h : zs.length = 0) : balV zs = -1 := by rw [balV, if_pos h]
theorem bal_yes {zs : List Int} {n : Nat} (hl : zs.length = n) (h : n ≠ 0) : balV zs = wrap64 (mxTo zs n - mnTo zs n) := by rw [balV, if_neg (by omega), hl]
attribute [irreducible] mnTo mxTo

set_option maxHeartbeats 1000000 in
theorem implMax (A : Option Addr) (n c : Nat) (zs : List Int) (w : World) (ha : RdI w A n zs) (hn : n ≤ 1048576) (h0 : 0 < n) :
    Calls Try.prog 49 #[.slice A n c] w fun e w' => e = .returned (.int .i64 (mxTo zs n)) ∧ w = w' := by
  obtain ⟨a0, rfl, _, hc0⟩ := ha.at_ h0
  replace hc0 : w.cell? a0 = some (.int .i64 (nth zs 0)) := hc0
  go_enter Try.func49, Try.ntmps49
  go_wp2
  go_loop [4, 3] (fun i v => ∃ k : Nat, 1 ≤ k ∧ k ≤ n ∧ i = .int .i64 k ∧ v = .int .i64 (mxTo zs k)) (fun i _ => n - (intOf i).toNat)
  case atStart => exact ⟨1, by omega, by omega, rfl, int_eq (by rw [mx_one])⟩
  case round =>
    obtain ⟨k, hk1, hk, rfl, rfl⟩ := hrel
    by_cases hlt : k < n
    · obtain ⟨a1, ha1, _, h1⟩ := ha.at_ hlt
      injection ha1 with ha1
      subst ha1
      have H := Lib.hid (mx_succ zs k)
      go_wp2
      go_round
      case rel => exact ⟨k + 1, by omega, by omega, by go_num, int_eq (by rw [H.out]; try omega)⟩
      case measure => (simp [intOf] <;> omega)
    · obtain rfl : k = n := by omega
      go_wp2
      go_ret
      exact ⟨rfl, rfl⟩

set_option maxHeartbeats 1000000 in
theorem implMin (A : Option Addr) (n c : Nat) (zs : List Int) (w : World) (ha : RdI w A n zs) (hn : n ≤ 1048576) (h0 : 0 < n) :
    Calls Try.prog 50 #[.slice A n c] w fun e w' => e = .returned (.int .i64 (mnTo zs n)) ∧ w = w' := by
  obtain ⟨a0, rfl, _, hc0⟩ := ha.at_ h0
  replace hc0 : w.cell? a0 = some (.int .i64 (nth zs 0)) := hc0
  go_enter Try.func50, Try.ntmps50
  go_wp2
  go_loop [4, 3] (fun i v => ∃ k : Nat, 1 ≤ k ∧ k ≤ n ∧ i = .int .i64 k ∧ v = .int .i64 (mnTo zs k)) (fun i _ => n - (intOf i).toNat)
  case atStart => exact ⟨1, by omega, by omega, rfl, int_eq (by rw [mn_one])⟩
  case round =>
    obtain ⟨k, hk1, hk, rfl, rfl⟩ := hrel
    by_cases hlt : k < n
    · obtain ⟨a1, ha1, _, h1⟩ := ha.at_ hlt
      injection ha1 with ha1
      subst ha1
      have H := Lib.hid (mn_succ zs k)
      go_wp2
      go_round
      case rel => exact ⟨k + 1, by omega, by omega, by go_num, int_eq (by rw [H.out]; try omega)⟩
      case measure => (simp [intOf] <;> omega)
    · obtain rfl : k = n := by omega
      go_wp2
      go_ret
      exact ⟨rfl, rfl⟩

set_option maxHeartbeats 1000000 in
theorem implBalance (A : Option Addr) (n c : Nat) (zs : List Int) (w : World) (ha : RdI w A n zs) (hn : n ≤ 1048576) :
    Calls Try.prog 21 #[.slice A n c] w fun e w' => e = .returned (.int .i64 (balV zs)) ∧ w = w' := by
  have hl := Lib.hid ha.lenI
  by_cases h0 : 0 < n
  · have H := Lib.hid (bal_yes hl.out (by omega))
    go_enter Try.func21, Try.ntmps21
    go_wp2_with fail
    refine (implMax A n c zs w ha hn h0).mono ?_
    rintro e w' ⟨rfl, rfl⟩
    go_wp2_with fail
    refine (implMin A n c zs w ha hn h0).mono ?_
    rintro e w' ⟨rfl, rfl⟩
    go_wp2
    go_ret
    exact ⟨ret_int H.out.symm, rfl⟩
  · have H := Lib.hid (bal_no (show zs.length = 0 by rw [hl.out]; omega))
    obtain rfl : n = 0 := by omega
    go_enter Try.func21, Try.ntmps21
    go_wp2
    go_ret
    exact ⟨ret_int H.out.symm, rfl⟩

set_option maxHeartbeats 1000000 in
theorem specBalance (A : Option Addr) (n c : Nat) (zs : List Int) (w : World) (ha : RdI w A n zs) (hn : n ≤ 1048576) :
    Calls Try.prog 20 #[.slice A n c] w fun e w' => e = .returned (.int .i64 (balV zs)) ∧ w = w' := by
  have hl := Lib.hid ha.lenI
  by_cases h0 : 0 < n
  · have H := Lib.hid (bal_yes hl.out (by omega))
    obtain ⟨a0, rfl, _, hc0⟩ := ha.at_ h0
    replace hc0 : w.cell? a0 = some (.int .i64 (nth zs 0)) := hc0
    go_enter Try.func20, Try.ntmps20
    go_wp2
    go_loop [18, 3, 4] (fun i v u => ∃ k : Nat, k ≤ n ∧ i = .int .i64 k ∧ v = .int .i64 (mnTo zs k) ∧ u = .int .i64 (mxTo zs k)) (fun i _ _ => n - (intOf i).toNat)
    case atStart => exact ⟨0, by omega, rfl, int_eq (by rw [mn_zero]), int_eq (by rw [mx_zero])⟩
    case round =>
      obtain ⟨k, hk, rfl, rfl, rfl⟩ := hrel
      by_cases hlt : k < n
      · obtain ⟨a1, ha1, _, h1⟩ := ha.at_ hlt
        injection ha1 with ha1
        subst ha1
        have H1 := Lib.hid (mn_succ zs k)
        have H2 := Lib.hid (mx_succ zs k)
        go_wp2
        go_round
        case rel => exact ⟨k + 1, by omega, by go_num, int_eq (by rw [H1.out]; try omega), int_eq (by rw [H2.out]; try omega)⟩
        case measure => (simp [intOf] <;> omega)
      · obtain rfl : k = n := by omega
        go_wp2
        go_ret
        exact ⟨ret_int H.out.symm, rfl⟩
  · have H := Lib.hid (bal_no (show zs.length = 0 by rw [hl.out]; omega))
    obtain rfl : n = 0 := by omega
    go_enter Try.func20, Try.ntmps20
    go_wp2
    go_ret
    exact ⟨ret_int H.out.symm, rfl⟩

end Go.Proofs.Ytcijnmooifcicaa
