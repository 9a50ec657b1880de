/- Chapter 12: impl.isFew, impl.areCounted, impl.allMasks. -/
import Derived.Test.YtobdkfhmmpigiaaC12c
namespace Go.Proofs.Ytobdkfhmmpigiaa
open Go.RowKit Go.Deep
set_option linter.unusedVariables false
attribute [local go_sem] bits_and_one

theorem implFew (n : Int) (w : World) : Calls Try.prog 25 #[.int .i64 n] w fun e w' => e = .returned (.bool (decide (1 ≤ n ∧ n ≤ 4))) ∧ w = w' := by
  by_cases h1 : 1 ≤ n <;> by_cases h2 : n ≤ 4
  all_goals
    go_enter Try.func25, Try.ntmps25
    go_wp2
    go_ret
    exact ⟨by simp [h1, h2], rfl⟩

set_option maxHeartbeats 1000000 in
theorem implCounted (n K : Int) (w : World) : Calls Try.prog 10 #[.int .i64 n, .int .i64 K] w fun e w' => e = .returned (.bool (decide ((1 ≤ n ∧ n ≤ 4) ∧ 0 ≤ K ∧ K ≤ 5))) ∧ w = w' := by
  by_cases h0 : 1 ≤ n ∧ n ≤ 4
  · have HF : decide (1 ≤ n ∧ n ≤ 4) = true := decide_eq_true h0
    rcases (show (¬ 0 ≤ K ∧ K ≤ 5) ∨ (0 ≤ K ∧ K ≤ 5) ∨ (0 ≤ K ∧ ¬ K ≤ 5) by omega) with ⟨h1, h2⟩ | ⟨h1, h2⟩ | ⟨h1, h2⟩
    all_goals
      go_enter Try.func10, Try.ntmps10
      go_wp2_with fail
      refine (implFew n _).mono ?_
      rintro e w' ⟨rfl, hww⟩
      obtain rfl := hww
      rw [HF]
      go_wp2_with fail
      go_ret
      exact ⟨by simp [h0, h1, h2], rfl⟩
  · have HF : decide (1 ≤ n ∧ n ≤ 4) = false := decide_eq_false h0
    go_enter Try.func10, Try.ntmps10
    go_wp2_with fail
    refine (implFew n _).mono ?_
    rintro e w' ⟨rfl, hww⟩
    obtain rfl := hww
    rw [HF]
    go_wp2_with fail
    go_ret
    exact ⟨by simp [h0], rfl⟩

set_option maxHeartbeats 1000000 in
theorem implMasks (n : Nat) (w : World) (hn : n ≤ 4) : Calls Try.prog 27 #[.int .i64 n] w fun e w' => ∃ A m c, e = .returned (.slice A m c) ∧ OwnI w' w.heap.size 3 A m c (marks 0 (2 ^ n)) ∧ Below w.heap.size w w' := by
  obtain ⟨N, hN⟩ : ∃ N, 2 ^ n = N := ⟨_, rfl⟩
  have hw := wrap_pow n (by omega)
  have hN16 : N ≤ 16 := by rw [← hN]; exact Nat.pow_le_pow_right (n := 2) (by omega) hn
  rw [hN] at hw ⊢
  clear hN
  go_enter Try.func27, Try.ntmps27
  go_wp2_with fail
  rw [hw]
  go_loopw [3, 8] (fun lv iv wr => ∃ k : Nat, ∃ A c, lv = .slice A k c ∧ iv = .int .i64 k ∧ k ≤ N ∧ OwnI wr w.heap.size 3 A k c (marks 0 k) ∧ Below w.heap.size w wr) (fun _ iv _ => N - (intOf iv).toNat)
  case atStart => exact ⟨0, _, _, rfl, rfl, Nat.zero_le _, own_empty w _, below_alloc w _⟩
  case round =>
    obtain ⟨k, A, c, rfl, rfl, hk, hown, hb⟩ := hrel
    have hsz := hb.size
    by_cases hlt : k < N
    · have H := Lib.hid (marks_succ0 k)
      go_wp2_with (at_builtin; refine wpL_append1 _ rfl _ _ _ rfl w.heap.size 3 (.int .i64 0) 8 Try.underlying28 intInfo rfl _ k _ _ rfl hown _ rfl rfl (by unfold maxLen; omega) (by omega) hsz ?_)
      intro A6 c6 w6 ho6 hg6 hat6
      have hb6 := own_below hown hb hsz hg6
      go_wp2_with fail
      go_roundw
      case rel => exact ⟨k + 1, A6, c6, rfl, by go_num, by omega, by rw [OwnI, H.out]; simpa using ho6, hb6⟩
      case measure => (simp [intOf] <;> omega)
    · obtain rfl : k = N := by omega
      go_wp2_with fail
      go_ret
      exact ⟨A, k, c, rfl, hown, hb⟩
end Go.Proofs.Ytobdkfhmmpigiaa
