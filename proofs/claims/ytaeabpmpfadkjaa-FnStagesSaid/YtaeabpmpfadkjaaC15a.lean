/- Chapter 15 (networks with one path): the number of stages, shuffles and paths. -/
import Derived.Test.YtaeabpmpfadkjaaIn
namespace Go.Proofs.Ytaeabpmpfadkjaa
open Go.RowKit Go.Deep
set_option linter.unusedVariables false
attribute [local go_sem] bits_and_one

def IsN (n : Int) : Prop := n = 2 ∨ n = 4 ∨ n = 8
instance (n : Int) : Decidable (IsN n) := by unfold IsN; infer_instance
def stgN : Nat → Nat
  | 2 => 1
  | 4 => 2
  | 8 => 3
  | _ => 0
def stgV (n : Int) : Int := if IsN n then (stgN n.toNat : Int) else -1
theorem isN_nat {n : Int} (h : IsN n) : ∃ m : Nat, n = m ∧ (m = 2 ∨ m = 4 ∨ m = 8) := by
  rcases h with rfl | rfl | rfl
  · exact ⟨2, rfl, by omega⟩
  · exact ⟨4, rfl, by omega⟩
  · exact ⟨8, rfl, by omega⟩
theorem stgV_no {n : Int} (h : ¬ IsN n) : stgV n = -1 := if_neg h

set_option maxHeartbeats 1000000 in
theorem specN_yes (n : Int) (w : World) (h : IsN n) : Calls Try.prog 44 #[.int .i64 n] w fun e w' => e = .returned (.bool true) ∧ w = w' := by
  rcases h with rfl | rfl | rfl
  all_goals
    go_enter Try.func44, Try.ntmps44
    go_wp2
    go_ret
    exact ⟨rfl, rfl⟩
theorem not_isN {n : Int} (h : ¬ IsN n) : (n == 2) = false ∧ (n == 4) = false ∧ (n == 8) = false := by
  unfold IsN at h
  refine ⟨?_, ?_, ?_⟩ <;> (simp; omega)
theorem specN_no (n : Int) (w : World) (h : ¬ IsN n) : Calls Try.prog 44 #[.int .i64 n] w fun e w' => e = .returned (.bool false) ∧ w = w' := by
  obtain ⟨h1, h2, h3⟩ := not_isN h
  clear h
  go_enter Try.func44, Try.ntmps44
  go_wp2
  go_ret
  exact ⟨rfl, rfl⟩
set_option maxHeartbeats 1000000 in
theorem implStages_yes (n : Nat) (w : World) (h : n = 2 ∨ n = 4 ∨ n = 8) : Calls Try.prog 46 #[.int .i64 n] w fun e w' => e = .returned (.int .i64 (stgN n)) ∧ w = w' := by
  rcases h with rfl | rfl | rfl
  all_goals
    go_enter Try.func46, Try.ntmps46
    go_wp2
    go_ret
    exact ⟨rfl, rfl⟩
theorem implStages_no (n : Int) (w : World) (h : ¬ IsN n) : Calls Try.prog 46 #[.int .i64 n] w fun e w' => e = .returned (.int .i64 (-1)) ∧ w = w' := by
  obtain ⟨h1, h2, h3⟩ := not_isN h
  clear h
  go_enter Try.func46, Try.ntmps46
  go_wp2
  go_ret
  exact ⟨rfl, rfl⟩
set_option maxHeartbeats 1000000 in
theorem specStages (n : Nat) (w : World) (h : n = 2 ∨ n = 4 ∨ n = 8) : Calls Try.prog 45 #[.int .i64 n] w fun e w' => e = .returned (.int .i64 (stgN n)) ∧ w = w' := by
  rcases h with rfl | rfl | rfl
  all_goals
    go_enter Try.func45, Try.ntmps45
    go_wp2
    refine wp_loop_rounds 4 ?_
    repeat any_goals (rw [rounds_succ]; go_wp2)
    go_ret
    exact ⟨rfl, rfl⟩

theorem specCountStages (n : Int) (w : World) : Calls Try.prog 13 #[.int .i64 n] w fun e w' => e = .returned (.int .i64 (stgV n)) ∧ w = w' := by
  by_cases h : IsN n
  · obtain ⟨m, rfl, hm⟩ := isN_nat h
    have H := Lib.hid (show stgV (m : Int) = (stgN m : Int) by rw [stgV, if_pos h, Int.toNat_natCast])
    go_enter Try.func13, Try.ntmps13
    go_wp2_with (first | (go_at_call 44; refine (specN_yes _ _ h).mono ?_; rintro e w' ⟨rfl, rfl⟩) | (go_at_call 45; refine (specStages m _ hm).mono ?_; rintro e w' ⟨rfl, rfl⟩))
    go_ret
    exact ⟨ret_int H.out.symm, rfl⟩
  · have H := Lib.hid (stgV_no h)
    go_enter Try.func13, Try.ntmps13
    go_wp2_with (go_at_call 44; refine (specN_no _ _ h).mono ?_; rintro e w' ⟨rfl, rfl⟩)
    go_ret
    exact ⟨ret_int H.out.symm, rfl⟩
theorem implCountStages (n : Int) (w : World) : Calls Try.prog 14 #[.int .i64 n] w fun e w' => e = .returned (.int .i64 (stgV n)) ∧ w = w' := by
  by_cases h : IsN n
  · obtain ⟨m, rfl, hm⟩ := isN_nat h
    have H := Lib.hid (show stgV (m : Int) = (stgN m : Int) by rw [stgV, if_pos h, Int.toNat_natCast])
    go_enter Try.func14, Try.ntmps14
    go_wp2_with (go_at_call 46; refine (implStages_yes m _ hm).mono ?_; rintro e w' ⟨rfl, rfl⟩)
    go_ret
    exact ⟨ret_int H.out.symm, rfl⟩
  · have H := Lib.hid (stgV_no h)
    go_enter Try.func14, Try.ntmps14
    go_wp2_with (go_at_call 46; refine (implStages_no _ _ h).mono ?_; rintro e w' ⟨rfl, rfl⟩)
    go_ret
    exact ⟨ret_int H.out.symm, rfl⟩

/-- 2 to the power of k n / 2. -/
def passN : Nat → Nat
  | 2 => 2
  | 4 => 16
  | 8 => 4096
  | _ => 0
def passV (n : Int) : Int := if IsN n then (passN n.toNat : Int) else -1
theorem passV_no {n : Int} (h : ¬ IsN n) : passV n = -1 := if_neg h
set_option maxHeartbeats 1000000 in
theorem specCountPassing (n : Int) (w : World) : Calls Try.prog 15 #[.int .i64 n] w fun e w' => e = .returned (.int .i64 (passV n)) ∧ w = w' := by
  by_cases h : IsN n
  · obtain ⟨m, rfl, hm⟩ := isN_nat h
    rcases hm with rfl | rfl | rfl
    · have S := Lib.hid (show ∀ w, Calls Try.prog 45 #[.int .i64 2] w fun e w' => e = .returned (.int .i64 1) ∧ w = w' from fun w => specStages 2 w (by omega))
      go_enter Try.func15, Try.ntmps15
      go_wp2_with (first | (go_at_call 44; refine (specN_yes _ _ (by unfold IsN; omega)).mono ?_; rintro e w' ⟨rfl, rfl⟩) | (go_at_call 45; refine (S.out _).mono ?_; rintro e w' ⟨rfl, rfl⟩))
      go_ret
      exact ⟨rfl, rfl⟩
    · have S := Lib.hid (show ∀ w, Calls Try.prog 45 #[.int .i64 4] w fun e w' => e = .returned (.int .i64 2) ∧ w = w' from fun w => specStages 4 w (by omega))
      go_enter Try.func15, Try.ntmps15
      go_wp2_with (first | (go_at_call 44; refine (specN_yes _ _ (by unfold IsN; omega)).mono ?_; rintro e w' ⟨rfl, rfl⟩) | (go_at_call 45; refine (S.out _).mono ?_; rintro e w' ⟨rfl, rfl⟩))
      go_ret
      exact ⟨rfl, rfl⟩
    · have S := Lib.hid (show ∀ w, Calls Try.prog 45 #[.int .i64 8] w fun e w' => e = .returned (.int .i64 3) ∧ w = w' from fun w => specStages 8 w (by omega))
      go_enter Try.func15, Try.ntmps15
      go_wp2_with (first | (go_at_call 44; refine (specN_yes _ _ (by unfold IsN; omega)).mono ?_; rintro e w' ⟨rfl, rfl⟩) | (go_at_call 45; refine (S.out _).mono ?_; rintro e w' ⟨rfl, rfl⟩))
      go_ret
      exact ⟨rfl, rfl⟩
  · have H := Lib.hid (passV_no h)
    go_enter Try.func15, Try.ntmps15
    go_wp2_with (go_at_call 44; refine (specN_no _ _ h).mono ?_; rintro e w' ⟨rfl, rfl⟩)
    go_ret
    exact ⟨ret_int H.out.symm, rfl⟩
set_option maxHeartbeats 1000000 in
theorem implCountPassing (n : Int) (w : World) : Calls Try.prog 16 #[.int .i64 n] w fun e w' => e = .returned (.int .i64 (passV n)) ∧ w = w' := by
  by_cases h : IsN n
  · obtain ⟨m, rfl, hm⟩ := isN_nat h
    rcases hm with rfl | rfl | rfl
    all_goals
      go_enter Try.func16, Try.ntmps16
      go_wp2
      go_ret
      exact ⟨rfl, rfl⟩
  · have H := Lib.hid (passV_no h)
    go_enter Try.func16, Try.ntmps16
    go_wp2_with (go_at_call 46; refine (implStages_no _ _ h).mono ?_; rintro e w' ⟨rfl, rfl⟩)
    go_ret
    exact ⟨ret_int H.out.symm, rfl⟩

end Go.Proofs.Ytaeabpmpfadkjaa
