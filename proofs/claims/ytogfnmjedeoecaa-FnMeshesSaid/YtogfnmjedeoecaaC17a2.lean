/- Chapter 17: the bound of a shear sort. -/
import Derived.Test.YtogfnmjedeoecaaIn
namespace Go.Proofs.Ytogfnmjedeoecaa
open Go.RowKit Go.Deep
set_option linter.unusedVariables false

def boundN : Int → Int
  | 1 => 1
  | 2 => 3
  | 3 => 5
  | 4 => 5
  | _ => -1
theorem bound_no {n : Int} (h : ¬ (1 ≤ n ∧ n ≤ 4)) : boundN n = -1 := by
  unfold boundN
  split <;> first | rfl | omega

set_option maxHeartbeats 1000000 in
theorem specBound (n : Int) (w : World) : Calls Try.prog 13 #[.int .i64 n] w fun e w' => e = .returned (.int .i64 (boundN n)) ∧ Below w.heap.size w w' := by
  by_cases h : 1 ≤ n ∧ n ≤ 4
  · have hh : n = 1 ∨ n = 2 ∨ n = 3 ∨ n = 4 := by omega
    rcases hh with rfl | rfl | rfl | rfl
    all_goals
      go_enter Try.func13, Try.ntmps13
      go_wp2_with (go_at_call 45; refine (l01In_yes _ _ _ _ (by omega)).mono ?_; rintro e w' ⟨rfl, rfl⟩)
      refine wp_loop_rounds 4 ?_
      repeat any_goals (rw [rounds_succ]; go_wp2)
      go_ret
      exact ⟨rfl, Below.refl _ _⟩
  · have H := Lib.hid (bound_no h)
    go_enter Try.func13, Try.ntmps13
    go_wp2_with (go_at_call 45; refine (l01In_no _ _ _ _ (by omega)).mono ?_; rintro e w' ⟨rfl, rfl⟩)
    go_ret
    exact ⟨ret_int H.out.symm, Below.refl _ _⟩

set_option maxHeartbeats 1000000 in
theorem implBound (n : Int) (w : World) : Calls Try.prog 14 #[.int .i64 n] w fun e w' => e = .returned (.int .i64 (boundN n)) ∧ Below w.heap.size w w' := by
  by_cases h : 1 ≤ n ∧ n ≤ 4
  · have hh : n = 1 ∨ n = 2 ∨ n = 3 ∨ n = 4 := by omega
    rcases hh with rfl | rfl | rfl | rfl
    all_goals
      go_enter Try.func14, Try.ntmps14
      go_wp2
      go_ret
      exact ⟨rfl, below_alloc _ _⟩
  · have H := Lib.hid (bound_no h)
    by_cases h1 : n < 1
    · clear h
      go_enter Try.func14, Try.ntmps14
      go_wp2
      go_ret
      exact ⟨ret_int H.out.symm, Below.refl _ _⟩
    · have h2 : 4 < n := by omega
      clear h
      go_enter Try.func14, Try.ntmps14
      go_wp2
      go_ret
      exact ⟨ret_int H.out.symm, Below.refl _ _⟩

end Go.Proofs.Ytogfnmjedeoecaa
