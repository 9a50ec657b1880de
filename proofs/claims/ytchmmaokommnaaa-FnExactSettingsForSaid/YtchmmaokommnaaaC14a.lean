/- Chapter 14: the powers of two and the number of switches. -/
import Derived.Test.YtchmmaokommnaaaIn
namespace Go.Proofs.Ytchmmaokommnaaa
open Go.RowKit Go.Deep
set_option linter.unusedVariables false

def IsP (n : Int) : Prop := n = 1 ∨ n = 2 ∨ n = 4 ∨ n = 8
instance (n : Int) : Decidable (IsP n) := by unfold IsP; infer_instance
def swN : Int → Int
  | 1 => 0
  | 2 => 1
  | 4 => 6
  | 8 => 20
  | _ => -1
theorem sw_no {n : Int} (h : ¬ IsP n) : swN n = -1 := by
  unfold IsP at h
  unfold swN
  split <;> first | rfl | omega
theorem not_isP {n : Int} (h : ¬ IsP n) : (n == 1) = false ∧ (n == 2) = false ∧ (n == 4) = false ∧ (n == 8) = false := by
  unfold IsP at h
  refine ⟨?_, ?_, ?_, ?_⟩ <;> (simp; omega)

set_option maxHeartbeats 1000000 in
theorem specP_yes (n : Int) (w : World) (h : IsP n) : Calls Try.prog 34 #[.int .i64 n] w fun e w' => e = .returned (.bool true) ∧ w = w' := by
  rcases h with rfl | rfl | rfl | rfl
  all_goals
    go_enter Try.func34, Try.ntmps34
    go_wp2
    go_ret
    exact ⟨rfl, rfl⟩
theorem specP_no (n : Int) (w : World) (h : ¬ IsP n) : Calls Try.prog 34 #[.int .i64 n] w fun e w' => e = .returned (.bool false) ∧ w = w' := by
  obtain ⟨h1, h2, h3, h4⟩ := not_isP h
  clear h
  go_enter Try.func34, Try.ntmps34
  go_wp2
  go_ret
  exact ⟨rfl, rfl⟩

set_option maxHeartbeats 1000000 in
theorem implP_yes (n : Int) (w : World) (h : IsP n) : Calls Try.prog 36 #[.int .i64 n] w fun e w' => e = .returned (.bool true) ∧ w = w' := by
  rcases h with rfl | rfl | rfl | rfl
  all_goals
    go_enter Try.func36, Try.ntmps36
    go_wp2
    go_ret
    exact ⟨rfl, rfl⟩
theorem implP_no (n : Int) (w : World) (h : ¬ IsP n) : Calls Try.prog 36 #[.int .i64 n] w fun e w' => e = .returned (.bool false) ∧ w = w' := by
  obtain ⟨h1, h2, h3, h4⟩ := not_isP h
  clear h
  go_enter Try.func36, Try.ntmps36
  go_wp2
  go_ret
  exact ⟨rfl, rfl⟩

theorem specCnt1 (w : World) : Calls Try.prog 35 #[.int .i64 1] w fun e w' => e = .returned (.int .i64 0) ∧ w = w' := by
  go_enter Try.func35, Try.ntmps35
  go_wp2
  go_ret
  exact ⟨rfl, rfl⟩
theorem specCnt2 (w : World) : Calls Try.prog 35 #[.int .i64 2] w fun e w' => e = .returned (.int .i64 1) ∧ w = w' := by
  go_enter Try.func35, Try.ntmps35
  go_wp2
  go_ret
  exact ⟨rfl, rfl⟩
theorem specCnt4 (w : World) : Calls Try.prog 35 #[.int .i64 4] w fun e w' => e = .returned (.int .i64 6) ∧ w = w' := by
  go_enter Try.func35, Try.ntmps35
  go_wp2_with fail
  refine (specCnt2 _).mono ?_
  rintro e w' ⟨rfl, rfl⟩
  go_wp2
  go_ret
  exact ⟨rfl, rfl⟩
theorem specCnt8 (w : World) : Calls Try.prog 35 #[.int .i64 8] w fun e w' => e = .returned (.int .i64 20) ∧ w = w' := by
  go_enter Try.func35, Try.ntmps35
  go_wp2_with fail
  refine (specCnt4 _).mono ?_
  rintro e w' ⟨rfl, rfl⟩
  go_wp2
  go_ret
  exact ⟨rfl, rfl⟩
theorem specCnt (n : Int) (w : World) (h : IsP n) : Calls Try.prog 35 #[.int .i64 n] w fun e w' => e = .returned (.int .i64 (swN n)) ∧ w = w' := by
  rcases h with rfl | rfl | rfl | rfl
  · exact specCnt1 w
  · exact specCnt2 w
  · exact specCnt4 w
  · exact specCnt8 w

set_option maxHeartbeats 1000000 in
theorem implCnt (n : Int) (w : World) (h : IsP n) : Calls Try.prog 37 #[.int .i64 n] w fun e w' => e = .returned (.int .i64 (swN n)) ∧ Below w.heap.size w w' := by
  rcases h with rfl | rfl | rfl | rfl
  all_goals
    go_enter Try.func37, Try.ntmps37
    go_wp2
    go_ret
    exact ⟨rfl, below_alloc _ _⟩

theorem specSwitchCount (n : Int) (w : World) : Calls Try.prog 12 #[.int .i64 n] w fun e w' => e = .returned (.int .i64 (swN n)) ∧ Below w.heap.size w w' := by
  by_cases h : IsP n
  · go_enter Try.func12, Try.ntmps12
    go_wp2_with (first | (go_at_call 34; refine (specP_yes _ _ h).mono ?_; rintro e w' ⟨rfl, rfl⟩) | (go_at_call 35; refine (specCnt _ _ h).mono ?_; rintro e w' ⟨rfl, rfl⟩))
    go_ret
    exact ⟨rfl, Below.refl _ _⟩
  · have H := Lib.hid (sw_no h)
    go_enter Try.func12, Try.ntmps12
    go_wp2_with (go_at_call 34; refine (specP_no _ _ h).mono ?_; rintro e w' ⟨rfl, rfl⟩)
    go_ret
    exact ⟨ret_int H.out.symm, Below.refl _ _⟩

theorem implSwitchCount (n : Int) (w : World) : Calls Try.prog 13 #[.int .i64 n] w fun e w' => e = .returned (.int .i64 (swN n)) ∧ Below w.heap.size w w' := by
  by_cases h : IsP n
  · go_enter Try.func13, Try.ntmps13
    go_wp2_with (first | (go_at_call 36; refine (implP_yes _ _ h).mono ?_; rintro e w' ⟨rfl, rfl⟩) | (go_at_call 37; refine (implCnt _ _ h).mono ?_; rintro e w1 ⟨rfl, hb⟩))
    go_ret
    exact ⟨rfl, hb⟩
  · have H := Lib.hid (sw_no h)
    go_enter Try.func13, Try.ntmps13
    go_wp2_with (go_at_call 36; refine (implP_no _ _ h).mono ?_; rintro e w' ⟨rfl, rfl⟩)
    go_ret
    exact ⟨ret_int H.out.symm, Below.refl _ _⟩

end Go.Proofs.Ytchmmaokommnaaa
