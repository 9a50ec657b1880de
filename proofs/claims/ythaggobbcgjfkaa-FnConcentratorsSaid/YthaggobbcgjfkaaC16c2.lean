/- Chapter 16: valid sets of inputs. -/
import Derived.Test.YthaggobbcgjfkaaC16c
namespace Go.Proofs.Ythaggobbcgjfkaa
open Go.RowKit Go.Deep
set_option linter.unusedVariables false

/-- Is s a set of inputs of a valid plan? -/
def inputsOk (zs : List Int) (s : Int) : Bool := planOk zs && decide (0 ≤ s ∧ s < ((2 ^ zs.length : Nat) : Int))
theorem inputsOk_out {zs : List Int} {s : Int} (h : inputsOk zs s = true) : planOk zs = true ∧ 0 ≤ s ∧ s < ((2 ^ zs.length : Nat) : Int) := by
  simp only [inputsOk, Bool.and_eq_true, decide_eq_true_eq] at h
  exact h

set_option maxHeartbeats 1000000 in
theorem specInputs (A : Option Addr) (n c : Nat) (zs : List Int) (s : Int) (w : World) (ha : RdI w A n zs) (hn : n ≤ 1048576) :
    Calls Try.prog 41 #[.slice A n c, .int .i64 s] w fun e w' => e = .returned (.bool (inputsOk zs s)) ∧ w = w' := by
  have hl := ha.lenI
  cases hp : planOk zs with
  | false =>
    have H := Lib.hid (show inputsOk zs s = false by simp [inputsOk, hp])
    clear hl
    go_enter Try.func41, Try.ntmps41
    go_wp2_with (go_at_call 13; refine (specPlanOk A n c zs _ ha hn).mono ?_; rintro e w' ⟨rfl, rfl⟩)
    go_ret
    exact ⟨ret_bool H.out.symm, rfl⟩
  | true =>
    have h6 : n ≤ 6 := by have := (planOk_out hp).2.1; omega
    have hw := Lib.hid (wrap_pow n (by omega))
    have hw1 : 1 ≤ wrap64 (2 ^ n) := by rw [hw.out]; exact (pow6 h6).1
    have hw2 : wrap64 (2 ^ n) ≤ 64 := by rw [hw.out]; exact (pow6 h6).2
    have H0 := Lib.hid (show inputsOk zs s = decide (0 ≤ s ∧ s ≤ wrap64 (2 ^ n) - 1) by rw [hw.out]; unfold inputsOk; rw [hp, Bool.true_and, hl]; generalize ((2 ^ n : Nat) : Int) = q; exact decide_eq_decide.2 (by omega))
    clear hl
    by_cases hs : 0 ≤ s ∧ s ≤ wrap64 (2 ^ n) - 1
    · have H := Lib.hid (show inputsOk zs s = true by rw [H0.out]; simpa using hs)
      clear H0
      go_enter Try.func41, Try.ntmps41
      go_wp2_with (first | (go_at_call 13; refine (specPlanOk A n c zs _ ha hn).mono ?_; rintro e w' ⟨rfl, rfl⟩) | (go_at_call 40; refine (l01In_yes _ _ _ _ hs).mono ?_; rintro e w' ⟨rfl, rfl⟩))
      go_ret
      exact ⟨ret_bool H.out.symm, rfl⟩
    · have H := Lib.hid (show inputsOk zs s = false by rw [H0.out]; simpa using hs)
      clear H0
      go_enter Try.func41, Try.ntmps41
      go_wp2_with (first | (go_at_call 13; refine (specPlanOk A n c zs _ ha hn).mono ?_; rintro e w' ⟨rfl, rfl⟩) | (go_at_call 40; refine (l01In_no _ _ _ _ hs).mono ?_; rintro e w' ⟨rfl, rfl⟩))
      go_ret
      exact ⟨ret_bool H.out.symm, rfl⟩

set_option maxHeartbeats 1000000 in
theorem implInputs (A : Option Addr) (n c : Nat) (zs : List Int) (s : Int) (w : World) (ha : RdI w A n zs) (hn : n ≤ 1048576) :
    Calls Try.prog 43 #[.slice A n c, .int .i64 s] w fun e w' => e = .returned (.bool (inputsOk zs s)) ∧ w = w' := by
  have hl := ha.lenI
  cases hp : planOk zs with
  | false =>
    have H := Lib.hid (show inputsOk zs s = false by simp [inputsOk, hp])
    clear hl
    go_enter Try.func43, Try.ntmps43
    go_wp2_with (go_at_call 15; refine (implPlanOk A n c zs _ ha hn).mono ?_; rintro e w' ⟨rfl, rfl⟩)
    go_ret
    exact ⟨ret_bool H.out.symm, rfl⟩
  | true =>
    have h6 : n ≤ 6 := by have := (planOk_out hp).2.1; omega
    have hw := Lib.hid (wrap_pow n (by omega))
    have H0 := Lib.hid (show inputsOk zs s = decide (0 ≤ s ∧ s < wrap64 (2 ^ n)) by rw [hw.out]; unfold inputsOk; rw [hp, Bool.true_and, hl])
    clear hl
    by_cases h1 : 0 ≤ s
    · cases h2 : decide (s < wrap64 (2 ^ n)) with
      | true =>
        have H := Lib.hid (show inputsOk zs s = true by rw [H0.out]; simpa using ⟨h1, of_decide_eq_true h2⟩)
        clear H0
        go_enter Try.func43, Try.ntmps43
        go_wp2_with (first | (go_at_call 15; refine (implPlanOk A n c zs _ ha hn).mono ?_; rintro e w' ⟨rfl, rfl⟩) | go_in)
        go_ret
        exact ⟨ret_bool H.out.symm, rfl⟩
      | false =>
        have H := Lib.hid (show inputsOk zs s = false by rw [H0.out]; simp [of_decide_eq_false h2])
        clear H0
        go_enter Try.func43, Try.ntmps43
        go_wp2_with (first | (go_at_call 15; refine (implPlanOk A n c zs _ ha hn).mono ?_; rintro e w' ⟨rfl, rfl⟩) | go_in)
        go_ret
        exact ⟨ret_bool H.out.symm, rfl⟩
    · have H := Lib.hid (show inputsOk zs s = false by rw [H0.out]; simp [h1])
      clear H0
      go_enter Try.func43, Try.ntmps43
      go_wp2_with (first | (go_at_call 15; refine (implPlanOk A n c zs _ ha hn).mono ?_; rintro e w' ⟨rfl, rfl⟩) | go_in)
      go_ret
      exact ⟨ret_bool H.out.symm, rfl⟩


end Go.Proofs.Ythaggobbcgjfkaa
