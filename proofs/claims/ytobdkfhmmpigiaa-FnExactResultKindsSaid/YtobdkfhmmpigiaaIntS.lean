/- What the statements' own helpers do: toIntS copies, eqIntS compares, markIntS and heldIntS write and read marks; spec.l01In. -/
import Derived.Test.YtobdkfhmmpigiaaRows
import Derived.Test.YtobdkfhmmpigiaaWords
namespace Go.Proofs.Ytobdkfhmmpigiaa
open Go.RowKit
set_option linter.unusedVariables false

theorem intInfo : (Try.prog.info? 3).map (fun i => (i.zero, i.size, i.bytes)) = some (some (.int .i64 0), 1, 8) := by kernel_rfl

theorem l01In_any (n lo hi : Int) (w : World) : Calls Try.prog 7 #[.int .i64 n, .int .i64 lo, .int .i64 hi] w fun e w' => e = .returned (.bool (decide (lo ≤ n ∧ n ≤ hi))) ∧ w = w' := by
  by_cases h1 : lo ≤ n <;> by_cases h2 : n ≤ hi
  all_goals
    go_enter Try.func7, Try.ntmps7
    go_wp2
    go_ret
    exact ⟨by simp [h1, h2], rfl⟩



/-- The numbers k, k + 1, .. n of them. -/
def marks (k : Int) : Nat → List Int
  | 0 => []
  | n + 1 => marks k n ++ [k + n]
theorem marks_len (k : Int) (n : Nat) : (marks k n).length = n := by
  induction n with
  | zero => rfl
  | succ n ih => simp [marks, ih]
theorem marks_take (k : Int) (n j : Nat) (h : j ≤ n) : (marks k n).take j = marks k j := by
  induction n with
  | zero => have : j = 0 := by omega
            subst this; rfl
  | succ n ih =>
    by_cases hj : j = n + 1
    · subst hj; rw [List.take_of_length_le (by rw [marks_len]; omega)]
    · rw [marks, List.take_append_of_le_length (by rw [marks_len]; omega), ih (by omega)]
theorem marks_nth (k : Int) (n j : Nat) (h : j < n) : nth (marks k n) j = k + j := by
  have h1 := marks_take k n (j + 1) (by omega)
  rw [take_nth (by rw [marks_len]; omega), marks_take k n j (by omega)] at h1
  simpa [marks] using h1

theorem mark_step {ys : List Int} {m : Int} {k : Nat} (h1 : ys.take k = marks m k) (hk : k < ys.length) : (ys.set k (m + k)).take (k + 1) = marks m (k + 1) := by
  rw [take_nth (zs := ys.set k (m + k)) (by simpa using hk), List.take_set_of_le (Nat.le_refl _), h1, nth_eq (zs := ys.set k (m + k)) (by simpa using hk)]
  simp [marks]



end Go.Proofs.Ytobdkfhmmpigiaa
