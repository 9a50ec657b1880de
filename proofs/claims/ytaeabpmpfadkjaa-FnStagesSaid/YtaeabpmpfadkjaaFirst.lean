/- The numbers from 0 up: impl.wires, spec.l04First. -/
import Derived.Test.YtaeabpmpfadkjaaIn
namespace Go.Proofs.Ytaeabpmpfadkjaa
open Go.RowKit Go.Deep
set_option linter.unusedVariables false

theorem marks_zero (k : Int) : marks k 0 = [] := rfl
theorem marks_up (k : Nat) : marks 0 (k + 1) = marks 0 k ++ [(k : Int)] := by simp [marks]

set_option maxHeartbeats 1000000 in
theorem specFirst (n : Nat) (w : World) (hn : n ≤ 1048576) :
    Calls Try.prog 61 #[.int .i64 n] w fun e w' => ∃ A' c', e = .returned (.slice A' n c') ∧ OwnI w' w.heap.size 3 A' n c' (marks 0 n) ∧ Below w.heap.size w w' := by
  go_enter Try.func61, Try.ntmps61
  go_wp2
  go_loopw [3, 4] (fun v i wr => ∃ q : Nat, ∃ A' c', q ≤ n ∧ i = .int .i64 q ∧ v = .slice A' q c' ∧ OwnI wr w.heap.size 3 A' q c' (marks 0 q) ∧ Below w.heap.size w wr) (fun _ i _ => n - (intOf i).toNat)
  case atStart => exact ⟨0, _, _, Nat.zero_le _, rfl, rfl, by simpa [OwnI, marks_zero] using own_empty w 3, below_alloc w _⟩
  case round =>
    obtain ⟨q, A', c', hq, rfl, rfl, hown, hbl⟩ := hrel
    have hsz := hbl.size
    by_cases hlt : q < n
    · go_wp2_with (at_builtin; refine wpL_append1 _ rfl _ _ _ rfl w.heap.size 3 (.int .i64 0) 8 Try.underlying24 intInfo rfl _ q _ _ rfl hown _ rfl rfl (by unfold maxLen; omega) (by omega) hsz ?_)
      intro A2 c2 w2 ho2 hg2 hat2
      have hb2 := own_below hown hbl hsz hg2
      go_wp2
      go_roundw
      case rel => exact ⟨q + 1, A2, c2, by omega, by go_num, rfl, by rw [OwnI, marks_up, List.map_append]; simpa using ho2, hb2⟩
      case measure => simp [intOf]; omega
    · obtain rfl : q = n := by omega
      go_wp2
      go_ret
      exact ⟨_, _, rfl, hown, hbl⟩

set_option maxHeartbeats 1000000 in
theorem implFirst (n : Nat) (w : World) (hn : n ≤ 1048576) :
    Calls Try.prog 66 #[.int .i64 0, .int .i64 n] w fun e w' => ∃ A' c', e = .returned (.slice A' n c') ∧ OwnI w' w.heap.size 3 A' n c' (marks 0 n) ∧ Below w.heap.size w w' := by
  go_enter Try.func66, Try.ntmps66
  go_wp2
  go_loopw [5, 6] (fun v i wr => ∃ q : Nat, ∃ A' c', q ≤ n ∧ i = .int .i64 q ∧ v = .slice A' q c' ∧ OwnI wr w.heap.size 3 A' q c' (marks 0 q) ∧ Below w.heap.size w wr) (fun _ i _ => n - (intOf i).toNat)
  case atStart => exact ⟨0, _, _, Nat.zero_le _, rfl, rfl, by simpa [OwnI, marks_zero] using own_empty w 3, below_alloc w _⟩
  case round =>
    obtain ⟨q, A', c', hq, rfl, rfl, hown, hbl⟩ := hrel
    have hsz := hbl.size
    by_cases hlt : q < n
    · go_wp2_with (at_builtin; refine wpL_append1 _ rfl _ _ _ rfl w.heap.size 3 (.int .i64 0) 8 Try.underlying24 intInfo rfl _ q _ _ rfl hown _ rfl rfl (by unfold maxLen; omega) (by omega) hsz ?_)
      intro A2 c2 w2 ho2 hg2 hat2
      have hb2 := own_below hown hbl hsz hg2
      go_wp2
      go_roundw
      case rel => exact ⟨q + 1, A2, c2, by omega, by go_num, rfl, by rw [OwnI, marks_up, List.map_append]; simpa using ho2, hb2⟩
      case measure => simp [intOf]; omega
    · obtain rfl : q = n := by omega
      go_wp2
      go_ret
      exact ⟨_, _, rfl, hown, hbl⟩

end Go.Proofs.Ytaeabpmpfadkjaa
