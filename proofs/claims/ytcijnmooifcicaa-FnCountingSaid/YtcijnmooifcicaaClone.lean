/- slices.Clone at []int. -/
import Derived.Test.YtcijnmooifcicaaIn
namespace Go.Proofs.Ytcijnmooifcicaa
open Go.RowKit Go.Deep
set_option linter.unusedVariables false

theorem implClone (ad : Addr) (n c : Nat) (zs : List Int) (w : World) (ha : RdI w (some ad) n zs) (hn : n ≤ 1048576) :
    Calls Try.prog 69 #[.slice (some ad) n c] w fun e w' => ∃ A' c', e = .returned (.slice A' n c') ∧ OwnI w' w.heap.size 3 A' n c' zs ∧ Below w.heap.size w w' := by
  have q : ∀ w : World, (binOp .eql 22 (.slice (some ad) n c) (.slice none 0 0)).run Try.prog w = .ok (.bool false) w := fun w => Lib.run_eql_slice_nil w _ _ _ _ _ _ _ Try.underlying22
  go_enter Try.func69, Try.ntmps69
  go_wp2_with (at_builtin; refine wpL_append _ rfl _ _ _ rfl w.heap.size 3 (.int .i64 0) 8 Try.underlying22 intInfo rfl _ 0 _ [] rfl (own_empty _ _) (some ad) n c (zs.map (Value.int .i64)) rfl (ha.alloc _) (ints_one _) (by unfold maxLen; omega) (by omega) (by simp) ?_)
  intro A2 c2 w2 ho2 hg2 hat2
  have hb2 := own_below (own_empty w 3) (below_alloc w _) (by simp) hg2
  try simp only [Nat.zero_add] at ho2 ⊢
  go_wp2
  go_ret
  exact ⟨_, _, rfl, by simpa using ho2, hb2⟩

end Go.Proofs.Ytcijnmooifcicaa
