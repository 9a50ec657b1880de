/- Draws of lists. -/
import Derived.Test.YtogfnmjedeoecaaGrow
namespace Go.Proofs.Ytogfnmjedeoecaa
open Go.RowKit Go.Deep
set_option linter.unusedVariables false

set_option maxHeartbeats 2000000 in
theorem specList02 (g n : Nat) (w : World) (hc : Cur w g) (hn : n ≤ 1000) : Calls Try.prog 70 #[.pointer (some ⟨g, 0, none⟩), .int .i64 n] w fun e w' => ∃ A c zs, e = .returned (.slice A n c) ∧ OwnI w' w.heap.size 3 A n c zs ∧ Cur w' g ∧ w.grownBy w' (some g) := by
  have hgw := hc.lt
  obtain ⟨B, hB⟩ : ∃ B, w.heap.size = B := ⟨_, rfl⟩
  have HB := Lib.hid hB
  have HC0 := Lib.hid (hc.below (below_alloc w (.cells #[] 3)))
  have HO0 := Lib.hid (show OwnI (w.alloc (.cells #[] 3)) B 3 (some ⟨B, 0, none⟩) 0 0 [] from hB ▸ own_empty w _)
  have HG0 := Lib.hid (grown_alloc w g (.cells #[] 3))
  rw [hB] at hgw ⊢
  clear hB hc
  go_enter Try.func70, Try.ntmps70
  go_wp2_with fail
  rw [HB.out]
  go_loopw [5, 6] (fun lv iv wr => ∃ k : Nat, ∃ A c zs, lv = .slice A k c ∧ iv = .int .i64 k ∧ k ≤ n ∧ OwnI wr B 3 A k c zs ∧ Cur wr g ∧ w.grownBy wr (some g)) (fun _ iv _ => n - (intOf iv).toNat)
  case atStart => exact ⟨0, _, _, _, rfl, rfl, Nat.zero_le _, HO0.out, HC0.out, HG0.out⟩
  case round =>
    obtain ⟨k, A, c, zs, rfl, rfl, hk, hown, hc, hg⟩ := hrel
    by_cases hlt : k < n
    · go_wp2_with fail
      refine (specBelow g 12 wr hc (by omega) (by omega)).mono ?_
      rintro e w2 ⟨x, hx, rfl, hc2, hg2⟩
      have ho2 := own_cur hown hg2 hgw
      have hg3 := hg.trans hg2
      have hsz : B ≤ w2.heap.size := by have := hg3.size; rw [HB.out] at this; exact this
      clear hc hown hg hg2
      go_wp2_with (at_builtin; refine wpL_append1 _ rfl _ _ _ rfl B 3 (.int .i64 0) 8 Try.underlying29 intInfo rfl _ k _ _ rfl ho2 _ rfl rfl (by unfold maxLen; omega) (by omega) hsz ?_)
      intro A6 c6 w6 ho6 hg6 hat6
      have hc6 : Cur w6 g := hc2.grown hg6 (fun q hq => by have := (ho2.blk_ q hq).1; omega)
      have hg7 := grown_own hg3 HB.out hg6 (fun q hq => (ho2.blk_ q hq).1)
      go_wp2
      go_roundw
      case rel => exact ⟨k + 1, A6, c6, zs ++ [(x : Int) - 3], rfl, by go_num, by omega, by simpa [OwnI] using ho6, hc6, hg7⟩
      case measure => (simp [intOf] <;> omega)
    · obtain rfl : k = n := by omega
      go_wp2_with fail
      go_ret
      exact ⟨A, c, zs, rfl, hown, hc, hg⟩
end Go.Proofs.Ytogfnmjedeoecaa
