/- Chapter 12: one comparator at a mask: impl.step, spec.l03Apply at one pair. -/
import Derived.Test.YtobdkfhmmpigiaaC12b
import Derived.Test.YtobdkfhmmpigiaaOnes
namespace Go.Proofs.Ytobdkfhmmpigiaa
open Go.RowKit Go.Deep
set_option linter.unusedVariables false
attribute [local go_sem] bits_and_one

/-- A mask behind a comparator. -/
def bst (s p q : Nat) : Nat := if bitAt s p = true ∧ bitAt s q = false then s ^^^ 2 ^ p ^^^ 2 ^ q else s
theorem bst_lt : ∀ s : Nat, s < 16 → ∀ p : Nat, p < 4 → ∀ q : Nat, q < 4 → bst s p q < 16 := by decide +kernel
theorem bst_w1 : ∀ s : Nat, s < 2 → ∀ p : Nat, p < 1 → ∀ q : Nat, q < 1 → bst s p q < 2 := by decide +kernel
theorem bst_w2 : ∀ s : Nat, s < 4 → ∀ p : Nat, p < 2 → ∀ q : Nat, q < 2 → bst s p q < 4 := by decide +kernel
theorem bst_w3 : ∀ s : Nat, s < 8 → ∀ p : Nat, p < 3 → ∀ q : Nat, q < 3 → bst s p q < 8 := by decide +kernel
theorem bst_w {n s p q : Nat} (h4 : n ≤ 4) (hs : s < 2 ^ n) (hp : p < n) (hq : q < n) : bst s p q < 2 ^ n := by
  have hc : n = 1 ∨ n = 2 ∨ n = 3 ∨ n = 4 := by omega
  rcases hc with rfl | rfl | rfl | rfl
  · exact bst_w1 s hs p hp q hq
  · exact bst_w2 s hs p hp q hq
  · exact bst_w3 s hs p hp q hq
  · exact bst_lt s hs p hp q hq
theorem xor_fact : ∀ s : Nat, s < 16 → ∀ p : Nat, p < 4 → bits .xor .i64 (s : Int) (RowKit.wrap64 (2 ^ p)) = ((s ^^^ 2 ^ p : Nat) : Int) ∧ s ^^^ 2 ^ p < 16 := by decide +kernel
theorem sub_fact : ∀ s : Nat, s < 16 → ∀ p : Nat, p < 4 → ∀ q : Nat, q < 4 → (!(bitAt s p && !bitAt s q) || (decide ((s : Int) - 2 ^ p + 2 ^ q = ((bst s p q : Nat) : Int)) && decide (0 ≤ (s : Int) - 2 ^ p))) = true := by decide +kernel

set_option maxHeartbeats 1000000 in
theorem implMStep (s p q : Nat) (w : World) (hs : s < 16) (hp : p < 4) (hq : q < 4) : Calls Try.prog 39 #[.int .i64 s, .int .i64 p, .int .i64 q] w fun e w' => e = .returned (.int .i64 (bst s p q : Nat)) ∧ Below w.heap.size w w' := by
  cases hb : bitAt s p with
  | true =>
    obtain ⟨f1, f2⟩ := bit_on hb
    cases hc : bitAt s q with
    | true =>
      obtain ⟨g1, g2⟩ := bit_on hc
      have HE := Lib.hid (show bst s p q = s by rw [bst, if_neg (by rw [hc]; simp)])
      clear hb hc
      go_enter Try.func39, Try.ntmps39
      go_wp2_with fail
      go_ret
      exact ⟨by rw [HE.out]; rfl, Below.refl _ _⟩
    | false =>
      obtain ⟨g1, g2⟩ := bit_off hc
      obtain ⟨x1, x2⟩ := xor_fact s hs p hp
      obtain ⟨y1, _⟩ := xor_fact _ x2 q hq
      obtain ⟨t, ht⟩ : ∃ t, s ^^^ 2 ^ p = t := ⟨_, rfl⟩
      rw [ht] at x1 y1
      obtain ⟨u, hu⟩ : ∃ u, t ^^^ 2 ^ q = u := ⟨_, rfl⟩
      rw [hu] at y1
      have HE := Lib.hid (show bst s p q = u by rw [bst, if_pos ⟨hb, hc⟩, ht, hu])
      clear hb hc ht hu x2
      go_enter Try.func39, Try.ntmps39
      go_wp2_with fail
      go_region
      all_goals
        go_wp2_with fail
        go_ret
        exact ⟨by rw [HE.out]; rfl, (Below.refl _ _).drew⟩
  | false =>
    obtain ⟨f1, f2⟩ := bit_off hb
    have HE := Lib.hid (show bst s p q = s by rw [bst, if_neg (by rw [hb]; simp)])
    clear hb
    go_enter Try.func39, Try.ntmps39
    go_wp2_with fail
    go_ret
    exact ⟨by rw [HE.out]; rfl, Below.refl _ _⟩
end Go.Proofs.Ytobdkfhmmpigiaa
