/- Chapter 18: Unreached and GreatestUnreached of the reference and of the program. -/
import Derived.Test.YtojlcpfnkpfgnaaC18a
namespace Go.Proofs.Ytojlcpfnkpfgnaa
open Go.RowKit Go.Deep
set_option linter.unusedVariables false

theorem boolInfo : (Try.prog.info? 4).map (fun i => (i.zero, i.size, i.bytes)) = some (some (.bool false), 1, 1) := by kernel_rfl

/-- Is n one of the first k multiples of a plus a multiple of b? -/
def foundTo (a b n : Nat) : Nat → Bool
  | 0 => false
  | k + 1 => foundTo a b n k || (decide (k * a ≤ n) && (n - k * a) % b == 0)
def isSum (a b n : Nat) : Bool := foundTo a b n (n + 1)
theorem found_iff {a b n : Nat} : ∀ k, foundTo a b n k = true ↔ ∃ j, j < k ∧ j * a ≤ n ∧ (n - j * a) % b = 0 := by
  intro k
  induction k with
  | zero => constructor
            · intro h; cases h
            · rintro ⟨j, h, _⟩; omega
  | succ k ih =>
    rw [foundTo, Bool.or_eq_true, ih, Bool.and_eq_true, decide_eq_true_eq, beq_iff_eq]
    constructor
    · rintro (⟨j, h1, h2⟩ | ⟨h1, h2⟩)
      · exact ⟨j, by omega, h2⟩
      · exact ⟨k, by omega, h1, h2⟩
    · rintro ⟨j, h1, h2, h3⟩
      by_cases e : j = k
      · subst e; exact .inr ⟨h2, h3⟩
      · exact .inl ⟨j, by omega, h2, h3⟩
theorem isSum_iff {a b n : Nat} (ha : 1 ≤ a) : isSum a b n = true ↔ ∃ j m, n = j * a + m * b := by
  rw [isSum, found_iff]
  constructor
  · rintro ⟨j, _, h2, h3⟩
    refine ⟨j, (n - j * a) / b, ?_⟩
    have := Nat.div_add_mod (n - j * a) b
    rw [h3, Nat.mul_comm] at this
    omega
  · rintro ⟨j, m, h⟩
    have h1 : j ≤ j * a := Nat.le_mul_of_pos_right _ (by omega)
    refine ⟨j, by omega, by omega, ?_⟩
    rw [h, Nat.add_sub_cancel_left]
    exact Nat.mul_mod_left _ _
theorem found_end {a b n k : Nat} (h : n < k * a) (hk : k ≤ n + 1) : isSum a b n = foundTo a b n k := by
  rw [isSum, Bool.eq_iff_iff, found_iff, found_iff]
  constructor
  · rintro ⟨j, h1, h2, h3⟩
    refine ⟨j, ?_, h2, h3⟩
    rcases Nat.lt_or_ge j k with h4 | h4
    · exact h4
    · have := Nat.mul_le_mul_right a h4; omega
  · rintro ⟨j, h1, h2⟩; exact ⟨j, by omega, h2⟩
theorem isSum_zero (a b : Nat) : isSum a b 0 = true := by
  rw [isSum, found_iff]; exact ⟨0, by omega, by omega, by simp⟩
theorem isSum_step {a b n : Nat} (ha : 1 ≤ a) (hb : 1 ≤ b) (hn : 1 ≤ n) : isSum a b n = ((decide (a ≤ n) && isSum a b (n - a)) || (decide (b ≤ n) && isSum a b (n - b))) := by
  rw [Bool.eq_iff_iff, Bool.or_eq_true, Bool.and_eq_true, Bool.and_eq_true, isSum_iff ha, isSum_iff ha, isSum_iff ha, decide_eq_true_eq, decide_eq_true_eq]
  constructor
  · rintro ⟨j, m, h⟩
    rcases j with _ | j
    · rcases m with _ | m
      · omega
      · right
        rw [Nat.succ_mul] at h
        exact ⟨by omega, 0, m, by omega⟩
    · left
      rw [Nat.succ_mul] at h
      exact ⟨by omega, j, m, by omega⟩
  · rintro (⟨h1, j, m, h⟩ | ⟨h1, j, m, h⟩)
    · exact ⟨j + 1, m, by rw [Nat.succ_mul]; omega⟩
    · exact ⟨j, m + 1, by rw [Nat.succ_mul]; omega⟩

/-- The numbers from 1 up to n that are no sums. -/
def unrTo (a b n : Nat) : List Int := ((List.range n).filter fun k => decide (1 ≤ k) && !isSum a b k).map fun k : Nat => (k : Int)
theorem unr_one (a b : Nat) : unrTo a b 1 = [] := by simp [unrTo, List.range_succ]
theorem unr_yes {a b n : Nat} (h1 : 1 ≤ n) (h : isSum a b n = false) : unrTo a b (n + 1) = unrTo a b n ++ [(n : Int)] := by
  simp [unrTo, List.range_succ, List.filter_append, h, h1]
theorem unr_no {a b n : Nat} (h : isSum a b n = true) : unrTo a b (n + 1) = unrTo a b n := by
  simp [unrTo, List.range_succ, List.filter_append, h]
theorem unr_len (a b n : Nat) : (unrTo a b n).length ≤ n := by
  unfold unrTo
  rw [List.length_map]
  exact Nat.le_trans (List.length_filter_le _ _) (by simp)
/-- The reached numbers below n, among p. -/
def reachL (a b p n : Nat) : List Value := (List.range p).map fun j => Value.bool (decide (j < n) && isSum a b j)
theorem reach_get {a b p n j : Nat} (h : j < p) : (reachL a b p n)[j]? = some (.bool (decide (j < n) && isSum a b j)) := by simp [reachL, h]
theorem reach_set {a b p n : Nat} (hn : n < p) : (reachL a b p n).set n (.bool (isSum a b n)) = reachL a b p (n + 1) := by
  apply List.ext_getElem?
  intro j
  rw [List.getElem?_set]
  by_cases hj : j < p
  · rw [reach_get hj, reach_get hj]
    by_cases e : n = j
    · subst e; simp [reachL, hn]
    · have h2 : decide (j < n + 1) = decide (j < n) := decide_eq_decide.2 (by omega)
      simp [e, h2]
  · have h1 : (reachL a b p n).length ≤ j := by simp [reachL]; omega
    have h2 : (reachL a b p (n + 1)).length ≤ j := by simp [reachL]; omega
    rw [List.getElem?_eq_none h1, List.getElem?_eq_none h2]
    have : n ≠ j := by omega
    simp [this]
theorem reach_zero (a b p : Nat) : List.replicate p (Value.bool false) = reachL a b p 0 := by
  apply List.ext_getElem?
  intro j
  by_cases hj : j < p
  · rw [reach_get hj]; simp [hj]
  · simp [reachL, hj]
def okAB (a b : Int) : Prop := (1 ≤ a ∧ a ≤ 9) ∧ 1 ≤ b ∧ b ≤ 9
instance (a b : Int) : Decidable (okAB a b) := by unfold okAB; infer_instance
def unrV (a b : Int) : List Int := if okAB a b ∧ Nat.gcd a.toNat b.toNat = 1 then unrTo a.toNat b.toNat (a.toNat * b.toNat) else []
theorem unrV_len (a b : Int) : (unrV a b).length ≤ 81 := by
  unfold unrV
  split
  · rename_i h
    obtain ⟨⟨⟨h1, h2⟩, h3, h4⟩, _⟩ := h
    obtain ⟨x, rfl⟩ := Int.eq_ofNat_of_zero_le (show 0 ≤ a by omega)
    obtain ⟨y, rfl⟩ := Int.eq_ofNat_of_zero_le (show 0 ≤ b by omega)
    rw [Int.toNat_natCast, Int.toNat_natCast]
    exact Nat.le_trans (unr_len _ _ _) (Nat.mul_le_mul (show x ≤ 9 by omega) (show y ≤ 9 by omega))
  · simp
/-- No number from 2 up to d divides both. -/
def NoDiv (a b d : Nat) : Prop := ∀ k, 2 ≤ k → k < d → ¬ (a % k = 0 ∧ b % k = 0)
theorem div_no {a b d : Nat} (h2 : 2 ≤ d) (ha : a % d = 0) (hb : b % d = 0) : Nat.gcd a b ≠ 1 := fun h => by
  have h1 := Nat.dvd_gcd (Nat.dvd_of_mod_eq_zero ha) (Nat.dvd_of_mod_eq_zero hb)
  rw [h] at h1
  have := Nat.le_of_dvd (by omega) h1
  omega
theorem nodiv_gcd {a b : Nat} (ha : 1 ≤ a) (h : NoDiv a b (a + 1)) : Nat.gcd a b = 1 := by
  apply Classical.byContradiction
  intro hne
  have h1 : 0 < Nat.gcd a b := Nat.gcd_pos_of_pos_left _ ha
  have h2 : Nat.gcd a b ≤ a := Nat.le_of_dvd ha (Nat.gcd_dvd_left a b)
  exact h (Nat.gcd a b) (by omega) (by omega) ⟨Nat.mod_eq_zero_of_dvd (Nat.gcd_dvd_left a b), Nat.mod_eq_zero_of_dvd (Nat.gcd_dvd_right a b)⟩
theorem NoDiv.two (a b : Nat) : NoDiv a b 2 := fun k h1 h2 => absurd h2 (by omega)
theorem NoDiv.succ {a b d : Nat} (h : NoDiv a b d) (h1 : ¬ (a % d = 0 ∧ b % d = 0)) : NoDiv a b (d + 1) := fun k h2 h3 => by
  by_cases e : k = d
  · subst e; exact h1
  · exact h k h2 (by omega)
attribute [irreducible] isSum foundTo unrTo reachL

set_option maxHeartbeats 1000000 in
theorem implGcd (a b : Nat) (w : World) (ha : a ≤ 9) (hb : b ≤ 9) : Calls Try.prog 31 #[.int .i64 a, .int .i64 b] w fun e w' => e = .returned (.int .i64 (Nat.gcd a b)) ∧ Below w.heap.size w w' := by
  go_enter Try.func31, Try.ntmps31
  go_wp2
  go_loopw [0, 1] (fun u v wr => ∃ x y : Nat, u = .int .i64 x ∧ v = .int .i64 y ∧ x ≤ 9 ∧ y ≤ 9 ∧ Below w.heap.size w wr ∧ Nat.gcd x y = Nat.gcd a b) (fun _ v _ => (intOf v).toNat)
  case atStart => exact ⟨a, b, rfl, rfl, ha, hb, Below.refl _ _, rfl⟩
  case round =>
    obtain ⟨x, y, rfl, rfl, hx, hy, hbl, hg⟩ := hrel
    have HG := Lib.hid hg
    clear hg
    by_cases hy0 : y = 0
    · have e1 : ((y : Int) != 0) = false := by simp [hy0]
      have H := Lib.hid (show (x : Int) = (Nat.gcd a b : Int) by rw [← HG.out, hy0, Nat.gcd_zero_right])
      clear hy0
      go_wp2
      go_ret
      exact ⟨ret_int H.out, hbl⟩
    · have e1 : ((y : Int) != 0) = true := by simp [bne]; omega
      have hy1 : 1 ≤ y := by omega
      have hlt : x % y < y := Nat.mod_lt _ (by omega)
      have H := Lib.hid (show Nat.gcd y (x % y) = Nat.gcd a b by rw [← HG.out, Nat.gcd_comm x y, Nat.gcd_rec y x, Nat.gcd_comm])
      clear hy0
      go_wp2
      go_region
      all_goals
        go_wp2
        go_roundw
        case rel => exact ⟨y, x % y, rfl, by go_num, by omega, by omega, hbl.drew, H.out⟩
        case measure => (simp [intOf] <;> omega)

end Go.Proofs.Ytojlcpfnkpfgnaa
