/- Chapter 13: numbers with the step property. -/
import Derived.Test.YtcijnmooifcicaaIn
namespace Go.Proofs.Ytcijnmooifcicaa
open Go.RowKit Go.Deep
set_option linter.unusedVariables false

def stepE (m s k : Nat) : Int := ((s : Int) + m - 1 - k) / m
def stepTo (m s : Nat) : Nat → List Int
  | 0 => []
  | k + 1 => stepTo m s k ++ [stepE m s k]
theorem stepTo_succ (m s k : Nat) : stepTo m s (k + 1) = stepTo m s k ++ [stepE m s k] := rfl
theorem stepTo_len (m s k : Nat) : (stepTo m s k).length = k := by
  induction k with
  | zero => rfl
  | succ k ih => rw [stepTo, List.length_append, ih]; rfl
def stepV (x y : Int) : List Int := if (1 ≤ x ∧ x ≤ 8) ∧ 0 ≤ y ∧ y ≤ 8000 then stepTo x.toNat y.toNat x.toNat else []
theorem stepV_len (x y : Int) : (stepV x y).length ≤ 1048576 := by
  unfold stepV
  split
  · rw [stepTo_len]; omega
  · simp
theorem stepV_no {x y : Int} (h : ¬ ((1 ≤ x ∧ x ≤ 8) ∧ 0 ≤ y ∧ y ≤ 8000)) : stepV x y = [] := if_neg h
theorem stepV_yes {m s : Nat} (h1 : 1 ≤ m) (h2 : m ≤ 8) (h3 : s ≤ 8000) : stepV m s = stepTo m s m := by
  rw [stepV, if_pos (by omega), Int.toNat_natCast, Int.toNat_natCast]
attribute [irreducible] stepTo

theorem specN_yes (x : Int) (w : World) (h : 1 ≤ x ∧ x ≤ 8) : Calls Try.prog 46 #[.int .i64 x] w fun e w' => e = .returned (.bool true) ∧ w = w' := by
  go_enter Try.func46, Try.ntmps46
  go_wp2_with (go_at_call 47; refine (l01In_yes _ _ _ _ h).mono ?_; rintro e w' ⟨rfl, rfl⟩)
  go_ret
  exact ⟨rfl, rfl⟩
theorem specN_no (x : Int) (w : World) (h : ¬ (1 ≤ x ∧ x ≤ 8)) : Calls Try.prog 46 #[.int .i64 x] w fun e w' => e = .returned (.bool false) ∧ w = w' := by
  go_enter Try.func46, Try.ntmps46
  go_wp2_with (go_at_call 47; refine (l01In_no _ _ _ _ h).mono ?_; rintro e w' ⟨rfl, rfl⟩)
  go_ret
  exact ⟨rfl, rfl⟩
theorem implW_yes (x : Int) (w : World) (h : 1 ≤ x ∧ x ≤ 8) : Calls Try.prog 48 #[.int .i64 x] w fun e w' => e = .returned (.bool true) ∧ w = w' := by
  have h1 := h.1
  have h2 := h.2
  clear h
  go_enter Try.func48, Try.ntmps48
  go_wp2
  go_ret
  exact ⟨rfl, rfl⟩
theorem implW_no (x : Int) (w : World) (h : ¬ (1 ≤ x ∧ x ≤ 8)) : Calls Try.prog 48 #[.int .i64 x] w fun e w' => e = .returned (.bool false) ∧ w = w' := by
  by_cases h1 : 1 ≤ x
  · have h2 : decide (x ≤ 8) = false := by simp; omega
    clear h
    go_enter Try.func48, Try.ntmps48
    go_wp2
    go_ret
    exact ⟨rfl, rfl⟩
  · clear h
    go_enter Try.func48, Try.ntmps48
    go_wp2
    go_ret
    exact ⟨rfl, rfl⟩

set_option maxHeartbeats 2000000 in
theorem specStep (x y : Int) (w : World) :
    Calls Try.prog 16 #[.int .i64 x, .int .i64 y] w fun e w' => ∃ A' n' c', e = .returned (.slice A' n' c') ∧ OwnI w' w.heap.size 3 A' n' c' (stepV x y) ∧ Below w.heap.size w w' := by
  by_cases hx : 1 ≤ x ∧ x ≤ 8
  · by_cases hy0 : 0 ≤ y
    · by_cases hy1 : y ≤ 8000
      · obtain ⟨m, rfl⟩ := Int.eq_ofNat_of_zero_le (show 0 ≤ x by omega)
        obtain ⟨s, rfl⟩ := Int.eq_ofNat_of_zero_le hy0
        have hm1 : 1 ≤ m := by omega
        have hm8 : m ≤ 8 := by omega
        have hs : s ≤ 8000 := by omega
        have HV := Lib.hid (stepV_yes hm1 hm8 hs)
        have hmz : ((m : Int) == 0) = false := by simp; omega
        have d1 : decide ((s : Int) < 0) = false := by simp
        have d2 : decide (8000 < (s : Int)) = false := by simp; omega
        clear hx hy0 hy1
        go_enter Try.func16, Try.ntmps16
        go_wp2_with (first | (go_at_call 46; refine (specN_yes _ _ (by omega)).mono ?_; rintro e w' ⟨rfl, rfl⟩) | (go_at_call 47; refine (l01In_yes _ _ _ _ (by omega)).mono ?_; rintro e w' ⟨rfl, rfl⟩))
        go_loopw [5, 6] (fun v i wr => ∃ q : Nat, ∃ A' c', q ≤ m ∧ i = .int .i64 q ∧ v = .slice A' q c' ∧ OwnI wr w.heap.size 3 A' q c' (stepTo m s q) ∧ Below w.heap.size w wr) (fun _ i _ => m - (intOf i).toNat)
        case atStart => exact ⟨0, _, _, Nat.zero_le _, rfl, rfl, by simpa [OwnI, stepTo] using own_empty w 3, below_alloc w _⟩
        case round =>
          obtain ⟨q, A', c', hq, rfl, rfl, hown, hbl⟩ := hrel
          have hsz := hbl.size
          have HE := Lib.hid (show stepE m s q = ((s : Int) + m - 1 - q) / m from rfl)
          by_cases hlt : q < m
          · go_wp2_with (at_builtin; refine wpL_append1 _ rfl _ _ _ rfl w.heap.size 3 (.int .i64 0) 8 Try.underlying22 intInfo rfl _ q _ _ rfl hown _ rfl rfl (by unfold maxLen; omega) (by omega) hsz ?_)
            intro A2 c2 w2 ho2 hg2 hat2
            have hb2 := own_below hown hbl hsz hg2
            rw [← HE.out] at ho2
            go_wp2
            go_roundw
            case rel => exact ⟨q + 1, A2, c2, by omega, by go_num, rfl, by rw [OwnI, stepTo_succ, List.map_append]; simpa using ho2, hb2⟩
            case measure => simp [intOf]; omega
          · obtain rfl : q = m := by omega
            go_wp2
            go_ret
            exact ⟨_, _, _, rfl, by rw [HV.out]; exact hown, hbl⟩
      · have HV := Lib.hid (stepV_no (x := x) (y := y) (by omega))
        have hy2 : 8000 < y := by omega
        go_enter Try.func16, Try.ntmps16
        go_wp2_with (first | (go_at_call 46; refine (specN_yes _ _ (by omega)).mono ?_; rintro e w' ⟨rfl, rfl⟩) | (go_at_call 47; refine (l01In_no _ _ _ _ (by omega)).mono ?_; rintro e w' ⟨rfl, rfl⟩))
        go_ret
        exact ⟨_, _, _, rfl, by rw [HV.out]; exact Own.nil_ _ _ _, Below.refl _ _⟩
    · have HV := Lib.hid (stepV_no (x := x) (y := y) (by omega))
      have hy2 : y < 0 := by omega
      go_enter Try.func16, Try.ntmps16
      go_wp2_with (first | (go_at_call 46; refine (specN_yes _ _ (by omega)).mono ?_; rintro e w' ⟨rfl, rfl⟩) | (go_at_call 47; refine (l01In_no _ _ _ _ (by omega)).mono ?_; rintro e w' ⟨rfl, rfl⟩))
      go_ret
      exact ⟨_, _, _, rfl, by rw [HV.out]; exact Own.nil_ _ _ _, Below.refl _ _⟩
  · have HV := Lib.hid (stepV_no (x := x) (y := y) (by omega))
    go_enter Try.func16, Try.ntmps16
    go_wp2_with (go_at_call 46; refine (specN_no _ _ (by omega)).mono ?_; rintro e w' ⟨rfl, rfl⟩)
    go_ret
    exact ⟨_, _, _, rfl, by rw [HV.out]; exact Own.nil_ _ _ _, Below.refl _ _⟩

set_option maxHeartbeats 2000000 in
theorem implStep (x y : Int) (w : World) :
    Calls Try.prog 17 #[.int .i64 x, .int .i64 y] w fun e w' => ∃ A' n' c', e = .returned (.slice A' n' c') ∧ OwnI w' w.heap.size 3 A' n' c' (stepV x y) ∧ Below w.heap.size w w' := by
  by_cases hx : 1 ≤ x ∧ x ≤ 8
  · by_cases hy0 : 0 ≤ y
    · by_cases hy1 : y ≤ 8000
      · obtain ⟨m, rfl⟩ := Int.eq_ofNat_of_zero_le (show 0 ≤ x by omega)
        obtain ⟨s, rfl⟩ := Int.eq_ofNat_of_zero_le hy0
        have hm1 : 1 ≤ m := by omega
        have hm8 : m ≤ 8 := by omega
        have hs : s ≤ 8000 := by omega
        have HV := Lib.hid (stepV_yes hm1 hm8 hs)
        have hmz : ((m : Int) == 0) = false := by simp; omega
        have d1 : decide ((s : Int) < 0) = false := by simp
        have d2 : decide (8000 < (s : Int)) = false := by simp; omega
        clear hx hy0 hy1
        go_enter Try.func17, Try.ntmps17
        go_wp2_with (go_at_call 48; refine (implW_yes _ _ (by omega)).mono ?_; rintro e w' ⟨rfl, rfl⟩)
        go_loopw [5, 20] (fun v i wr => ∃ q : Nat, ∃ A' c', q ≤ m ∧ i = .int .i64 q ∧ v = .slice A' q c' ∧ OwnI wr w.heap.size 3 A' q c' (stepTo m s q) ∧ Below w.heap.size w wr) (fun _ i _ => m - (intOf i).toNat)
        case atStart => exact ⟨0, _, _, Nat.zero_le _, rfl, rfl, by simpa [OwnI, stepTo] using own_empty w 3, below_alloc w _⟩
        case round =>
          obtain ⟨q, A', c', hq, rfl, rfl, hown, hbl⟩ := hrel
          have hsz := hbl.size
          have HE := Lib.hid (show stepE m s q = ((s : Int) + m - 1 - q) / m from rfl)
          by_cases hlt : q < m
          · go_wp2_with (at_builtin; refine wpL_append1 _ rfl _ _ _ rfl w.heap.size 3 (.int .i64 0) 8 Try.underlying22 intInfo rfl _ q _ _ rfl hown _ rfl rfl (by unfold maxLen; omega) (by omega) hsz ?_)
            intro A2 c2 w2 ho2 hg2 hat2
            have hb2 := own_below hown hbl hsz hg2
            rw [← HE.out] at ho2
            go_wp2
            go_roundw
            case rel => exact ⟨q + 1, A2, c2, by omega, by go_num, rfl, by rw [OwnI, stepTo_succ, List.map_append]; simpa using ho2, hb2⟩
            case measure => simp [intOf]; omega
          · obtain rfl : q = m := by omega
            go_wp2
            go_ret
            exact ⟨_, _, _, rfl, by rw [HV.out]; exact hown, hbl⟩
      · have HV := Lib.hid (stepV_no (x := x) (y := y) (by omega))
        have hy2 : 8000 < y := by omega
        go_enter Try.func17, Try.ntmps17
        go_wp2_with (go_at_call 48; refine (implW_yes _ _ (by omega)).mono ?_; rintro e w' ⟨rfl, rfl⟩)
        go_ret
        exact ⟨_, _, _, rfl, by rw [HV.out]; exact Own.nil_ _ _ _, Below.refl _ _⟩
    · have HV := Lib.hid (stepV_no (x := x) (y := y) (by omega))
      have hy2 : y < 0 := by omega
      go_enter Try.func17, Try.ntmps17
      go_wp2_with (go_at_call 48; refine (implW_yes _ _ (by omega)).mono ?_; rintro e w' ⟨rfl, rfl⟩)
      go_ret
      exact ⟨_, _, _, rfl, by rw [HV.out]; exact Own.nil_ _ _ _, Below.refl _ _⟩
  · have HV := Lib.hid (stepV_no (x := x) (y := y) (by omega))
    go_enter Try.func17, Try.ntmps17
    go_wp2_with (go_at_call 48; refine (implW_no _ _ (by omega)).mono ?_; rintro e w' ⟨rfl, rfl⟩)
    go_ret
    exact ⟨_, _, _, rfl, by rw [HV.out]; exact Own.nil_ _ _ _, Below.refl _ _⟩

end Go.Proofs.Ytcijnmooifcicaa
