/- Chapter 15: ShiftOrder; the paths. -/
import Derived.Test.YtaeabpmpfadkjaaC15a
namespace Go.Proofs.Ytaeabpmpfadkjaa
open Go.RowKit Go.Deep
set_option linter.unusedVariables false
attribute [local go_sem] bits_and_one

def shiftL (n k : Nat) : List Int := (List.range n).map fun i => (((i + k) % n : Nat) : Int)
def shiftV (n k : Int) : List Int := if IsN n ∧ 0 ≤ k ∧ k < n then shiftL n.toNat k.toNat else []
def shiftTo (n k j : Nat) : List Int := (List.range j).map fun i => (((i + k) % n : Nat) : Int)
theorem shiftTo_succ (n k j : Nat) : shiftTo n k (j + 1) = shiftTo n k j ++ [(((j + k) % n : Nat) : Int)] := by simp [shiftTo, List.range_succ]
theorem shiftV_len (n k : Int) : (shiftV n k).length ≤ 1048576 := by
  unfold shiftV
  split
  · rename_i h
    obtain ⟨m, rfl, hm⟩ := isN_nat h.1
    simp [shiftL]; omega
  · simp
attribute [irreducible] shiftTo

theorem specShift (n k : Int) (w : World) :
    Calls Try.prog 17 #[.int .i64 n, .int .i64 k] w fun e w' => ∃ A' n' c', e = .returned (.slice A' n' c') ∧ OwnI w' w.heap.size 3 A' n' c' (shiftV n k) ∧ Below w.heap.size w w' := by
  by_cases h : IsN n
  · obtain ⟨m, rfl, hm⟩ := isN_nat h
    have hm8 : m ≤ 8 := by omega
    have hm2 : 2 ≤ m := by omega
    have hsg : 1 ≤ stgN m ∧ stgN m ≤ 3 := by rcases hm with rfl | rfl | rfl <;> decide
    have hsg1 := hsg.1
    have hsg2 := hsg.2
    by_cases h0 : 0 ≤ k
    · by_cases h1 : k < m
      · obtain ⟨j, rfl⟩ := Int.eq_ofNat_of_zero_le h0
        have HV := Lib.hid (show shiftV (m : Int) (j : Int) = shiftTo m j m by rw [shiftV, if_pos ⟨h, h0, h1⟩, Int.toNat_natCast, Int.toNat_natCast, shiftL, shiftTo])
        have hj : j < m := by omega
        have d2 : decide ((j : Int) < 0) = false := by simp
        have d3 : decide ((m : Int) ≤ (j : Int)) = false := by simp; omega
        have d4 : decide (m ≤ j) = false := by simp; omega
        have d5 : decide ((stgN m : Int) < 0) = false := by simp
        clear h0 h1 hsg
        go_enter Try.func17, Try.ntmps17
        go_wp2_with (first | (go_at_call 44; refine (specN_yes _ _ h).mono ?_; rintro e w' ⟨rfl, rfl⟩) | (go_at_call 47; refine (l01In_yes _ _ _ _ (by omega)).mono ?_; rintro e w' ⟨rfl, rfl⟩))
        clear h hm
        go_loopw [5, 6] (fun v i wr => ∃ q : Nat, ∃ A' c', q ≤ m ∧ i = .int .i64 q ∧ v = .slice A' q c' ∧ OwnI wr w.heap.size 3 A' q c' (shiftTo m j q) ∧ Below w.heap.size w wr) (fun _ i _ => m - (intOf i).toNat)
        case atStart => exact ⟨0, _, _, Nat.zero_le _, rfl, rfl, by simpa [OwnI, shiftTo] using own_empty w 3, below_alloc w _⟩
        case round =>
          obtain ⟨q, A', c', hq, rfl, rfl, hown, hbl⟩ := hrel
          have hsz := hbl.size
          by_cases hlt : q < m
          · go_wp2_with (at_builtin; refine wpL_append1 _ rfl _ _ _ rfl w.heap.size 3 (.int .i64 0) 8 Try.underlying24 intInfo rfl _ q _ _ rfl hown _ rfl rfl (by unfold maxLen; omega) (by omega) hsz ?_)
            intro A2 c2 w2 ho2 hg2 hat2
            have hb2 := own_below hown hbl hsz hg2
            go_wp2
            go_roundw
            case rel => exact ⟨q + 1, A2, c2, by omega, by go_num, rfl, by rw [OwnI, shiftTo_succ, List.map_append]; simpa using ho2, hb2⟩
            case measure => simp [intOf]; omega
          · obtain rfl : q = m := by omega
            go_wp2
            go_ret
            exact ⟨_, _, _, rfl, by rw [HV.out]; exact hown, hbl⟩
      · have HV := Lib.hid (show shiftV (m : Int) k = [] from if_neg (by omega))
        go_enter Try.func17, Try.ntmps17
        go_wp2_with (first | (go_at_call 44; refine (specN_yes _ _ h).mono ?_; rintro e w' ⟨rfl, rfl⟩) | (go_at_call 47; refine (l01In_no _ _ _ _ (by omega)).mono ?_; rintro e w' ⟨rfl, rfl⟩))
        go_ret
        exact ⟨_, _, _, rfl, by rw [HV.out]; exact Own.nil_ _ _ _, Below.refl _ _⟩
    · have HV := Lib.hid (show shiftV (m : Int) k = [] from if_neg (by omega))
      go_enter Try.func17, Try.ntmps17
      go_wp2_with (first | (go_at_call 44; refine (specN_yes _ _ h).mono ?_; rintro e w' ⟨rfl, rfl⟩) | (go_at_call 47; refine (l01In_no _ _ _ _ (by omega)).mono ?_; rintro e w' ⟨rfl, rfl⟩))
      go_ret
      exact ⟨_, _, _, rfl, by rw [HV.out]; exact Own.nil_ _ _ _, Below.refl _ _⟩
  · have HV := Lib.hid (show shiftV n k = [] from if_neg (fun x => h x.1))
    go_enter Try.func17, Try.ntmps17
    go_wp2_with ((go_at_call 44; refine (specN_no _ _ h).mono ?_; rintro e w' ⟨rfl, rfl⟩))
    go_ret
    exact ⟨_, _, _, rfl, by rw [HV.out]; exact Own.nil_ _ _ _, Below.refl _ _⟩

theorem implShift (n k : Int) (w : World) :
    Calls Try.prog 18 #[.int .i64 n, .int .i64 k] w fun e w' => ∃ A' n' c', e = .returned (.slice A' n' c') ∧ OwnI w' w.heap.size 3 A' n' c' (shiftV n k) ∧ Below w.heap.size w w' := by
  by_cases h : IsN n
  · obtain ⟨m, rfl, hm⟩ := isN_nat h
    have hm8 : m ≤ 8 := by omega
    have hm2 : 2 ≤ m := by omega
    have hsg : 1 ≤ stgN m ∧ stgN m ≤ 3 := by rcases hm with rfl | rfl | rfl <;> decide
    have hsg1 := hsg.1
    have hsg2 := hsg.2
    by_cases h0 : 0 ≤ k
    · by_cases h1 : k < m
      · obtain ⟨j, rfl⟩ := Int.eq_ofNat_of_zero_le h0
        have HV := Lib.hid (show shiftV (m : Int) (j : Int) = shiftTo m j m by rw [shiftV, if_pos ⟨h, h0, h1⟩, Int.toNat_natCast, Int.toNat_natCast, shiftL, shiftTo])
        have hj : j < m := by omega
        have d2 : decide ((j : Int) < 0) = false := by simp
        have d3 : decide ((m : Int) ≤ (j : Int)) = false := by simp; omega
        have d4 : decide (m ≤ j) = false := by simp; omega
        have d5 : decide ((stgN m : Int) < 0) = false := by simp
        clear h0 h1 hsg
        go_enter Try.func18, Try.ntmps18
        go_wp2_with ((go_at_call 46; refine (implStages_yes m _ hm).mono ?_; rintro e w' ⟨rfl, rfl⟩))
        clear h hm
        go_loopw [5, 21] (fun v i wr => ∃ q : Nat, ∃ A' c', q ≤ m ∧ i = .int .i64 q ∧ v = .slice A' q c' ∧ OwnI wr w.heap.size 3 A' q c' (shiftTo m j q) ∧ Below w.heap.size w wr) (fun _ i _ => m - (intOf i).toNat)
        case atStart => exact ⟨0, _, _, Nat.zero_le _, rfl, rfl, by simpa [OwnI, shiftTo] using own_empty w 3, below_alloc w _⟩
        case round =>
          obtain ⟨q, A', c', hq, rfl, rfl, hown, hbl⟩ := hrel
          have hsz := hbl.size
          by_cases hlt : q < m
          · go_wp2_with (at_builtin; refine wpL_append1 _ rfl _ _ _ rfl w.heap.size 3 (.int .i64 0) 8 Try.underlying24 intInfo rfl _ q _ _ rfl hown _ rfl rfl (by unfold maxLen; omega) (by omega) hsz ?_)
            intro A2 c2 w2 ho2 hg2 hat2
            have hb2 := own_below hown hbl hsz hg2
            go_wp2
            go_roundw
            case rel => exact ⟨q + 1, A2, c2, by omega, by go_num, rfl, by rw [OwnI, shiftTo_succ, List.map_append]; simpa using ho2, hb2⟩
            case measure => simp [intOf]; omega
          · obtain rfl : q = m := by omega
            go_wp2
            go_ret
            exact ⟨_, _, _, rfl, by rw [HV.out]; exact hown, hbl⟩
      · have HV := Lib.hid (show shiftV (m : Int) k = [] from if_neg (by omega))
        go_enter Try.func18, Try.ntmps18
        go_wp2_with ((go_at_call 46; refine (implStages_yes m _ hm).mono ?_; rintro e w' ⟨rfl, rfl⟩))
        go_ret
        exact ⟨_, _, _, rfl, by rw [HV.out]; exact Own.nil_ _ _ _, Below.refl _ _⟩
    · have HV := Lib.hid (show shiftV (m : Int) k = [] from if_neg (by omega))
      go_enter Try.func18, Try.ntmps18
      go_wp2_with ((go_at_call 46; refine (implStages_yes m _ hm).mono ?_; rintro e w' ⟨rfl, rfl⟩))
      go_ret
      exact ⟨_, _, _, rfl, by rw [HV.out]; exact Own.nil_ _ _ _, Below.refl _ _⟩
  · have HV := Lib.hid (show shiftV n k = [] from if_neg (fun x => h x.1))
    go_enter Try.func18, Try.ntmps18
    go_wp2_with ((go_at_call 46; refine (implStages_no _ _ h).mono ?_; rintro e w' ⟨rfl, rfl⟩))
    go_ret
    exact ⟨_, _, _, rfl, by rw [HV.out]; exact Own.nil_ _ _ _, Below.refl _ _⟩

set_option maxHeartbeats 2000000 in
theorem lawShiftOrder (w : World) (x0 : Int) (x1 : Int) (_g0 : In64 x0) (_g1 : In64 x1) :
    Calls Try.prog 5 #[.int .i64 x0, .int .i64 x1] w fun e w' => e = .returned (.bool true) ∧ Below w.heap.size w w' := by
  have hB0 : Below w.heap.size w w := Below.refl _ _
  go_enter Try.func5, Try.ntmps5
  go_wp2_with fail
  refine (specShift x0 x1 w  ).mono ?_
  rintro e w1 ⟨AW0, nW0, cW0, rfl, oW0, hb1⟩
  have hs1 := hb1.size
  have hB1 := hB0.trans (hb1.mono hB0.size)
  have iW0 := oW0.blk_
  go_wp2_with fail
  refine (implShift x0 x1 w1  ).mono ?_
  rintro e w2 ⟨AG0, nG0, cG0, rfl, oG0, hb2⟩
  have hs2 := hb2.size
  have hB2 := hB1.trans (hb2.mono hB1.size)
  replace oW0 := oW0.below hb2
  have iG0 := oG0.blk_
  obtain rfl : nW0 = nG0 := by rw [← oW0.lenI, oG0.lenI]
  have hl0 : nW0 ≤ 1048576 := by rw [← oW0.lenI]; exact shiftV_len _ _
  go_wp2_with fail
  refine (eqIntS_yes AG0 AW0 nW0 cG0 cW0 _ w2 oG0.rd oW0.rd (by unfold maxLen; omega)).mono ?_
  rintro e w3 ⟨rfl, hb3⟩
  have hs3 := hb3.size
  have hB3 := hB2.trans (hb3.mono hB2.size)
  replace oW0 := oW0.below hb3
  replace oG0 := oG0.below hb3
  go_wp2_with fail
  refine (markIntS_any AG0 nW0 cG0 _ _ (1) w3 oG0 (by omega) (by omega) (by omega)).mono ?_
  rintro e w4 ⟨rfl, oN, hg4⟩
  have hs4 := hg4.size
  have hB4 := below_of_grown hB3 hg4 hB3.size (fun g e => by have := iG0 g e; omega)
  replace oW0 := oW0.kept hg4 (fun g e1 e2 => by have := iW0 g e1; have := iG0 g e2.symm; omega)
  clear oG0
  have oG0 := oN
  clear oN
  go_wp2_with fail
  refine (heldIntS_any AG0 nW0 cG0 (1) w4 oG0.rd (by omega) (by omega) (by omega)).mono ?_
  rintro e w5 ⟨rfl, hb5⟩
  have hs5 := hb5.size
  have hB5 := hB4.trans (hb5.mono hB4.size)
  replace oW0 := oW0.below hb5
  replace oG0 := oG0.below hb5
  go_wp2_with fail
  refine (implShift x0 x1 w5  ).mono ?_
  rintro e w6 ⟨AK0, nK0, cK0, rfl, oK0, hb6⟩
  have hs6 := hb6.size
  have hB6 := hB5.trans (hb6.mono hB5.size)
  replace oW0 := oW0.below hb6
  replace oG0 := oG0.below hb6
  have iK0 := oK0.blk_
  obtain rfl : nK0 = nW0 := by rw [← oK0.lenI, oW0.lenI]
  go_wp2_with fail
  refine (eqIntS_yes AK0 AW0 nK0 cK0 cW0 _ w6 oK0.rd oW0.rd (by unfold maxLen; omega)).mono ?_
  rintro e w7 ⟨rfl, hb7⟩
  have hs7 := hb7.size
  have hB7 := hB6.trans (hb7.mono hB6.size)
  replace oW0 := oW0.below hb7
  replace oG0 := oG0.below hb7
  replace oK0 := oK0.below hb7
  go_wp2_with fail
  refine (heldIntS_any AG0 nK0 cG0 (1) w7 oG0.rd (by omega) (by omega) (by omega)).mono ?_
  rintro e w8 ⟨rfl, hb8⟩
  have hs8 := hb8.size
  have hB8 := hB7.trans (hb8.mono hB7.size)
  replace oW0 := oW0.below hb8
  replace oG0 := oG0.below hb8
  replace oK0 := oK0.below hb8
  go_wp2_with fail
  go_ret
  exact ⟨rfl, hB8⟩

end Go.Proofs.Ytaeabpmpfadkjaa
