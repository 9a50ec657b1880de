/- Chapter 12: cmp.Compare at int, slices.Compare at []int; the lexicographic order. -/
import Derived.Test.YtobdkfhmmpigiaaGreatC12s
import Derived.Shelf.SlSortCmp.Whole1
namespace Go.Proofs.YtobdkfhmmpigiaaGreat
open Go.RowKit Go.Deep
set_option linter.unusedVariables false

theorem implNaN (x : Int) (w : World) : Calls Tryz.prog 87 #[.int .i64 x] w fun e w' => e = .returned (.bool false) ∧ w = w' := by
  go_enter Tryz.func87, Tryz.ntmps87
  go_wp2
  go_ret
  exact ⟨by simp, rfl⟩
def cmp1 (x y : Int) : Int := if x < y then -1 else if y < x then 1 else 0
theorem implCmp (x y : Int) (w : World) : Calls Tryz.prog 70 #[.int .i64 x, .int .i64 y] w fun e w' => e = .returned (.int .i64 (cmp1 x y)) ∧ w = w' := by
  have CX := Lib.hid (implNaN x w)
  have CY := Lib.hid (implNaN y w)
  rcases (show x < y ∨ (¬ x < y ∧ y < x) ∨ (¬ x < y ∧ ¬ y < x) by omega) with h | ⟨h, h2⟩ | ⟨h, h2⟩
  · have HE := Lib.hid (show cmp1 x y = -1 by unfold cmp1; rw [if_pos h])
    go_enter Tryz.func70, Tryz.ntmps70
    go_wp2_with fail
    refine CX.out.mono ?_
    rintro e w' ⟨rfl, hww⟩
    obtain rfl := hww
    go_wp2_with fail
    refine CY.out.mono ?_
    rintro e w' ⟨rfl, hww⟩
    obtain rfl := hww
    go_wp2_with fail
    go_ret
    exact ⟨by rw [HE.out]; rfl, rfl⟩
  · have HE := Lib.hid (show cmp1 x y = 1 by unfold cmp1; rw [if_neg h, if_pos h2])
    go_enter Tryz.func70, Tryz.ntmps70
    go_wp2_with fail
    refine CX.out.mono ?_
    rintro e w' ⟨rfl, hww⟩
    obtain rfl := hww
    go_wp2_with fail
    refine CY.out.mono ?_
    rintro e w' ⟨rfl, hww⟩
    obtain rfl := hww
    go_wp2_with fail
    go_ret
    exact ⟨by rw [HE.out]; rfl, rfl⟩
  · have HE := Lib.hid (show cmp1 x y = 0 by unfold cmp1; rw [if_neg h, if_neg h2])
    go_enter Tryz.func70, Tryz.ntmps70
    go_wp2_with fail
    refine CX.out.mono ?_
    rintro e w' ⟨rfl, hww⟩
    obtain rfl := hww
    go_wp2_with fail
    refine CY.out.mono ?_
    rintro e w' ⟨rfl, hww⟩
    obtain rfl := hww
    go_wp2_with fail
    go_ret
    exact ⟨by rw [HE.out]; rfl, rfl⟩

/-- The lexicographic comparison. -/
def cmpV : List Int → List Int → Int
  | [], [] => 0
  | [], _ :: _ => -1
  | _ :: _, [] => 1
  | x :: a, y :: b => if x < y then -1 else if y < x then 1 else cmpV a b
theorem cmpV_nn : cmpV [] [] = 0 := rfl
theorem cmpV_end {a b : List Int} {k : Nat} (h1 : k = a.length) (h2 : k < b.length) : cmpV (a.drop k) (b.drop k) = -1 := by
  rw [List.drop_of_length_le (l := a) (by omega), drop_nth h2]; rfl
theorem cmpV_end2 {a b : List Int} {k : Nat} (h1 : k < a.length) (h2 : b.length ≤ k) : cmpV (a.drop k) (b.drop k) = 1 := by
  rw [List.drop_of_length_le (l := b) h2, drop_nth h1]; rfl
theorem cmpV_both {a b : List Int} {k : Nat} (h1 : k = a.length) (h2 : b.length ≤ k) : cmpV (a.drop k) (b.drop k) = 0 := by
  rw [List.drop_of_length_le (l := a) (by omega), List.drop_of_length_le (l := b) h2]; rfl
theorem cmpV_same {a b : List Int} {k : Nat} (h1 : k < a.length) (h2 : k < b.length) (h : cmp1 (nth a k) (nth b k) = 0) : cmpV (a.drop k) (b.drop k) = cmpV (a.drop (k + 1)) (b.drop (k + 1)) := by
  unfold cmp1 at h
  rw [drop_nth h1, drop_nth h2, cmpV]
  split at h
  · cases h
  · split at h
    · cases h
    · rename_i q1 q2
      rw [if_neg q1, if_neg q2]
theorem cmpV_diff {a b : List Int} {k : Nat} (h1 : k < a.length) (h2 : k < b.length) (h : ¬ cmp1 (nth a k) (nth b k) = 0) : cmpV (a.drop k) (b.drop k) = cmp1 (nth a k) (nth b k) := by
  unfold cmp1 at h ⊢
  rw [drop_nth h1, drop_nth h2, cmpV]
  by_cases q1 : nth a k < nth b k
  · rw [if_pos q1, if_pos q1]
  · rw [if_neg q1, if_neg q1]
    by_cases q2 : nth b k < nth a k
    · rw [if_pos q2, if_pos q2]
    · rw [if_neg q1, if_neg q2] at h
      exact absurd rfl h
theorem cmpV_refl : ∀ a : List Int, cmpV a a = 0
  | [] => rfl
  | x :: a => by rw [cmpV, if_neg (by omega), if_neg (by omega), cmpV_refl a]
theorem cmpV_trans : ∀ a b c : List Int, cmpV a b < 0 → cmpV b c < 0 → cmpV a c < 0
  | [], _, [], h1, h2 => by
    rename_i b
    cases b with
    | nil => simp [cmpV] at h1
    | cons y b => simp [cmpV] at h2
  | [], _, z :: c, _, _ => by simp [cmpV]
  | x :: a, [], c, h1, h2 => by simp [cmpV] at h1
  | x :: a, y :: b, [], h1, h2 => by simp [cmpV] at h2
  | x :: a, y :: b, z :: c, h1, h2 => by
    have ih := cmpV_trans a b c
    simp only [cmpV] at h1 h2 ⊢
    by_cases p1 : x < y <;> by_cases p2 : y < x <;> by_cases p3 : y < z <;> by_cases p4 : z < y <;> simp only [p1, p2, p3, p4, if_true, if_false] at h1 h2 <;> by_cases p5 : x < z <;> by_cases p6 : z < x <;> simp only [p5, p6, if_true, if_false] <;> first | omega | exact ih h1 h2
theorem cmpV_ntrans : ∀ a b c : List Int, ¬ cmpV a b < 0 → ¬ cmpV b c < 0 → ¬ cmpV a c < 0
  | [], b, [], h1, h2 => by simp [cmpV]
  | [], [], z :: c, h1, h2 => by simp [cmpV] at h2
  | [], y :: b, z :: c, h1, h2 => by simp [cmpV] at h1
  | x :: a, b, [], h1, h2 => by simp [cmpV]
  | x :: a, [], z :: c, h1, h2 => by simp [cmpV] at h2
  | x :: a, y :: b, z :: c, h1, h2 => by
    have ih := cmpV_ntrans a b c
    simp only [cmpV] at h1 h2 ⊢
    by_cases p1 : x < y <;> by_cases p2 : y < x <;> by_cases p3 : y < z <;> by_cases p4 : z < y <;> simp only [p1, p2, p3, p4, if_true, if_false] at h1 h2 <;> by_cases p5 : x < z <;> by_cases p6 : z < x <;> simp only [p5, p6, if_true, if_false] <;> first | omega | exact ih h1 h2
theorem cmpV_eq : ∀ a b : List Int, ¬ cmpV a b < 0 → ¬ cmpV b a < 0 → a = b
  | [], [], _, _ => rfl
  | [], y :: b, h1, _ => by simp [cmpV] at h1
  | x :: a, [], _, h2 => by simp [cmpV] at h2
  | x :: a, y :: b, h1, h2 => by
    have ih := cmpV_eq a b
    simp only [cmpV] at h1 h2
    by_cases p1 : x < y <;> by_cases p2 : y < x <;> simp only [p1, p2, if_true, if_false] at h1 h2
    · omega
    · omega
    · omega
    · have e : x = y := by omega
      rw [e, ih h1 h2]
attribute [irreducible] cmp1 cmpV

set_option maxHeartbeats 2000000 in
theorem implCompare (A B : Option Addr) (n m c d : Nat) (a b : List Int) (w : World) (ha : RdI w A n a) (hb : RdI w B m b) (hn : n ≤ 1048576) (hm : m ≤ 1048576) :
    Calls Tryz.prog 55 #[.slice A n c, .slice B m d] w fun e w' => e = .returned (.int .i64 (cmpV a b)) ∧ w = w' := by
  have HLA := Lib.hid ha.lenI
  have HLB := Lib.hid hb.lenI
  go_enter Tryz.func55, Tryz.ntmps55
  go_wp2_with fail
  go_loopw [11] (fun iv wr => ∃ k : Nat, k ≤ n ∧ iv = .int .i64 (k : Nat) ∧ Hid (cmpV a b = cmpV (a.drop k) (b.drop k)) ∧ (k = 0 ∨ k ≤ m) ∧ w = wr) (fun iv _ => n - (intOf iv).toNat)
  case atStart => exact ⟨0, Nat.zero_le _, rfl, Lib.hid rfl, .inl rfl, rfl⟩
  case round =>
    obtain ⟨k, hk, rfl, HW, hkm, hww⟩ := hrel
    obtain rfl := hww
    have hkm2 : k ≤ m := by omega
    clear hkm
    by_cases hlt : k < n
    · obtain ⟨a1, rfl, _, l1⟩ := ha.at_ hlt
      by_cases hlt2 : k < m
      · obtain ⟨b1, rfl, _, l2⟩ := hb.at_ hlt2
        have CC := Lib.hid (implCmp (nth a k) (nth b k) w)
        by_cases he : cmp1 (nth a k) (nth b k) = 0
        · have HS := Lib.hid (show cmpV a b = cmpV (a.drop (k + 1)) (b.drop (k + 1)) by rw [HW.out]; exact cmpV_same (by rw [HLA.out]; exact hlt) (by rw [HLB.out]; exact hlt2) he)
          rw [he] at CC
          clear he
          go_wp2_with fail
          refine CC.out.mono ?_
          rintro e w' ⟨rfl, hww⟩
          obtain rfl := hww
          go_wp2_with fail
          go_roundw
          case rel => exact ⟨k + 1, by omega, by go_num, HS, .inr (by omega), by first | rfl | trivial⟩
          case measure => (simp [intOf] <;> omega)
        · have HS := Lib.hid (show cmpV a b = cmp1 (nth a k) (nth b k) by rw [HW.out]; exact cmpV_diff (by rw [HLA.out]; exact hlt) (by rw [HLB.out]; exact hlt2) he)
          obtain ⟨z, hz⟩ : ∃ z, cmp1 (nth a k) (nth b k) = z := ⟨_, rfl⟩
          rw [hz] at he CC HS
          have e1 : (z != 0) = true := by simp [he]
          clear he hz
          go_wp2_with fail
          refine CC.out.mono ?_
          rintro e w' ⟨rfl, hww⟩
          obtain rfl := hww
          go_wp2_with fail
          go_ret
          exact ⟨by rw [HS.out]; rfl, rfl⟩
      · have HS := Lib.hid (show cmpV a b = 1 by rw [HW.out]; exact cmpV_end2 (by rw [HLA.out]; exact hlt) (by rw [HLB.out]; omega))
        go_wp2_with fail
        go_ret
        exact ⟨by rw [HS.out]; rfl, rfl⟩
    · obtain rfl : k = n := by omega
      by_cases hlt2 : k < m
      · have HS := Lib.hid (show cmpV a b = -1 by rw [HW.out]; exact cmpV_end HLA.out.symm (by rw [HLB.out]; exact hlt2))
        go_wp2_with fail
        go_ret
        exact ⟨by rw [HS.out]; rfl, rfl⟩
      · have HS := Lib.hid (show cmpV a b = 0 by rw [HW.out]; exact cmpV_both HLA.out.symm (by rw [HLB.out]; omega))
        go_wp2_with fail
        go_ret
        exact ⟨by rw [HS.out]; rfl, rfl⟩
end Go.Proofs.YtobdkfhmmpigiaaGreat
