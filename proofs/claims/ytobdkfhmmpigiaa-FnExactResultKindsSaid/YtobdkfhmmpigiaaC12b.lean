/- Chapter 12: the reference's comparison of sets of masks (l12Less) and its test for a known one (l12Has). -/
import Derived.Test.YtobdkfhmmpigiaaC12a
namespace Go.Proofs.Ytobdkfhmmpigiaa
open Go.RowKit Go.Deep
set_option linter.unusedVariables false

/-- Is a list of masks less than another one? -/
def lessV : List Int → List Int → Bool
  | [], b => decide (0 < b.length)
  | _ :: _, [] => false
  | x :: a, y :: b => if x = y then lessV a b else decide (x < y)
theorem lessV_nil (b : List Int) : lessV [] b = decide (0 < b.length) := by cases b <;> rfl
theorem lessV_end {a : List Int} (h : 0 < a.length) : lessV a [] = false := by
  cases a with
  | nil => cases h
  | cons x a => rfl
theorem lessV_same {a b : List Int} {k : Nat} (h1 : k < a.length) (h2 : k < b.length) (h : nth a k = nth b k) : lessV (a.drop k) (b.drop k) = lessV (a.drop (k + 1)) (b.drop (k + 1)) := by
  rw [drop_nth h1, drop_nth h2, lessV, if_pos h]
theorem lessV_diff {a b : List Int} {k : Nat} (h1 : k < a.length) (h2 : k < b.length) (h : ¬ nth a k = nth b k) : lessV (a.drop k) (b.drop k) = decide (nth a k < nth b k) := by
  rw [drop_nth h1, drop_nth h2, lessV, if_neg h]

set_option maxHeartbeats 2000000 in
theorem specLess (A B : Option Addr) (n m c d : Nat) (a b : List Int) (w : World) (ha : RdI w A n a) (hb : RdI w B m b) (hn : n ≤ 1048576) (hm : m ≤ 1048576) :
    Calls Try.prog 19 #[.slice A n c, .slice B m d] w fun e w' => e = .returned (.bool (lessV a b)) ∧ w = w' := by
  have HLA := Lib.hid ha.lenI
  have HLB := Lib.hid hb.lenI
  go_enter Try.func19, Try.ntmps19
  go_wp2_with fail
  go_loopw [9] (fun iv wr => ∃ k : Nat, k ≤ n ∧ k ≤ m ∧ iv = .int .i64 k ∧ Hid (lessV a b = lessV (a.drop k) (b.drop k)) ∧ w = wr) (fun iv _ => n - (intOf iv).toNat)
  case atStart => exact ⟨0, Nat.zero_le _, Nat.zero_le _, rfl, Lib.hid rfl, rfl⟩
  case round =>
    obtain ⟨k, hk, hkm, rfl, HW, rfl⟩ := hrel
    by_cases hlt : k < n
    · obtain ⟨a1, rfl, _, l1⟩ := ha.at_ hlt
      by_cases hlt2 : k < m
      · obtain ⟨b1, rfl, _, l2⟩ := hb.at_ hlt2
        by_cases he : nth a k = nth b k
        · have HS := Lib.hid (show lessV a b = lessV (a.drop (k + 1)) (b.drop (k + 1)) by rw [HW.out]; exact lessV_same (by rw [HLA.out]; exact hlt) (by rw [HLB.out]; exact hlt2) he)
          rw [he] at l1
          clear he
          go_wp2_with fail
          go_roundw
          case rel => exact ⟨k + 1, by omega, by omega, by go_num, HS, by first | rfl | trivial⟩
          case measure => simp [intOf]; omega
        · have HS := Lib.hid (show lessV a b = decide (nth a k < nth b k) by rw [HW.out]; exact lessV_diff (by rw [HLA.out]; exact hlt) (by rw [HLB.out]; exact hlt2) he)
          go_wp2_with fail
          go_ret
          exact ⟨by rw [HS.out]; rfl, rfl⟩
      · obtain rfl : k = m := by omega
        have HS := Lib.hid (show lessV a b = false by rw [HW.out, List.drop_of_length_le (l := b) (by rw [HLB.out]; omega)]; exact lessV_end (by rw [List.length_drop, HLA.out]; omega))
        go_wp2_with fail
        go_ret
        exact ⟨by rw [HS.out]; rfl, rfl⟩
    · obtain rfl : k = n := by omega
      have HS := Lib.hid (show lessV a b = decide (k < m) by
        rw [HW.out, List.drop_of_length_le (l := a) (by rw [HLA.out]; omega), lessV_nil, List.length_drop, HLB.out]
        exact decide_eq_decide.2 (by omega))
      go_wp2_with fail
      go_ret
      exact ⟨by rw [HS.out]; first | rfl | simp, rfl⟩

/-- Does a list of sets, up to its k-th, contain a set? -/
def hasTo (zss : List (List Int)) (set : List Int) : Nat → Bool
  | 0 => false
  | k + 1 => hasTo zss set k || ((row zss k).length == set.length && witV (row zss k) set)
def hasV (zss : List (List Int)) (set : List Int) : Bool := hasTo zss set zss.length
theorem hasTo_zero (zss : List (List Int)) (set : List Int) : hasTo zss set 0 = false := rfl
theorem hasTo_succ (zss : List (List Int)) (set : List Int) (k : Nat) : hasTo zss set (k + 1) = (hasTo zss set k || ((row zss k).length == set.length && witV (row zss k) set)) := rfl
theorem hasTo_on {zss : List (List Int)} {set : List Int} {k : Nat} (h : hasTo zss set k = true) : ∀ m, k ≤ m → hasTo zss set m = true := by
  intro m
  induction m with
  | zero => intro hm; have : k = 0 := by omega
            subst this; exact h
  | succ m ih =>
    intro hm
    by_cases e : k = m + 1
    · subst e; exact h
    · rw [hasTo_succ, ih (by omega)]; rfl
attribute [irreducible] hasTo lessV

set_option maxHeartbeats 2000000 in
theorem specHas (A B : Option Addr) (n m c d : Nat) (zss : List (List Int)) (set : List Int) (w : World) (ha : RdM w A n zss) (hb : RdI w B m set) (hn : n ≤ 1048576) (hm : m ≤ 1048576) (hr : ∀ j, j < n → (row zss j).length ≤ 1048576) :
    Calls Try.prog 18 #[.slice A n c, .slice B m d] w fun e w' => e = .returned (.bool (hasV zss set)) ∧ w = w' := by
  have HLA := Lib.hid ha.1
  have HLB := Lib.hid hb.lenI
  go_enter Try.func18, Try.ntmps18
  go_wp2_with fail
  go_loopw [9] (fun iv wr => ∃ k : Nat, k ≤ n ∧ iv = .int .i64 k ∧ Hid (hasTo zss set k = false) ∧ w = wr) (fun iv _ => n - (intOf iv).toNat)
  case atStart => exact ⟨0, Nat.zero_le _, rfl, Lib.hid (hasTo_zero _ _), rfl⟩
  case round =>
    obtain ⟨k, hk, rfl, HW, rfl⟩ := hrel
    by_cases hlt : k < n
    · obtain ⟨a1, B1, m1, d1, rfl, _, h1, hB1, hm1, hd1⟩ := ha.2 k hlt
      have hrk := hr k hlt
      rw [hB1.lenI] at hrk
      have HR := Lib.hid hB1.lenI
      by_cases hmm : m1 = m
      · have HS := Lib.hid (show hasTo zss set (k + 1) = witV (row zss k) set by rw [hasTo_succ, HW.out, HR.out, HLB.out]; simp [hmm])
        obtain rfl := hmm
        have CW := Lib.hid (fun w1 (e : w = w1) => specWithin B1 B m1 m1 d1 d (row zss k) set w1 (e ▸ hB1) (e ▸ hb) (by omega) (by omega))
        go_wp2_with fail
        refine (CW.out _ rfl).mono ?_
        rintro e w' ⟨rfl, hww⟩
        obtain rfl := hww
        cases hv : witV (row zss k) set with
        | true =>
          have HE := Lib.hid (show hasV zss set = true from hasTo_on (show hasTo zss set (k + 1) = true by rw [HS.out, hv]) zss.length (by rw [HLA.out]; omega))
          clear hv
          go_wp2_with fail
          go_ret
          exact ⟨by rw [HE.out]; rfl, rfl⟩
        | false =>
          have HE := Lib.hid (show hasTo zss set (k + 1) = false by rw [HS.out, hv])
          clear hv
          go_wp2_with fail
          go_roundw
          case rel => exact ⟨k + 1, by omega, by go_num, HE, by first | rfl | trivial⟩
          case measure => simp [intOf]; omega
      · have HE := Lib.hid (show hasTo zss set (k + 1) = false by rw [hasTo_succ, HW.out, HR.out, HLB.out]; simp [hmm])
        go_wp2_with fail
        go_roundw
        case rel => exact ⟨k + 1, by omega, by go_num, HE, by first | rfl | trivial⟩
        case measure => simp [intOf]; omega
    · obtain rfl : k = n := by omega
      have HE := Lib.hid (show hasV zss set = false by unfold hasV; rw [HLA.out]; exact HW.out)
      go_wp2_with fail
      go_ret
      exact ⟨by rw [HE.out]; rfl, rfl⟩
end Go.Proofs.Ytobdkfhmmpigiaa
