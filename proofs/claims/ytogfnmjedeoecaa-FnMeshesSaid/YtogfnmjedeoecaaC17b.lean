/- Chapter 17: what a mesh is. -/
import Derived.Test.YtogfnmjedeoecaaMat
import Derived.Test.YtogfnmjedeoecaaIn
namespace Go.Proofs.Ytogfnmjedeoecaa
open Go.RowKit Go.Deep
set_option linter.unusedVariables false

def meshTo (zss : List (List Int)) : Nat → Bool
  | 0 => true
  | k + 1 => meshTo zss k && decide ((row zss k).length = (row zss 0).length)
def meshV (zss : List (List Int)) : Bool := decide (1 ≤ zss.length ∧ zss.length ≤ 4) && (decide (1 ≤ (row zss 0).length ∧ (row zss 0).length ≤ 4) && meshTo zss zss.length)
theorem meshTo_zero (zss : List (List Int)) : meshTo zss 0 = true := rfl
theorem meshTo_on {zss : List (List Int)} {k : Nat} (h : meshTo zss k = true) (h2 : (row zss k).length = (row zss 0).length) : meshTo zss (k + 1) = true := by rw [meshTo, h, decide_eq_true h2]; rfl
theorem meshTo_bad {zss : List (List Int)} {k : Nat} (h2 : (row zss k).length ≠ (row zss 0).length) : ∀ m, k < m → meshTo zss m = false := by
  intro m
  induction m with
  | zero => intro h; omega
  | succ m ih =>
    intro hm
    by_cases e : k = m
    · subst e; rw [meshTo, decide_eq_false h2, Bool.and_false]
    · rw [meshTo, ih (by omega)]; rfl
theorem mesh_n {zss : List (List Int)} {n : Nat} (hl : zss.length = n) (h : ¬ (1 ≤ n ∧ n ≤ 4)) : meshV zss = false := by rw [meshV, hl, decide_eq_false h]; rfl
theorem mesh_first {zss : List (List Int)} {m : Nat} (hl : (row zss 0).length = m) (h : ¬ (1 ≤ m ∧ m ≤ 4)) : meshV zss = false := by rw [meshV, hl, decide_eq_false h]; simp
theorem mesh_row {zss : List (List Int)} {n k : Nat} (hl : zss.length = n) (hk : k < n) (h : (row zss k).length ≠ (row zss 0).length) : meshV zss = false := by rw [meshV, meshTo_bad h _ (by omega)]; simp
theorem mesh_range {zss : List (List Int)} {n k : Nat} (hl : zss.length = n) (hk : k < n) (h : ¬ (1 ≤ (row zss k).length ∧ (row zss k).length ≤ 4)) : meshV zss = false := by
  by_cases e : (row zss k).length = (row zss 0).length
  · exact mesh_first rfl (by omega)
  · exact mesh_row hl hk e
theorem mesh_yes {zss : List (List Int)} {n m : Nat} (hl : zss.length = n) (h1 : 1 ≤ n ∧ n ≤ 4) (hm : (row zss 0).length = m) (h2 : 1 ≤ m ∧ m ≤ 4) (h3 : meshTo zss n = true) : meshV zss = true := by
  rw [meshV, hl, hm, decide_eq_true h1, decide_eq_true h2, h3]; rfl
theorem meshTo_row {zss : List (List Int)} : ∀ n, meshTo zss n = true → ∀ k, k < n → (row zss k).length = (row zss 0).length := by
  intro n
  induction n with
  | zero => intro _ k hk; omega
  | succ n ih =>
    intro h k hk
    rw [meshTo, Bool.and_eq_true] at h
    by_cases e : k = n
    · subst e; simpa using h.2
    · exact ih h.1 k (by omega)
theorem mesh_out {zss : List (List Int)} {n : Nat} (h : meshV zss = true) (hl : zss.length = n) : 1 ≤ n ∧ n ≤ 4 ∧ ∃ m, 1 ≤ m ∧ m ≤ 4 ∧ ∀ k, k < n → (row zss k).length = m := by
  rw [meshV, hl] at h
  simp only [Bool.and_eq_true, decide_eq_true_eq] at h
  obtain ⟨⟨h1, h2⟩, ⟨h3, h4⟩, h5⟩ := h
  exact ⟨h1, h2, _, h3, h4, meshTo_row n h5⟩
attribute [irreducible] meshTo

set_option maxHeartbeats 2000000 in
theorem specMesh (A : Option Addr) (n c : Nat) (zss : List (List Int)) (w : World) (ha : RdM w A n zss) (hn : n ≤ 1048576) :
    Calls Try.prog 16 #[.slice A n c] w fun e w' => e = .returned (.bool (meshV zss)) ∧ w = w' := by
  have hl := Lib.hid ha.1
  by_cases hn4 : 1 ≤ n ∧ n ≤ 4
  · obtain ⟨a0, B0, m0, d0, rfl, _, h0, hB0, hmd0, hd0⟩ := ha.2 0 (by omega)
    replace h0 : w.cell? a0 = some (.slice B0 m0 d0) := h0
    have HM0 := Lib.hid hB0.lenI
    unfold maxLen at hd0
    go_enter Try.func16, Try.ntmps16
    go_wp2_with (go_at_call 45; refine (l01In_yes _ _ _ _ (by omega)).mono ?_; rintro e w' ⟨rfl, rfl⟩)
    go_loop [11] (fun i => ∃ k : Nat, k ≤ n ∧ i = .int .i64 k ∧ Hid (meshTo zss k = true) ∧ (0 < k → 1 ≤ m0 ∧ m0 ≤ 4)) (fun i => n - (intOf i).toNat)
    case atStart => exact ⟨0, Nat.zero_le _, rfl, Lib.hid (meshTo_zero _), fun h => by omega⟩
    case round =>
      obtain ⟨k, hk, rfl, HK, hk0⟩ := hrel
      by_cases hlt : k < n
      · obtain ⟨a1, B, m, d, ha1, _, h1, hB, hmd, hd⟩ := ha.2 k hlt
        injection ha1 with ha1
        subst ha1
        unfold maxLen at hd
        have HM := Lib.hid hB.lenI
        by_cases hr : 1 ≤ m ∧ m ≤ 4
        · by_cases he : m = m0
          · have H := Lib.hid (meshTo_on HK.out (by rw [HM.out, HM0.out, he]))
            subst he
            go_wp2_with (go_at_call 45; refine (l01In_yes _ _ _ _ (by omega)).mono ?_; rintro e w' ⟨rfl, rfl⟩)
            go_round
            case rel => exact ⟨k + 1, by omega, by go_num, H, fun _ => hr⟩
            case measure => (simp [intOf] <;> omega)
          · have H := Lib.hid (mesh_row hl.out hlt (by rw [HM.out, HM0.out]; exact he))
            have hne : ((m : Int) != (m0 : Int)) = true := by simp; omega
            clear he
            go_wp2_with (go_at_call 45; refine (l01In_yes _ _ _ _ (by omega)).mono ?_; rintro e w' ⟨rfl, rfl⟩)
            go_ret
            exact ⟨ret_bool H.out.symm, rfl⟩
        · have H := Lib.hid (mesh_range hl.out hlt (by rw [HM.out]; exact hr))
          go_wp2_with (go_at_call 45; refine (l01In_no _ _ _ _ (by omega)).mono ?_; rintro e w' ⟨rfl, rfl⟩)
          go_ret
          exact ⟨ret_bool H.out.symm, rfl⟩
      · obtain rfl : k = n := by omega
        have H := Lib.hid (mesh_yes hl.out hn4 HM0.out (hk0 (by omega)) HK.out)
        clear hk0
        go_wp2
        go_ret
        exact ⟨ret_bool H.out.symm, rfl⟩
  · have H := Lib.hid (mesh_n hl.out hn4)
    go_enter Try.func16, Try.ntmps16
    go_wp2_with (go_at_call 45; refine (l01In_no _ _ _ _ (by omega)).mono ?_; rintro e w' ⟨rfl, rfl⟩)
    go_ret
    exact ⟨ret_bool H.out.symm, rfl⟩

set_option maxHeartbeats 2000000 in
theorem implMesh (A : Option Addr) (n c : Nat) (zss : List (List Int)) (w : World) (ha : RdM w A n zss) (hn : n ≤ 1048576) :
    Calls Try.prog 18 #[.slice A n c] w fun e w' => e = .returned (.bool (meshV zss)) ∧ w = w' := by
  have hl := Lib.hid ha.1
  by_cases hn1 : n < 1
  · have H := Lib.hid (mesh_n hl.out (by omega))
    obtain rfl : n = 0 := by omega
    go_enter Try.func18, Try.ntmps18
    go_wp2
    go_ret
    exact ⟨ret_bool H.out.symm, rfl⟩
  by_cases hn4 : 4 < n
  · have H := Lib.hid (mesh_n hl.out (by omega))
    go_enter Try.func18, Try.ntmps18
    go_wp2
    go_ret
    exact ⟨ret_bool H.out.symm, rfl⟩
  obtain ⟨a0, B0, m0, d0, rfl, _, h0, hB0, hmd0, hd0⟩ := ha.2 0 (by omega)
  replace h0 : w.cell? a0 = some (.slice B0 m0 d0) := h0
  have HM0 := Lib.hid hB0.lenI
  unfold maxLen at hd0
  have e1 : decide ((n : Int) < 1) = false := by simp; omega
  have e2 : decide (4 < (n : Int)) = false := by simp; omega
  by_cases hm1 : m0 < 1
  · have H := Lib.hid (mesh_first HM0.out (by omega))
    obtain rfl : m0 = 0 := by omega
    go_enter Try.func18, Try.ntmps18
    go_wp2
    go_ret
    exact ⟨ret_bool H.out.symm, rfl⟩
  by_cases hm4 : 4 < m0
  · have H := Lib.hid (mesh_first HM0.out (by omega))
    have e3 : decide ((m0 : Int) < 1) = false := by simp; omega
    go_enter Try.func18, Try.ntmps18
    go_wp2
    go_ret
    exact ⟨ret_bool H.out.symm, rfl⟩
  have e3 : decide ((m0 : Int) < 1) = false := by simp; omega
  have e4 : decide (4 < (m0 : Int)) = false := by simp; omega
  go_enter Try.func18, Try.ntmps18
  go_wp2
  go_loop [29] (fun i => ∃ k : Nat, k ≤ n ∧ i = .int .i64 k ∧ Hid (meshTo zss k = true)) (fun i => n - (intOf i).toNat)
  case atStart => exact ⟨0, Nat.zero_le _, rfl, Lib.hid (meshTo_zero _)⟩
  case round =>
    obtain ⟨k, hk, rfl, HK⟩ := hrel
    by_cases hlt : k < n
    · obtain ⟨a1, B, m, d, ha1, _, h1, hB, hmd, hd⟩ := ha.2 k hlt
      injection ha1 with ha1
      subst ha1
      unfold maxLen at hd
      have HM := Lib.hid hB.lenI
      by_cases he : m = m0
      · have H := Lib.hid (meshTo_on HK.out (by rw [HM.out, HM0.out, he]))
        subst he
        go_wp2
        go_round
        case rel => exact ⟨k + 1, by omega, by go_num, H⟩
        case measure => (simp [intOf] <;> omega)
      · have H := Lib.hid (mesh_row hl.out hlt (by rw [HM.out, HM0.out]; exact he))
        have hne : ((m : Int) != (m0 : Int)) = true := by simp; omega
        clear he
        go_wp2
        go_ret
        exact ⟨ret_bool H.out.symm, rfl⟩
    · obtain rfl : k = n := by omega
      have H := Lib.hid (mesh_yes hl.out (by omega) HM0.out (by omega) HK.out)
      go_wp2
      go_ret
      exact ⟨ret_bool H.out.symm, rfl⟩

end Go.Proofs.Ytogfnmjedeoecaa
