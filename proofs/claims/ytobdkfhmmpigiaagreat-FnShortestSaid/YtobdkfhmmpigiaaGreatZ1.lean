/- FnShortest: impl.LeastPairs, impl.LeastDepth, impl.PairBound, impl.ResultSets. -/
import Derived.Test.YtobdkfhmmpigiaaGreatC12u2
namespace Go.Proofs.YtobdkfhmmpigiaaGreat
open Go.RowKit Go.Deep
set_option linter.unusedVariables false
attribute [local go_sem] bits_and_one

/-- The least number of comparators; the least depth. -/
def lpV : Nat → Nat
  | 1 => 0
  | 2 => 1
  | 3 => 3
  | _ => 5
def ldV : Nat → Nat
  | 1 => 0
  | 2 => 1
  | _ => 3
theorem lit4 (w : World) (a b c d : Int) (t : TypeId) (k : Nat) (v : Int) (h : [a, b, c, d][k]? = some v) : (w.alloc (.cells #[.int .i64 a, .int .i64 b, .int .i64 c, .int .i64 d] t)).cell? ⟨w.heap.size, k, none⟩ = some (.int .i64 v) := by
  rw [cell_of_row _ _ _ _ _ _ (heap_alloc_new w _)]
  match k, h with
  | 0, h => simp at h; subst h; rfl
  | 1, h => simp at h; subst h; rfl
  | 2, h => simp at h; subst h; rfl
  | 3, h => simp at h; subst h; rfl
  | k + 4, h => simp at h
theorem implLeastP (n : Nat) (w : World) (h1 : 1 ≤ n) (h4 : n ≤ 4) : Calls Tryz.prog 5 #[.int .i64 n] w fun e w' => e = .returned (.int .i64 (lpV n : Nat)) ∧ Below w.heap.size w w' := by
  have hc : n = 1 ∨ n = 2 ∨ n = 3 ∨ n = 4 := by omega
  have CF := Lib.hid (implFew (n : Int) w)
  have HD := Lib.hid (show decide ((1 : Int) ≤ n ∧ (n : Int) ≤ 4) = true from decide_eq_true (by omega))
  have HB := Lib.hid (below_alloc w (.cells #[.int .i64 0, .int .i64 1, .int .i64 3, .int .i64 5] 3))
  rw [HD.out] at CF
  rcases hc with rfl | rfl | rfl | rfl
  · have l1 := lit4 w 0 1 3 5 3 0 0 rfl
    clear h1 h4 HD
    go_enter Tryz.func5, Tryz.ntmps5
    go_wp2_with fail
    refine CF.out.mono ?_
    rintro e w' ⟨rfl, hww⟩
    obtain rfl := hww
    go_wp2_with fail
    go_ret
    exact ⟨rfl, HB.out⟩
  · have l1 := lit4 w 0 1 3 5 3 1 1 rfl
    clear h1 h4 HD
    go_enter Tryz.func5, Tryz.ntmps5
    go_wp2_with fail
    refine CF.out.mono ?_
    rintro e w' ⟨rfl, hww⟩
    obtain rfl := hww
    go_wp2_with fail
    go_ret
    exact ⟨rfl, HB.out⟩
  · have l1 := lit4 w 0 1 3 5 3 2 3 rfl
    clear h1 h4 HD
    go_enter Tryz.func5, Tryz.ntmps5
    go_wp2_with fail
    refine CF.out.mono ?_
    rintro e w' ⟨rfl, hww⟩
    obtain rfl := hww
    go_wp2_with fail
    go_ret
    exact ⟨rfl, HB.out⟩
  · have l1 := lit4 w 0 1 3 5 3 3 5 rfl
    clear h1 h4 HD
    go_enter Tryz.func5, Tryz.ntmps5
    go_wp2_with fail
    refine CF.out.mono ?_
    rintro e w' ⟨rfl, hww⟩
    obtain rfl := hww
    go_wp2_with fail
    go_ret
    exact ⟨rfl, HB.out⟩
theorem implLeastD (n : Nat) (w : World) (h1 : 1 ≤ n) (h4 : n ≤ 4) : Calls Tryz.prog 6 #[.int .i64 n] w fun e w' => e = .returned (.int .i64 (ldV n : Nat)) ∧ Below w.heap.size w w' := by
  have hc : n = 1 ∨ n = 2 ∨ n = 3 ∨ n = 4 := by omega
  have CF := Lib.hid (implFew (n : Int) w)
  have HD := Lib.hid (show decide ((1 : Int) ≤ n ∧ (n : Int) ≤ 4) = true from decide_eq_true (by omega))
  have HB := Lib.hid (below_alloc w (.cells #[.int .i64 0, .int .i64 1, .int .i64 3, .int .i64 3] 3))
  rw [HD.out] at CF
  rcases hc with rfl | rfl | rfl | rfl
  · have l1 := lit4 w 0 1 3 3 3 0 0 rfl
    clear h1 h4 HD
    go_enter Tryz.func6, Tryz.ntmps6
    go_wp2_with fail
    refine CF.out.mono ?_
    rintro e w' ⟨rfl, hww⟩
    obtain rfl := hww
    go_wp2_with fail
    go_ret
    exact ⟨rfl, HB.out⟩
  · have l1 := lit4 w 0 1 3 3 3 1 1 rfl
    clear h1 h4 HD
    go_enter Tryz.func6, Tryz.ntmps6
    go_wp2_with fail
    refine CF.out.mono ?_
    rintro e w' ⟨rfl, hww⟩
    obtain rfl := hww
    go_wp2_with fail
    go_ret
    exact ⟨rfl, HB.out⟩
  · have l1 := lit4 w 0 1 3 3 3 2 3 rfl
    clear h1 h4 HD
    go_enter Tryz.func6, Tryz.ntmps6
    go_wp2_with fail
    refine CF.out.mono ?_
    rintro e w' ⟨rfl, hww⟩
    obtain rfl := hww
    go_wp2_with fail
    go_ret
    exact ⟨rfl, HB.out⟩
  · have l1 := lit4 w 0 1 3 3 3 3 3 rfl
    clear h1 h4 HD
    go_enter Tryz.func6, Tryz.ntmps6
    go_wp2_with fail
    refine CF.out.mono ?_
    rintro e w' ⟨rfl, hww⟩
    obtain rfl := hww
    go_wp2_with fail
    go_ret
    exact ⟨rfl, HB.out⟩
/-- The product of the first numbers, and the bound. -/
def facV : Nat → Nat
  | 0 => 1
  | k + 1 => facV k * (k + 1)
theorem fac_le : ∀ k : Nat, k < 5 → facV k ≤ 24 := by decide
theorem fac_step {k : Nat} (h : k < 4) : wrap64 ((facV k : Nat) * ((k : Int) + 1)) = ((facV (k + 1) : Nat) : Int) := by
  have h2 := fac_le (k + 1) (by omega)
  have e : ((facV k : Nat) : Int) * ((k : Int) + 1) = ((facV (k + 1) : Nat) : Int) := by rw [facV]; simp
  rw [e, IntWalk.wrap64_in _ (by omega)]
theorem bnd_iff : ∀ n : Nat, n < 5 → 1 ≤ n → ∀ k : Nat, k < 6 → (2 ^ k < facV n ↔ k < lpV n) := by decide
theorem lpV_le : ∀ n : Nat, n < 5 → lpV n ≤ 5 := by decide
theorem isW (x : Int) (w : World) (h : 1 ≤ x ∧ x ≤ 8) : Calls Tryz.prog 28 #[.int .i64 x] w fun e w' => e = .returned (.bool true) ∧ w = w' := by
  obtain ⟨h1, h2⟩ := h
  go_enter Tryz.func28, Tryz.ntmps28
  go_wp2
  go_ret
  exact ⟨rfl, rfl⟩
attribute [irreducible] facV lpV ldV

set_option maxHeartbeats 2000000 in
theorem implBound (n : Nat) (w : World) (h1 : 1 ≤ n) (h4 : n ≤ 4) : Calls Tryz.prog 12 #[.int .i64 n] w fun e w' => e = .returned (.int .i64 (lpV n : Nat)) ∧ Below w.heap.size w w' := by
  have CW := Lib.hid (isW (n : Int) w (by omega))
  have h0 : facV 0 = 1 := by unfold facV; rfl
  have H0 := Lib.hid h0
  clear h0
  go_enter Tryz.func12, Tryz.ntmps12
  go_wp2_with fail
  refine CW.out.mono ?_
  rintro e w' ⟨rfl, hww⟩
  obtain rfl := hww
  go_wp2_with fail
  go_loopw [3, 10] (fun fv iv wr => ∃ k f : Nat, k ≤ n ∧ iv = .int .i64 (k : Nat) ∧ fv = .int .i64 (f : Nat) ∧ Hid (facV k = f) ∧ w = wr) (fun _ iv _ => n - (intOf iv).toNat)
  case atStart => exact ⟨0, 1, Nat.zero_le _, rfl, rfl, H0, rfl⟩
  case round =>
    obtain ⟨k, f, hk, rfl, rfl, HF, hww⟩ := hrel
    obtain rfl := hww
    by_cases hlt : k < n
    · have hs := fac_step (k := k) (by omega)
      rw [HF.out] at hs
      obtain ⟨g, hg⟩ : ∃ g, facV (k + 1) = g := ⟨_, rfl⟩
      have HG := Lib.hid hg
      rw [hg] at hs
      clear hg
      go_wp2_with fail
      go_roundw
      case rel => exact ⟨k + 1, g, by omega, by go_num, by first | rfl | rw [hs], HG, by first | rfl | trivial⟩
      case measure => (simp [intOf] <;> omega)
    · obtain rfl : k = n := by omega
      have hf24 : f ≤ 24 := by rw [← HF.out]; exact fac_le k (by omega)
      go_wp2_with fail
      go_loopw [5] (fun jv wr => ∃ j : Nat, j ≤ lpV k ∧ jv = .int .i64 (j : Nat) ∧ w = wr) (fun jv _ => lpV k - (intOf jv).toNat)
      case atStart => exact ⟨0, Nat.zero_le _, rfl, rfl⟩
      case round =>
        obtain ⟨j, hj, rfl, hww⟩ := hrel
        obtain rfl := hww
        have hl5 := lpV_le k (by omega)
        have hb := bnd_iff k (by omega) h1 j (by omega)
        have hwp := wrap_pow j (by omega)
        rw [HF.out] at hb
        obtain ⟨p, hp⟩ : ∃ p, 2 ^ j = p := ⟨_, rfl⟩
        rw [hp] at hb hwp
        clear hp
        by_cases hlt : j < lpV k
        · have hpf : p < f := hb.2 hlt
          clear hb
          go_wp2_with fail
          go_roundw
          case rel => exact ⟨j + 1, by omega, by go_num, by first | rfl | trivial⟩
          case measure => (simp [intOf] <;> omega)
        · have hpf : ¬ p < f := fun h => hlt (hb.1 h)
          have HJ := Lib.hid (show lpV k = j by omega)
          clear hb
          go_wp2_with fail
          go_ret
          exact ⟨by rw [HJ.out]; rfl, Below.refl _ _⟩

theorem implSetsN (n K : Nat) (w : World) (h1 : 1 ≤ n) (h4 : n ≤ 4) (hK : K ≤ 5) : Calls Tryz.prog 16 #[.int .i64 n, .int .i64 K] w fun e w' => e = .returned (.int .i64 ((outI n K).length : Nat)) ∧ Below w.heap.size w w' := by
  have CC := Lib.hid (implCounted (n : Int) (K : Int) w)
  have CR := Lib.hid (implResultSets n K w h4 hK)
  have HD := Lib.hid (show decide (((1 : Int) ≤ n ∧ (n : Int) ≤ 4) ∧ (0 : Int) ≤ K ∧ (K : Int) ≤ 5) = true from decide_eq_true (by omega))
  rw [HD.out] at CC
  go_enter Tryz.func16, Tryz.ntmps16
  go_wp2_with fail
  refine CC.out.mono ?_
  rintro e w' ⟨rfl, hww⟩
  obtain rfl := hww
  go_wp2_with fail
  refine CR.out.mono ?_
  rintro e w1 ⟨A, m, c, L, rfl, hos, hp, _, _, hb⟩
  have HM := Lib.hid (show (outI n K).length = m by rw [← hp.length_eq]; exact hos.1)
  clear hos hp CR CC
  go_wp2_with fail
  go_ret
  exact ⟨by rw [HM.out]; rfl, hb⟩
end Go.Proofs.YtobdkfhmmpigiaaGreat
