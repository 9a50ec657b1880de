/- FnShortest: the contracts, as the law asks for them. -/
import Derived.Test.YtobdkfhmmpigiaaGreatZ9b
import Derived.Test.YtobdkfhmmpigiaaGreatMG
namespace Go.Proofs.YtobdkfhmmpigiaaGreat
open Go.RowKit Go.Deep
set_option linter.unusedVariables false

theorem RdX.toM {D : Nat → Prop} {w : World} {A : Option Addr} {l : Nat} {z : List (List Int)} (h : RdX D w A l z) : RdM w A l z := by
  refine ⟨h.1, fun j hj => ?_⟩
  obtain ⟨ad, B, h1, h2, _, h4, _, _, h7⟩ := h.2 j hj
  exact ⟨ad, some B, 2, 2, h1, h2, h4, h7, Nat.le_refl _, by unfold maxLen; omega⟩
theorem lp_le {n : Nat} (h1 : 1 ≤ n) (h4 : n ≤ 4) : lpV n ≤ 5 ∧ (n ≤ 3 → lpV n ≤ 3) ∧ (lpV n = 0 → n = 1) := by
  have hc : n = 1 ∨ n = 2 ∨ n = 3 ∨ n = 4 := by omega
  obtain ⟨a, b, c, d⟩ := lpV_one
  rcases hc with rfl | rfl | rfl | rfl <;> omega
theorem ldV_le {n : Nat} (h1 : 1 ≤ n) (h4 : n ≤ 4) : ldV n ≤ 3 := by
  have hc : n = 1 ∨ n = 2 ∨ n = 3 ∨ n = 4 := by omega
  obtain ⟨a, b, c, d⟩ := ldV_one
  rcases hc with rfl | rfl | rfl | rfl <;> omega
theorem implShort (n : Nat) (w : World) (h1 : 1 ≤ n) (h4 : n ≤ 4) : Calls Tryz.prog 7 #[.int .i64 n] w fun e w' => ∃ A c, e = .returned (.tuple #[.agg #[.int .i64 n, .slice A (lpV n) c], .bool true]) ∧ RdM w' A (lpV n) (batL n) ∧ Below w.heap.size w w' := by
  refine (implShortest n w h1 h4).mono ?_
  rintro e w' ⟨A, l, c, rfl, hX, hb⟩
  rw [sho_law h1 h4] at hX ⊢
  have hM := hX.toM
  have hl : lpV n = l := by rw [← (bat_all h1 h4).1.1]; exact hM.1
  rw [hl]
  exact ⟨A, c, rfl, hM, hb⟩
theorem batSorting (n : Nat) (A : Option Addr) (c : Nat) (w : World) (ha : RdM w A (lpV n) (batL n)) (h1 : 1 ≤ n) (h4 : n ≤ 4) :
    Calls Tryz.prog 8 #[.agg #[.int .i64 n, .slice A (lpV n) c]] w fun e w' => e = .returned (.bool true) ∧ Below w.heap.size w w' := by
  obtain ⟨f1, f2, f3, f4⟩ := bat_all h1 h4
  refine (implIsSorting n (lpV n) A c (batL n) w f1 ha h1 h4 (by have := (lp_le h1 h4).1; omega)).mono ?_
  rintro e w' ⟨rfl, hb⟩
  rw [f3.1]
  exact ⟨rfl, hb⟩
theorem batStd (n : Nat) (A : Option Addr) (c : Nat) (w : World) (ha : RdM w A (lpV n) (batL n)) (h1 : 1 ≤ n) (h4 : n ≤ 4) :
    Calls Tryz.prog 9 #[.agg #[.int .i64 n, .slice A (lpV n) c]] w fun e w' => e = .returned (.bool true) ∧ Below w.heap.size w w' := by
  obtain ⟨f1, f2, f3, f4⟩ := bat_all h1 h4
  exact implIsStd n (lpV n) A c (batL n) w f1 f2 ha h1 h4 (by have := (lp_le h1 h4).1; omega)
theorem batShortest (n : Nat) (A : Option Addr) (c : Nat) (w : World) (ha : RdM w A (lpV n) (batL n)) (h1 : 1 ≤ n) (h4 : n ≤ 4) :
    Calls Tryz.prog 10 #[.agg #[.int .i64 n, .slice A (lpV n) c]] w fun e w' => e = .returned (.bool true) ∧ Below w.heap.size w w' := by
  obtain ⟨f1, f2, f3, f4⟩ := bat_all h1 h4
  refine (implIsShortest n (lpV n) A c (batL n) w f1 ha h1 h4 (by have := (lp_le h1 h4).1; omega)).mono ?_
  rintro e w' ⟨rfl, hb⟩
  rw [f3.1, decide_eq_true rfl]
  exact ⟨rfl, hb⟩
theorem batLean (n : Nat) (A : Option Addr) (c : Nat) (w : World) (ha : RdM w A (lpV n) (batL n)) (h1 : 1 ≤ n) (h4 : n ≤ 4) :
    Calls Tryz.prog 11 #[.agg #[.int .i64 n, .slice A (lpV n) c]] w fun e w' => e = .returned (.bool true) ∧ Below w.heap.size w w' := by
  obtain ⟨f1, f2, f3, f4⟩ := bat_all h1 h4
  exact implLean n (lpV n) A c (batL n) w f1 ha h1 h4 (by have := (lp_le h1 h4).1; omega) f3
/-- A depth that is large enough. -/
theorem netDepth (W m : Nat) (A : Option Addr) (c : Nat) (z : List (List Int)) (w : World) (hR : NetR W m z) (ha : RdM w A m z) (h1 : 1 ≤ W) (h4 : W ≤ 4) (hm : m ≤ 60) (hd : (ldV W : Int) ≤ dpL (lvO z m)) :
    Calls Tryz.prog 13 #[.agg #[.int .i64 W, .slice A m c]] w fun e w' => ∃ D : Nat, e = .returned (.int .i64 D) ∧ Hid (ldV W ≤ D) ∧ Below w.heap.size w w' := by
  refine (implDepth W m A c z w hR ha h1 (by omega) hm).mono ?_
  rintro e w' ⟨rfl, hb⟩
  obtain ⟨D, hD⟩ : ∃ D : Nat, dpL (lvO z m) = D := ⟨(dpL (lvO z m)).toNat, by omega⟩
  rw [hD] at hd ⊢
  exact ⟨D, rfl, Lib.hid (by omega), hb⟩
theorem batDepth (n : Nat) (A : Option Addr) (c : Nat) (w : World) (ha : RdM w A (lpV n) (batL n)) (h1 : 1 ≤ n) (h4 : n ≤ 4) :
    Calls Tryz.prog 13 #[.agg #[.int .i64 n, .slice A (lpV n) c]] w fun e w' => ∃ D : Nat, e = .returned (.int .i64 D) ∧ Hid (ldV n ≤ D) ∧ Below w.heap.size w w' := by
  obtain ⟨f1, f2, f3, f4⟩ := bat_all h1 h4
  exact netDepth n (lpV n) A c (batL n) w f1 ha h1 h4 (by have := (lp_le h1 h4).1; omega) f4
theorem netShortest (W m : Nat) (A : Option Addr) (c : Nat) (z : List (List Int)) (w : World) (hR : NetR W m z) (ha : RdM w A m z) (h1 : 1 ≤ W) (h4 : W ≤ 4) (hm : m ≤ 60) (hs : m = lpV W → sortB z m W = true) :
    Calls Tryz.prog 10 #[.agg #[.int .i64 W, .slice A m c]] w fun e w' => e = .returned (.bool ((m : Int) == (lpV W : Nat))) ∧ Below w.heap.size w w' := by
  refine (implIsShortest W m A c z w hR ha h1 h4 hm).mono ?_
  rintro e w' ⟨rfl, hb⟩
  have e2 : (sortB z m W && decide (m = lpV W)) = ((m : Int) == (lpV W : Nat)) := by
    by_cases h : m = lpV W
    · rw [hs h, decide_eq_true h, Bool.true_and, eq_comm, beq_iff_eq]; omega
    · rw [decide_eq_false h, Bool.and_false, eq_comm, beq_eq_false_iff_ne]; omega
  rw [e2]
  exact ⟨rfl, hb⟩
/-- The networks counted at the least length, and one below it. -/
theorem cntLow (n : Nat) (w : World) (h2 : 2 ≤ n) (h3 : n ≤ 3) (q : Nat) (hq : q + 1 = lpV n) : Calls Tryz.prog 14 #[.int .i64 n, .int .i64 q] w fun e w' => e = .returned (.int .i64 0) ∧ Below w.heap.size w w' := by
  have hl := (lp_le (n := n) (by omega) (by omega)).2.1 h3
  refine (implCountN n q w (by omega) (by omega) (by omega)).mono ?_
  rintro e w' ⟨rfl, hb⟩
  obtain ⟨c, h5, h6, h7⟩ := cnt_law (k := q) h2 h3 (by omega)
  have : c = 0 := by omega
  subst this
  rw [h5]
  exact ⟨rfl, hb⟩
theorem cntAt (m k : Nat) (w : World) (h2 : 2 ≤ m) (h3 : m ≤ 3) (hk : k ≤ 3) : Calls Tryz.prog 14 #[.int .i64 m, .int .i64 k] w fun e w' => ∃ c : Nat, e = .returned (.int .i64 c) ∧ c ≤ 100 ∧ (0 < c ↔ lpV m ≤ k) ∧ Below w.heap.size w w' := by
  refine (implCountN m k w (by omega) (by omega) (by omega)).mono ?_
  rintro e w' ⟨rfl, hb⟩
  obtain ⟨c, h5, h6, h7⟩ := cnt_law h2 h3 hk
  rw [h5]
  exact ⟨c, rfl, h6, h7, hb⟩
theorem setsAt (m k : Nat) (w : World) (h2 : 2 ≤ m) (h3 : m ≤ 3) (hk : k ≤ 3) : Calls Tryz.prog 16 #[.int .i64 m, .int .i64 k] w fun e w' => ∃ s : Nat, e = .returned (.int .i64 s) ∧ Hid ((outI m k).length = s) ∧ Below w.heap.size w w' := by
  refine (implSetsN m k w (by omega) (by omega) (by omega)).mono ?_
  rintro e w' ⟨rfl, hb⟩
  exact ⟨_, rfl, Lib.hid rfl, hb⟩
theorem kindsAt (m k s : Nat) (w : World) (h2 : 2 ≤ m) (h3 : m ≤ 3) (hk : k ≤ 3) (hs : Hid ((outI m k).length = s)) : Calls Tryz.prog 17 #[.int .i64 m, .int .i64 k] w fun e w' => ∃ q : Nat, e = .returned (.int .i64 q) ∧ (1 ≤ q ∧ q ≤ s ∧ s ≤ 1000 ∧ (0 < k ∨ s = 1)) ∧ Below w.heap.size w w' := by
  refine (implKinds m k w (by omega) (by omega) (by omega)).mono ?_
  rintro e w' ⟨L, rfl, hp, hso, hb⟩
  have h := sets_law h2 h3 hk hp hso
  rw [hs.out] at h
  exact ⟨_, rfl, h, hb⟩
end Go.Proofs.YtobdkfhmmpigiaaGreat
