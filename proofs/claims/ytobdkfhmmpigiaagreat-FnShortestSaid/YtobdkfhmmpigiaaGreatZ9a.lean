/- FnShortest: what the search finds and what the counts are (plain Lean, by computing). -/
import Derived.Test.YtobdkfhmmpigiaaGreatZ8d
import Derived.Test.YtobdkfhmmpigiaaGreatC12v3
namespace Go.Proofs.YtobdkfhmmpigiaaGreat
open Go.RowKit Go.Deep
set_option linter.unusedVariables false

def prN (p : Nat × Nat) : List Int := pr p.1 p.2
/-- The first comparators that the search takes. -/
def shoC (n : Nat) : Nat → List (Nat × Nat) → Nat → Option (List (Nat × Nat))
  | 0, path, c => if (dec n c).length = n + 1 then some path else none
  | K + 1, path, c => (allP n 0).findSome? fun p => shoC n K (path ++ [p]) (stepC n p.1 p.2 c)
theorem sho_dec {n : Nat} (hn : n ≤ 4) : ∀ K path c s, c < 2 ^ 2 ^ n → (∀ y, shoC n K path c = some y → runL n (seeN n) K (path.map prN) (dec n c) s = (y.map prN, true)) ∧ (shoC n K path c = none → (runL n (seeN n) K (path.map prN) (dec n c) s).2 = false) := by
  intro K
  induction K with
  | zero =>
    intro path c s hc
    rw [runL_zero, shoC, seeN]
    by_cases h : (dec n c).length = n + 1
    · rw [if_pos h, decide_eq_true h]
      exact ⟨fun y e => (by injection e with e; rw [e]), fun e => (by cases e)⟩
    · rw [if_neg h, decide_eq_false h]
      exact ⟨fun y e => (by cases e), fun _ => rfl⟩
  | succ K ih =>
    intro path c s hc
    rw [runL_succ, shoC]
    have hP := allP_lt hn
    generalize allP n 0 = l at hP
    induction l generalizing s with
    | nil => rw [goP_nil]; exact ⟨fun y e => (by simp at e), fun _ => rfl⟩
    | cons p l il =>
      have hp := hP p (by simp)
      have h3 := ih (path ++ [p]) (stepC n p.1 p.2 c) s (stepC_lt hn hp.1 hp.2)
      have e : runL n (seeN n) K (path.map prN ++ [pr p.1 p.2]) (stI p.1 p.2 (dec n c)) s = runL n (seeN n) K ((path ++ [p]).map prN) (dec n (stepC n p.1 p.2 c)) s := by
        rw [stI_dec hn hp.1 hp.2, List.map_append]
        rfl
      rw [List.findSome?_cons]
      cases h : shoC n K (path ++ [p]) (stepC n p.1 p.2 c) with
      | some y =>
        have h4 := h3.1 y h
        rw [goP_on (by rw [e, h4]), e, h4]
        exact ⟨fun y2 e2 => (by injection e2 with e2; rw [e2]), fun e2 => (by cases e2)⟩
      | none =>
        have h4 := h3.2 h
        rw [goP_off (by rw [e, h4])]
        exact il _ (fun q hq => hP q (by simp [hq]))
theorem sho1 : shoC 1 (lpV 1) [] (2 ^ 2 ^ 1 - 1) = some [] := by decide +kernel
theorem sho2 : shoC 2 (lpV 2) [] (2 ^ 2 ^ 2 - 1) = some [(0, 1)] := by decide +kernel
theorem sho3 : shoC 3 (lpV 3) [] (2 ^ 2 ^ 3 - 1) = some [(0, 1), (0, 2), (1, 2)] := by decide +kernel
theorem sho4 : shoC 4 (lpV 4) [] (2 ^ 2 ^ 4 - 1) = some [(0, 1), (2, 3), (0, 2), (1, 3), (1, 2)] := by decide +kernel
theorem sho_one {n : Nat} {y : List (Nat × Nat)} (hn : n ≤ 4) (h : shoC n (lpV n) [] (2 ^ 2 ^ n - 1) = some y) : shoI n = (y.map prN, true) := by
  unfold shoI
  rw [marks_dec]
  exact (sho_dec hn _ [] _ [] (full_lt n)).1 y h
/-- The search finds Batcher's comparators. -/
theorem sho_law {n : Nat} (h1 : 1 ≤ n) (h4 : n ≤ 4) : shoI n = (batL n, true) := by
  have hc : n = 1 ∨ n = 2 ∨ n = 3 ∨ n = 4 := by omega
  rcases hc with rfl | rfl | rfl | rfl
  · exact sho_one h4 sho1
  · exact sho_one h4 sho2
  · exact sho_one h4 sho3
  · exact sho_one h4 sho4

/-- The count in numbers. -/
def cntC (n : Nat) : Nat → Nat → Nat
  | 0, c => if (dec n c).length = n + 1 then 1 else 0
  | K + 1, c => ((allP n 0).map fun p => cntC n K (stepC n p.1 p.2 c)).sum
theorem cnt_dec {n : Nat} (hn : n ≤ 4) : ∀ K zss c s, c < 2 ^ 2 ^ n → runL n (seeK n) K zss (dec n c) s = (s + cntC n K c, false) := by
  intro K
  induction K with
  | zero =>
    intro zss c s hc
    rw [runL_zero, cntC]
    by_cases h : (dec n c).length = n + 1
    · rw [seeK_on h, if_pos h]
    · rw [seeK_off h, if_neg h]; rfl
  | succ K ih =>
    intro zss c s hc
    rw [runL_succ, cntC]
    have hP := allP_lt hn
    generalize allP n 0 = l at hP
    induction l generalizing s with
    | nil => rw [goP_nil]; rfl
    | cons p l il =>
      have hp := hP p (by simp)
      have e : runL n (seeK n) K (zss ++ [pr p.1 p.2]) (stI p.1 p.2 (dec n c)) s = (s + cntC n K (stepC n p.1 p.2 c), false) := by
        rw [stI_dec hn hp.1 hp.2]
        exact ih _ _ s (stepC_lt hn hp.1 hp.2)
      rw [goP_off (by rw [e]), e, List.map_cons, List.sum_cons]
      rw [il _ (fun q hq => hP q (by simp [hq]))]
      rw [Nat.add_assoc]
theorem cnt_eq {n K : Nat} (hn : n ≤ 4) : cntI n K = cntC n K (2 ^ 2 ^ n - 1) := by
  unfold cntI
  rw [marks_dec, cnt_dec hn _ _ _ _ (full_lt n)]
  exact Nat.zero_add _
theorem cnt2_ : ∀ K : Nat, K < 4 → (0 < cntC 2 K (2 ^ 2 ^ 2 - 1) ↔ lpV 2 ≤ K) ∧ cntC 2 K (2 ^ 2 ^ 2 - 1) ≤ 100 := by decide +kernel
theorem cnt3_ : ∀ K : Nat, K < 4 → (0 < cntC 3 K (2 ^ 2 ^ 3 - 1) ↔ lpV 3 ≤ K) ∧ cntC 3 K (2 ^ 2 ^ 3 - 1) ≤ 100 := by decide +kernel
theorem lpV_one : lpV 1 = 0 ∧ lpV 2 = 1 ∧ lpV 3 = 3 ∧ lpV 4 = 5 := by decide +kernel
theorem ldV_one : ldV 1 = 0 ∧ ldV 2 = 1 ∧ ldV 3 = 3 ∧ ldV 4 = 3 := by decide +kernel
theorem wrap_small {k : Nat} (h : k ≤ 1000) : RowKit.wrap64 (k : Int) = k := by
  rw [IntWalk.wrap64_in _ (by omega)]
theorem cnt_law {m k : Nat} (h2 : 2 ≤ m) (h3 : m ≤ 3) (hk : k ≤ 3) : ∃ c : Nat, RowKit.wrap64 (cntI m k : Nat) = (c : Int) ∧ c ≤ 100 ∧ (0 < c ↔ lpV m ≤ k) := by
  have hc : m = 2 ∨ m = 3 := by omega
  refine ⟨cntI m k, ?_, ?_, ?_⟩
  · rcases hc with rfl | rfl
    · rw [wrap_small]
      rw [cnt_eq (by omega)]
      have := (cnt2_ k (by omega)).2
      omega
    · rw [wrap_small]
      rw [cnt_eq (by omega)]
      have := (cnt3_ k (by omega)).2
      omega
  · rw [cnt_eq (by omega)]
    rcases hc with rfl | rfl
    · exact (cnt2_ k (by omega)).2
    · exact (cnt3_ k (by omega)).2
  · rw [cnt_eq (by omega)]
    rcases hc with rfl | rfl
    · exact (cnt2_ k (by omega)).1
    · exact (cnt3_ k (by omega)).1

/-- How many sets and how many kinds. -/
def kinB (m k : Nat) : Bool := decide (1 ≤ (kinIC m (lvlC m k) (lvlC m k).length).length) && decide ((kinIC m (lvlC m k) (lvlC m k).length).length ≤ (lvlC m k).length) && decide ((lvlC m k).length ≤ 1000) && (decide (0 < k) || decide ((lvlC m k).length = 1))
theorem kinB_all : ∀ m : Nat, m < 4 → 2 ≤ m → ∀ k : Nat, k < 4 → kinB m k = true := by decide +kernel
theorem sets_law {m k : Nat} (h2 : 2 ≤ m) (h3 : m ≤ 3) (hk : k ≤ 3) {L : List (List Int)} (hp : L.Perm (outI m k)) (hs : ∀ i j, i < j → j < L.length → ¬ cmpV (row L j) (row L i) < 0) :
    1 ≤ (kinI m L L.length).length ∧ (kinI m L L.length).length ≤ (outI m k).length ∧ (outI m k).length ≤ 1000 ∧ (0 < k ∨ (outI m k).length = 1) := by
  obtain ⟨hB, hC⟩ := chk_all (n := m) (K := k) (by omega) (by omega) (by omega)
  have h4 : m ≤ 4 := by omega
  have hLM : L = (lvlC m k).map (dec m) := by
    refine sorted_one (hp.trans ?_) hs fun i j hij hj => ?_
    · rw [out_dec h4]
      exact (out_perm h4 k).map _
    · rw [List.length_map] at hj
      rw [row_map m _ hj, row_map m _ (by omega)]
      exact of_decide_eq_true (List.all_eq_true.1 (List.all_eq_true.1 hB j (List.mem_range.2 hj)) i (List.mem_range.2 hij))
  have e1 : (kinI m L L.length).length = (kinIC m (lvlC m k) (lvlC m k).length).length := by
    rw [hLM, List.length_map, kinI_dec h4 _ (Nat.le_refl _), List.length_map]
  have e2 : (outI m k).length = (lvlC m k).length := by
    rw [← hp.length_eq, hLM, List.length_map]
  have h := kinB_all m (by omega) h2 k (by omega)
  unfold kinB at h
  simp only [Bool.and_eq_true, Bool.or_eq_true, decide_eq_true_eq] at h
  rw [e1, e2]
  exact ⟨h.1.1.1, h.1.1.2, h.1.2, h.2⟩
end Go.Proofs.YtobdkfhmmpigiaaGreat
