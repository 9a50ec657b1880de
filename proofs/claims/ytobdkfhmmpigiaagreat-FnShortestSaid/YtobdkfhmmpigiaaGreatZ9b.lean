/- FnShortest: what a network that holds Batcher's or the insertion network is like (plain Lean). -/
import Derived.Test.YtobdkfhmmpigiaaGreatZ9a
namespace Go.Proofs.YtobdkfhmmpigiaaGreat
open Go.RowKit Go.Deep
set_option linter.unusedVariables false

/-- A list of standard comparators, in one look. -/
def chkN (W m : Nat) (z : List (List Int)) : Bool := (z.length == m) && (List.range m).all fun k => decide (row z k = pr (nth (row z k) 0).toNat (nth (row z k) 1).toNat ∧ (nth (row z k) 0).toNat < (nth (row z k) 1).toNat ∧ (nth (row z k) 1).toNat < W)
theorem chkN_ok {W m : Nat} {z : List (List Int)} (h : chkN W m z = true) : NetR W m z ∧ StdR m z := by
  unfold chkN at h
  simp only [Bool.and_eq_true, beq_iff_eq, List.all_eq_true, decide_eq_true_eq] at h
  obtain ⟨h1, h2⟩ := h
  refine ⟨⟨h1, fun k hk => ?_⟩, ⟨h1, fun k hk => ?_⟩⟩
  · obtain ⟨e, a, b⟩ := h2 k (List.mem_range.2 hk)
    exact ⟨_, _, e, by omega, b, by omega⟩
  · obtain ⟨e, a, b⟩ := h2 k (List.mem_range.2 hk)
    exact ⟨_, _, e, a⟩
def leanB (W m : Nat) (z : List (List Int)) : Bool := sortB z m W && (List.range m).all fun i => !sortB (dropR z i) (m - 1) W
theorem leanB_ok {W m : Nat} {z : List (List Int)} (h : leanB W m z = true) : LeanR W m z := by
  unfold leanB at h
  simp only [Bool.and_eq_true, List.all_eq_true, Bool.not_eq_true'] at h
  exact ⟨h.1, fun i hi => h.2 i (List.mem_range.2 hi)⟩
def batB (W : Nat) : Bool := chkN W (lpV W) (batL W) && leanB W (lpV W) (batL W) && decide ((ldV W : Int) ≤ dpL (lvO (batL W) (lpV W)))
theorem batB_all : ∀ W : Nat, W < 5 → 1 ≤ W → batB W = true := by decide +kernel
/-- What the law asks of the shortest network. -/
theorem bat_all {W : Nat} (h1 : 1 ≤ W) (h4 : W ≤ 4) : NetR W (lpV W) (batL W) ∧ StdR (lpV W) (batL W) ∧ LeanR W (lpV W) (batL W) ∧ (ldV W : Int) ≤ dpL (lvO (batL W) (lpV W)) := by
  have h := batB_all W (by omega) h1
  unfold batB at h
  simp only [Bool.and_eq_true, decide_eq_true_eq] at h
  exact ⟨(chkN_ok h.1.1).1, (chkN_ok h.1.1).2, leanB_ok h.1.2, h.2⟩

/-- A list that sorts by itself, long and deep enough. -/
def coreB (W : Nat) (B : List (List Int)) : Bool := chkN W B.length B && decide (lpV W ≤ B.length) && decide ((ldV W : Int) ≤ dpL (lvO B B.length)) && (!decide (B.length = lpV W) || sortB B B.length W)
def CoreR (W : Nat) (B : List (List Int)) : Prop := NetR W B.length B ∧ lpV W ≤ B.length ∧ (ldV W : Int) ≤ dpL (lvO B B.length) ∧ (B.length = lpV W → sortB B B.length W = true)
theorem coreB_ok {W : Nat} {B : List (List Int)} (h : coreB W B = true) : CoreR W B := by
  unfold coreB at h
  simp only [Bool.and_eq_true, Bool.or_eq_true, Bool.not_eq_true', decide_eq_true_eq, decide_eq_false_iff_not] at h
  exact ⟨(chkN_ok h.1.1.1).1, h.1.1.2, h.1.2, fun e => h.2.resolve_left fun k => k e⟩
theorem core_all : ∀ W : Nat, W < 5 → 1 ≤ W → coreB W (batL W) = true ∧ coreB W (insJ W) = true := by decide +kernel
theorem netR_cat {W a b : Nat} {P Q : List (List Int)} (hP : NetR W a P) (hQ : NetR W b Q) : NetR W (a + b) (P ++ Q) := by
  refine ⟨by rw [List.length_append, hP.1, hQ.1], fun k hk => ?_⟩
  have hPl := hP.1
  by_cases h : k < a
  · have e : row (P ++ Q) k = row P k := by unfold row; rw [List.getD_eq_getElem?_getD, List.getD_eq_getElem?_getD, List.getElem?_append_left (by omega)]
    rw [e]
    exact hP.2 k h
  · have e : row (P ++ Q) k = row Q (k - a) := by unfold row; rw [List.getD_eq_getElem?_getD, List.getD_eq_getElem?_getD, List.getElem?_append_right (by omega), hPl]
    rw [e]
    exact hQ.2 (k - a) (by omega)
theorem row_mid {P B Q : List (List Int)} {j : Nat} (hj : j < B.length) : row (P ++ B ++ Q) (P.length + j) = row B j := by
  unfold row
  rw [List.getD_eq_getElem?_getD, List.getD_eq_getElem?_getD, List.getElem?_append_left (by rw [List.length_append]; omega), List.getElem?_append_right (by omega)]
  congr 2
  omega
theorem step_mono {l l' : List Int} {p q : Nat} (hp : nth l p ≤ nth l' p) (hq : nth l q ≤ nth l' q) : lvStep l p q ≤ lvStep l' p q := by
  unfold lvStep
  omega
theorem lv_mono {W m : Nat} {P B Q : List (List Int)} (h : NetR W m (P ++ B ++ Q)) (h8 : W ≤ 8) (hB : NetR W B.length B) : ∀ j, j ≤ B.length → (∀ p, p < 8 → nth (lvA B j) p ≤ nth (lvA (P ++ B ++ Q) (P.length + j)) p) ∧ dpL (lvO B j) ≤ dpL (lvO (P ++ B ++ Q) (P.length + j)) := by
  have hm := h.1
  rw [List.length_append, List.length_append] at hm
  intro j
  induction j with
  | zero =>
    intro _
    refine ⟨fun p hp => ?_, ?_⟩
    · obtain ⟨a, ha, _⟩ := lvA_bd h h8 (P.length + 0) (by omega) p hp
      have : ∀ p : Nat, p < 8 → nth [0, 0, 0, 0, 0, 0, 0, 0] p = 0 := by decide
      rw [ha, lvA, this p hp]
      omega
    · have h0 : ∀ k, 0 ≤ dpL (lvO (P ++ B ++ Q) k) := by
        intro k
        induction k with
        | zero => exact Int.le_refl _
        | succ k ik => rw [lvO, dpL_snoc]; omega
      exact h0 _
  | succ j ih =>
    intro hj
    obtain ⟨i1, i2⟩ := ih (by omega)
    obtain ⟨p, q, hr, hp, hq, hpq⟩ := hB.2 j (by omega)
    have hr2 := row_mid (P := P) (Q := Q) (j := j) (B := B) (by omega)
    have hs := step_mono (i1 p (by omega)) (i1 q (by omega))
    rw [← Nat.add_assoc]
    have l1 := lvA_len B j
    have l2 := lvA_len (P ++ B ++ Q) (P.length + j)
    refine ⟨fun x hx => ?_, ?_⟩
    · rw [lvA, lvA, lvNext, lvNext, hr2, hr, pr_fst, pr_snd, nth_set (by rw [List.length_set]; omega), nth_set (by omega), nth_set (by rw [List.length_set]; omega), nth_set (by omega)]
      by_cases e1 : q = x
      · rw [if_pos e1, if_pos e1]; exact hs
      · rw [if_neg e1, if_neg e1]
        by_cases e2 : p = x
        · rw [if_pos e2, if_pos e2]; exact hs
        · rw [if_neg e2, if_neg e2]; exact i1 x hx
    · rw [lvO, lvO, dpL_snoc, dpL_snoc, hr2, hr, pr_fst, pr_snd]
      omega
theorem dp_more (z : List (List Int)) (k : Nat) : ∀ t, dpL (lvO z k) ≤ dpL (lvO z (k + t)) := by
  intro t
  induction t with
  | zero => exact Int.le_refl _
  | succ t ih => rw [← Nat.add_assoc, lvO, dpL_snoc]; omega
theorem core_law {W m : Nat} {P B Q : List (List Int)} (h4 : W ≤ 4) (hB : CoreR W B) (hP : ∃ k, NetR W k P) (hQ : ∃ k, NetR W k Q) (hm : (P ++ B ++ Q).length = m) :
    lpV W ≤ m ∧ NetR W m (P ++ B ++ Q) ∧ (ldV W : Int) ≤ dpL (lvO (P ++ B ++ Q) m) ∧ (m = lpV W → sortB (P ++ B ++ Q) m W = true) := by
  obtain ⟨b1, b2, b3, b4⟩ := hB
  obtain ⟨a, hP⟩ := hP
  obtain ⟨c, hQ⟩ := hQ
  have hN : NetR W m (P ++ B ++ Q) := by
    have h := netR_cat (netR_cat hP b1) hQ
    have e : a + B.length + c = m := by rw [← hm, List.length_append, List.length_append, hP.1, hQ.1]
    rw [e] at h
    exact h
  have hl := hm
  rw [List.length_append, List.length_append] at hl
  refine ⟨by omega, hN, ?_, fun e => ?_⟩
  · have h1 := (lv_mono hN (by omega) b1 B.length (Nat.le_refl _)).2
    have h2 := dp_more (P ++ B ++ Q) (P.length + B.length) Q.length
    rw [hl] at h2
    omega
  · have p0 : P.length = 0 := by omega
    have q0 : Q.length = 0 := by omega
    rw [List.length_eq_zero_iff] at p0 q0
    subst p0; subst q0
    have e2 : B.length = m := by simpa using hm
    rw [List.nil_append, List.append_nil, ← e2]
    exact b4 (by omega)
/-- What the law asks of the other network. -/
theorem y_law {W m : Nat} {z : List (List Int)} (h1 : 1 ≤ W) (h4 : W ≤ 4) (hz : YL W z) (hm : z.length = m) : lpV W ≤ m ∧ NetR W m z ∧ (ldV W : Int) ≤ dpL (lvO z m) ∧ (m = lpV W → sortB z m W = true) := by
  obtain ⟨Y, Q, rfl, hY, hQ⟩ := hz
  have hc := core_all W (by omega) h1
  rcases hY with ⟨P, rfl, hP⟩ | rfl
  · exact core_law h4 (coreB_ok hc.1) hP hQ hm
  · have h := core_law (P := []) (m := m) h4 (coreB_ok hc.2) ⟨0, netR_nil W⟩ hQ hm
    rw [List.nil_append] at h
    exact h
end Go.Proofs.YtobdkfhmmpigiaaGreat
