/- Chapter 12: both sides see the same results and count the same kinds (plain Lean, the last step by computing). -/
import Derived.Test.YtobdkfhmmpigiaaGreatC12v2
namespace Go.Proofs.YtobdkfhmmpigiaaGreat
open Go.RowKit Go.Deep
set_option linter.unusedVariables false

/-- What K comparators lead to. -/
def leafP (n : Nat) : Nat → Nat → Nat → Prop
  | 0, c, x => x = c
  | K + 1, c, x => ∃ p ∈ allP n 0, leafP n K (stepC n p.1 p.2 c) x
theorem leaf_end (n : Nat) : ∀ K c x, leafP n (K + 1) c x ↔ ∃ y, leafP n K c y ∧ ∃ p ∈ allP n 0, x = stepC n p.1 p.2 y := by
  intro K
  induction K with
  | zero =>
    intro c x
    constructor
    · rintro ⟨p, hp, h⟩; exact ⟨c, rfl, p, hp, h⟩
    · rintro ⟨y, rfl, p, hp, h⟩; exact ⟨p, hp, h⟩
  | succ K ih =>
    intro c x
    constructor
    · rintro ⟨p, hp, h⟩
      obtain ⟨y, h1, h2⟩ := (ih _ _).1 h
      exact ⟨y, ⟨p, hp, h1⟩, h2⟩
    · rintro ⟨y, ⟨p, hp, h1⟩, h2⟩
      exact ⟨p, hp, (ih _ _).2 ⟨y, h1, h2⟩⟩
theorem run_mem (n : Nat) : ∀ K c out x, x ∈ runC n K c out ↔ x ∈ out ∨ leafP n K c x := by
  intro K
  induction K with
  | zero =>
    intro c out x
    rw [runC]
    by_cases h : out.contains c = true
    · rw [if_pos h]
      rw [List.contains_iff_mem] at h
      constructor
      · exact Or.inl
      · rintro (h2 | h2)
        · exact h2
        · have h2 : x = c := h2
          rw [h2]; exact h
    · rw [if_neg h, List.mem_append, List.mem_singleton]
      exact Iff.rfl
  | succ K ih =>
    intro c out x
    rw [runC]
    show x ∈ (allP n 0).foldl _ out ↔ x ∈ out ∨ ∃ p ∈ allP n 0, leafP n K (stepC n p.1 p.2 c) x
    generalize allP n 0 = l
    induction l generalizing out with
    | nil => simp
    | cons p l il =>
      rw [List.foldl_cons, il, ih]
      simp only [List.mem_cons]
      constructor
      · rintro ((h | h) | ⟨q, hq, h⟩)
        · exact .inl h
        · exact .inr ⟨p, .inl rfl, h⟩
        · exact .inr ⟨q, .inr hq, h⟩
      · rintro (h | ⟨q, rfl | hq, h⟩)
        · exact .inl (.inl h)
        · exact .inl (.inr h)
        · exact .inr ⟨q, hq, h⟩
theorem run_nodup (n : Nat) : ∀ K c out, out.Nodup → (runC n K c out).Nodup := by
  intro K
  induction K with
  | zero =>
    intro c out h
    rw [runC]
    by_cases hc : out.contains c = true
    · rw [if_pos hc]; exact h
    · rw [if_neg hc]
      rw [List.contains_iff_mem] at hc
      rw [List.nodup_append]
      exact ⟨h, by simp, fun a ha b hb e => by simp at hb; subst hb; subst e; exact hc ha⟩
  | succ K ih =>
    intro c out h
    rw [runC]
    generalize allP n 0 = l
    induction l generalizing out with
    | nil => exact h
    | cons p l il => rw [List.foldl_cons]; exact il _ (ih _ _ h)
theorem add_perm {n : Nat} {z : List Nat} {x : Nat} (h : ¬ z.contains x = true) : (addC n z x).Perm (x :: z) := by
  rw [addC, if_neg h, List.append_assoc]
  have h2 : (z.take (posC n z x) ++ ([x] ++ z.drop (posC n z x))).Perm (x :: (z.take (posC n z x) ++ z.drop (posC n z x))) := List.perm_middle
  rw [List.take_append_drop] at h2
  exact h2
theorem add_mem {n : Nat} {z : List Nat} {x y : Nat} : y ∈ addC n z x ↔ y ∈ z ∨ y = x := by
  by_cases h : z.contains x = true
  · rw [addC, if_pos h]
    rw [List.contains_iff_mem] at h
    constructor
    · exact Or.inl
    · rintro (h2 | h2)
      · exact h2
      · rw [h2]; exact h
  · rw [(add_perm h).mem_iff, List.mem_cons]
    exact Or.comm
theorem add_nodup {n : Nat} {z : List Nat} {x : Nat} (hz : z.Nodup) : (addC n z x).Nodup := by
  by_cases h : z.contains x = true
  · rw [addC, if_pos h]; exact hz
  · rw [(add_perm h).nodup_iff, List.nodup_cons]
    rw [List.contains_iff_mem] at h
    exact ⟨h, hz⟩
theorem pair_mem {n c x : Nat} {z : List Nat} : ∀ k, x ∈ pairC n c z k ↔ x ∈ z ∨ ∃ i, i < k ∧ x = stepC n (pkP n i).1 (pkP n i).2 c := by
  intro k
  induction k with
  | zero => rw [pairC]; simp
  | succ k ih =>
    rw [pairC, add_mem, ih]
    constructor
    · rintro ((h | ⟨i, h1, h2⟩) | h)
      · exact .inl h
      · exact .inr ⟨i, by omega, h2⟩
      · exact .inr ⟨k, by omega, h⟩
    · rintro (h | ⟨i, h1, h2⟩)
      · exact .inl (.inl h)
      · by_cases e : i = k
        · subst e; exact .inr h2
        · exact .inl (.inr ⟨i, by omega, h2⟩)
theorem pair_nodup {n c : Nat} {z : List Nat} (hz : z.Nodup) : ∀ k, (pairC n c z k).Nodup := by
  intro k
  induction k with
  | zero => exact hz
  | succ k ih => rw [pairC]; exact add_nodup ih
theorem std_allP : ∀ n : Nat, n < 5 → (stdL n).length = (allP n 0).length := by decide +kernel
theorem pk_mem {n : Nat} {p : Nat × Nat} (hn : n ≤ 4) : p ∈ allP n 0 ↔ ∃ i, i < (stdL n).length ∧ pkP n i = p := by
  rw [std_allP n (by omega)]
  constructor
  · intro h
    obtain ⟨i, hi, e⟩ := List.getElem_of_mem h
    exact ⟨i, hi, by unfold pkP; rw [List.getD_eq_getElem?_getD, List.getElem?_eq_getElem hi]; exact e⟩
  · rintro ⟨i, hi, rfl⟩
    unfold pkP
    rw [List.getD_eq_getElem?_getD, List.getElem?_eq_getElem hi]
    exact List.getElem_mem hi
theorem set_mem {n x : Nat} {now : List Nat} (hn : n ≤ 4) : ∀ j, j ≤ now.length → (x ∈ setC n now j ↔ ∃ y ∈ now.take j, ∃ p ∈ allP n 0, x = stepC n p.1 p.2 y) := by
  intro j
  induction j with
  | zero => intro _; rw [setC]; simp
  | succ j ih =>
    intro hj
    rw [setC, pair_mem, ih (by omega), List.take_succ_eq_append_getElem (by omega)]
    have e : now.getD j 0 = now[j] := by rw [List.getD_eq_getElem?_getD, List.getElem?_eq_getElem (by omega)]; rfl
    rw [e]
    constructor
    · rintro (⟨y, h1, h2⟩ | ⟨i, h1, h2⟩)
      · exact ⟨y, List.mem_append.2 (.inl h1), h2⟩
      · exact ⟨now[j], List.mem_append.2 (.inr (List.mem_singleton.2 rfl)), pkP n i, (pk_mem hn).2 ⟨i, h1, rfl⟩, h2⟩
    · rintro ⟨y, h1, p, hp, h2⟩
      rcases List.mem_append.1 h1 with h1 | h1
      · exact .inl ⟨y, h1, p, hp, h2⟩
      · simp at h1
        subst h1
        obtain ⟨i, hi, rfl⟩ := (pk_mem hn).1 hp
        exact .inr ⟨i, hi, h2⟩
theorem set_nodup {n : Nat} {now : List Nat} : ∀ j, (setC n now j).Nodup := by
  intro j
  induction j with
  | zero => rw [setC]; simp
  | succ j ih => rw [setC]; exact pair_nodup ih _
theorem lvl_mem {n : Nat} (hn : n ≤ 4) : ∀ K x, x ∈ lvlC n K ↔ leafP n K (2 ^ 2 ^ n - 1) x := by
  intro K
  induction K with
  | zero => intro x; rw [lvlC, List.mem_singleton]; exact Iff.rfl
  | succ K ih =>
    intro x
    rw [lvlC, set_mem hn _ (Nat.le_refl _), List.take_length, leaf_end]
    constructor
    · rintro ⟨y, h1, h2⟩; exact ⟨y, (ih y).1 h1, h2⟩
    · rintro ⟨y, h1, h2⟩; exact ⟨y, (ih y).2 h1, h2⟩
theorem lvl_nodup (n : Nat) : ∀ K, (lvlC n K).Nodup := by
  intro K
  cases K with
  | zero => rw [lvlC]; simp
  | succ K => rw [lvlC]; exact set_nodup _
theorem out_perm {n : Nat} (hn : n ≤ 4) (K : Nat) : (outC n K).Perm (lvlC n K) := by
  refine (List.perm_ext_iff_of_nodup (run_nodup n K _ [] (by simp)) (lvl_nodup n K)).2 fun x => ?_
  rw [run_mem, lvl_mem hn]
  simp

def srtB (n : Nat) (S : List Nat) : Bool := (List.range S.length).all fun j => (List.range j).all fun i => decide (¬ cmpV (dec n (S.getD j 0)) (dec n (S.getD i 0)) < 0)
def chkB (n K : Nat) : Bool := srtB n (lvlC n K)
def chkC (n K : Nat) : Bool := (kinSC n (lvlC n K) (lvlC n K).length).length == (kinIC n (lvlC n K) (lvlC n K).length).length
theorem b1_ : ∀ K : Nat, K < 6 → chkB 1 K = true := by decide +kernel
theorem b2_ : ∀ K : Nat, K < 6 → chkB 2 K = true := by decide +kernel
theorem b3_ : ∀ K : Nat, K < 6 → chkB 3 K = true := by decide +kernel
theorem b40 : chkB 4 0 = true := by decide +kernel
theorem b41 : chkB 4 1 = true := by decide +kernel
theorem b42 : chkB 4 2 = true := by decide +kernel
theorem b43 : chkB 4 3 = true := by decide +kernel
theorem b44 : chkB 4 4 = true := by decide +kernel
theorem b45 : chkB 4 5 = true := by decide +kernel
theorem c1_ : ∀ K : Nat, K < 6 → chkC 1 K = true := by decide +kernel
theorem c2_ : ∀ K : Nat, K < 6 → chkC 2 K = true := by decide +kernel
theorem c3_ : ∀ K : Nat, K < 6 → chkC 3 K = true := by decide +kernel
theorem c40 : chkC 4 0 = true := by decide +kernel
theorem c41 : chkC 4 1 = true := by decide +kernel
theorem c42 : chkC 4 2 = true := by decide +kernel
theorem c43 : chkC 4 3 = true := by decide +kernel
theorem c44 : chkC 4 4 = true := by decide +kernel
theorem c45 : chkC 4 5 = true := by decide +kernel
theorem chk_all {n K : Nat} (h1 : 1 ≤ n) (h4 : n ≤ 4) (hK : K ≤ 5) : chkB n K = true ∧ chkC n K = true := by
  have hc : n = 1 ∨ n = 2 ∨ n = 3 ∨ n = 4 := by omega
  rcases hc with rfl | rfl | rfl | rfl
  · exact ⟨b1_ K (by omega), c1_ K (by omega)⟩
  · exact ⟨b2_ K (by omega), c2_ K (by omega)⟩
  · exact ⟨b3_ K (by omega), c3_ K (by omega)⟩
  · have hk : K = 0 ∨ K = 1 ∨ K = 2 ∨ K = 3 ∨ K = 4 ∨ K = 5 := by omega
    rcases hk with rfl | rfl | rfl | rfl | rfl | rfl
    · exact ⟨b40, c40⟩
    · exact ⟨b41, c41⟩
    · exact ⟨b42, c42⟩
    · exact ⟨b43, c43⟩
    · exact ⟨b44, c44⟩
    · exact ⟨b45, c45⟩

/-- A list that the order leaves no choice. -/
theorem sorted_one {L M : List (List Int)} (hp : L.Perm M) (h1 : ∀ i j, i < j → j < L.length → ¬ cmpV (row L j) (row L i) < 0) (h2 : ∀ i j, i < j → j < M.length → ¬ cmpV (row M j) (row M i) < 0) : L = M := by
  have key : ∀ {z : List (List Int)}, (∀ i j, i < j → j < z.length → ¬ cmpV (row z j) (row z i) < 0) → z.Pairwise fun a b => ¬ cmpV b a < 0 := by
    intro z h
    rw [List.pairwise_iff_getElem]
    intro i j hi hj hij
    have h3 := h i j hij hj
    have e : ∀ k (hk : k < z.length), row z k = z[k] := fun k hk => by unfold row; rw [List.getD_eq_getElem?_getD, List.getElem?_eq_getElem hk]; rfl
    rw [e i hi, e j hj] at h3
    exact h3
  exact List.Perm.eq_of_pairwise (fun a b _ _ h3 h4 => cmpV_eq a b h4 h3) (key h1) (key h2) hp
/-- THE PLAIN LAW: whatever sorted order of the program's results, the kinds are as many. -/
theorem kinds_law {n K : Nat} (h1 : 1 ≤ n) (h4 : n ≤ 4) (hK : K ≤ 5) {L : List (List Int)} (hp : L.Perm (outI n K)) (hs : ∀ i j, i < j → j < L.length → ¬ cmpV (row L j) (row L i) < 0) : (kinI n L L.length).length = kindsS n K := by
  obtain ⟨hB, hC⟩ := chk_all h1 h4 hK
  obtain ⟨hl, hlt⟩ := lvl_dec h4 K
  have hLM : L = (lvlC n K).map (dec n) := by
    refine sorted_one (hp.trans ?_) hs fun i j hij hj => ?_
    · rw [out_dec h4]
      exact (out_perm h4 K).map _
    · rw [List.length_map] at hj
      rw [row_map n _ hj, row_map n _ (by omega)]
      exact of_decide_eq_true (List.all_eq_true.1 (List.all_eq_true.1 hB j (List.mem_range.2 hj)) i (List.mem_range.2 hij))
  unfold kindsS
  rw [hLM, hl, List.length_map, kinI_dec h4 _ (Nat.le_refl _), kinS_dec h1 h4 _ (Nat.le_refl _), List.length_map, List.length_map]
  unfold chkC at hC
  exact (beq_iff_eq.1 hC).symm
end Go.Proofs.YtobdkfhmmpigiaaGreat
