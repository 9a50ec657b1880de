/- Chapter 17: the plain law of shear sorting: after so many steps the numbers rise along the snake. -/
import Derived.Test.YtogfnmjedeoecaaC17k
namespace Go.Proofs.Ytogfnmjedeoecaa
open Go.RowKit Go.Deep
set_option linter.unusedVariables false

/-- How many of the first n places hold. -/
def numTo (p : Nat → Bool) : Nat → Nat
  | 0 => 0
  | n + 1 => numTo p n + if p n = true then 1 else 0
theorem numTo_congr {p q : Nat → Bool} : ∀ n, (∀ i, i < n → p i = q i) → numTo p n = numTo q n := by
  intro n
  induction n with
  | zero => intro _; rfl
  | succ n ih => intro h; rw [numTo, numTo, ih (fun i hi => h i (by omega)), h n (by omega)]
theorem numTo_le (p : Nat → Bool) (n : Nat) : numTo p n ≤ n := by
  induction n with
  | zero => exact Nat.le_refl _
  | succ n ih => rw [numTo]; split <;> omega
/-- How many numbers of a list are at least t. -/
def cnt (t : Int) (l : List Int) : Nat := l.countP fun x => decide (t ≤ x)
theorem cnt_le (t : Int) (l : List Int) : cnt t l ≤ l.length := List.countP_le_length
theorem cnt_perm {t : Int} {a b : List Int} (h : a.Perm b) : cnt t a = cnt t b := h.countP_eq _
theorem cnt_snoc (t : Int) (l : List Int) (x : Int) : cnt t (l ++ [x]) = cnt t l + if decide (t ≤ x) = true then 1 else 0 := by
  unfold cnt
  rw [List.countP_append, List.countP_cons, List.countP_nil]
  simp
theorem cnt_col (t : Int) (zss : List (List Int)) (j : Nat) : ∀ n, cnt t (colTo zss j n) = numTo (fun i => decide (t ≤ nth (row zss i) j)) n := by
  intro n
  induction n with
  | zero => rw [colTo_zero]; rfl
  | succ n ih => rw [colTo_succ, cnt_snoc, ih, numTo]
theorem nth_cons_succ (a : Int) (l : List Int) (k : Nat) : nth (a :: l) (k + 1) = nth l k := by simp [nth]
theorem nth_cons_zero (a : Int) (l : List Int) : nth (a :: l) 0 = a := by simp [nth]
theorem cnt_srt (t : Int) : ∀ l : List Int, Srt l → ∀ j, j < l.length → (t ≤ nth l j ↔ l.length - cnt t l ≤ j) := by
  intro l
  induction l with
  | nil => intro _ j h; simp at h
  | cons a l ih =>
    intro h j hj
    have ha := (List.pairwise_cons.1 h).1
    have hl := (List.pairwise_cons.1 h).2
    by_cases e : t ≤ a
    · have hc : cnt t (a :: l) = (a :: l).length := by
        unfold cnt
        rw [List.countP_eq_length]
        intro x hx
        rcases List.mem_cons.1 hx with rfl | hx
        · simpa using e
        · have := ha x hx; simp; omega
      rw [hc]
      refine ⟨fun _ => by omega, fun _ => ?_⟩
      cases j with
      | zero => rw [nth_cons_zero]; exact e
      | succ j =>
        rw [nth_cons_succ]
        have hjl : j < l.length := by simpa using hj
        have := ha _ (nth_mem hjl)
        omega
    · have hc : cnt t (a :: l) = cnt t l := by
        unfold cnt
        rw [List.countP_cons]
        simp [e]
      have hle := cnt_le t l
      rw [hc, List.length_cons]
      cases j with
      | zero => rw [nth_cons_zero]; exact ⟨fun h => absurd h e, fun h => by omega⟩
      | succ j =>
        have hjl : j < l.length := by simpa using hj
        rw [nth_cons_succ, ih hl j hjl]
        omega

theorem nth_rev {zs : List Int} {j : Nat} (h : j < zs.length) : nth (revTo zs zs.length) j = nth zs (zs.length - 1 - j) := by
  rw [nth_eq (by rw [revTo_len]; exact h)]
  unfold revTo
  simp
theorem rev_eq (zs : List Int) : revTo zs zs.length = zs.reverse := by
  apply List.ext_getElem
  · rw [revTo_len, List.length_reverse]
  · intro i h1 h2
    rw [revTo_len] at h1
    rw [← nth_eq (by rw [revTo_len]; exact h1), nth_rev h1, List.getElem_reverse, nth_eq (by omega)]
theorem snakeRow_perm (zs : List Int) (r : Nat) : (snakeRow zs r).Perm zs := by
  by_cases h : r % 2 = 1
  · rw [snakeRow_odd rfl h, rev_eq]; exact List.reverse_perm _
  · rw [snakeRow_even h]
theorem snakeRow_snake (zs : List Int) (r : Nat) : snakeRow (snakeRow zs r) r = zs := by
  by_cases h : r % 2 = 1
  · rw [snakeRow_odd rfl h, snakeRow_odd rfl h, rev_eq, rev_eq, List.reverse_reverse]
  · rw [snakeRow_even h, snakeRow_even h]
/-- Where place j of a row lies along the snake. -/
def turn (M i j : Nat) : Nat := if i % 2 = 1 then M - 1 - j else j
theorem snakeRow_nth {zs : List Int} {M r j : Nat} (hl : zs.length = M) (hj : j < M) : nth (snakeRow zs r) j = nth zs (turn M r j) := by
  unfold turn
  by_cases h : r % 2 = 1
  · rw [if_pos h, snakeRow_odd rfl h, nth_rev (by omega), hl]
  · rw [if_neg h, snakeRow_even h]

/-- How many numbers of row i are at least t. -/
def rowC (t : Int) (zss : List (List Int)) (i : Nat) : Nat := cnt t (row zss i)
def colC (M n : Nat) (c : Nat → Nat) (j : Nat) : Nat := numTo (fun i => decide (M - c i ≤ turn M i j)) n
def stepC (M n : Nat) (c : Nat → Nat) (i : Nat) : Nat := numTo (fun j => decide (n - colC M n c j ≤ i)) M
theorem sort_ge {zss : List (List Int)} {n M i j : Nat} (t : Int) (h : ∀ k, k < n → (row zss k).length = M) (hi : i < n) (hj : j < M) :
    (t ≤ nth (row (sortL zss n) i) j) ↔ M - rowC t zss i ≤ turn M i j := by
  have hl : (srt (row zss i)).length = M := by rw [srt_len, h i hi]
  have ht : turn M i j < M := by unfold turn; split <;> omega
  rw [sortL_row hi, snakeRow_nth hl hj, cnt_srt t _ (srt_srt _) _ (by omega), hl, rowC, cnt_perm (srt_perm _)]
theorem col_cnt {zss : List (List Int)} {n M j : Nat} (t : Int) (h : ∀ k, k < n → (row zss k).length = M) (hj : j < M) :
    cnt t (colTo (sortL zss n) j n) = colC M n (rowC t zss) j := by
  rw [cnt_col, colC]
  refine numTo_congr n fun i hi => ?_
  rw [Bool.eq_iff_iff, decide_eq_true_eq, decide_eq_true_eq]
  exact sort_ge t h hi hj
theorem colL_cnt {zss : List (List Int)} {n M i : Nat} (t : Int) (h : ∀ k, k < n → (row zss k).length = M) (hi : i < n) :
    rowC t (colL (sortL zss n) n M) i = stepC M n (rowC t zss) i := by
  rw [rowC, colL, flip_row hi, cnt_col, stepC]
  refine numTo_congr M fun j hj => ?_
  rw [Bool.eq_iff_iff, decide_eq_true_eq, decide_eq_true_eq, colS_row hj, cnt_srt t _ (srt_srt _) _ (by rw [srt_len, colTo_len]; exact hi), srt_len, colTo_len, cnt_perm (srt_perm _), col_cnt t h hj]
theorem colC_congr {M n : Nat} {c d : Nat → Nat} (h : ∀ i, i < n → c i = d i) (j : Nat) : colC M n c j = colC M n d j := numTo_congr n fun i hi => by rw [h i hi]
theorem stepC_congr {M n : Nat} {c d : Nat → Nat} (h : ∀ i, i < n → c i = d i) (i : Nat) : stepC M n c i = stepC M n d i := numTo_congr M fun j hj => by rw [colC_congr h j]

/-- The numbers of each row, laid as a list. -/
def vec (c : Nat → Nat) (n : Nat) : List Nat := (List.range n).map c
def ofV (l : List Nat) (i : Nat) : Nat := l.getD i 0
theorem ofV_vec {c : Nat → Nat} {n i : Nat} (h : i < n) : ofV (vec c n) i = c i := by simp [ofV, vec, List.getD, h]
def stepL (M n : Nat) (l : List Nat) : List Nat := vec (stepC M n (ofV l)) n
def goodL (M n : Nat) (l : List Nat) : Bool := (List.range n).all fun i => decide (i + 1 < n → 0 < ofV l i → ofV l (i + 1) = M)
theorem good1 : ∀ M, M < 5 → ∀ a, a ≤ M → goodL M 1 [a] = true := by decide +kernel
theorem good2 : ∀ M, M < 5 → ∀ a, a ≤ M → ∀ b, b ≤ M → goodL M 2 (stepL M 2 [a, b]) = true := by decide +kernel
theorem good3 : ∀ M, M < 5 → ∀ a, a ≤ M → ∀ b, b ≤ M → ∀ c, c ≤ M → goodL M 3 (stepL M 3 (stepL M 3 [a, b, c])) = true := by decide +kernel
theorem good4 : ∀ M, M < 5 → ∀ a, a ≤ M → ∀ b, b ≤ M → ∀ c, c ≤ M → ∀ d, d ≤ M → goodL M 4 (stepL M 4 (stepL M 4 [a, b, c, d])) = true := by decide +kernel

/-- Does a list rise? -/
def risesB (zs : List Int) : Bool := (List.range (zs.length - 1)).all fun k => decide (nth zs k ≤ nth zs (k + 1))
theorem rises_iff (zs : List Int) : risesB zs = true ↔ ∀ k, k + 1 < zs.length → nth zs k ≤ nth zs (k + 1) := by
  unfold risesB
  rw [List.all_eq_true]
  simp only [List.mem_range, decide_eq_true_eq]
  exact ⟨fun h k hk => h k (by omega), fun h k hk => h k (by omega)⟩

/-- The mesh behind k steps of shear sorting. -/
def shSt (zss : List (List Int)) (n M : Nat) : Nat → List (List Int)
  | 0 => flip (flip zss n M) M n
  | k + 1 => if k % 2 = 0 then sortL (shSt zss n M k) n else colL (shSt zss n M k) n M
theorem shSt_zero (zss : List (List Int)) (n M : Nat) : shSt zss n M 0 = flip (flip zss n M) M n := rfl
theorem shSt_even {zss : List (List Int)} {n M k : Nat} (h : k % 2 = 0) : shSt zss n M (k + 1) = sortL (shSt zss n M k) n := by rw [shSt, if_pos h]
theorem shSt_odd {zss : List (List Int)} {n M k : Nat} (h : ¬ k % 2 = 0) : shSt zss n M (k + 1) = colL (shSt zss n M k) n M := by rw [shSt, if_neg h]
theorem shSt_len (zss : List (List Int)) (n M : Nat) : ∀ k, (shSt zss n M k).length = n := by
  intro k
  cases k with
  | zero => exact flip_len _ _ _
  | succ k =>
    rw [shSt]
    split
    · exact sortL_len _ _
    · exact colL_len _ _ _
theorem shSt_rows (zss : List (List Int)) (n M : Nat) : ∀ k, ∀ i, i < n → (row (shSt zss n M k) i).length = M := by
  intro k
  induction k with
  | zero => exact flip_rows _ _ _
  | succ k ih =>
    rw [shSt]
    split
    · exact sortL_rows ih
    · exact colL_rows _ _ _
attribute [irreducible] shSt
def shB (n : Nat) : Nat := if n = 1 then 1 else if n = 2 then 3 else 5

/-- A mesh whose rows, from the first one with a number of at least t on, hold only such. -/
def Good (n M : Nat) (y : List (List Int)) : Prop := ∀ t i, i + 1 < n → 0 < rowC t y i → rowC t y (i + 1) = M
theorem good_out {M n : Nat} {l : List Nat} (h : goodL M n l = true) {i : Nat} (hi : i + 1 < n) (h0 : 0 < ofV l i) : ofV l (i + 1) = M := by
  unfold goodL at h
  rw [List.all_eq_true] at h
  have := h i (List.mem_range.2 (by omega))
  rw [decide_eq_true_eq] at this
  exact this hi h0
theorem ofV_step {M n : Nat} {c : Nat → Nat} {i : Nat} (h : i < n) : ofV (stepL M n (vec c n)) i = stepC M n c i := by
  rw [stepL, ofV_vec h]
  exact stepC_congr (fun k hk => ofV_vec hk) i
theorem stepL_vec (M n : Nat) (c : Nat → Nat) : stepL M n (vec c n) = vec (stepC M n c) n := by
  unfold stepL vec
  apply List.map_congr_left
  intro i hi
  have := List.mem_range.1 hi
  exact stepC_congr (fun k hk => ofV_vec hk) i
theorem rowC_le {zss : List (List Int)} {n M : Nat} (t : Int) (h : ∀ k, k < n → (row zss k).length = M) {i : Nat} (hi : i < n) : rowC t zss i ≤ M := by
  rw [← h i hi]; exact cnt_le _ _
theorem sh_good (zss : List (List Int)) {n M : Nat} (hn1 : 1 ≤ n) (hn : n ≤ 4) (hM : M ≤ 4) : Good n M (shSt zss n M (shB n - 1)) := by
  intro t i hi h0
  have hr := fun k => shSt_rows zss n M k
  have one : ∀ k, k % 2 = 0 → ∀ j, j < n → rowC t (shSt zss n M (k + 2)) j = stepC M n (rowC t (shSt zss n M k)) j := by
    intro k hk j hj
    rw [show k + 2 = (k + 1) + 1 from rfl, shSt_odd (k := k + 1) (by omega), shSt_even hk]
    exact colL_cnt t (hr k) hj
  have c0 : ∀ j, j < n → rowC t (shSt zss n M 0) j ≤ M := fun j hj => rowC_le t (hr 0) hj
  have hcase : n = 1 ∨ n = 2 ∨ n = 3 ∨ n = 4 := by omega
  have two : ∀ j, j < n → rowC t (shSt zss n M 4) j = stepC M n (stepC M n (rowC t (shSt zss n M 0))) j := by
    intro j hj
    rw [show (4 : Nat) = 2 + 2 from rfl, one 2 rfl j hj]
    exact stepC_congr (fun k hk => one 0 rfl k hk) j
  generalize hc : rowC t (shSt zss n M 0) = c at *
  rcases hcase with rfl | rfl | rfl | rfl
  · omega
  · have e : shB 2 - 1 = 0 + 2 := rfl
    rw [e] at h0 ⊢
    rw [one 0 rfl _ (by omega), hc] at h0 ⊢
    rw [← ofV_step (by omega)] at h0 ⊢
    have hv : vec c 2 = [c 0, c 1] := rfl
    rw [hv] at h0 ⊢
    exact good_out (good2 M (by omega) _ (c0 0 (by omega)) _ (c0 1 (by omega))) hi h0
  · have e : shB 3 - 1 = 4 := rfl
    rw [e] at h0 ⊢
    rw [two _ (by omega)] at h0 ⊢
    rw [← ofV_step (by omega)] at h0 ⊢
    rw [← stepL_vec] at h0 ⊢
    have hv : vec c 3 = [c 0, c 1, c 2] := rfl
    rw [hv] at h0 ⊢
    exact good_out (good3 M (by omega) _ (c0 0 (by omega)) _ (c0 1 (by omega)) _ (c0 2 (by omega))) hi h0
  · have e : shB 4 - 1 = 4 := rfl
    rw [e] at h0 ⊢
    rw [two _ (by omega)] at h0 ⊢
    rw [← ofV_step (by omega)] at h0 ⊢
    rw [← stepL_vec] at h0 ⊢
    have hv : vec c 4 = [c 0, c 1, c 2, c 3] := rfl
    rw [hv] at h0 ⊢
    exact good_out (good4 M (by omega) _ (c0 0 (by omega)) _ (c0 1 (by omega)) _ (c0 2 (by omega)) _ (c0 3 (by omega))) hi h0

theorem nth_app_left {a b : List Int} {k : Nat} (h : k < a.length) : nth (a ++ b) k = nth a k := by
  rw [nth_eq (by rw [List.length_append]; omega), nth_eq h, List.getElem_append_left h]
theorem nth_app_right {a b : List Int} {k m : Nat} (h : a.length = m) (hk : k < b.length) : nth (a ++ b) (m + k) = nth b k := by
  rw [nth_eq (by rw [List.length_append]; omega), nth_eq hk, List.getElem_append_right (by omega)]
  congr 1
  omega
theorem snake_nth {zss : List (List Int)} {M i j : Nat} : ∀ n, (∀ k, k < n → (row zss k).length = M) → i < n → j < M → nth (snakeTo zss n) (i * M + j) = nth (snakeRow (row zss i) i) j := by
  intro n
  induction n with
  | zero => intro _ h; omega
  | succ n ih =>
    intro h hi hj
    have hl := snakeTo_len (zss := zss) (n := n) (m := M) (fun k hk => h k (by omega)) n (Nat.le_refl _)
    rw [snakeTo_succ]
    by_cases e : i = n
    · subst e
      exact nth_app_right hl (by rw [snakeRow_len, h i (by omega)]; exact hj)
    · rw [nth_app_left, ih (fun k hk => h k (by omega)) (by omega) hj]
      rw [hl]
      have h1 : (i + 1) * M ≤ n * M := Nat.mul_le_mul_right M (by omega)
      rw [Nat.succ_mul] at h1
      omega
theorem sorted_snake {y : List (List Int)} {n M : Nat} (hM1 : 1 ≤ M) (hr : ∀ k, k < n → (row y k).length = M) (hg : Good n M y) : risesB (snakeTo (sortL y n) n) = true := by
  rw [rises_iff]
  have hr2 := sortL_rows hr
  have hl := snakeTo_len hr2 n (Nat.le_refl _)
  have at_ : ∀ i j, i < n → j < M → nth (snakeTo (sortL y n) n) (i * M + j) = nth (srt (row y i)) j := by
    intro i j hi hj
    rw [snake_nth n hr2 hi hj, sortL_row hi, snakeRow_snake]
  have ge : ∀ t i j, i < n → j < M → (t ≤ nth (srt (row y i)) j ↔ M - rowC t y i ≤ j) := by
    intro t i j hi hj
    rw [cnt_srt t _ (srt_srt _) _ (by rw [srt_len, hr i hi]; exact hj), srt_len, hr i hi, rowC, cnt_perm (srt_perm _)]
  intro k hk
  rw [hl] at hk
  have hkm := Nat.div_add_mod k M
  have hj : k % M < M := Nat.mod_lt _ (by omega)
  have hi : k / M < n := by
    rcases Nat.lt_or_ge (k / M) n with h | h
    · exact h
    · have := Nat.mul_le_mul_left M h
      rw [Nat.mul_comm M n] at this
      omega
  generalize k / M = i at *
  generalize k % M = j at *
  rw [Nat.mul_comm] at hkm
  subst hkm
  by_cases hj1 : j + 1 < M
  · rw [Nat.add_assoc, at_ i j hi hj, at_ i (j + 1) hi hj1]
    have h1 := (ge _ i j hi hj).1 (Int.le_refl _)
    exact (ge _ i (j + 1) hi hj1).2 (by omega)
  · have e : i * M + j + 1 = (i + 1) * M + 0 := by rw [Nat.succ_mul]; omega
    have hi1 : i + 1 < n := by
      rcases Nat.lt_or_ge (i + 1) n with h | h
      · exact h
      · have := Nat.mul_le_mul_right M h
        omega
    rw [e, at_ i j hi hj, at_ (i + 1) 0 hi1 (by omega)]
    have h1 := (ge _ i j hi hj).1 (Int.le_refl _)
    have h2 := hg (nth (srt (row y i)) j) i hi1 (by omega)
    exact (ge _ (i + 1) 0 hi1 (by omega)).2 (by omega)
theorem sh_end (zss : List (List Int)) {n M : Nat} (hn1 : 1 ≤ n) (hn : n ≤ 4) (hM1 : 1 ≤ M) (hM : M ≤ 4) : risesB (snakeTo (shSt zss n M (shB n)) n) = true := by
  have h1 : shB n = (shB n - 1) + 1 ∧ (shB n - 1) % 2 = 0 := by unfold shB; split; exact ⟨rfl, rfl⟩; split <;> exact ⟨rfl, rfl⟩
  rw [h1.1, shSt_even h1.2]
  exact sorted_snake hM1 (shSt_rows zss n M _) (sh_good zss hn1 hn hM)
/-- The first step at which the numbers rise, the k-th or a later one. -/
def shFrom (zss : List (List Int)) (n M : Nat) : Nat → Nat → Nat
  | 0, k => k
  | f + 1, k => if risesB (snakeTo (shSt zss n M k) n) = true then k else shFrom zss n M f (k + 1)
def shK (zss : List (List Int)) (n M : Nat) : Nat := shFrom zss n M (shB n) 0
theorem shFrom_stop {zss : List (List Int)} {n M f k : Nat} (h : risesB (snakeTo (shSt zss n M k) n) = true) : shFrom zss n M f k = k := by
  cases f with
  | zero => rfl
  | succ f => rw [shFrom, if_pos h]
theorem shFrom_go {zss : List (List Int)} {n M f k : Nat} (h : risesB (snakeTo (shSt zss n M k) n) = false) : shFrom zss n M (f + 1) k = shFrom zss n M f (k + 1) := by rw [shFrom, h]; rfl
theorem shFrom_le (zss : List (List Int)) (n M : Nat) : ∀ f k, shFrom zss n M f k ≤ k + f := by
  intro f
  induction f with
  | zero => intro k; exact Nat.le_refl _
  | succ f ih => intro k; rw [shFrom]; split; omega; have := ih (k + 1); omega
theorem shK_le (zss : List (List Int)) (n M : Nat) : shK zss n M ≤ shB n := by have := shFrom_le zss n M (shB n) 0; unfold shK; omega
attribute [irreducible] shFrom
end Go.Proofs.Ytogfnmjedeoecaa
