/- Chapter 17: the plain law of meshes. -/
import Derived.Test.YtogfnmjedeoecaaC17m
import Derived.Test.YtogfnmjedeoecaaC17g
import Derived.Test.YtogfnmjedeoecaaC17c
import Derived.Test.YtogfnmjedeoecaaC17a2
namespace Go.Proofs.Ytogfnmjedeoecaa
open Go.RowKit Go.Deep
set_option linter.unusedVariables false

theorem shFrom_end {zss : List (List Int)} {n M : Nat} : ∀ f k, risesB (snakeTo (shSt zss n M (k + f)) n) = true → risesB (snakeTo (shSt zss n M (shFrom zss n M f k)) n) = true := by
  intro f
  induction f with
  | zero =>
    intro k h
    rw [show shFrom zss n M 0 k = k by unfold shFrom; rfl]
    exact h
  | succ f ih =>
    intro k h
    cases hr : risesB (snakeTo (shSt zss n M k) n) with
    | true => rw [shFrom_stop hr]; exact hr
    | false => rw [shFrom_go hr]; exact ih (k + 1) (by rw [show k + 1 + f = k + (f + 1) by omega]; exact h)
theorem shK_rises (zss : List (List Int)) {n M : Nat} (hn1 : 1 ≤ n) (hn : n ≤ 4) (hM1 : 1 ≤ M) (hM : M ≤ 4) : risesB (snakeTo (shSt zss n M (shK zss n M)) n) = true := by
  unfold shK
  exact shFrom_end _ 0 (by rw [Nat.zero_add]; exact sh_end zss hn1 hn hM1 hM)
theorem shFrom_ge (zss : List (List Int)) (n M : Nat) : ∀ f k, k ≤ shFrom zss n M f k := by
  intro f
  induction f with
  | zero => intro k; rw [show shFrom zss n M 0 k = k by unfold shFrom; rfl]; exact Nat.le_refl _
  | succ f ih =>
    intro k
    cases hr : risesB (snakeTo (shSt zss n M k) n) with
    | true => rw [shFrom_stop hr]; exact Nat.le_refl _
    | false => rw [shFrom_go hr]; have := ih (k + 1); omega
theorem shK_zero (zss : List (List Int)) (n M : Nat) : shK zss n M = 0 ↔ risesB (snakeTo (shSt zss n M 0) n) = true := by
  have hb : shB n = (shB n - 1) + 1 := by unfold shB; split; rfl; split <;> rfl
  cases hr : risesB (snakeTo (shSt zss n M 0) n) with
  | true => exact ⟨fun _ => rfl, fun _ => by unfold shK; exact shFrom_stop hr⟩
  | false =>
    refine ⟨fun h => ?_, fun h => by cases h⟩
    unfold shK at h
    rw [hb, shFrom_go hr] at h
    have := shFrom_ge zss n M (shB n - 1) (0 + 1)
    omega
theorem list_rows {a b : List (List Int)} {n : Nat} (ha : a.length = n) (hb : b.length = n) (h : ∀ i, i < n → row a i = row b i) : a = b := by
  apply List.ext_getElem
  · omega
  · intro i h1 h2
    have := h i (by omega)
    simpa [row, List.getD, h1, h2] using this
theorem nth_ext {a b : List Int} {n : Nat} (ha : a.length = n) (hb : b.length = n) (h : ∀ i, i < n → nth a i = nth b i) : a = b := by
  apply List.ext_getElem
  · omega
  · intro i h1 h2
    rw [← nth_eq h1, ← nth_eq h2]
    exact h i (by omega)
theorem colTo_nth {zss : List (List Int)} {j i : Nat} : ∀ n, i < n → nth (colTo zss j n) i = nth (row zss i) j := by
  intro n
  induction n with
  | zero => intro h; omega
  | succ n ih =>
    intro h
    have hl := colTo_len zss j n
    rw [colTo_succ]
    by_cases e : i = n
    · subst e
      have := nth_app_right (a := colTo zss j i) (b := [nth (row zss i) j]) (k := 0) hl (by simp)
      rw [Nat.add_zero] at this
      rw [this, nth_cons_zero]
    · rw [nth_app_left (by omega)]
      exact ih (by omega)
theorem flip_flip {zss : List (List Int)} {n M : Nat} (hl : zss.length = n) (hr : ∀ k, k < n → (row zss k).length = M) : flip (flip zss n M) M n = zss := by
  refine list_rows (flip_len _ _ _) hl fun i hi => ?_
  rw [flip_row hi]
  refine nth_ext (colTo_len _ _ _) (hr i hi) fun j hj => ?_
  rw [colTo_nth _ hj, flip_row hj, colTo_nth _ hi]
theorem flip_cols {zss : List (List Int)} {n M : Nat} : flip (colL zss n M) n M = colS zss n M := by
  unfold colL
  exact flip_flip (colS_len _ _ _) (colS_rows _ _ _)

/-- How many numbers of a mesh hold. -/
def allC (p : Int → Bool) (zss : List (List Int)) : Nat → Nat
  | 0 => 0
  | n + 1 => allC p zss n + (row zss n).countP p
theorem allC_snake (p : Int → Bool) (zss : List (List Int)) : ∀ n, (snakeTo zss n).countP p = allC p zss n := by
  intro n
  induction n with
  | zero => rw [snakeTo_zero]; rfl
  | succ n ih => rw [snakeTo_succ, List.countP_append, ih, allC, (snakeRow_perm _ _).countP_eq]
theorem allC_congr {p : Int → Bool} {a b : List (List Int)} : ∀ n, (∀ i, i < n → (row a i).countP p = (row b i).countP p) → allC p a n = allC p b n := by
  intro n
  induction n with
  | zero => intro _; rfl
  | succ n ih => intro h; rw [allC, allC, ih (fun i hi => h i (by omega)), h n (by omega)]
theorem countP_nth (p : Int → Bool) (zs : List Int) : zs.countP p = numTo (fun j => p (nth zs j)) zs.length := by
  have : ∀ k, k ≤ zs.length → (zs.take k).countP p = numTo (fun j => p (nth zs j)) k := by
    intro k
    induction k with
    | zero => intro _; simp [numTo]
    | succ k ih =>
      intro h
      rw [take_nth (by omega), List.countP_append, ih (by omega), numTo, List.countP_cons, List.countP_nil, Nat.zero_add]
  have h := this zs.length (Nat.le_refl _)
  rwa [List.take_length] at h
def sumTo (f : Nat → Nat) : Nat → Nat
  | 0 => 0
  | n + 1 => sumTo f n + f n
theorem sumTo_congr {f g : Nat → Nat} : ∀ n, (∀ i, i < n → f i = g i) → sumTo f n = sumTo g n := by
  intro n
  induction n with
  | zero => intro _; rfl
  | succ n ih => intro h; rw [sumTo, sumTo, ih (fun i hi => h i (by omega)), h n (by omega)]
theorem sumTo_add (f g : Nat → Nat) (n : Nat) : sumTo (fun i => f i + g i) n = sumTo f n + sumTo g n := by
  induction n with
  | zero => rfl
  | succ n ih => simp only [sumTo, ih]; omega
theorem sumTo_zero (n : Nat) : sumTo (fun _ => 0) n = 0 := by
  induction n with
  | zero => rfl
  | succ n ih => simp only [sumTo, ih]
theorem sumTo_swap (f : Nat → Nat → Nat) (n m : Nat) : sumTo (fun i => sumTo (fun j => f i j) m) n = sumTo (fun j => sumTo (fun i => f i j) n) m := by
  induction n with
  | zero => simp only [sumTo]; exact (sumTo_zero m).symm
  | succ n ih => simp only [sumTo]; rw [ih, ← sumTo_add]
theorem numTo_sum (p : Nat → Bool) (n : Nat) : numTo p n = sumTo (fun i => if p i = true then 1 else 0) n := by
  induction n with
  | zero => rfl
  | succ n ih => rw [numTo, sumTo, ih]
theorem allC_sum {p : Int → Bool} {zss : List (List Int)} {n M : Nat} : ∀ k, k ≤ n → (∀ i, i < n → (row zss i).length = M) → allC p zss k = sumTo (fun i => sumTo (fun j => if p (nth (row zss i) j) = true then 1 else 0) M) k := by
  intro k
  induction k with
  | zero => intro _ _; rfl
  | succ k ih => intro h1 h2; rw [allC, sumTo, ih (by omega) h2, countP_nth, h2 k (by omega), numTo_sum]
theorem allC_flip {p : Int → Bool} {zss : List (List Int)} {n M : Nat} (h : ∀ i, i < n → (row zss i).length = M) : allC p (flip zss n M) M = allC p zss n := by
  rw [allC_sum M (Nat.le_refl _) (flip_rows zss n M), allC_sum n (Nat.le_refl _) h, sumTo_swap]
  refine sumTo_congr n fun i hi => sumTo_congr M fun j hj => ?_
  rw [flip_row hj, colTo_nth _ hi]
theorem allC_sort {p : Int → Bool} {zss : List (List Int)} {n : Nat} : allC p (sortL zss n) n = allC p zss n :=
  allC_congr n fun i hi => by rw [sortL_row hi, (snakeRow_perm _ _).countP_eq, (srt_perm _).countP_eq]
theorem allC_cols {p : Int → Bool} {zss : List (List Int)} {n M : Nat} (h : ∀ i, i < n → (row zss i).length = M) : allC p (colL zss n M) n = allC p zss n := by
  unfold colL
  rw [allC_flip (colS_rows zss n M)]
  rw [← allC_flip h]
  exact allC_congr M fun j hj => by rw [colS_row hj, flip_row hj, (srt_perm _).countP_eq]
theorem allC_step {p : Int → Bool} {zss : List (List Int)} {n M : Nat} (hl : zss.length = n) (h : ∀ i, i < n → (row zss i).length = M) : ∀ k, allC p (shSt zss n M k) n = allC p zss n := by
  intro k
  induction k with
  | zero => rw [shSt_zero, flip_flip hl h]
  | succ k ih =>
    by_cases e : k % 2 = 0
    · rw [shSt_even e, allC_sort, ih]
    · rw [shSt_odd e, allC_cols (shSt_rows zss n M k), ih]
theorem snake_perm {zss : List (List Int)} {n M : Nat} (hl : zss.length = n) (h : ∀ i, i < n → (row zss i).length = M) (k : Nat) : (snakeTo (shSt zss n M k) n).Perm (snakeTo zss n) := by
  rw [List.perm_iff_count]
  intro a
  show List.countP (fun x => x == a) _ = List.countP (fun x => x == a) _
  rw [allC_snake, allC_snake, allC_step hl h]
theorem rises_srt {zs : List Int} (h : risesB zs = true) : Srt zs := by
  rw [rises_iff] at h
  have up : ∀ d i, i + d < zs.length → nth zs i ≤ nth zs (i + d) := by
    intro d
    induction d with
    | zero => intro i _; exact Int.le_refl _
    | succ d ih => intro i hi; exact Int.le_trans (ih i (by omega)) (h (i + d) (by omega))
  rw [Srt, List.pairwise_iff_getElem]
  intro i j hi hj hij
  have := up (j - i) i (by omega)
  rw [show i + (j - i) = j by omega, nth_eq hi, nth_eq hj] at this
  exact this
theorem srt_rises {zs : List Int} (h : Srt zs) : risesB zs = true := by
  rw [rises_iff]
  intro k hk
  exact srt_nth h (by omega) hk
theorem srt_same {a b : List Int} (h : a.Perm b) : srt a = srt b := srt_eq ((srt_perm a).trans (h.trans (srt_perm b).symm)) (srt_srt a) (srt_srt b)
theorem srt_snake {zss : List (List Int)} {n M : Nat} (hl : zss.length = n) (h : ∀ i, i < n → (row zss i).length = M) (hn1 : 1 ≤ n) (hn : n ≤ 4) (hM1 : 1 ≤ M) (hM : M ≤ 4) : srt (snakeTo zss n) = snakeTo (shSt zss n M (shK zss n M)) n :=
  srt_eq ((srt_perm _).trans (snake_perm hl h _).symm) (srt_srt _) (rises_srt (shK_rises zss hn1 hn hM1 hM))
theorem srt_row (zs : List Int) (k : Nat) : srt (snakeRow (srt zs) k) = srt zs := by
  rw [srt_same ((snakeRow_perm _ _).trans (srt_perm _))]

/-- The mesh that is made again from its snake. -/
theorem drop_part {a b : List Int} {m k : Nat} (ha : a.length = k * m) (hb : b.length = m) (c : List Int) : part (a ++ b ++ c) m k = b := by
  unfold part
  rw [List.append_assoc, List.drop_left' ha, List.take_left' hb]
theorem part_snake {zss : List (List Int)} {M i : Nat} : ∀ n, (∀ k, k < n → (row zss k).length = M) → i < n → ∃ c, snakeTo zss n = snakeTo zss i ++ snakeRow (row zss i) i ++ c := by
  intro n
  induction n with
  | zero => intro _ h; omega
  | succ n ih =>
    intro h hi
    rw [snakeTo_succ]
    by_cases e : i = n
    · subst e; exact ⟨[], by simp⟩
    · obtain ⟨c, hc⟩ := ih (fun k hk => h k (by omega)) (by omega)
      exact ⟨c ++ snakeRow (row zss n) n, by rw [hc, List.append_assoc _ c]⟩
theorem meshL_snake {zss : List (List Int)} {n M : Nat} (hl : zss.length = n) (h : ∀ i, i < n → (row zss i).length = M) : meshL (snakeTo zss n) n M = zss := by
  refine list_rows (meshL_len _ _ _) hl fun i hi => ?_
  obtain ⟨c, hc⟩ := part_snake n h hi
  have hli := snakeTo_len (zss := zss) (n := i) (m := M) (fun k hk => h k (by omega)) i (Nat.le_refl _)
  rw [meshL_row hi, hc, drop_part hli (by rw [snakeRow_len, h i hi]), snakeRow_snake]

/-- Which rows are dirty. -/
theorem low_to (zs : List Int) (t : Int) : ∀ k, k ≤ zs.length → (lowTo zs t k = true ↔ ((zs.take k).countP fun x => decide (x < t)) ≠ 0) := by
  intro k
  induction k with
  | zero => intro _; rw [low_zero]; simp
  | succ k ih =>
    intro h
    rw [take_nth (by omega), List.countP_append, List.countP_cons, List.countP_nil]
    by_cases e : nth zs k < t
    · rw [low_lt e]; simp [e]
    · rw [low_ge e, ih (by omega)]; simp [e]
theorem high_to (zs : List Int) (t : Int) : ∀ k, k ≤ zs.length → (highTo zs t k = true ↔ ((zs.take k).countP fun x => decide (t ≤ x)) ≠ 0) := by
  intro k
  induction k with
  | zero => intro _; rw [high_zero]; simp
  | succ k ih =>
    intro h
    rw [take_nth (by omega), List.countP_append, List.countP_cons, List.countP_nil]
    by_cases e : nth zs k < t
    · rw [high_lt e, ih (by omega)]; simp [show ¬ t ≤ nth zs k by omega]
    · rw [high_ge e]; simp [show t ≤ nth zs k by omega]
theorem cnt_not (t : Int) (zs : List Int) : (zs.countP fun x => decide (x < t)) + cnt t zs = zs.length := by
  unfold cnt
  induction zs with
  | nil => rfl
  | cons a zs ih =>
    rw [List.countP_cons, List.countP_cons, List.length_cons]
    by_cases e : a < t
    · simp [e, show ¬ t ≤ a by omega]; omega
    · simp [e, show t ≤ a by omega]; omega
theorem dirty_cnt {zs : List Int} {t : Int} {M : Nat} (hl : zs.length = M) : dirty zs t = decide (0 < cnt t zs ∧ cnt t zs < M) := by
  have h1 := low_to zs t zs.length (Nat.le_refl _)
  have h2 := high_to zs t zs.length (Nat.le_refl _)
  rw [List.take_length] at h1 h2
  have h3 := cnt_not t zs
  rw [dirty_spec rfl, Bool.eq_iff_iff, Bool.and_eq_true, h1, h2, decide_eq_true_eq]
  unfold cnt at *
  omega
theorem dirtyTo_cnt {zss : List (List Int)} {t : Int} {M : Nat} : ∀ n, (∀ i, i < n → (row zss i).length = M) → dirtyTo zss t n = numTo (fun i => decide (0 < rowC t zss i ∧ rowC t zss i < M)) n := by
  intro n
  induction n with
  | zero => intro _; rw [dirtyTo_zero]; rfl
  | succ n ih =>
    intro h
    have hd := dirty_cnt (t := t) (h n (by omega))
    rw [numTo]
    cases e : dirty (row zss n) t with
    | true => rw [dirtyTo_on e, ih (fun i hi => h i (by omega))]; rw [e] at hd; unfold rowC; rw [← hd]; rfl
    | false => rw [dirtyTo_off e, ih (fun i hi => h i (by omega))]; rw [e] at hd; unfold rowC; rw [← hd]; rfl
theorem dirty_sort {zss : List (List Int)} {t : Int} {n M : Nat} (h : ∀ i, i < n → (row zss i).length = M) : dirtyTo (sortL zss n) t n = dirtyTo zss t n := by
  rw [dirtyTo_cnt n (sortL_rows h), dirtyTo_cnt n h]
  refine numTo_congr n fun i hi => ?_
  have : rowC t (sortL zss n) i = rowC t zss i := by
    unfold rowC
    rw [sortL_row hi]
    exact (cnt_perm (snakeRow_perm _ _)).trans (cnt_perm (srt_perm _))
  rw [this]
def dirtyL (M n : Nat) (l : List Nat) : Nat := numTo (fun i => decide (0 < ofV l i ∧ ofV l i < M)) n
theorem fewD1 : ∀ M, M < 5 → ∀ a, a ≤ M → dirtyL M 1 (stepL M 1 [a]) ≤ 1 := by decide +kernel
theorem fewD2 : ∀ M, M < 5 → ∀ a, a ≤ M → ∀ b, b ≤ M → dirtyL M 2 (stepL M 2 [a, b]) ≤ 1 := by decide +kernel
theorem fewD3 : ∀ M, M < 5 → ∀ a, a ≤ M → ∀ b, b ≤ M → ∀ c, c ≤ M → dirtyL M 3 (stepL M 3 [a, b, c]) ≤ 2 := by decide +kernel
theorem fewD4 : ∀ M, M < 5 → ∀ a, a ≤ M → ∀ b, b ≤ M → ∀ c, c ≤ M → ∀ d, d ≤ M → dirtyL M 4 (stepL M 4 [a, b, c, d]) ≤ 2 := by decide +kernel
theorem dirty_few {zss : List (List Int)} {t : Int} {n M : Nat} (hn1 : 1 ≤ n) (hn : n ≤ 4) (hM : M ≤ 4) (h : ∀ i, i < n → (row zss i).length = M) : dirtyTo (colL (sortL zss n) n M) t n ≤ (n + 1) / 2 := by
  rw [dirtyTo_cnt n (colL_rows _ n M)]
  have e : numTo (fun i => decide (0 < rowC t (colL (sortL zss n) n M) i ∧ rowC t (colL (sortL zss n) n M) i < M)) n = dirtyL M n (stepL M n (vec (rowC t zss) n)) := by
    unfold dirtyL
    refine numTo_congr n fun i hi => ?_
    rw [colL_cnt t h hi, ofV_step hi]
  rw [e]
  have c0 : ∀ j, j < n → rowC t zss j ≤ M := fun j hj => rowC_le t h hj
  generalize rowC t zss = c at *
  have hcase : n = 1 ∨ n = 2 ∨ n = 3 ∨ n = 4 := by omega
  rcases hcase with rfl | rfl | rfl | rfl
  · exact fewD1 M (by omega) _ (c0 0 (by omega))
  · exact fewD2 M (by omega) _ (c0 0 (by omega)) _ (c0 1 (by omega))
  · exact fewD3 M (by omega) _ (c0 0 (by omega)) _ (c0 1 (by omega)) _ (c0 2 (by omega))
  · exact fewD4 M (by omega) _ (c0 0 (by omega)) _ (c0 1 (by omega)) _ (c0 2 (by omega)) _ (c0 3 (by omega))

theorem meshTo_all {zss : List (List Int)} {M : Nat} : ∀ n, (∀ i, i < n → (row zss i).length = M) → (row zss 0).length = M → meshTo zss n = true := by
  intro n
  induction n with
  | zero => intro _ _; exact meshTo_zero _
  | succ n ih => intro h h0; exact meshTo_on (ih (fun i hi => h i (by omega)) h0) (by rw [h n (by omega), h0])
theorem meshV_of {zss : List (List Int)} {n M : Nat} (hl : zss.length = n) (h1 : 1 ≤ n ∧ n ≤ 4) (h2 : 1 ≤ M ∧ M ≤ 4) (h : ∀ i, i < n → (row zss i).length = M) : meshV zss = true :=
  mesh_yes hl h1 (h 0 (by omega)) h2 (meshTo_all n h (h 0 (by omega)))
theorem mesh_num {n M : Nat} (h1 : n ≤ 4) (h2 : M ≤ 4) : n * M ≤ 16 := Nat.mul_le_mul h1 h2
/-- All that the law asks of a mesh. -/
structure MeshL (zss : List (List Int)) (n M : Nat) (S T : List Int) (G A C X Q E : List (List Int)) (K : Nat) : Prop where
  ok : meshV zss = true
  snake : snakeV zss = S
  lenS : S.length = n * M
  shear : shearV zss = G
  num : shearN zss = (K : Int)
  lenG : G.length = n
  bound : ∃ b : Nat, boundN (n : Int) = (b : Int) ∧ K ≤ b
  top : snakeV G = T
  lenT : T.length = n * M
  rises : risesB T = true
  sort : srt S = T
  fits : okMesh (n * M) (n : Int) (M : Int) = true
  back : mofL (n * M) S (n : Int) (M : Int) = zss
  rowsA : sortV zss = A
  lenA : A.length = n
  inA : ∀ i, i < n → (row A i).length = M
  colsC : colV A = C
  lenC : C.length = n
  inC : ∀ i, i < n → (row C i).length = M
  few : ∀ v, ∃ d : Nat, dirtyV C v = (d : Int) ∧ d ≤ (n + 1) / 2
  dirt : ∀ v, dirtyV A v = dirtyV zss v
  turnX : flipV zss = X
  lenX : X.length = M
  inX : ∀ i, i < M → (row X i).length = n
  turnY : flipV X = zss
  colsQ : colV zss = Q
  turnE : flipV Q = E
  lenQ : Q.length = n
  inE : ∀ i, i < M → (row E i).length = n
  lenE : E.length = M
  sameA : ∀ i, i < n → srt (row A i) = srt (row zss i)
  sameE : ∀ i, i < M → row E i = srt (row X i)
  none : decide (K = 0) = risesB S
theorem mesh_law {zss : List (List Int)} {n M : Nat} (hl : zss.length = n) (h1 : 1 ≤ n ∧ n ≤ 4) (h2 : 1 ≤ M ∧ M ≤ 4) (h : ∀ i, i < n → (row zss i).length = M) : ∃ S T G A C X Q E K, MeshL zss n M S T G A C X Q E K := by
  have hok := meshV_of hl h1 h2 h
  have h0 := h 0 (by omega)
  have hN : n * M ≤ 16 := mesh_num h1.2 h2.2
  have hGl := shSt_len zss n M (shK zss n M)
  have hGr := shSt_rows zss n M (shK zss n M)
  have hGok := meshV_of hGl h1 h2 hGr
  have hAl := sortL_len zss n
  have hAr := sortL_rows h
  have hAok := meshV_of hAl h1 h2 hAr
  have hCl := colL_len (sortL zss n) n M
  have hCr := colL_rows (sortL zss n) n M
  have hCok := meshV_of hCl h1 h2 hCr
  have hXl := flip_len zss n M
  have hXr := flip_rows zss n M
  have hXok := meshV_of hXl h2 h1 hXr
  have hQl := colL_len zss n M
  have hQr := colL_rows zss n M
  have hQok := meshV_of hQl h1 h2 hQr
  have hs0 := shK_zero zss n M
  rw [shSt_zero, flip_flip hl h] at hs0
  refine ⟨snakeTo zss n, snakeTo (shSt zss n M (shK zss n M)) n, shSt zss n M (shK zss n M), sortL zss n, colL (sortL zss n) n M, flip zss n M, colL zss n M, colS zss n M, shK zss n M, ?_⟩
  exact {
    ok := hok
    snake := snakeV_yes hl hok
    lenS := snakeTo_len h n (Nat.le_refl _)
    shear := shearV_yes hl h0 hok
    num := shearN_yes hl h0 hok
    lenG := hGl
    bound := by
      have hk := shK_le zss n M
      have hc : n = 1 ∨ n = 2 ∨ n = 3 ∨ n = 4 := by omega
      rcases hc with rfl | rfl | rfl | rfl
      · exact ⟨1, rfl, hk⟩
      · exact ⟨3, rfl, hk⟩
      · exact ⟨5, rfl, hk⟩
      · exact ⟨5, rfl, hk⟩
    top := snakeV_yes hGl hGok
    lenT := snakeTo_len hGr n (Nat.le_refl _)
    rises := shK_rises zss h1.1 h1.2 h2.1 h2.2
    sort := srt_snake hl h h1.1 h1.2 h2.1 h2.2
    fits := by rw [okMesh, decide_eq_true_eq]; exact ⟨by omega, by omega, by rw [Int.natCast_mul]⟩
    back := by rw [mofL_yes (by rw [okMesh, decide_eq_true_eq]; exact ⟨by omega, by omega, by rw [Int.natCast_mul]⟩)]; exact meshL_snake hl h
    rowsA := sortV_yes hl hok
    lenA := hAl
    inA := hAr
    colsC := colV_yes hAl (hAr 0 (by omega)) hAok
    lenC := hCl
    inC := hCr
    few := fun v => ⟨_, dirtyV_yes hCl hCok, dirty_few h1.1 h1.2 h2.2 h⟩
    dirt := fun v => by rw [dirtyV_yes hAl hAok, dirtyV_yes hl hok, dirty_sort h]
    turnX := flipV_yes hl h0 hok
    lenX := hXl
    inX := hXr
    turnY := by rw [flipV_yes hXl (hXr 0 (by omega)) hXok]; exact flip_flip hl h
    colsQ := colV_yes hl h0 hok
    turnE := by rw [flipV_yes hQl (hQr 0 (by omega)) hQok]; exact flip_cols
    lenQ := hQl
    inE := colS_rows _ _ _
    lenE := colS_len _ _ _
    sameA := fun i hi => by rw [sortL_row hi]; exact srt_row _ _
    sameE := fun i hi => by rw [colS_row hi, flip_row hi]
    none := by rw [Bool.eq_iff_iff, decide_eq_true_eq]; exact hs0 }
end Go.Proofs.Ytogfnmjedeoecaa
