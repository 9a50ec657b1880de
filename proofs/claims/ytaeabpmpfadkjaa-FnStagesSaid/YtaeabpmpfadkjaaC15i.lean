/- Chapter 15: the switches with which an order passes: the plain law. -/
import Derived.Test.YtaeabpmpfadkjaaC15g
import Derived.Test.YtaeabpmpfadkjaaMat3
namespace Go.Proofs.Ytaeabpmpfadkjaa
open Go.RowKit Go.Deep
set_option linter.unusedVariables false

/-- The position behind the first s of the last i stages. -/
def posR (n b : Nat) : Nat → Nat → Nat → Nat
  | _, p, 0 => p
  | 0, p, _ + 1 => p
  | i + 1, p, s + 1 => posR n b i (nxt n b i p) s
theorem posR_zero (n b i p : Nat) : posR n b i p 0 = p := by cases i <;> rfl
theorem nth_pathR (n b : Nat) : ∀ i p s, s < i → nth (pathR n b i p) s = (posR n b i p (s + 1) : Int) := by
  intro i
  induction i with
  | zero => intro p s h; omega
  | succ i ih =>
    intro p s h
    rw [pathR_succ]
    cases s with
    | zero => rw [posR, posR_zero]; simp [nth]
    | succ s =>
      have : nth ((nxt n b i p : Int) :: pathR n b i (nxt n b i p)) (s + 1) = nth (pathR n b i (nxt n b i p)) s := by simp [nth]
      rw [this, ih _ _ (by omega)]
      rfl
theorem nth_crossR (n b : Nat) : ∀ i p s, s < i → nth (crossR n b i p) s = (crs n b (i - 1 - s) (posR n b i p s) : Int) := by
  intro i
  induction i with
  | zero => intro p s h; omega
  | succ i ih =>
    intro p s h
    rw [crossR_succ]
    cases s with
    | zero => rw [posR_zero]; simp [nth]
    | succ s =>
      have : nth ((crs n b i p : Int) :: crossR n b i (nxt n b i p)) (s + 1) = nth (crossR n b i (nxt n b i p)) s := by simp [nth]
      rw [this, ih _ _ (by omega), posR]
      have : i + 1 - 1 - (s + 1) = i - 1 - s := by omega
      rw [this]
theorem posR_succ (n b : Nat) : ∀ i p s, s < i → posR n b i p (s + 1) = nxt n b (i - 1 - s) (posR n b i p s) := by
  intro i
  induction i with
  | zero => intro p s h; omega
  | succ i ih =>
    intro p s h
    cases s with
    | zero =>
      show posR n b i (nxt n b i p) 0 = _
      rw [posR_zero, posR_zero]
      rfl
    | succ s =>
      rw [posR, ih _ _ (by omega), posR]
      have : i + 1 - 1 - (s + 1) = i - 1 - s := by omega
      rw [this]
theorem posR_lt {n b : Nat} (hn : n = 2 ∨ n = 4 ∨ n = 8) : ∀ i p s, p < n → posR n b i p s < n := by
  intro i
  induction i with
  | zero => intro p s h; cases s <;> exact h
  | succ i ih =>
    intro p s h
    cases s with
    | zero => exact h
    | succ s => exact ih _ _ (nxt_lt hn h)

/-- The place of path i of an order before stage s; what its switch does there. -/
def pz (n : Nat) (zs : List Int) (i s : Nat) : Nat := posR n i (stgN n) (nth zs i).toNat s
def cz (n : Nat) (zs : List Int) (i s : Nat) : Nat := crs n i (stgN n - 1 - s) (pz n zs i s)
theorem pz_zero (n : Nat) (zs : List Int) (i : Nat) : pz n zs i 0 = (nth zs i).toNat := posR_zero _ _ _ _
theorem pz_succ {n : Nat} {zs : List Int} {i s : Nat} (h : s < stgN n) : pz n zs i (s + 1) = nxt n i (stgN n - 1 - s) (pz n zs i s) := posR_succ _ _ _ _ _ h
theorem path_nth {n : Nat} {zs : List Int} {i s : Nat} (h : s < stgN n) : nth (pathL n (nth zs i).toNat i) s = (pz n zs i (s + 1) : Int) := nth_pathR _ _ _ _ _ h
theorem cross_nth {n : Nat} {zs : List Int} {i s : Nat} (h : s < stgN n) : nth (crossL n (nth zs i).toNat i) s = (cz n zs i s : Int) := nth_crossR _ _ _ _ _ h
theorem nxt_def (n b i p : Nat) : nxt n b i p = shuf n p / 2 * 2 + b / 2 ^ i % 2 := by unfold nxt; rfl
theorem crs_def (n b i p : Nat) : crs n b i p = (shuf n p + b / 2 ^ i % 2) % 2 := by unfold crs; rfl
theorem crossed {n : Nat} {zs : List Int} {i s : Nat} (h : s < stgN n) : (shuf n (pz n zs i s) = pz n zs i (s + 1) ∧ cz n zs i s = 0) ∨ (shuf n (pz n zs i s) ≠ pz n zs i (s + 1) ∧ cz n zs i s = 1) := by
  rw [pz_succ h, cz, nxt_def, crs_def]
  have h2 : i / 2 ^ (stgN n - 1 - s) % 2 < 2 := Nat.mod_lt _ (by omega)
  generalize i / 2 ^ (stgN n - 1 - s) % 2 = β at *
  generalize shuf n (pz n zs i s) = t at *
  omega
theorem shuf_inj {n p q : Nat} (hn : n = 2 ∨ n = 4 ∨ n = 8) (hp : p < n) (hq : q < n) (h : shuf n p = shuf n q) : p = q := by
  have h2 : ∀ p, p < 2 → ∀ q, q < 2 → shuf 2 p = shuf 2 q → p = q := by decide +kernel
  have h4 : ∀ p, p < 4 → ∀ q, q < 4 → shuf 4 p = shuf 4 q → p = q := by decide +kernel
  have h8 : ∀ p, p < 8 → ∀ q, q < 8 → shuf 8 p = shuf 8 q → p = q := by decide +kernel
  rcases hn with rfl | rfl | rfl
  · exact h2 p hp q hq h
  · exact h4 p hp q hq h
  · exact h8 p hp q hq h

theorem row_all {zs : List Int} {i : Nat} : ∀ m, rowTo zs i m = true → ∀ k, k < m → pairMeet zs i k = false := by
  intro m
  induction m with
  | zero => intro _ k h; omega
  | succ m ih =>
    intro h k hk
    rw [rowTo, Bool.and_eq_true] at h
    by_cases e : k = m
    · subst e; simpa using h.2
    · exact ih h.1 k (by omega)
theorem pass_all {zs : List Int} : ∀ m, passTo zs m = true → ∀ i, i < m → ∀ k, k < i → pairMeet zs i k = false := by
  intro m
  induction m with
  | zero => intro _ i h; omega
  | succ m ih =>
    intro h i hi
    rw [passTo, Bool.and_eq_true] at h
    by_cases e : i = m
    · subst e; exact row_all i h.2
    · exact ih h.1 i (by omega)
theorem meetTo_all {xs ys : List Int} : ∀ m, meetTo xs ys m = false → ∀ k, k < m → nth xs k ≠ nth ys k := by
  intro m
  induction m with
  | zero => intro _ k h; omega
  | succ m ih =>
    intro h k hk
    rw [meetTo, Bool.or_eq_false_iff] at h
    by_cases e : k = m
    · subst e; simpa using h.2
    · exact ih h.1 k (by omega)
/-- What an order that passes gives. -/
theorem can_out {zs : List Int} {n : Nat} (hl : zs.length = n) (h : canV zs = true) :
    (n = 2 ∨ n = 4 ∨ n = 8) ∧ (∀ i, i < n → ∃ z : Nat, nth zs i = z ∧ z < n) ∧ ∀ i k s, k < i → i < n → s ≤ stgN n → pz n zs i s ≠ pz n zs k s := by
  rw [canV, Bool.and_eq_true] at h
  obtain ⟨hn, ho⟩ := ordV_out h.1 hl
  have hget : ∀ i, i < n → ∃ z : Nat, nth zs i = z ∧ z < n := fun i hi => by
    obtain ⟨z, hz, hzn⟩ := ord_get ho (k := i) (by omega)
    exact ⟨z, hz, by omega⟩
  refine ⟨hn, hget, fun i k s hk hi hs => ?_⟩
  cases s with
  | zero =>
    rw [pz_zero, pz_zero]
    have := ord_inj ho hk (by omega)
    obtain ⟨z, hz, _⟩ := hget i hi
    obtain ⟨y, hy, _⟩ := hget k (by omega)
    rw [hz, hy] at this ⊢
    simp
    omega
  | succ s =>
    have hm := pass_all zs.length h.2 i (by omega) k hk
    rw [pairMeet, pathsMeet, meetB, hl, pathL_len] at hm
    have := meetTo_all _ hm s (by omega)
    rw [path_nth (by omega), path_nth (by omega)] at this
    omega
/-- Two paths of an order that passes do the same at a switch that they share. -/
theorem share {zs : List Int} {n i k s : Nat} (hl : zs.length = n) (h : canV zs = true) (hk : k < i) (hi : i < n) (hs : s < stgN n) (hp : pz n zs i (s + 1) / 2 = pz n zs k (s + 1) / 2) : cz n zs i s = cz n zs k s := by
  obtain ⟨hn, hget, hne⟩ := can_out hl h
  have h1 := hne i k s hk hi (by omega)
  have h2 := hne i k (s + 1) hk hi (by omega)
  have l1 : pz n zs i s < n := by
    obtain ⟨z, hz, hzn⟩ := hget i hi
    exact posR_lt hn _ _ _ (by rw [hz]; simpa using hzn)
  have l2 : pz n zs k s < n := by
    obtain ⟨z, hz, hzn⟩ := hget k (by omega)
    exact posR_lt hn _ _ _ (by rw [hz]; simpa using hzn)
  have h3 : shuf n (pz n zs i s) ≠ shuf n (pz n zs k s) := fun e => h1 (shuf_inj hn l1 l2 e)
  rw [pz_succ hs, pz_succ hs, nxt_def, nxt_def] at h2 hp
  rw [cz, cz, crs_def, crs_def]
  have b1 : i / 2 ^ (stgN n - 1 - s) % 2 < 2 := Nat.mod_lt _ (by omega)
  have b2 : k / 2 ^ (stgN n - 1 - s) % 2 < 2 := Nat.mod_lt _ (by omega)
  generalize i / 2 ^ (stgN n - 1 - s) % 2 = β at *
  generalize k / 2 ^ (stgN n - 1 - s) % 2 = γ at *
  generalize shuf n (pz n zs i s) = t at *
  generalize shuf n (pz n zs k s) = u at *
  omega

/-- Does one of the first i paths cross switch j of stage s? -/
def swB (n : Nat) (zs : List Int) (s : Nat) : Nat → Nat → Bool
  | 0, _ => false
  | i + 1, j => swB n zs s i j || (decide (pz n zs i (s + 1) / 2 = j) && decide (cz n zs i s = 1))
def swRow (n : Nat) (zs : List Int) (s i : Nat) : List Int := (List.range (n / 2)).map fun j => if swB n zs s i j = true then 1 else 0
theorem swRow_len (n : Nat) (zs : List Int) (s i : Nat) : (swRow n zs s i).length = n / 2 := by simp [swRow]
theorem swRow_zero (n : Nat) (zs : List Int) (s : Nat) : swRow n zs s 0 = List.replicate (n / 2) 0 := by
  apply List.ext_getElem
  · simp [swRow]
  · intro i h1 h2; simp [swRow, swB]
theorem swRow_keep {n : Nat} {zs : List Int} {s i : Nat} (h : cz n zs i s = 0) : swRow n zs s (i + 1) = swRow n zs s i := by
  unfold swRow
  apply List.map_congr_left
  intro j _
  rw [swB, h]
  simp
theorem swRow_on {n : Nat} {zs : List Int} {s i : Nat} (h : cz n zs i s = 1) : (swRow n zs s i).set (pz n zs i (s + 1) / 2) 1 = swRow n zs s (i + 1) := by
  apply List.ext_getElem
  · simp [swRow]
  · intro j h1 h2
    rw [List.getElem_set]
    simp only [swRow, List.getElem_map, List.getElem_range, swB, h, decide_true, Bool.and_true]
    by_cases e : pz n zs i (s + 1) / 2 = j
    · rw [if_pos e]; simp [e]
    · rw [if_neg e]; simp [e]
theorem swB_off {n : Nat} {zs : List Int} {s i : Nat} : ∀ m, m ≤ i → (∀ k, k < i → pz n zs i (s + 1) / 2 = pz n zs k (s + 1) / 2 → cz n zs k s = 0) → swB n zs s m (pz n zs i (s + 1) / 2) = false := by
  intro m
  induction m with
  | zero => intro _ _; rfl
  | succ m ih =>
    intro hm h
    rw [swB, ih (by omega) h, Bool.false_or]
    by_cases e : pz n zs m (s + 1) / 2 = pz n zs i (s + 1) / 2
    · rw [h m (by omega) e.symm]; simp
    · rw [decide_eq_false e]; rfl
/-- The program writes what the path's switch does, whether it is 1 or 0. -/
theorem swRow_set {zs : List Int} {n i s : Nat} (hl : zs.length = n) (h : canV zs = true) (hi : i < n) (hs : s < stgN n) : (swRow n zs s i).set (pz n zs i (s + 1) / 2) (cz n zs i s : Int) = swRow n zs s (i + 1) := by
  rcases crossed (zs := zs) (i := i) hs with ⟨_, h0⟩ | ⟨_, h1⟩
  · rw [swRow_keep h0, h0]
    have hoff := swB_off (n := n) (zs := zs) (s := s) (i := i) i (Nat.le_refl _) (fun k hk e => by rw [← share hl h hk hi hs e]; exact h0)
    apply List.ext_getElem
    · simp
    · intro j a b
      rw [List.getElem_set]
      by_cases e : pz n zs i (s + 1) / 2 = j
      · rw [if_pos e]
        simp only [swRow, List.getElem_map, List.getElem_range]
        rw [← e, hoff]
        rfl
      · rw [if_neg e]
  · rw [h1]; exact swRow_on h1
def swM (n : Nat) (zs : List Int) (K : Nat) : List (List Int) := (List.range K).map fun s => swRow n zs s n
theorem swM_len (n : Nat) (zs : List Int) (K : Nat) : (swM n zs K).length = K := by simp [swM]
theorem swM_row {n : Nat} {zs : List Int} {K s : Nat} (h : s < K) : row (swM n zs K) s = swRow n zs s n := by
  have : ∀ f : Nat → List Int, ((List.range K).map f).getD s [] = f s := fun f => by simp [List.getD, h]
  rw [row, swM]
  exact this _
def swV (zs : List Int) : List (List Int) := if canV zs = true then swM zs.length zs (stgN zs.length) else []
theorem swV_no {zs : List Int} (h : canV zs = false) : swV zs = [] := by rw [swV, h]; rfl
theorem swV_yes {zs : List Int} {n : Nat} (hl : zs.length = n) (h : canV zs = true) : swV zs = swM n zs (stgN n) := by rw [swV, h, hl]; rfl
theorem tot_le' {zss : List (List Int)} {b : Nat} : ∀ n, (∀ k, k < n → (row zss k).length ≤ b) → tot zss n ≤ n * b := by
  intro n
  induction n with
  | zero => intro _; rw [tot_zero]; omega
  | succ n ih => intro h; rw [tot_succ, Nat.succ_mul]; have := ih (fun k hk => h k (by omega)); have := h n (by omega); omega
theorem swV_tot (zs : List Int) : (swV zs).length + tot (swV zs) (swV zs).length ≤ 1048576 := by
  cases h : canV zs with
  | false => rw [swV_no h]; simp [tot_zero]
  | true =>
    obtain ⟨hn, _, _⟩ := can_out rfl h
    have hs := stg_le hn
    rw [swV_yes rfl h, swM_len]
    have := tot_le' (zss := swM zs.length zs (stgN zs.length)) (b := 4) (stgN zs.length) (fun k hk => by rw [swM_row hk, swRow_len]; omega)
    omega
attribute [irreducible] swRow swM pz cz

end Go.Proofs.Ytaeabpmpfadkjaa
