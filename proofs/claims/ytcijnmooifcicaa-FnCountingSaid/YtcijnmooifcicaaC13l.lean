/- Chapter 13: the plain law of counting: networks of balancers that count, and masks. -/
import Derived.Test.YtcijnmooifcicaaC13k
import Derived.Test.YtcijnmooifcicaaC13a
import Derived.Test.YtcijnmooifcicaaC13b
namespace Go.Proofs.Ytcijnmooifcicaa
open Go.RowKit Go.Deep
set_option linter.unusedVariables false

abbrev pr (a b : Nat) : List Int := [(a : Int), (b : Int)]
def mg1 (_ : Nat) : List (List Int) := []
def mg2 (i : Nat) : List (List Int) := [pr i (i + 1)]
def mg4 (i : Nat) : List (List Int) := [pr i (i + 2), pr (i + 1) (i + 3), pr i (i + 1), pr (i + 2) (i + 3)]
def bi1 (_ : Nat) : List (List Int) := []
def bi2 (i : Nat) : List (List Int) := [pr i (i + 1)]
def bi4 (i : Nat) : List (List Int) := [pr i (i + 1), pr (i + 2) (i + 3), pr i (i + 3), pr (i + 1) (i + 2), pr i (i + 1), pr (i + 2) (i + 3)]
def bi8 (i : Nat) : List (List Int) := bi4 i ++ bi4 (i + 4) ++ [pr i (i + 7), pr (i + 1) (i + 6), pr (i + 2) (i + 5), pr (i + 3) (i + 4)] ++ mg4 i ++ mg4 (i + 4)
def biL (W : Nat) : List (List Int) := if W = 1 then bi1 0 else if W = 2 then bi2 0 else if W = 4 then bi4 0 else bi8 0
theorem row_drop (zss : List (List Int)) (m k : Nat) : row (zss.drop m) k = row zss (m + k) := by
  simp only [row, List.getD, List.getElem?_drop]
theorem ct_add (ts : List Int) (zss : List (List Int)) (m : Nat) : ∀ k, ctTo ts zss (m + k) = ctTo (ctTo ts zss m) (zss.drop m) k := by
  intro k
  induction k with
  | zero => rw [ct_zero]; rfl
  | succ k ih => rw [show m + (k + 1) = (m + k) + 1 from rfl, ctTo, ctTo, ih, row_drop]
def f2 (a b : Int) : List Int := [(a + b + 1) / 2, (a + b) / 2]
def f4 (a b c d : Int) : List Int :=
  let x0 := (a + b + 1) / 2
  let x1 := (a + b) / 2
  let y0 := (c + d + 1) / 2
  let y1 := (c + d) / 2
  let z0 := (x0 + y1 + 1) / 2
  let z3 := (x0 + y1) / 2
  let z1 := (x1 + y0 + 1) / 2
  let z2 := (x1 + y0) / 2
  [(z0 + z1 + 1) / 2, (z0 + z1) / 2, (z2 + z3 + 1) / 2, (z2 + z3) / 2]
theorem run2 (a b : Int) : ctTo [a, b] (bi2 0) 1 = f2 a b := by kernel_rfl
theorem run4 (a b c d : Int) : ctTo [a, b, c, d] (bi4 0) 6 = f4 a b c d := by kernel_rfl
theorem run8 (a b c d e f g h : Int) : ctTo [a, b, c, d, e, f, g, h] (bi8 0) 12 = f4 a b c d ++ f4 e f g h := by kernel_rfl
def st4 (u : Int) : List Int := [(u + 3) / 4, (u + 2) / 4, (u + 1) / 4, u / 4]
theorem f4_step (a b c d : Int) : f4 a b c d = st4 (a + b + c + d) := by
  simp only [f4, st4, List.cons.injEq, and_true]
  refine ⟨by omega, by omega, by omega, by omega⟩
theorem last8 : ∀ u, u < 25 → ∀ v, v < 25 → ctTo (st4 (u : Nat) ++ st4 (v : Nat)) ((bi8 0).drop 12) 12 = stepTo 8 (u + v) 8 := by decide +kernel
theorem step1 (s : Nat) : [(s : Int)] = stepTo 1 s 1 := by
  rw [stepTo_succ, show stepTo 1 s 0 = [] by unfold stepTo; rfl, stepE]
  simp
theorem step2 (s : Nat) : [((s : Int) + 1) / 2, (s : Int) / 2] = stepTo 2 s 2 := by
  rw [stepTo_succ, stepTo_succ, show stepTo 2 s 0 = [] by unfold stepTo; rfl, stepE, stepE]
  simp only [List.nil_append, List.cons_append, List.cons.injEq, and_true]
  refine ⟨by omega, by omega⟩
theorem step4 (s : Nat) : st4 (s : Int) = stepTo 4 s 4 := by
  rw [stepTo_succ, stepTo_succ, stepTo_succ, stepTo_succ, show stepTo 4 s 0 = [] by unfold stepTo; rfl, stepE, stepE, stepE, stepE]
  simp only [st4, List.nil_append, List.cons_append, List.cons.injEq, and_true]
  refine ⟨by omega, by omega, by omega, by omega⟩
theorem sum1 (a : Int) : [a].sum = a := by simp
theorem sum2 (a b : Int) : [a, b].sum = a + b := by simp
theorem sum4 (a b c d : Int) : [a, b, c, d].sum = a + b + c + d := by simp; omega
theorem sum8 (a b c d e f g h : Int) : [a, b, c, d, e, f, g, h].sum = (a + b + c + d) + (e + f + g + h) := by simp; omega
theorem biL_len {W : Nat} (hW : W = 1 ∨ W = 2 ∨ W = 4 ∨ W = 8) : ∃ n, (biL W).length = n ∧ n ≤ 24 := by
  rcases hW with rfl | rfl | rfl | rfl
  · exact ⟨0, rfl, by omega⟩
  · exact ⟨1, rfl, by omega⟩
  · exact ⟨6, rfl, by omega⟩
  · exact ⟨24, rfl, by omega⟩
theorem bi_net {W : Nat} (hW : W = 1 ∨ W = 2 ∨ W = 4 ∨ W = 8) : netV (W : Int) (biL W) = true := by
  rcases hW with rfl | rfl | rfl | rfl
  · decide +kernel
  · decide +kernel
  · decide +kernel
  · decide +kernel
/-- The sum of few numbers is small. -/
theorem sum_le {b : Nat} : ∀ l : List Int, (∀ x ∈ l, 0 ≤ x ∧ x ≤ (b : Int)) → 0 ≤ l.sum ∧ l.sum ≤ (b : Int) * l.length := by
  intro l
  induction l with
  | nil => intro _; simp
  | cons y l ih =>
    intro h
    have h1 := h y (List.mem_cons_self ..)
    have h2 := ih (fun x hx => h x (List.mem_cons_of_mem _ hx))
    rw [List.sum_cons, List.length_cons]
    have : (b : Int) * ((l.length + 1 : Nat) : Int) = (b : Int) * l.length + b := by rw [Int.natCast_add, Int.mul_add]; simp
    omega
/-- Bitonic networks count: of lists whose halves are small. -/
theorem bi_law {W : Nat} (hW : W = 1 ∨ W = 2 ∨ W = 4 ∨ W = 8) {ts : List Int} (hl : ts.length = W) (h0 : ∀ x ∈ ts, 0 ≤ x) (hs : ts.sum ≤ 24 ∨ ∀ x ∈ ts, x ≤ 6) : ∃ s : Nat, ts.sum = (s : Int) ∧ ctTo ts (biL W) (biL W).length = stepTo W s W := by
  rcases hW with rfl | rfl | rfl | rfl
  · match ts, hl with
    | [a], _ =>
      have ha := h0 a (by simp)
      refine ⟨a.toNat, by rw [sum1]; omega, ?_⟩
      show ctTo [a] (bi1 0) 0 = _
      rw [ct_zero, ← step1]
      congr 1
      omega
  · match ts, hl with
    | [a, b], _ =>
      have ha := h0 a (by simp)
      have hb := h0 b (by simp)
      refine ⟨(a + b).toNat, by rw [sum2]; omega, ?_⟩
      show ctTo [a, b] (bi2 0) 1 = _
      rw [run2, ← step2, f2, show (((a + b).toNat : Nat) : Int) = a + b by omega]
  · match ts, hl with
    | [a, b, c, d], _ =>
      have ha := h0 a (by simp)
      have hb := h0 b (by simp)
      have hc := h0 c (by simp)
      have hd := h0 d (by simp)
      refine ⟨(a + b + c + d).toNat, by rw [sum4]; omega, ?_⟩
      show ctTo [a, b, c, d] (bi4 0) 6 = _
      rw [run4, f4_step, ← step4, show (((a + b + c + d).toNat : Nat) : Int) = a + b + c + d by omega]
  · match ts, hl with
    | [a, b, c, d, e, f, g, h], _ =>
      have ha := h0 a (by simp)
      have hb := h0 b (by simp)
      have hc := h0 c (by simp)
      have hd := h0 d (by simp)
      have he := h0 e (by simp)
      have hf := h0 f (by simp)
      have hg := h0 g (by simp)
      have hh := h0 h (by simp)
      have hu : a + b + c + d ≤ 24 ∧ e + f + g + h ≤ 24 := by
        rcases hs with hs | hs
        · rw [sum8] at hs; omega
        · have ha := hs a (by simp)
          have hb := hs b (by simp)
          have hc := hs c (by simp)
          have hd := hs d (by simp)
          have he := hs e (by simp)
          have hf := hs f (by simp)
          have hg := hs g (by simp)
          have hh := hs h (by simp)
          omega
      obtain ⟨u, hu1⟩ := Int.eq_ofNat_of_zero_le (show 0 ≤ a + b + c + d by omega)
      obtain ⟨v, hv1⟩ := Int.eq_ofNat_of_zero_le (show 0 ≤ e + f + g + h by omega)
      refine ⟨u + v, by rw [sum8]; omega, ?_⟩
      show ctTo [a, b, c, d, e, f, g, h] (bi8 0) (12 + 12) = _
      rw [ct_add, run8, f4_step, f4_step, hu1, hv1]
      exact last8 u (by omega) v (by omega)
theorem step_hs1 : ∀ s, s < 49 → stepB (stepTo 1 s 1) = true ∧ balV (stepTo 1 s 1) ≤ 1 := by decide +kernel
theorem step_hs2 : ∀ s, s < 49 → stepB (stepTo 2 s 2) = true ∧ balV (stepTo 2 s 2) ≤ 1 := by decide +kernel
theorem step_hs4 : ∀ s, s < 49 → stepB (stepTo 4 s 4) = true ∧ balV (stepTo 4 s 4) ≤ 1 := by decide +kernel
theorem step_hs8 : ∀ s, s < 49 → stepB (stepTo 8 s 8) = true ∧ balV (stepTo 8 s 8) ≤ 1 := by decide +kernel
theorem step_hs {W s : Nat} (hW : W = 1 ∨ W = 2 ∨ W = 4 ∨ W = 8) (hs : s < 49) : stepB (stepTo W s W) = true ∧ balV (stepTo W s W) ≤ 1 := by
  rcases hW with rfl | rfl | rfl | rfl
  · exact step_hs1 s hs
  · exact step_hs2 s hs
  · exact step_hs4 s hs
  · exact step_hs8 s hs
theorem stepTo_nth {W s : Nat} : ∀ k, ∀ j, j < k → nth (stepTo W s k) j = stepE W s j := by
  intro k
  induction k with
  | zero => intro j h; omega
  | succ k ih =>
    intro j h
    rw [stepTo_succ]
    by_cases e : j = k
    · subst e; exact nth_last (stepTo_len _ _ _)
    · rw [nth_first (by rw [stepTo_len]; omega)]; exact ih j (by omega)

/-- A mask behind a comparator. -/
def bst (s p q : Nat) : Nat := if bitAt s p = true ∧ bitAt s q = false then s ^^^ 2 ^ p ^^^ 2 ^ q else s
def bsTo (zss : List (List Int)) (s : Nat) : Nat → Nat
  | 0 => s
  | k + 1 => bst (bsTo zss s k) (nth (row zss k) 0).toNat (nth (row zss k) 1).toNat
def pop4 (s : Nat) : Nat := s % 2 + s / 2 % 2 + s / 4 % 2 + s / 8 % 2
def srtM (W s : Nat) : Nat := (2 ^ pop4 s - 1) * 2 ^ (W - pop4 s)
def sortB (zss : List (List Int)) (n W : Nat) : Bool := (List.range (2 ^ W)).all fun s => decide (bsTo zss s n = srtM W s)
theorem mask1 : ∀ s, s < 2 → ∀ p, p < 1 → ∀ q, q < 1 → (decide (p = q) || (decide (ctStep (digs 2 1 (1 - s)) p q = digs 2 1 (1 - bst s p q)) && decide (bst s p q < 2) && decide (pop4 (bst s p q) = pop4 s))) = true := by decide +kernel
theorem mask2 : ∀ s, s < 4 → ∀ p, p < 2 → ∀ q, q < 2 → (decide (p = q) || (decide (ctStep (digs 2 2 (3 - s)) p q = digs 2 2 (3 - bst s p q)) && decide (bst s p q < 4) && decide (pop4 (bst s p q) = pop4 s))) = true := by decide +kernel
theorem mask3 : ∀ s, s < 8 → ∀ p, p < 3 → ∀ q, q < 3 → (decide (p = q) || (decide (ctStep (digs 2 3 (7 - s)) p q = digs 2 3 (7 - bst s p q)) && decide (bst s p q < 8) && decide (pop4 (bst s p q) = pop4 s))) = true := by decide +kernel
theorem mask4 : ∀ s, s < 16 → ∀ p, p < 4 → ∀ q, q < 4 → (decide (p = q) || (decide (ctStep (digs 2 4 (15 - s)) p q = digs 2 4 (15 - bst s p q)) && decide (bst s p q < 16) && decide (pop4 (bst s p q) = pop4 s))) = true := by decide +kernel
theorem mask_step {W s p q : Nat} (h1 : 1 ≤ W) (h4 : W ≤ 4) (hs : s < 2 ^ W) (hp : p < W) (hq : q < W) (hpq : p ≠ q) : ctStep (digs 2 W (2 ^ W - 1 - s)) p q = digs 2 W (2 ^ W - 1 - bst s p q) ∧ bst s p q < 2 ^ W ∧ pop4 (bst s p q) = pop4 s := by
  have hc : W = 1 ∨ W = 2 ∨ W = 3 ∨ W = 4 := by omega
  have h : (decide (p = q) || (decide (ctStep (digs 2 W (2 ^ W - 1 - s)) p q = digs 2 W (2 ^ W - 1 - bst s p q)) && decide (bst s p q < 2 ^ W) && decide (pop4 (bst s p q) = pop4 s))) = true := by
    rcases hc with rfl | rfl | rfl | rfl
    · exact mask1 s hs p hp q hq
    · exact mask2 s hs p hp q hq
    · exact mask3 s hs p hp q hq
    · exact mask4 s hs p hp q hq
  rw [decide_eq_false hpq, Bool.false_or, Bool.and_eq_true, Bool.and_eq_true, decide_eq_true_eq, decide_eq_true_eq, decide_eq_true_eq] at h
  exact ⟨h.1.1, h.1.2, h.2⟩
theorem maskE1 : ∀ s, s < 2 → stepB (digs 2 1 (1 - s)) = decide (s = srtM 1 s) := by decide +kernel
theorem maskE2 : ∀ s, s < 4 → stepB (digs 2 2 (3 - s)) = decide (s = srtM 2 s) := by decide +kernel
theorem maskE3 : ∀ s, s < 8 → stepB (digs 2 3 (7 - s)) = decide (s = srtM 3 s) := by decide +kernel
theorem maskE4 : ∀ s, s < 16 → stepB (digs 2 4 (15 - s)) = decide (s = srtM 4 s) := by decide +kernel
theorem mask_end {W s : Nat} (h1 : 1 ≤ W) (h4 : W ≤ 4) (hs : s < 2 ^ W) : stepB (digs 2 W (2 ^ W - 1 - s)) = decide (s = srtM W s) := by
  have hc : W = 1 ∨ W = 2 ∨ W = 3 ∨ W = 4 := by omega
  rcases hc with rfl | rfl | rfl | rfl
  · exact maskE1 s hs
  · exact maskE2 s hs
  · exact maskE3 s hs
  · exact maskE4 s hs
theorem mask_run {W n s : Nat} {zss : List (List Int)} (hP : PqW W n zss) (h1 : 1 ≤ W) (h4 : W ≤ 4) (hs : s < 2 ^ W) : ∀ k, k ≤ n → ctTo (digs 2 W (2 ^ W - 1 - s)) zss k = digs 2 W (2 ^ W - 1 - bsTo zss s k) ∧ bsTo zss s k < 2 ^ W ∧ pop4 (bsTo zss s k) = pop4 s := by
  intro k
  induction k with
  | zero => intro _; exact ⟨ct_zero _ _, hs, rfl⟩
  | succ k ih =>
    intro hk
    obtain ⟨e1, e2, e3⟩ := ih (by omega)
    obtain ⟨p, q, hp, hq, hpW, hqW, hpq⟩ := hP k (by omega)
    obtain ⟨m1, m2, m3⟩ := mask_step h1 h4 e2 hpW hqW hpq
    have eb : bsTo zss s (k + 1) = bst (bsTo zss s k) p q := by rw [bsTo, hp, hq, Int.toNat_natCast, Int.toNat_natCast]
    rw [ct_succ hp hq, e1, eb]
    exact ⟨m1, m2, by rw [m3, e3]⟩
theorem icTo_all (zss : List (List Int)) (b W : Nat) : ∀ m, icTo zss b W m = true ↔ ∀ s, s < m → icOk zss b W s = true := by
  intro m
  constructor
  · intro h s hs
    cases e : icOk zss b W s with
    | true => rfl
    | false => rw [icTo_bad e m hs] at h; cases h
  · induction m with
    | zero => intro _; exact icTo_zero _ _ _
    | succ m ih => intro h; exact icTo_on (ih (fun s hs => h s (by omega))) (h m (by omega))
theorem sort_count {W n : Nat} {zss : List (List Int)} (hl : zss.length = n) (hP : PqW W n zss) (h1 : 1 ≤ W) (h4 : W ≤ 4) : icTo zss 2 W (2 ^ W) = sortB zss n W := by
  have hpos : 0 < 2 ^ W := Nat.two_pow_pos W
  have key : ∀ s, s < 2 ^ W → icOk zss 2 W (2 ^ W - 1 - s) = decide (bsTo zss s n = srtM W s) := fun s hs => by
    obtain ⟨e1, e2, e3⟩ := mask_run hP h1 h4 hs n (Nat.le_refl _)
    rw [icOk, hl, e1, mask_end h1 h4 e2]
    have : srtM W (bsTo zss s n) = srtM W s := by rw [srtM, srtM, e3]
    rw [this]
  rw [Bool.eq_iff_iff, icTo_all, sortB, List.all_eq_true]
  constructor
  · intro h s hs
    have hs' := List.mem_range.1 hs
    rw [← key s hs']
    exact h _ (by omega)
  · intro h s hs
    have h2 := h (2 ^ W - 1 - s) (List.mem_range.2 (by omega))
    rw [← key _ (by omega), show 2 ^ W - 1 - (2 ^ W - 1 - s) = s by omega] at h2
    exact h2
theorem three1 : ∀ s, s < 2 → ∃ t, t < 3 ∧ digs 3 1 t = digs 2 1 s := by decide +kernel
theorem three2 : ∀ s, s < 4 → ∃ t, t < 9 ∧ digs 3 2 t = digs 2 2 s := by decide +kernel
theorem three3 : ∀ s, s < 8 → ∃ t, t < 27 ∧ digs 3 3 t = digs 2 3 s := by decide +kernel
theorem three4 : ∀ s, s < 16 → ∃ t, t < 81 ∧ digs 3 4 t = digs 2 4 s := by decide +kernel
theorem three_two {W : Nat} {zss : List (List Int)} (h1 : 1 ≤ W) (h4 : W ≤ 4) (h : icTo zss 3 W (3 ^ W) = true) : icTo zss 2 W (2 ^ W) = true := by
  rw [icTo_all] at h ⊢
  have ex : ∀ s, s < 2 ^ W → ∃ t, t < 3 ^ W ∧ digs 3 W t = digs 2 W s := by
    have hc : W = 1 ∨ W = 2 ∨ W = 3 ∨ W = 4 := by omega
    rcases hc with rfl | rfl | rfl | rfl
    · exact three1
    · exact three2
    · exact three3
    · exact three4
  intro s hs
  obtain ⟨t, ht, e⟩ := ex s hs
  have := h t ht
  rw [icOk, e] at this
  exact this
end Go.Proofs.Ytcijnmooifcicaa
