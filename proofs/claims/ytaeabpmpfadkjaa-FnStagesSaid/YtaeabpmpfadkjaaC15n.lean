/- Chapter 15: the plain law of stages: settings and orders belong together. -/
import Derived.Test.YtaeabpmpfadkjaaC15k
import Derived.Test.YtaeabpmpfadkjaaC15h
namespace Go.Proofs.Ytaeabpmpfadkjaa
open Go.RowKit Go.Deep
set_option linter.unusedVariables false

theorem nth_ext {a b : List Int} {n : Nat} (ha : a.length = n) (hb : b.length = n) (h : ∀ i, i < n → nth a i = nth b i) : a = b := by
  apply List.ext_getElem
  · omega
  · intro i h1 h2
    rw [← nth_eq h1, ← nth_eq h2]
    exact h i (by omega)
theorem list_rows {a b : List (List Int)} {n : Nat} (ha : a.length = n) (hb : b.length = n) (h : ∀ i, i < n → row a i = row b i) : a = b := by
  apply List.ext_getElem
  · omega
  · intro i h1 h2
    have := h i (by omega)
    simpa [row, List.getD, h1, h2] using this
theorem nth_set_same {l : List Int} {j : Nat} {x : Int} (h : j < l.length) : nth (l.set j x) j = x := by
  rw [nth_eq (by rw [List.length_set]; exact h), List.getElem_set_self]
theorem nth_set_other {l : List Int} {j k : Nat} {x : Int} (h : j ≠ k) : nth (l.set j x) k = nth l k := by
  simp only [nth, List.getD, List.getElem?_set_ne h]

/-- The switch of a row at a place: 0 or 1. -/
def BitsL (n : Nat) (l : List Int) : Prop := ∀ j, j < n / 2 → nth l j = 0 ∨ nth l j = 1
def swAt (n : Nat) (l : List Int) (p : Nat) : Nat := (nth l (shuf n p / 2)).toNat
theorem sw_lt {n p : Nat} {l : List Int} (hn : n = 2 ∨ n = 4 ∨ n = 8) (hb : BitsL n l) (hp : p < n) : swAt n l p < 2 ∧ nth l (shuf n p / 2) = (swAt n l p : Int) := by
  have hs := shuf_lt hn hp
  unfold swAt
  rcases hb (shuf n p / 2) (by omega) with h | h <;> rw [h] <;> exact ⟨by decide, rfl⟩
theorem tgt_def (n p : Nat) (l : List Int) : tgt n l p = shuf n p ^^^ swAt n l p := by unfold tgt swAt; rfl
theorem xor_half : ∀ q, q < 8 → ∀ b, b < 2 → (q ^^^ b) / 2 = q / 2 ∧ (q ^^^ b) % 2 = (q + b) % 2 := by decide +kernel
theorem tgt_half {n p : Nat} {l : List Int} (hn : n = 2 ∨ n = 4 ∨ n = 8) (hb : BitsL n l) (hp : p < n) : tgt n l p / 2 = shuf n p / 2 ∧ tgt n l p % 2 = (shuf n p + swAt n l p) % 2 ∧ tgt n l p < n := by
  have hs := shuf_lt hn hp
  have h1 := sw_lt hn hb hp
  have h2 := xor_half (shuf n p) (by omega) _ h1.1
  rw [tgt_def]
  exact ⟨h2.1, h2.2, xor_lt hn hs h1.1⟩
theorem tgt_inj {n p q : Nat} {l : List Int} (hn : n = 2 ∨ n = 4 ∨ n = 8) (hb : BitsL n l) (hp : p < n) (hq : q < n) (h : tgt n l p = tgt n l q) : p = q := by
  have h1 := tgt_half hn hb hp
  have h2 := tgt_half hn hb hq
  have e : shuf n p / 2 = shuf n q / 2 := by omega
  have e2 : swAt n l p = swAt n l q := by unfold swAt; rw [e]
  refine shuf_inj hn hp hq ?_
  rw [e2] at h1
  omega
theorem shuf_all {n : Nat} (hn : n = 2 ∨ n = 4 ∨ n = 8) : ∀ y, y < n → ∃ x, x < n ∧ shuf n x = y := by
  have h2 : ∀ y, y < 2 → ∃ x, x < 2 ∧ shuf 2 x = y := by decide +kernel
  have h4 : ∀ y, y < 4 → ∃ x, x < 4 ∧ shuf 4 x = y := by decide +kernel
  have h8 : ∀ y, y < 8 → ∃ x, x < 8 ∧ shuf 8 x = y := by decide +kernel
  rcases hn with rfl | rfl | rfl
  · exact h2
  · exact h4
  · exact h8
theorem xor_back : ∀ y, y < 8 → ∀ b, b < 2 → (y ^^^ b) ^^^ b = y := by decide +kernel
theorem tgt_all {n : Nat} {l : List Int} (hn : n = 2 ∨ n = 4 ∨ n = 8) (hb : BitsL n l) {y : Nat} (hy : y < n) : ∃ x, x < n ∧ tgt n l x = y := by
  have hb2 : nth l (y / 2) = 0 ∨ nth l (y / 2) = 1 := hb (y / 2) (by omega)
  obtain ⟨b, hbv, hb1⟩ : ∃ b : Nat, (nth l (y / 2)).toNat = b ∧ b < 2 := by
    rcases hb2 with h | h <;> rw [h] <;> exact ⟨_, rfl, by decide⟩
  obtain ⟨x, hx, hs⟩ := shuf_all hn (y ^^^ b) (xor_lt hn hy hb1)
  refine ⟨x, hx, ?_⟩
  have h2 := xor_half y (by omega) b hb1
  rw [tgt_def, swAt, hs, h2.1, hbv]
  exact xor_back y (by omega) b hb1
theorem stage_nth {n : Nat} {l now : List Int} (hn : n = 2 ∨ n = 4 ∨ n = 8) (hb : BitsL n l) : ∀ m, m ≤ n → ∀ p, p < m → nth (stageTo n l now m) (tgt n l p) = nth now p := by
  intro m
  induction m with
  | zero => intro _ p h; omega
  | succ m ih =>
    intro hm p hp
    have hlen := stage_len n l now m
    have ht := tgt_half hn hb (show m < n by omega)
    rw [stage_succ]
    by_cases e : p = m
    · subst e
      exact nth_set_same (by omega)
    · rw [nth_set_other (fun h => e (tgt_inj hn hb (by omega) (by omega) h.symm))]
      exact ih (by omega) p (by omega)
/-- Where what starts at p lies behind s stages. -/
def place (n : Nat) (zss : List (List Int)) (p : Nat) : Nat → Nat
  | 0 => p
  | s + 1 => tgt n (row zss s) (place n zss p s)
theorem place_succ (n : Nat) (zss : List (List Int)) (p s : Nat) : place n zss p (s + 1) = tgt n (row zss s) (place n zss p s) := rfl
theorem place_lt {n : Nat} {zss : List (List Int)} {p : Nat} (hn : n = 2 ∨ n = 4 ∨ n = 8) (hp : p < n) : ∀ s, (∀ k, k < s → BitsL n (row zss k)) → place n zss p s < n := by
  intro s
  induction s with
  | zero => intro _; exact hp
  | succ s ih => intro h; exact (tgt_half hn (h s (by omega)) (ih (fun k hk => h k (by omega)))).2.2
theorem place_inj {n : Nat} {zss : List (List Int)} {p q : Nat} (hn : n = 2 ∨ n = 4 ∨ n = 8) (hp : p < n) (hq : q < n) : ∀ s, (∀ k, k < s → BitsL n (row zss k)) → place n zss p s = place n zss q s → p = q := by
  intro s
  induction s with
  | zero => intro _ h; exact h
  | succ s ih =>
    intro h e
    have hb : ∀ k, k < s → BitsL n (row zss k) := fun k hk => h k (by omega)
    exact ih hb (tgt_inj hn (h s (by omega)) (place_lt hn hp s hb) (place_lt hn hq s hb) e)
theorem place_all {n : Nat} {zss : List (List Int)} (hn : n = 2 ∨ n = 4 ∨ n = 8) : ∀ s, (∀ k, k < s → BitsL n (row zss k)) → ∀ y, y < n → ∃ p, p < n ∧ place n zss p s = y := by
  intro s
  induction s with
  | zero => intro _ y hy; exact ⟨y, hy, rfl⟩
  | succ s ih =>
    intro h y hy
    obtain ⟨x, hx, e⟩ := tgt_all hn (h s (by omega)) hy
    obtain ⟨p, hp, e2⟩ := ih (fun k hk => h k (by omega)) x hx
    exact ⟨p, hp, by rw [place_succ, e2, e]⟩
theorem run_place {n : Nat} {zss : List (List Int)} {p : Nat} (hn : n = 2 ∨ n = 4 ∨ n = 8) (hp : p < n) : ∀ s, (∀ k, k < s → BitsL n (row zss k)) → nth (runTo n zss s) (place n zss p s) = (p : Int) := by
  intro s
  induction s with
  | zero => intro _; rw [run_zero]; show nth (marks 0 n) p = _; rw [marks_nth 0 n p hp, Int.zero_add]
  | succ s ih =>
    intro h
    have hb : ∀ k, k < s → BitsL n (row zss k) := fun k hk => h k (by omega)
    rw [run_succ, place_succ, stage_nth hn (h s (by omega)) n (Nat.le_refl _) _ (place_lt hn hp s hb)]
    exact ih hb

/-- The end of a way tells its places. -/
theorem way2 : ∀ p, p < 2 → ∀ a, a < 2 → ∀ s, s ≤ 1 → posR 2 (shuf 2 p ^^^ a) 1 p s = [p, shuf 2 p ^^^ a].getD s 0 := by decide +kernel
theorem way4 : ∀ p, p < 4 → ∀ a, a < 2 → ∀ b, b < 2 → ∀ s, s ≤ 2 → posR 4 (shuf 4 (shuf 4 p ^^^ a) ^^^ b) 2 p s = [p, shuf 4 p ^^^ a, shuf 4 (shuf 4 p ^^^ a) ^^^ b].getD s 0 := by decide +kernel
theorem way8 : ∀ p, p < 8 → ∀ a, a < 2 → ∀ b, b < 2 → ∀ c, c < 2 → ∀ s, s ≤ 3 → posR 8 (shuf 8 (shuf 8 (shuf 8 p ^^^ a) ^^^ b) ^^^ c) 3 p s = [p, shuf 8 p ^^^ a, shuf 8 (shuf 8 p ^^^ a) ^^^ b, shuf 8 (shuf 8 (shuf 8 p ^^^ a) ^^^ b) ^^^ c].getD s 0 := by decide +kernel
theorem way {n : Nat} {zss : List (List Int)} {p : Nat} (hn : n = 2 ∨ n = 4 ∨ n = 8) (hp : p < n) (h : ∀ k, k < stgN n → BitsL n (row zss k)) : ∀ s, s ≤ stgN n → posR n (place n zss p (stgN n)) (stgN n) p s = place n zss p s := by
  rcases hn with rfl | rfl | rfl
  · intro s hs
    have b0 := (sw_lt (.inl rfl) (h 0 (by decide)) hp).1
    have := way2 p hp _ b0 s hs
    have e1 : place 2 zss p 1 = shuf 2 p ^^^ swAt 2 (row zss 0) p := by rw [place_succ, tgt_def]; rfl
    rw [← e1] at this
    show posR 2 (place 2 zss p 1) 1 p s = _
    rw [this]
    match s, hs with
    | 0, _ => rfl
    | 1, _ => rfl
  · intro s hs
    have hn4 : (4 : Nat) = 2 ∨ (4 : Nat) = 4 ∨ (4 : Nat) = 8 := by decide
    have b0 := (sw_lt hn4 (h 0 (by decide)) hp).1
    have l1 := place_lt (zss := zss) hn4 hp 1 (fun k hk => h k (by have : stgN 4 = 2 := rfl; omega))
    have b1 := (sw_lt hn4 (h 1 (by decide)) l1).1
    have := way4 p hp _ b0 _ b1 s hs
    have e1 : place 4 zss p 1 = shuf 4 p ^^^ swAt 4 (row zss 0) p := by rw [place_succ, tgt_def]; rfl
    have e2 : place 4 zss p 2 = shuf 4 (place 4 zss p 1) ^^^ swAt 4 (row zss 1) (place 4 zss p 1) := by rw [place_succ, tgt_def]
    rw [← e1, ← e2] at this
    show posR 4 (place 4 zss p 2) 2 p s = _
    rw [this]
    match s, hs with
    | 0, _ => rfl
    | 1, _ => rfl
    | 2, _ => rfl
  · intro s hs
    have hn8 : (8 : Nat) = 2 ∨ (8 : Nat) = 4 ∨ (8 : Nat) = 8 := by decide
    have b0 := (sw_lt hn8 (h 0 (by decide)) hp).1
    have l1 := place_lt (zss := zss) hn8 hp 1 (fun k hk => h k (by have : stgN 8 = 3 := rfl; omega))
    have b1 := (sw_lt hn8 (h 1 (by decide)) l1).1
    have l2 := place_lt (zss := zss) hn8 hp 2 (fun k hk => h k (by have : stgN 8 = 3 := rfl; omega))
    have b2 := (sw_lt hn8 (h 2 (by decide)) l2).1
    have := way8 p hp _ b0 _ b1 _ b2 s hs
    have e1 : place 8 zss p 1 = shuf 8 p ^^^ swAt 8 (row zss 0) p := by rw [place_succ, tgt_def]; rfl
    have e2 : place 8 zss p 2 = shuf 8 (place 8 zss p 1) ^^^ swAt 8 (row zss 1) (place 8 zss p 1) := by rw [place_succ, tgt_def]
    have e3 : place 8 zss p 3 = shuf 8 (place 8 zss p 2) ^^^ swAt 8 (row zss 2) (place 8 zss p 2) := by rw [place_succ, tgt_def]
    rw [← e1, ← e2, ← e3] at this
    show posR 8 (place 8 zss p 3) 3 p s = _
    rw [this]
    match s, hs with
    | 0, _ => rfl
    | 1, _ => rfl
    | 2, _ => rfl
    | 3, _ => rfl

theorem ordTo_of {zs : List Int} {n : Nat} (hl : zs.length = n) (h1 : ∀ i, i < n → ∃ z : Nat, nth zs i = z ∧ z < n) (h2 : ∀ i k, i < k → k < n → nth zs i ≠ nth zs k) : isOrd zs = true := by
  have : ∀ m, m ≤ n → ordTo zs m = true := by
    intro m
    induction m with
    | zero => intro _; unfold ordTo; rfl
    | succ m ih =>
      intro hm
      obtain ⟨z, hz, hzn⟩ := h1 m (by omega)
      refine ord_step (ih (by omega)) hz (by omega) ?_
      unfold inPfx
      rw [decide_eq_false_iff_not]
      intro hmem
      obtain ⟨i, hi, e⟩ := List.getElem_of_mem hmem
      rw [List.length_take] at hi
      rw [List.getElem_take] at e
      refine h2 i m (by omega) (by omega) ?_
      rw [nth_eq (by omega), hz]
      exact e
  unfold isOrd
  rw [hl]
  exact this n (Nat.le_refl _)
theorem rowTo_of {zs : List Int} {i : Nat} : ∀ m, (∀ k, k < m → pairMeet zs i k = false) → rowTo zs i m = true := by
  intro m
  induction m with
  | zero => intro _; exact row_zero _ _
  | succ m ih => intro h; exact row_succ (ih (fun k hk => h k (by omega))) (h m (by omega))
theorem passTo_of {zs : List Int} : ∀ m, (∀ i, i < m → ∀ k, k < i → pairMeet zs i k = false) → passTo zs m = true := by
  intro m
  induction m with
  | zero => intro _; exact pass_zero _
  | succ m ih => intro h; exact pass_succ (ih (fun i hi => h i (by omega))) (rowTo_of m (h m (by omega)))
theorem meetTo_of {xs ys : List Int} : ∀ m, (∀ k, k < m → nth xs k ≠ nth ys k) → meetTo xs ys m = false := by
  intro m
  induction m with
  | zero => intro _; exact meetTo_zero _ _
  | succ m ih => intro h; exact meet_miss (ih (fun k hk => h k (by omega))) (by rw [beq_eq_false_iff_ne]; exact h m (by omega))
theorem can_of {zs : List Int} {n : Nat} (hl : zs.length = n) (ho : ordV zs = true) (h : ∀ i k s, k < i → i < n → s < stgN n → pz n zs i (s + 1) ≠ pz n zs k (s + 1)) : canV zs = true := by
  rw [canV, ho, Bool.true_and]
  unfold passB
  refine passTo_of _ fun i hi k hk => ?_
  rw [pairMeet, pathsMeet, meetB, hl, pathL_len]
  refine meetTo_of _ fun s hs => ?_
  rw [path_nth hs, path_nth hs]
  have := h i k s hk (by omega) hs
  omega
theorem ordV_of {zs : List Int} {n : Nat} (hl : zs.length = n) (hn : n = 2 ∨ n = 4 ∨ n = 8) (h : isOrd zs = true) : ordV zs = true := by
  rw [ordV, h, Bool.and_true, decide_eq_true_eq, hl]
  exact isN_of hn

/-- What settings give. -/
structure RunL (n : Nat) (t : List (List Int)) (u : List Int) : Prop where
  len : u.length = n
  ord : ordV u = true
  can : canV u = true
  back : swV u = t
theorem run_law {n : Nat} {t : List (List Int)} (hn : n = 2 ∨ n = 4 ∨ n = 8) (hl : t.length = stgN n) (hr : ∀ k, k < stgN n → (row t k).length = n / 2) (hb : ∀ k, k < stgN n → BitsL n (row t k)) : RunL n t (runTo n t (stgN n)) := by
  obtain ⟨u, hu⟩ : ∃ u, runTo n t (stgN n) = u := ⟨_, rfl⟩
  rw [hu]
  have hul : u.length = n := by rw [← hu]; exact run_len _ _ _
  have at_ : ∀ p, p < n → nth u (place n t p (stgN n)) = (p : Int) := fun p hp => by rw [← hu]; exact run_place hn hp _ hb
  have sur : ∀ i, i < n → ∃ p, p < n ∧ place n t p (stgN n) = i ∧ nth u i = (p : Int) := fun i hi => by
    obtain ⟨p, hp, e⟩ := place_all hn (stgN n) hb i hi
    exact ⟨p, hp, e, by rw [← e]; exact at_ p hp⟩
  have ho : isOrd u = true := ordTo_of hul (fun i hi => by obtain ⟨p, hp, _, e⟩ := sur i hi; exact ⟨p, e, hp⟩) (fun i k hik hk e => by
    obtain ⟨p, hp, e1, e2⟩ := sur i (by omega)
    obtain ⟨q, hq, e3, e4⟩ := sur k hk
    rw [e2, e4] at e
    have : p = q := by omega
    subst this
    omega)
  have pzv : ∀ i, i < n → ∃ p, p < n ∧ place n t p (stgN n) = i ∧ ∀ s, s ≤ stgN n → pz n u i s = place n t p s := fun i hi => by
    obtain ⟨p, hp, e1, e2⟩ := sur i hi
    refine ⟨p, hp, e1, fun s hs => ?_⟩
    have h1 := way hn hp hb s hs
    rw [e1] at h1
    unfold pz
    rw [e2, Int.toNat_natCast]
    exact h1
  have hor := ordV_of hul hn ho
  have hcan : canV u = true := can_of hul hor fun i k s hk hi hs e => by
    obtain ⟨p, hp, e1, e2⟩ := pzv i hi
    obtain ⟨q, hq, e3, e4⟩ := pzv k (by omega)
    rw [e2 _ (by omega), e4 _ (by omega)] at e
    have := place_inj hn hp hq (s + 1) (fun j hj => hb j (by omega)) e
    subst this
    omega
  refine ⟨hul, hor, hcan, ?_⟩
  rw [swV_yes hul hcan]
  refine list_rows (swM_len _ _ _) hl fun s hs => ?_
  rw [swM_row hs]
  refine nth_ext (swRow_len _ _ _ _) (hr s hs) fun j hj => ?_
  have hrow : nth (swRow n u s n) j = if swB n u s n j = true then 1 else 0 := by
    rw [nth_eq (by rw [swRow_len]; exact hj)]
    unfold swRow
    simp
  rw [hrow]
  have hbs := hb s hs
  have key : ∀ i, i < n → pz n u i (s + 1) / 2 = j → (cz n u i s : Int) = nth (row t s) j := fun i hi e => by
    obtain ⟨p, hp, e1, e2⟩ := pzv i hi
    have hpl := place_lt (zss := t) hn hp s (fun k hk => hb k (by omega))
    have hth := tgt_half hn hbs hpl
    rw [e2 _ (by omega), place_succ, hth.1] at e
    have hsw := sw_lt hn hbs hpl
    rw [← e, hsw.2]
    have hcr := crossed (n := n) (zs := u) (i := i) (s := s) hs
    rw [e2 s (by omega), e2 (s + 1) (by omega), place_succ] at hcr
    have h2 := hsw.1
    rcases hcr with ⟨h3, h4⟩ | ⟨h3, h4⟩
    · rw [h4]; omega
    · rw [h4]; omega
  cases hB : swB n u s n j with
  | true =>
    have : ∀ m, m ≤ n → swB n u s m j = true → ∃ i, i < m ∧ pz n u i (s + 1) / 2 = j ∧ cz n u i s = 1 := by
      intro m
      induction m with
      | zero => intro _ h; cases h
      | succ m ih =>
        intro hm h
        rw [swB, Bool.or_eq_true, Bool.and_eq_true, decide_eq_true_eq, decide_eq_true_eq] at h
        rcases h with h | h
        · obtain ⟨i, hi, h2⟩ := ih (by omega) h
          exact ⟨i, by omega, h2⟩
        · exact ⟨m, by omega, h⟩
    obtain ⟨i, hi, h1, h2⟩ := this n (Nat.le_refl _) hB
    rw [← key i hi h1, h2]; rfl
  | false =>
    have hno : ∀ m, swB n u s m j = false → ∀ i, i < m → pz n u i (s + 1) / 2 = j → cz n u i s ≠ 1 := by
      intro m
      induction m with
      | zero => intro _ i h; omega
      | succ m ih =>
        intro h i hi h1
        rw [swB, Bool.or_eq_false_iff] at h
        by_cases e : i = m
        · subst e
          have h2 := h.2
          rw [decide_eq_true h1, Bool.true_and, decide_eq_false_iff_not] at h2
          exact h2
        · exact ih h.1 i (by omega) h1
    obtain ⟨p, hp, e⟩ := place_all (zss := t) hn (s + 1) (fun k hk => hb k (by omega)) (2 * j) (by omega)
    have hib := place_lt (zss := t) hn hp (stgN n) hb
    obtain ⟨q, hq, e1, e2⟩ := pzv _ hib
    have hqp := place_inj hn hq hp (stgN n) hb e1
    subst hqp
    have h1 : pz n u (place n t q (stgN n)) (s + 1) / 2 = j := by rw [e2 _ (by omega), e]; omega
    have h2 := hno n hB _ hib h1
    have h3 := key _ hib h1
    rcases hbs j hj with h4 | h4
    · rw [h4]; rfl
    · rw [h4] at h3; omega

theorem end2 : ∀ p, p < 2 → ∀ i, i < 2 → posR 2 i 1 p 1 = i := by decide +kernel
theorem end4 : ∀ p, p < 4 → ∀ i, i < 4 → posR 4 i 2 p 2 = i := by decide +kernel
theorem end8 : ∀ p, p < 8 → ∀ i, i < 8 → posR 8 i 3 p 3 = i := by decide +kernel
theorem pos_end {n p i : Nat} (hn : n = 2 ∨ n = 4 ∨ n = 8) (hp : p < n) (hi : i < n) : posR n i (stgN n) p (stgN n) = i := by
  rcases hn with rfl | rfl | rfl
  · exact end2 p hp i hi
  · exact end4 p hp i hi
  · exact end8 p hp i hi
/-- The settings of an order that passes bring it about. -/
theorem sw_bits {n : Nat} (zs : List Int) (s : Nat) : BitsL n (swRow n zs s n) := by
  intro j hj
  have hrow : nth (swRow n zs s n) j = if swB n zs s n j = true then 1 else 0 := by
    rw [nth_eq (by rw [swRow_len]; exact hj)]
    unfold swRow
    simp
  rw [hrow]
  split
  · exact .inr rfl
  · exact .inl rfl
theorem sw_nth {n : Nat} (zs : List Int) (s : Nat) {j : Nat} (hj : j < n / 2) : nth (swRow n zs s n) j = if swB n zs s n j = true then 1 else 0 := by
  rw [nth_eq (by rw [swRow_len]; exact hj)]
  unfold swRow
  simp
theorem swB_yes {n : Nat} {zs : List Int} {s i j : Nat} (h1 : pz n zs i (s + 1) / 2 = j) (h2 : cz n zs i s = 1) : ∀ m, i < m → swB n zs s m j = true := by
  intro m
  induction m with
  | zero => intro h; omega
  | succ m ih =>
    intro h
    rw [swB]
    by_cases e : i = m
    · subst e; rw [decide_eq_true h1, decide_eq_true h2]; simp
    · rw [ih (by omega), Bool.true_or]
theorem swB_none {n : Nat} {zs : List Int} {s j : Nat} : ∀ m, (∀ i, i < m → pz n zs i (s + 1) / 2 = j → cz n zs i s = 0) → swB n zs s m j = false := by
  intro m
  induction m with
  | zero => intro _; rfl
  | succ m ih =>
    intro h
    rw [swB, ih (fun i hi => h i (by omega)), Bool.false_or]
    by_cases e : pz n zs m (s + 1) / 2 = j
    · rw [decide_eq_false (show ¬ cz n zs m s = 1 by rw [h m (by omega) e]; omega), Bool.and_false]
    · rw [decide_eq_false e, Bool.false_and]
theorem pass_law {zs : List Int} {n : Nat} (hl : zs.length = n) (h : canV zs = true) : (swV zs).length = stgN n ∧ (∀ k, k < stgN n → (row (swV zs) k).length = n / 2) ∧ (∀ k, k < stgN n → BitsL n (row (swV zs) k)) ∧ runTo n (swV zs) (stgN n) = zs := by
  obtain ⟨hn, hget, hne⟩ := can_out hl h
  have hv := swV_yes hl h
  have hrow : ∀ k, k < stgN n → row (swV zs) k = swRow n zs k n := fun k hk => by rw [hv, swM_row hk]
  have hbits : ∀ k, k < stgN n → BitsL n (row (swV zs) k) := fun k hk => by rw [hrow k hk]; exact sw_bits zs k
  refine ⟨by rw [hv, swM_len], fun k hk => by rw [hrow k hk, swRow_len], hbits, ?_⟩
  have hlt : ∀ i, i < n → ∀ s, pz n zs i s < n := fun i hi s => by
    obtain ⟨z, hz, hzn⟩ := hget i hi
    unfold pz
    rw [hz, Int.toNat_natCast]
    exact posR_lt hn _ _ _ hzn
  have step : ∀ i, i < n → ∀ s, s < stgN n → tgt n (row (swV zs) s) (pz n zs i s) = pz n zs i (s + 1) := fun i hi s hs => by
    have hb := hbits s hs
    have hp := hlt i hi s
    have h1 := tgt_half hn hb hp
    have h2 := sw_lt hn hb hp
    have hsl := shuf_lt hn hp
    have hcr := crossed (n := n) (zs := zs) (i := i) (s := s) hs
    have hpz : pz n zs i (s + 1) / 2 = shuf n (pz n zs i s) / 2 := by rw [pz_succ hs, nxt_def]; have := Nat.mod_lt (i / 2 ^ (stgN n - 1 - s)) (show 0 < 2 by omega); omega
    have hsv : (swAt n (row (swV zs) s) (pz n zs i s) : Int) = (cz n zs i s : Int) := by
      rw [← h2.2, hrow s hs, sw_nth zs s (by omega)]
      rcases hcr with ⟨_, h4⟩ | ⟨_, h4⟩
      · rw [swB_none n (fun k hk e => by
          by_cases e1 : k = i
          · subst e1; exact h4
          · rcases Nat.lt_or_gt_of_ne e1 with e2 | e2
            · rw [← share hl h e2 hi hs (by rw [hpz, e])]; exact h4
            · rw [share hl h e2 hk hs (by rw [hpz, e])]; exact h4), h4]
        rfl
      · rw [swB_yes (i := i) hpz h4 n hi, h4]
        rfl
    have hsn : swAt n (row (swV zs) s) (pz n zs i s) = cz n zs i s := by omega
    rw [hsn] at h1
    rcases hcr with ⟨h3, h4⟩ | ⟨h3, h4⟩ <;> omega
  have run : ∀ i, i < n → ∀ s, s ≤ stgN n → nth (runTo n (swV zs) s) (pz n zs i s) = nth zs i := fun i hi s => by
    induction s with
    | zero =>
      intro _
      obtain ⟨z, hz, hzn⟩ := hget i hi
      rw [run_zero, pz_zero, hz, Int.toNat_natCast, marks_nth 0 n z hzn, Int.zero_add]
    | succ s ih =>
      intro hs
      rw [run_succ, ← step i hi s (by omega), stage_nth hn (hbits s (by omega)) n (Nat.le_refl _) _ (hlt i hi s)]
      exact ih (by omega)
  refine nth_ext (run_len _ _ _) hl fun i hi => ?_
  have h1 := run i hi (stgN n) (Nat.le_refl _)
  obtain ⟨z, hz, hzn⟩ := hget i hi
  have h2 : pz n zs i (stgN n) = i := by unfold pz; rw [hz, Int.toNat_natCast]; exact pos_end hn hzn hi
  rw [h2] at h1
  exact h1

/-- One round serves exactly if no two paths meet. -/
theorem rnFree_all {zs : List Int} {i : Nat} {r : List Int} : ∀ m, rnFree zs i r m = true → ∀ k q : Nat, k < m → nth r k = q → pairMeet zs i q = false := by
  intro m
  induction m with
  | zero => intro _ k q h; omega
  | succ m ih =>
    intro h k q hk hq
    by_cases e : k = m
    · subst e
      rw [rnFree_succ hq, Bool.and_eq_true] at h
      simpa using h.2
    · refine ih ?_ k q (by omega) hq
      cases hh : rnFree zs i r m with
      | true => rfl
      | false => rw [rnFree_down hh (m + 1) (by omega)] at h; cases h
theorem rnFree_of {zs : List Int} {i : Nat} {r : List Int} : ∀ m, (∀ k, k < m → ∃ q : Nat, nth r k = q ∧ pairMeet zs i q = false) → rnFree zs i r m = true := by
  intro m
  induction m with
  | zero => intro _; exact rnFree_zero _ _ _
  | succ m ih =>
    intro h
    obtain ⟨q, h1, h2⟩ := h m (by omega)
    rw [rnFree_succ h1, ih (fun k hk => h k (by omega)), h2]
    rfl
theorem rn_put_ge (rs : List (List Int)) (i a : Nat) : rs.length ≤ (rnPut rs i a).length ∧ 1 ≤ (rnPut rs i a).length ∨ ¬ a ≤ rs.length := by
  by_cases e : a ≤ rs.length
  · left
    unfold rnPut
    split
    · rw [List.length_append]; simp
    · rw [List.length_set]; omega
  · exact .inr e
theorem rn_idx_le (zs : List Int) (i : Nat) (rs : List (List Int)) : rnGo zs i rs 0 rs.length ≤ rs.length := by
  have := rnGo_le zs i rs rs.length 0
  omega
/-- All of the first i numbers stand in one round. -/
def OneR (i : Nat) (rs : List (List Int)) : Prop := rs.length = 1 ∧ (row rs 0).length = i ∧ ∀ k, k < i → nth (row rs 0) k = (k : Int)
theorem one_first (zs : List Int) : OneR 1 (rnTo zs 1) := by
  have h0 : rnGo zs 0 [] 0 ([] : List (List Int)).length = 0 := rnGo_end _ _ _ _
  have e : rnPut [] 0 0 = [[0]] := by simp [rnPut]
  rw [rnTo_succ (rnTo_zero zs) h0, e]
  refine ⟨rfl, by simp [row], fun k hk => ?_⟩
  have : k = 0 := by omega
  subst this
  simp [row, nth]
theorem one_next {zs : List Int} {i : Nat} {rs : List (List Int)} (hr : rnTo zs i = rs) (h : OneR i rs) : ((∀ k, k < i → pairMeet zs i k = false) → OneR (i + 1) (rnTo zs (i + 1))) ∧ ((rnTo zs (i + 1)).length = 1 → ∀ k, k < i → pairMeet zs i k = false) := by
  obtain ⟨h1, h2, h3⟩ := h
  have hgo : ∀ b, rnFree zs i (row rs 0) (row rs 0).length = b → rnGo zs i rs 0 rs.length = if b = true then 0 else 1 := fun b hb => by
    rw [h1]
    cases b with
    | true => rw [if_pos rfl]; exact rnGo_hit (L := 1) (a := 0) (by omega) hb
    | false => rw [if_neg (by decide)]; have := rnGo_miss (zs := zs) (i := i) (a := 0) (L := 1) (rs := rs) (by omega) hb; rw [show (1 : Nat) - 0 = 1 from rfl] at this; rw [this]; exact rnGo_end _ _ _ _
  refine ⟨fun hf => ?_, fun hlen k hk => ?_⟩
  · have hb : rnFree zs i (row rs 0) (row rs 0).length = true := rnFree_of _ fun k hk => ⟨k, h3 k (by omega), hf k (by omega)⟩
    rw [rnTo_succ hr (hgo true hb), if_pos rfl]
    unfold rnPut
    rw [if_neg (by omega)]
    refine ⟨by rw [List.length_set]; exact h1, ?_, fun k hk => ?_⟩
    · rw [row_set_same (by omega), List.length_append, h2]; rfl
    · rw [row_set_same (by omega)]
      by_cases e : k = i
      · subst e
        have := nth_app_new (row rs 0) (k : Int)
        rw [h2] at this
        exact this
      · rw [nth_app_old (by omega)]; exact h3 k (by omega)
  · cases hb : rnFree zs i (row rs 0) (row rs 0).length with
    | true => exact rnFree_all _ hb k k (by omega) (h3 k hk)
    | false =>
      rw [rnTo_succ hr (hgo false hb), if_neg (by decide)] at hlen
      unfold rnPut at hlen
      rw [if_pos h1.symm, List.length_append, h1] at hlen
      simp at hlen
theorem rn_up (zs : List Int) (i : Nat) : (rnTo zs i).length ≤ (rnTo zs (i + 1)).length := by
  obtain ⟨rs, hr⟩ : ∃ rs, rnTo zs i = rs := ⟨_, rfl⟩
  rw [rnTo_succ hr rfl, hr]
  have hle := rn_idx_le zs i rs
  rcases rn_put_ge rs i (rnGo zs i rs 0 rs.length) with h | h
  · exact h.1
  · exact absurd hle h
theorem rn_mono (zs : List Int) (i : Nat) : ∀ d, (rnTo zs i).length ≤ (rnTo zs (i + d)).length := by
  intro d
  induction d with
  | zero => exact Nat.le_refl _
  | succ d ih => exact Nat.le_trans ih (rn_up zs (i + d))
theorem rn_law {zs : List Int} {n : Nat} (hl : zs.length = n) (hn : 2 ≤ n) (ho : ordV zs = true) : ∃ r : Nat, rnV zs = (r : Int) ∧ 1 ≤ r ∧ r ≤ n ∧ (canV zs = true ↔ r = 1) := by
  have hone := one_first zs
  refine ⟨(rnTo zs n).length, rnV_yes hl ho, ?_, (rnOk_to zs n).1, ?_⟩
  · have := rn_mono zs 1 (n - 1)
    rw [show 1 + (n - 1) = n by omega, hone.1] at this
    exact this
  · rw [canV, ho, Bool.true_and]
    constructor
    · intro hp
      have hall := pass_all zs.length hp
      have : ∀ d, 1 + d ≤ n → OneR (1 + d) (rnTo zs (1 + d)) := by
        intro d
        induction d with
        | zero => intro _; exact hone
        | succ d ih => intro hd; exact (one_next rfl (ih (by omega))).1 (hall (1 + d) (by omega))
      have h2 := this (n - 1) (by omega)
      rw [show 1 + (n - 1) = n by omega] at h2
      exact h2.1
    · intro hr
      have : ∀ d, 1 + d ≤ n → OneR (1 + d) (rnTo zs (1 + d)) ∧ ∀ i, i < 1 + d → ∀ k, k < i → pairMeet zs i k = false := by
        intro d
        induction d with
        | zero => intro _; exact ⟨hone, fun i hi k hk => by omega⟩
        | succ d ih =>
          intro hd
          obtain ⟨h1, h2⟩ := ih (by omega)
          have hn2 := one_next rfl h1
          have hlen : (rnTo zs (1 + d + 1)).length = 1 := by
            have h3 := rn_mono zs (1 + d + 1) (n - (1 + d + 1))
            rw [show 1 + d + 1 + (n - (1 + d + 1)) = n by omega, hr] at h3
            have h4 := rn_up zs (1 + d)
            rw [h1.1] at h4
            omega
          have h5 := hn2.2 hlen
          refine ⟨hn2.1 h5, fun i hi k hk => ?_⟩
          by_cases e : i = 1 + d
          · subst e; exact h5 k hk
          · exact h2 i (by omega) k hk
      have h2 := (this (n - 1) (by omega)).2
      unfold passB
      exact passTo_of _ fun i hi k hk => h2 i (by omega) k hk
theorem shift_can2 : ∀ a, a < 2 → canV (shiftL 2 a) = true := by decide +kernel
theorem shift_can4 : ∀ a, a < 4 → canV (shiftL 4 a) = true := by decide +kernel
theorem shift_can8 : ∀ a, a < 8 → canV (shiftL 8 a) = true := by decide +kernel
theorem shift_can {n a : Nat} (hn : n = 2 ∨ n = 4 ∨ n = 8) (ha : a < n) : canV (shiftV n a) = true := by
  rw [shiftV, if_pos ⟨isN_of hn, by omega, by omega⟩, Int.toNat_natCast, Int.toNat_natCast]
  rcases hn with rfl | rfl | rfl
  · exact shift_can2 a ha
  · exact shift_can4 a ha
  · exact shift_can8 a ha
theorem runOk_of {n : Nat} {t : List (List Int)} (hn : n = 2 ∨ n = 4 ∨ n = 8) (hl : t.length = stgN n) (hr : ∀ k, k < stgN n → (row t k).length = n / 2) (hb : ∀ k, k < stgN n → BitsL n (row t k)) : runV (n : Int) t = runTo n t (stgN n) := by
  have h : ∀ m, m ≤ stgN n → rowsB t (n / 2) m = true := by
    intro m
    induction m with
    | zero => intro _; exact rowsB_zero _ _
    | succ m ih =>
      intro hm
      refine rowsB_on (ih (by omega)) ?_
      rw [hr m (by omega)]
      exact bitRow_of fun j hj => by
        unfold isBit
        rcases hb m (by omega) j hj with h | h <;> rw [h] <;> rfl
  rw [runV_yes (runOk_yes (isN_of hn) hl rfl (h _ (Nat.le_refl _))), hl]
end Go.Proofs.Ytaeabpmpfadkjaa
