/- Chapter 12: sets of masks as numbers (plain Lean). -/
import Derived.Test.YtobdkfhmmpigiaaGreatC12u2
namespace Go.Proofs.YtobdkfhmmpigiaaGreat
open Go.RowKit Go.Deep
set_option linter.unusedVariables false

/-- The set that a number stands for. -/
def dec (n c : Nat) : List Int := selL (fun j => c.testBit j) (2 ^ n)
theorem dec_mem {n c : Nat} {x : Int} : x ∈ dec n c ↔ ∃ m : Nat, x = m ∧ m < 2 ^ n ∧ c.testBit m = true := selL_mem
theorem dec_rise (n c : Nat) : (dec n c).Pairwise (· < ·) := sel_rise _ _
/-- The image of a number's set. -/
def imgC (f : Nat → Nat) (c : Nat) : Nat → Nat
  | 0 => 0
  | k + 1 => if c.testBit k = true then imgC f c k ||| 2 ^ (f k) else imgC f c k
theorem imgC_bit (f : Nat → Nat) (c : Nat) : ∀ k j, (imgC f c k).testBit j = true ↔ ∃ s, s < k ∧ c.testBit s = true ∧ f s = j := by
  intro k
  induction k with
  | zero => intro j; simp [imgC]
  | succ k ih =>
    intro j
    rw [imgC]
    by_cases h : c.testBit k = true
    · rw [if_pos h, Nat.testBit_or, Bool.or_eq_true, ih j, Nat.testBit_two_pow, decide_eq_true_eq]
      constructor
      · rintro (⟨s, h1, h2, h3⟩ | h1)
        · exact ⟨s, by omega, h2, h3⟩
        · exact ⟨k, by omega, h, h1⟩
      · rintro ⟨s, h1, h2, h3⟩
        by_cases e : s = k
        · subst e; exact .inr h3
        · exact .inl ⟨s, by omega, h2, h3⟩
    · rw [if_neg h, ih j]
      constructor
      · rintro ⟨s, h1, h2, h3⟩; exact ⟨s, by omega, h2, h3⟩
      · rintro ⟨s, h1, h2, h3⟩
        refine ⟨s, ?_, h2, h3⟩
        by_cases e : s = k
        · subst e; exact absurd h2 h
        · omega
theorem imgC_lt {f : Nat → Nat} {c N : Nat} (h : ∀ s, s < N → f s < N) : ∀ k, k ≤ N → imgC f c k < 2 ^ N := by
  intro k
  induction k with
  | zero => intro _; rw [imgC]; exact Nat.pow_pos (by omega)
  | succ k ih =>
    intro hk
    rw [imgC]
    split
    · exact Nat.or_lt_two_pow (ih (by omega)) (Nat.pow_lt_pow_right (by omega) (h k (by omega)))
    · exact ih (by omega)
theorem im_dec {n c : Nat} {f : Nat → Nat} {F : Int → Int} (hF : ∀ s : Nat, s < 2 ^ n → F s = f s) (hf : ∀ s, s < 2 ^ n → f s < 2 ^ n) : imL F (dec n c) = dec n (imgC f c (2 ^ n)) := by
  refine rise_ext (imL_rise _ _) (dec_rise _ _) fun x => ?_
  rw [imL_mem, dec_mem]
  constructor
  · rintro ⟨z, hz, rfl⟩
    obtain ⟨m, rfl, h1, h2⟩ := dec_mem.1 hz
    exact ⟨f m, hF m h1, hf m h1, (imgC_bit f c _ _).2 ⟨m, h1, h2, rfl⟩⟩
  · rintro ⟨m, rfl, h1, h2⟩
    obtain ⟨s, g1, g2, g3⟩ := (imgC_bit f c _ _).1 h2
    exact ⟨(s : Int), dec_mem.2 ⟨s, rfl, g1, g2⟩, by rw [hF s g1, g3]⟩
theorem sel_dec {n c : Nat} {f : Nat → Nat} {P : Nat → Bool} (hP : ∀ j, P j = true ↔ ∃ s : Nat, (s : Int) ∈ dec n c ∧ f s = j) : selL P (2 ^ n) = dec n (imgC f c (2 ^ n)) := by
  refine rise_ext (sel_rise _ _) (dec_rise _ _) fun x => ?_
  rw [selL_mem, dec_mem]
  constructor
  · rintro ⟨m, rfl, h1, h2⟩
    obtain ⟨s, g1, g2⟩ := (hP m).1 h2
    obtain ⟨t, e, g3, g4⟩ := dec_mem.1 g1
    have e : s = t := by omega
    subst e
    exact ⟨m, rfl, h1, (imgC_bit f c _ _).2 ⟨s, g3, g4, g2⟩⟩
  · rintro ⟨m, rfl, h1, h2⟩
    obtain ⟨s, g1, g2, g3⟩ := (imgC_bit f c _ _).1 h2
    exact ⟨m, rfl, h1, (hP m).2 ⟨s, dec_mem.2 ⟨s, rfl, g1, g2⟩, g3⟩⟩
/-- Elements of a decoded set, by their index. -/
theorem dec_nth {n c : Nat} (P : Nat → Prop) : (∃ i, i < (dec n c).length ∧ P (nth (dec n c) i).toNat) ↔ ∃ s : Nat, (s : Int) ∈ dec n c ∧ P s := by
  constructor
  · rintro ⟨i, hi, hp⟩
    have hm := nth_mem hi
    obtain ⟨m, e, h1, h2⟩ := dec_mem.1 hm
    rw [e, Int.toNat_natCast] at hp
    exact ⟨m, by rw [← e]; exact hm, hp⟩
  · rintro ⟨s, hs, hp⟩
    obtain ⟨i, hi, e⟩ := List.getElem_of_mem hs
    exact ⟨i, hi, by rw [nth_eq hi, e, Int.toNat_natCast]; exact hp⟩
theorem img_bit (zss : List (List Int)) (n : Nat) (set : List Int) : ∀ k j, img zss n set k j = true ↔ ∃ i, i < k ∧ bsTo zss (nth set i).toNat n = j := by
  intro k
  induction k with
  | zero => intro j; simp [img]
  | succ k ih =>
    intro j
    rw [img, Bool.or_eq_true, ih j, beq_iff_eq]
    constructor
    · rintro (⟨i, h1, h2⟩ | h1)
      · exact ⟨i, by omega, h2⟩
      · exact ⟨k, by omega, h1.symm⟩
    · rintro ⟨i, h1, h2⟩
      by_cases e : i = k
      · subst e; exact .inr h2.symm
      · exact .inl ⟨i, by omega, h2⟩
theorem imgR_bit (names : List Int) (n : Nat) (set : List Int) : ∀ k j, imgR names n set k j = true ↔ ∃ i, i < k ∧ renM names (nth set i).toNat n = j := by
  intro k
  induction k with
  | zero => intro j; simp [imgR]
  | succ k ih =>
    intro j
    rw [imgR, Bool.or_eq_true, ih j, beq_iff_eq]
    constructor
    · rintro (⟨i, h1, h2⟩ | h1)
      · exact ⟨i, by omega, h2⟩
      · exact ⟨k, by omega, h1.symm⟩
    · rintro ⟨i, h1, h2⟩
      by_cases e : i = k
      · subst e; exact .inr h2.symm
      · exact .inl ⟨i, by omega, h2⟩
/-- The set behind a comparator. -/
def stepC (n p q c : Nat) : Nat := imgC (fun s => bst s p q) c (2 ^ n)
theorem stI_dec {n p q c : Nat} (h4 : n ≤ 4) (hp : p < n) (hq : q < n) : stI p q (dec n c) = dec n (stepC n p q c) := by
  unfold stI stepC
  exact im_dec (fun s hs => by rw [Int.toNat_natCast]) (fun s hs => bst_w h4 hs hp hq)
theorem stepC_lt {n p q c : Nat} (h4 : n ≤ 4) (hp : p < n) (hq : q < n) : stepC n p q c < 2 ^ 2 ^ n := imgC_lt (fun s hs => bst_w h4 hs hp hq) _ (Nat.le_refl _)
theorem all_dec {n p q c : Nat} : allV [pr p q] 1 (dec n c) (2 ^ n) = dec n (stepC n p q c) := by
  unfold allV stepC
  refine sel_dec fun j => ?_
  rw [img_bit, dec_nth (fun s => bsTo [pr p q] s 1 = j)]
  have : ∀ s : Nat, bsTo [pr p q] s 1 = bst s p q := fun s => by
    unfold bsTo bsTo row nth
    rfl
  constructor
  · rintro ⟨s, h1, h2⟩; exact ⟨s, h1, by rw [← this]; exact h2⟩
  · rintro ⟨s, h1, h2⟩; exact ⟨s, h1, by rw [this]; exact h2⟩
theorem ren_dec {names : List Int} {n c : Nat} : renV names n (dec n c) (2 ^ n) = dec n (imgC (fun s => renM names s n) c (2 ^ n)) := by
  unfold renV
  refine sel_dec fun j => ?_
  rw [imgR_bit, dec_nth (fun s => renM names s n = j)]
theorem renI_dec {names : List Int} {n c : Nat} (h : ∀ s, s < 2 ^ n → renO names s n < 2 ^ n) : renI names n (dec n c) = dec n (imgC (fun s => renO names s n) c (2 ^ n)) := by
  unfold renI
  exact im_dec (fun s hs => by rw [Int.toNat_natCast]) h
theorem keyTo_bit (set : List Int) : ∀ k j, (keyTo set k).testBit j = true ↔ ∃ i, i < k ∧ (nth set i).toNat = j := by
  intro k
  induction k with
  | zero => intro j; rw [keyTo_zero]; simp
  | succ k ih =>
    intro j
    have e : keyTo set (k + 1) = keyTo set k ||| 2 ^ (nth set k).toNat := by
      conv => lhs; unfold keyTo
    rw [e, Nat.testBit_or, Bool.or_eq_true, ih j, Nat.testBit_two_pow, decide_eq_true_eq]
    constructor
    · rintro (⟨i, h1, h2⟩ | h1)
      · exact ⟨i, by omega, h2⟩
      · exact ⟨k, by omega, h1⟩
    · rintro ⟨i, h1, h2⟩
      by_cases e : i = k
      · subst e; exact .inr h2
      · exact .inl ⟨i, by omega, h2⟩
theorem key_dec {n c : Nat} (hc : c < 2 ^ 2 ^ n) : keyC (dec n c) = c := by
  refine Nat.eq_of_testBit_eq fun j => ?_
  rw [Bool.eq_iff_iff]
  unfold keyC
  rw [keyTo_bit, dec_nth (fun s => s = j)]
  constructor
  · rintro ⟨s, h1, rfl⟩
    obtain ⟨t, e, h2, h3⟩ := dec_mem.1 h1
    have e : s = t := by omega
    subst e
    exact h3
  · intro h
    refine ⟨j, dec_mem.2 ⟨j, rfl, ?_, h⟩, rfl⟩
    rcases Nat.lt_or_ge j (2 ^ n) with h2 | h2
    · exact h2
    · have := Nat.testBit_lt_two_pow (x := c) (i := j) (Nat.lt_of_lt_of_le hc (Nat.pow_le_pow_right (by omega) h2))
      rw [this] at h
      cases h
theorem dec_inj {n a b : Nat} (ha : a < 2 ^ 2 ^ n) (hb : b < 2 ^ 2 ^ n) (h : dec n a = dec n b) : a = b := by
  rw [← key_dec ha, ← key_dec hb, h]
theorem marks_dec (n : Nat) : marks 0 (2 ^ n) = dec n (2 ^ 2 ^ n - 1) := by
  refine rise_ext ?_ (dec_rise _ _) fun x => ?_
  · rw [marks_sel]; exact sel_rise _ _
  · rw [marks_sel, selL_mem, dec_mem]
    constructor
    · rintro ⟨m, e, h1, _⟩; exact ⟨m, e, h1, by rw [Nat.testBit_two_pow_sub_one]; exact decide_eq_true h1⟩
    · rintro ⟨m, e, h1, _⟩; exact ⟨m, e, h1, rfl⟩
/-- Within: rising lists with the same length are one. -/
theorem rise_sub : ∀ {b a : List Int}, a.Pairwise (· < ·) → b.Pairwise (· < ·) → (∀ x ∈ a, x ∈ b) → a.length ≤ b.length ∧ (a.length = b.length → a = b)
  | [], a, _, _, h => by
    have : a = [] := List.eq_nil_iff_forall_not_mem.2 fun x hx => by simpa using h x hx
    subst this
    exact ⟨Nat.le_refl _, fun _ => rfl⟩
  | y :: b, [], _, _, _ => ⟨by simp, fun h => by simp at h⟩
  | y :: b, x :: a, ha, hb, h => by
    have ha' := List.pairwise_cons.1 ha
    have hb' := List.pairwise_cons.1 hb
    have hx := h x (by simp)
    simp only [List.mem_cons] at hx
    rcases hx with rfl | hx
    · have h2 := rise_sub ha'.2 hb'.2 (fun z hz => by
        have h3 := h z (by simp [hz])
        simp only [List.mem_cons] at h3
        rcases h3 with rfl | h3
        · have := ha'.1 z hz; omega
        · exact h3)
      exact ⟨by simp; exact h2.1, fun e => by rw [h2.2 (by simpa using e)]⟩
    · have h2 := rise_sub (a := x :: a) ha hb'.2 (fun z hz => by
        have h3 := h z hz
        simp only [List.mem_cons] at h3
        rcases h3 with rfl | h3
        · have hxy := hb'.1 x hx
          simp only [List.mem_cons] at hz
          rcases hz with rfl | hz
          · omega
          · have := ha'.1 z hz; omega
        · exact h3)
      exact ⟨by have := h2.1; simp at this ⊢; omega, fun e => by have := h2.1; simp at this e; omega⟩
theorem conTo_iff (y : Int) (b : List Int) : ∀ k, k ≤ b.length → (conTo y b k = true ↔ y ∈ b.take k) := by
  intro k
  induction k with
  | zero => intro _; rw [conTo_zero]; simp
  | succ k ih =>
    intro hk
    rw [conTo_succ, Bool.or_eq_true, ih (by omega), take_nth (by omega), beq_iff_eq]
    simp
theorem witTo_iff (a b : List Int) : ∀ k, k ≤ a.length → (witTo a b k = true ↔ ∀ x ∈ a.take k, x ∈ b) := by
  intro k
  induction k with
  | zero => intro _; rw [witTo_zero]; simp
  | succ k ih =>
    intro hk
    rw [witTo_succ, Bool.and_eq_true, ih (by omega), take_nth (by omega), conTo_iff _ _ _ (Nat.le_refl _), List.take_length]
    simp only [List.mem_append, List.mem_singleton]
    constructor
    · rintro ⟨h1, h2⟩ x (hx | hx)
      · exact h1 x hx
      · rw [hx]; exact h2
    · intro h
      exact ⟨fun x hx => h x (.inl hx), h _ (.inr rfl)⟩
theorem witV_iff (a b : List Int) : witV a b = true ↔ ∀ x ∈ a, x ∈ b := by
  unfold witV
  rw [witTo_iff a b _ (Nat.le_refl _), List.take_length]
theorem witI_iff (a b : List Int) : witI a b = true ↔ ∀ x ∈ a, x ∈ b := by
  unfold witI
  rw [List.all_eq_true]
  simp
/-- Within, of numbers. -/
def subC (a b : Nat) : Bool := a ||| b == b
theorem subC_iff {a b : Nat} : subC a b = true ↔ ∀ j, a.testBit j = true → b.testBit j = true := by
  unfold subC
  rw [beq_iff_eq]
  constructor
  · intro h j hj
    rw [← h, Nat.testBit_or, hj]; rfl
  · intro h
    refine Nat.eq_of_testBit_eq fun j => ?_
    rw [Nat.testBit_or]
    cases ha : a.testBit j with
    | true => rw [h j ha]; rfl
    | false => rfl
theorem dec_sub {n a b : Nat} (ha : a < 2 ^ 2 ^ n) : (∀ x ∈ dec n a, x ∈ dec n b) ↔ subC a b = true := by
  rw [subC_iff]
  constructor
  · intro h j hj
    have hj2 : j < 2 ^ n := by
      rcases Nat.lt_or_ge j (2 ^ n) with h2 | h2
      · exact h2
      · have := Nat.testBit_lt_two_pow (x := a) (i := j) (Nat.lt_of_lt_of_le ha (Nat.pow_le_pow_right (by omega) h2))
        rw [this] at hj
        cases hj
    obtain ⟨m, e, _, h3⟩ := dec_mem.1 (h j (dec_mem.2 ⟨j, rfl, hj2, hj⟩))
    have e : j = m := by omega
    subst e
    exact h3
  · intro h x hx
    obtain ⟨m, rfl, h1, h2⟩ := dec_mem.1 hx
    exact dec_mem.2 ⟨m, rfl, h1, h m h2⟩
theorem witV_dec {n a b : Nat} (ha : a < 2 ^ 2 ^ n) : witV (dec n a) (dec n b) = subC a b := by
  rw [Bool.eq_iff_iff, witV_iff, dec_sub ha]
theorem witI_dec {n a b : Nat} (ha : a < 2 ^ 2 ^ n) : witI (dec n a) (dec n b) = subC a b := by
  rw [Bool.eq_iff_iff, witI_iff, dec_sub ha]
end Go.Proofs.YtobdkfhmmpigiaaGreat
