/- Chapter 16: the greatest matching is as great as the least cover (plain, no program). -/
import Derived.Test.YthaggobbcgjfkaaC16h
namespace Go.Proofs.Ythaggobbcgjfkaa
open Go.RowKit Go.Deep
set_option linter.unusedVariables false

theorem bit_big {x j : Nat} (hx : x < 64) (hj : 6 ≤ j) : bitAt x j = false := by
  have h : x < 2 ^ j := Nat.lt_of_lt_of_le (m := 2 ^ 6) hx (Nat.pow_le_pow_right (by omega) hj)
  rw [bitAt_testBit]; exact Nat.testBit_lt_two_pow h
theorem eq_of_bits {x y : Nat} (hx : x < 64) (hy : y < 64) (h : ∀ j, j < 6 → bitAt x j = bitAt y j) : x = y := by
  refine Nat.eq_of_testBit_eq fun j => ?_
  rw [← bitAt_testBit, ← bitAt_testBit]
  rcases Nat.lt_or_ge j 6 with hj | hj
  · exact h j hj
  · rw [bit_big hx hj, bit_big hy hj]
theorem bitAt_or (a b k : Nat) : bitAt (a ||| b) k = (bitAt a k || bitAt b k) := by simp [bitAt_testBit]
theorem and64 {a b : Nat} (h : a < 64) : a &&& b < 64 := Nat.lt_of_le_of_lt Nat.and_le_left h
theorem and64' {a b : Nat} (h : b < 64) : a &&& b < 64 := Nat.lt_of_le_of_lt Nat.and_le_right h
theorem or64 {a b : Nat} (h : a < 64) (h' : b < 64) : a ||| b < 64 := Nat.or_lt_two_pow (n := 6) h h'
theorem bits6_b : ∀ x, x < 64 → pop x = (if bitAt x 0 = true then 1 else 0) + (if bitAt x 1 = true then 1 else 0) + (if bitAt x 2 = true then 1 else 0) + (if bitAt x 3 = true then 1 else 0) + (if bitAt x 4 = true then 1 else 0) + (if bitAt x 5 = true then 1 else 0) := by decide +kernel
theorem pop_part {x y : Nat} (hx : x < 64) (hy : y < 64) (h : Part x y) : pop x ≤ pop y := by
  rw [bits6_b x hx, bits6_b y hy]
  have h0 := h 0 (by omega); have h1 := h 1 (by omega); have h2 := h 2 (by omega); have h3 := h 3 (by omega); have h4 := h 4 (by omega); have h5 := h 5 (by omega)
  have one : ∀ a b : Bool, (a = true → b = true) → (if a = true then 1 else 0) ≤ (if b = true then 1 else 0) := by decide
  have := one _ _ h0; have := one _ _ h1; have := one _ _ h2; have := one _ _ h3; have := one _ _ h4; have := one _ _ h5
  omega
theorem pop_mod {x y : Nat} (hx : x < 64) (hy : y < 64) : pop (x ||| y) + pop (x &&& y) = pop x + pop y := by
  rw [bits6_b x hx, bits6_b y hy, bits6_b _ (or64 hx hy), bits6_b _ (and64 hx)]
  simp only [bitAt_or, bitAt_and]
  have one : ∀ a b : Bool, (if (a || b) = true then 1 else 0) + (if (a && b) = true then 1 else 0) = (if a = true then 1 else 0) + (if b = true then 1 else 0) := by decide
  have := one (bitAt x 0) (bitAt y 0); have := one (bitAt x 1) (bitAt y 1); have := one (bitAt x 2) (bitAt y 2); have := one (bitAt x 3) (bitAt y 3); have := one (bitAt x 4) (bitAt y 4); have := one (bitAt x 5) (bitAt y 5)
  omega
theorem pop_clr : ∀ y, y < 64 → ∀ j, j < 6 → pop y = pop (clr y j) + (if bitAt y j = true then 1 else 0) := by decide +kernel
theorem pop_add : ∀ y, y < 64 → ∀ j, j < 6 → bitAt y j = false → pop (y ||| 2 ^ j) = pop y + 1 := by decide +kernel
theorem bit_pow : ∀ i, i < 6 → ∀ j, j < 6 → bitAt (2 ^ i) j = (j == i) := by decide +kernel
theorem pow64 {i : Nat} (h : i < 6) : 2 ^ i < 64 := (by decide : ∀ i, i < 6 → 2 ^ i < 64) i h

section
variable {zs : List Int}
theorem joined_to_bit {T j : Nat} : ∀ k, bitAt (joinedTo zs T k) j = true ↔ ∃ i, i < k ∧ bitAt T i = true ∧ bitAt (nth zs i).toNat j = true := by
  intro k
  induction k with
  | zero => constructor
            · intro h; simp [joinedTo, bitAt] at h
            · rintro ⟨i, h, _⟩; omega
  | succ k ih =>
    rw [joinedTo]
    split
    · rename_i hb
      rw [bitAt_or, Bool.or_eq_true, ih]
      constructor
      · rintro (⟨i, h1, h2⟩ | h)
        · exact ⟨i, by omega, h2⟩
        · exact ⟨k, by omega, hb, h⟩
      · rintro ⟨i, h1, h2, h3⟩
        by_cases e : i = k
        · subst e; right; exact h3
        · left; exact ⟨i, by omega, h2, h3⟩
    · rename_i hb
      rw [ih]
      constructor
      · rintro ⟨i, h1, h2⟩; exact ⟨i, by omega, h2⟩
      · rintro ⟨i, h1, h2, h3⟩
        by_cases e : i = k
        · subst e; exact absurd h2 hb
        · exact ⟨i, by omega, h2, h3⟩
theorem joined_bit {T j : Nat} : bitAt (joined zs T) j = true ↔ ∃ i, i < zs.length ∧ bitAt T i = true ∧ bitAt (nth zs i).toNat j = true := by
  unfold joined; exact joined_to_bit zs.length
theorem joined64 (hp : planOk zs = true) (T : Nat) : joined zs T < 64 := by unfold joined; exact joinedTo_lt T (planOk_out hp).2.2 zs.length (Nat.le_refl _)

/-- T is a set of some of the last m inputs, all in s. -/
def Among (zs : List Int) (s m T : Nat) : Prop := T < 64 ∧ ∀ j, bitAt T j = true → bitAt s j = true ∧ zs.length - m ≤ j ∧ j < zs.length
theorem Among.more {s m T : Nat} (h : Among zs s m T) : Among zs s (m + 1) T := ⟨h.1, fun j hj => ⟨(h.2 j hj).1, by have := (h.2 j hj).2.1; omega, (h.2 j hj).2.2⟩⟩
theorem Among.or {s m T T' : Nat} (h : Among zs s m T) (h' : Among zs s m T') : Among zs s m (T ||| T') := ⟨or64 h.1 h'.1, fun j hj => by
  rw [bitAt_or, Bool.or_eq_true] at hj
  rcases hj with hj | hj
  · exact h.2 j hj
  · exact h'.2 j hj⟩
theorem Among.and {s m T T' : Nat} (h : Among zs s m T) : Among zs s m (T &&& T') := ⟨and64 h.1, fun j hj => by
  rw [bitAt_and, Bool.and_eq_true] at hj
  exact h.2 j hj.1⟩
theorem Among.zero (s m : Nat) : Among zs s m 0 := ⟨by omega, fun j hj => by simp [bitAt] at hj⟩
/-- Bound and attained: what is proved of m. -/
def Konig (zs : List Int) (s m : Nat) : Prop := ∀ l, l < 64 →
  (∀ T, Among zs s m T → mat zs s m l + pop T ≤ cnt zs.length s m + pop (joined zs T &&& l)) ∧
  ∃ T, Among zs s m T ∧ mat zs s m l + pop T = cnt zs.length s m + pop (joined zs T &&& l)

theorem joined_or (hp : planOk zs = true) (T T' : Nat) : joined zs (T ||| T') = joined zs T ||| joined zs T' := by
  refine eq_of_bits (joined64 hp _) (or64 (joined64 hp _) (joined64 hp _)) fun j _ => ?_
  rw [Bool.eq_iff_iff, bitAt_or, Bool.or_eq_true, joined_bit, joined_bit, joined_bit]
  constructor
  · rintro ⟨i, h1, h2, h3⟩
    rw [bitAt_or, Bool.or_eq_true] at h2
    rcases h2 with h2 | h2
    · left; exact ⟨i, h1, h2, h3⟩
    · right; exact ⟨i, h1, h2, h3⟩
  · rintro (⟨i, h1, h2, h3⟩ | ⟨i, h1, h2, h3⟩)
    · exact ⟨i, h1, by rw [bitAt_or, h2]; rfl, h3⟩
    · exact ⟨i, h1, by rw [bitAt_or, h2, Bool.or_true], h3⟩
theorem joined_and (T T' : Nat) : Part (joined zs (T &&& T')) (joined zs T &&& joined zs T') := fun j _ h => by
  rw [joined_bit] at h
  obtain ⟨i, h1, h2, h3⟩ := h
  rw [bitAt_and, Bool.and_eq_true] at h2 ⊢
  exact ⟨joined_bit.2 ⟨i, h1, h2.1, h3⟩, joined_bit.2 ⟨i, h1, h2.2, h3⟩⟩
theorem joined_one (hp : planOk zs = true) {i p : Nat} (hi : i < zs.length) (hpz : nth zs i = p) (hp64 : p < 64) : joined zs (2 ^ i) = p := by
  have h6 := (planOk_out hp).2.1
  refine eq_of_bits (joined64 hp _) hp64 fun j hj => ?_
  rw [Bool.eq_iff_iff, joined_bit]
  constructor
  · rintro ⟨k, h1, h2, h3⟩
    rw [bit_pow i (by omega) k (by omega)] at h2
    obtain rfl : k = i := by simpa using h2
    rw [hpz, Int.toNat_natCast] at h3; exact h3
  · intro h; exact ⟨i, hi, by rw [bit_pow i (by omega) i (by omega)]; simp, by rw [hpz, Int.toNat_natCast]; exact h⟩

theorem konig_zero (s : Nat) : Konig zs s 0 := fun l hl => by
  refine ⟨fun T hT => ?_, 0, Among.zero s 0, ?_⟩
  · have : T = 0 := eq_of_bits hT.1 (by omega) fun j hj => by
      cases hb : bitAt T j with
      | false => simp [bitAt]
      | true => have := hT.2 j hb; omega
    subst this
    rw [mat_zero, cnt, pop_zero]; omega
  · rw [mat_zero, cnt, pop_zero]
    have : joined zs 0 = 0 ∨ True := .inr trivial
    have hz : joined zs 0 &&& l = 0 := by
      refine eq_of_bits (and64' hl) (by omega) fun j hj => ?_
      rw [Bool.eq_iff_iff, bitAt_and, Bool.and_eq_true, joined_bit]
      constructor
      · rintro ⟨⟨i, _, h, _⟩, _⟩; simp [bitAt] at h
      · intro h; simp [bitAt] at h
    rw [hz, pop_zero]

theorem part_and_clr {x l j : Nat} (hl : l < 64) (hj : j < 6) : Part (x &&& clr l j) (x &&& l) := fun k hk h => by
  rw [bitAt_and, Bool.and_eq_true] at h ⊢
  rw [clr_bits l hl j hj k hk, Bool.and_eq_true] at h
  exact ⟨h.1, h.2.1⟩

theorem konig_off {s m : Nat} (hm : m + 1 ≤ zs.length) (hb : bitAt s (zs.length - (m + 1)) = false) (ih : Konig zs s m) : Konig zs s (m + 1) := fun l hl => by
  obtain ⟨h1, T, h2, h3⟩ := ih l hl
  rw [mat_off l rfl hb, cnt, hb, if_neg (by simp)]
  refine ⟨fun T' hT' => h1 T' ⟨hT'.1, fun j hj => ?_⟩, T, h2.more, h3⟩
  have h4 := hT'.2 j hj
  refine ⟨h4.1, ?_, h4.2.2⟩
  by_cases e : j = zs.length - (m + 1)
  · subst e; rw [hb] at h4; exact absurd h4.1 (by simp)
  · omega

/-- The bound, one input more. -/
theorem konig_bound (hp : planOk zs = true) {s m p : Nat} (hm : m + 1 ≤ zs.length) (hb : bitAt s (zs.length - (m + 1)) = true) (hpz : nth zs (zs.length - (m + 1)) = p) (hp64 : p < 64) (ih : Konig zs s m) {l : Nat} (hl : l < 64) {T : Nat} (hT : Among zs s (m + 1) T) :
    mat zs s (m + 1) l + pop T ≤ cnt zs.length s m + 1 + pop (joined zs T &&& l) := by
  have h6 := (planOk_out hp).2.1
  rw [mat_on l rfl hb hpz]
  have hi6 : zs.length - (m + 1) < 6 := by omega
  generalize hi : zs.length - (m + 1) = i at *
  cases hbi : bitAt T i with
  | false =>
    have hT' : Among zs s m T := ⟨hT.1, fun j hj => ⟨(hT.2 j hj).1, by
      have := (hT.2 j hj).2.1
      by_cases e : j = i
      · subst e; rw [hbi] at hj; cases hj
      · omega, (hT.2 j hj).2.2⟩⟩
    rcases step_cases (p := p) (l := l) (best := mat zs s m l) (sub := mat zs s m) 6 with h1 | ⟨j, h1, h2, h3⟩
    · rw [h1]; have := (ih l hl).1 T hT'; omega
    · rw [h3]
      have h4 := (ih (clr l j) (clr64 hl)).1 T hT'
      have h5 := pop_part (and64 (joined64 hp T)) (and64 (joined64 hp T)) (part_and_clr (x := joined zs T) hl h1)
      omega
  | true =>
    obtain ⟨T0, hT0, hbT0, hTe⟩ : ∃ T0, T0 < 64 ∧ bitAt T0 i = false ∧ T = T0 ||| 2 ^ i := by
      refine ⟨clr T i, clr64 hT.1, ?_, ?_⟩
      · rw [clr_bits T hT.1 i hi6 i hi6]; simp
      · refine eq_of_bits hT.1 (or64 (clr64 hT.1) (pow64 hi6)) fun j hj => ?_
        rw [bitAt_or, clr_bits T hT.1 i hi6 j hj, bit_pow i hi6 j hj]
        by_cases e : j = i
        · subst e; simp [hbi]
        · have : (j == i) = false := by simpa using e
          simp [this]
    have hAm : Among zs s m T0 := ⟨hT0, fun j hj => by
      have h1 : bitAt T j = true := by rw [hTe, bitAt_or, hj]; rfl
      refine ⟨(hT.2 j h1).1, ?_, (hT.2 j h1).2.2⟩
      have := (hT.2 j h1).2.1
      by_cases e : j = i
      · subst e; rw [hbT0] at hj; cases hj
      · omega⟩
    have hpo : pop T = pop T0 + 1 := by rw [hTe]; exact pop_add T0 hT0 i hi6 hbT0
    have hJ : joined zs T = joined zs T0 ||| p := by rw [hTe, joined_or hp, joined_one hp (by omega) hpz hp64]
    have hJ0 := joined64 hp T0
    rcases step_cases (p := p) (l := l) (best := mat zs s m l) (sub := mat zs s m) 6 with h1 | ⟨j, h1, h2, h3⟩
    · rw [h1]
      have h4 := (ih l hl).1 T0 hAm
      have h5 : pop (joined zs T0 &&& l) ≤ pop (joined zs T &&& l) := pop_part (and64 hJ0) (and64 (joined64 hp T)) fun k hk h => by
        rw [bitAt_and, Bool.and_eq_true] at h ⊢
        exact ⟨by rw [hJ, bitAt_or, h.1]; rfl, h.2⟩
      omega
    · rw [h3]
      have h4 := (ih (clr l j) (clr64 hl)).1 T0 hAm
      have hbj : bitAt (joined zs T &&& l) j = true := by
        rw [bitAt_and, Bool.and_eq_true] at h2 ⊢
        exact ⟨by rw [hJ, bitAt_or, h2.1, Bool.or_true], h2.2⟩
      have h5 := pop_clr (joined zs T &&& l) (and64 (joined64 hp T)) j h1
      rw [if_pos hbj] at h5
      have h7 : pop (joined zs T0 &&& clr l j) ≤ pop (clr (joined zs T &&& l) j) := pop_part (and64 hJ0) (clr64 (and64 (joined64 hp T))) fun k hk h => by
        rw [bitAt_and, clr_bits l hl j h1 k hk, Bool.and_eq_true, Bool.and_eq_true] at h
        rw [clr_bits _ (and64 (joined64 hp T)) j h1 k hk, bitAt_and, hJ, bitAt_or, h.1, h.2.1, h.2.2]; rfl
      omega

/-- Attained, one input more. -/
theorem konig_sharp (hp : planOk zs = true) {s m p : Nat} (hm : m + 1 ≤ zs.length) (hb : bitAt s (zs.length - (m + 1)) = true) (hpz : nth zs (zs.length - (m + 1)) = p) (hp64 : p < 64) (ih : Konig zs s m) {l : Nat} (hl : l < 64) :
    ∃ T, Among zs s (m + 1) T ∧ mat zs s (m + 1) l + pop T = cnt zs.length s m + 1 + pop (joined zs T &&& l) := by
  have h6 := (planOk_out hp).2.1
  apply Classical.byContradiction
  intro hno
  have hS : ∀ T, Among zs s (m + 1) T → mat zs s (m + 1) l + pop T + 1 ≤ cnt zs.length s m + 1 + pop (joined zs T &&& l) := fun T hT => by
    have h1 := konig_bound hp hm hb hpz hp64 ih hl hT
    rcases Nat.lt_or_ge (mat zs s (m + 1) l + pop T) (cnt zs.length s m + 1 + pop (joined zs T &&& l)) with h | h
    · omega
    · exact absurd ⟨T, hT, by omega⟩ hno
  obtain ⟨hA, T0, hT0, hE0⟩ := ih l hl
  have hM1 : mat zs s (m + 1) l ≤ mat zs s m l := by have := hS T0 hT0.more; omega
  have hstep : mat zs s (m + 1) l = matStep p l (mat zs s m) (mat zs s m l) 6 := mat_on l rfl hb hpz
  have hM2 : mat zs s m l ≤ mat zs s (m + 1) l := by rw [hstep]; exact step_ge 6
  have hi6 : zs.length - (m + 1) < 6 := by omega
  -- the sets that meet the bound
  have hun : ∀ T T', Among zs s m T → Among zs s m T' → mat zs s m l + pop T = cnt zs.length s m + pop (joined zs T &&& l) → mat zs s m l + pop T' = cnt zs.length s m + pop (joined zs T' &&& l) →
      mat zs s m l + pop (T ||| T') = cnt zs.length s m + pop (joined zs (T ||| T') &&& l) := by
    intro T T' h1 h2 e1 e2
    have a1 := hA _ (h1.or h2)
    have a2 := hA _ (h1.and (T' := T'))
    have a3 := pop_mod h1.1 h2.1
    have a4 := pop_mod (x := joined zs T &&& l) (y := joined zs T' &&& l) (and64' hl) (and64' hl)
    have a5 : pop (joined zs (T ||| T') &&& l) ≤ pop ((joined zs T &&& l) ||| (joined zs T' &&& l)) := pop_part (and64' hl) (or64 (and64' hl) (and64' hl)) fun k hk h => by
      rw [joined_or hp, bitAt_and, bitAt_or, Bool.and_eq_true, Bool.or_eq_true] at h
      rw [bitAt_or, bitAt_and, bitAt_and, Bool.or_eq_true, Bool.and_eq_true, Bool.and_eq_true]
      rcases h.1 with h' | h'
      · left; exact ⟨h', h.2⟩
      · right; exact ⟨h', h.2⟩
    have a6 : pop (joined zs (T &&& T') &&& l) ≤ pop ((joined zs T &&& l) &&& (joined zs T' &&& l)) := pop_part (and64' hl) (and64 (and64' hl)) fun k hk h => by
      rw [bitAt_and, Bool.and_eq_true] at h
      have h' := joined_and T T' k hk h.1
      rw [bitAt_and, Bool.and_eq_true] at h'
      rw [bitAt_and, bitAt_and, bitAt_and, h'.1, h'.2, h.2]; rfl
    omega
  have hto : ∀ k, k ≤ 6 → ∃ U, Among zs s m U ∧ mat zs s m l + pop U = cnt zs.length s m + pop (joined zs U &&& l) ∧ ∀ j, j < k → bitAt (p &&& l) j = true → bitAt (joined zs U) j = true := by
    intro k
    induction k with
    | zero => intro _; exact ⟨T0, hT0, hE0, fun j h => absurd h (by omega)⟩
    | succ k ihk =>
      intro hk
      obtain ⟨U, hU1, hU2, hU3⟩ := ihk (by omega)
      cases hbk : bitAt (p &&& l) k with
      | false => exact ⟨U, hU1, hU2, fun j h1 h2 => by
          by_cases e : j = k
          · subst e; rw [hbk] at h2; cases h2
          · exact hU3 j (by omega) h2⟩
      | true =>
        obtain ⟨_, T, hT1, hT2⟩ := ih (clr l k) (clr64 hl)
        have b1 := step_take (best := mat zs s m l) (sub := mat zs s m) hbk 6 (by omega)
        rw [← hstep] at b1
        have b2 := hA T hT1
        have b3 := pop_clr (joined zs T &&& l) (and64' hl) k (by omega)
        have b4 : clr (joined zs T &&& l) k = joined zs T &&& clr l k := eq_of_bits (clr64 (and64' hl)) (and64' (clr64 hl)) fun j hj => by
          rw [clr_bits _ (and64' hl) k (by omega) j hj, bitAt_and, bitAt_and, clr_bits l hl k (by omega) j hj, Bool.and_assoc]
        rw [b4] at b3
        have b5 : bitAt (joined zs T &&& l) k = true := by
          cases hc : bitAt (joined zs T &&& l) k with
          | true => rfl
          | false => rw [hc, if_neg (by simp)] at b3; omega
        rw [if_pos b5] at b3
        have hTt : mat zs s m l + pop T = cnt zs.length s m + pop (joined zs T &&& l) := by omega
        refine ⟨U ||| T, hU1.or hT1, hun U T hU1 hT1 hU2 hTt, fun j h1 h2 => ?_⟩
        rw [joined_or hp, bitAt_or, Bool.or_eq_true]
        by_cases e : j = k
        · subst e; right; rw [bitAt_and, Bool.and_eq_true] at b5; exact b5.1
        · left; exact hU3 j (by omega) h2
  obtain ⟨U, hU1, hU2, hU3⟩ := hto 6 (Nat.le_refl _)
  generalize hi : zs.length - (m + 1) = i at *
  have hbU : bitAt U i = false := by
    cases hc : bitAt U i with
    | false => rfl
    | true => have := (hU1.2 i hc).2.1; omega
  have hAm : Among zs s (m + 1) (U ||| 2 ^ i) := by
    refine Among.or hU1.more ⟨pow64 hi6, fun j hj => ?_⟩
    rcases Nat.lt_or_ge j 6 with h7 | h7
    · rw [bit_pow i hi6 j h7] at hj
      obtain rfl : j = i := by simpa using hj
      exact ⟨hb, by omega, by omega⟩
    · rw [bit_big (pow64 hi6) h7] at hj; cases hj
  have c1 := hS _ hAm
  rw [pop_add U hU1.1 i hi6 hbU, joined_or hp, joined_one hp (by omega) hpz hp64] at c1
  have c2 : (joined zs U ||| p) &&& l = joined zs U &&& l := eq_of_bits (and64' hl) (and64' hl) fun j hj => by
    rw [bitAt_and, bitAt_or, bitAt_and]
    have h8 := hU3 j hj
    rw [bitAt_and, Bool.and_eq_true] at h8
    cases ha : bitAt (joined zs U) j <;> cases hbp : bitAt p j <;> cases hcl : bitAt l j <;> simp_all
  rw [c2] at c1
  omega

theorem konig (hp : planOk zs = true) (s : Nat) : ∀ m, m ≤ zs.length → Konig zs s m := by
  intro m
  induction m with
  | zero => intro _; exact konig_zero s
  | succ m ih =>
    intro hm
    have IH := ih (by omega)
    cases hb : bitAt s (zs.length - (m + 1)) with
    | false => exact konig_off hm hb IH
    | true =>
      obtain ⟨p, hpz, hp64⟩ := nth_cast hp (a := zs.length - (m + 1)) (by omega)
      intro l hl
      rw [cnt, hb, if_pos rfl]
      exact ⟨fun T hT => konig_bound hp hm hb hpz hp64 IH hl hT, konig_sharp hp hm hb hpz hp64 IH hl⟩
end

end Go.Proofs.Ythaggobbcgjfkaa
