/- Chapter 16: plain laws on matchings (no program): leading succeeds exactly if the greatest matching takes the whole set; more outputs or inputs never make it smaller. -/
import Derived.Test.YthaggobbcgjfkaaC16g
namespace Go.Proofs.Ythaggobbcgjfkaa
open Go.RowKit Go.Deep
set_option linter.unusedVariables false

/-- How many of the last m of n inputs are in s. -/
def cnt (n s : Nat) : Nat → Nat
  | 0 => 0
  | m + 1 => cnt n s m + (if bitAt s (n - (m + 1)) = true then 1 else 0)
theorem cnt_pop : ∀ n, n < 7 → ∀ s, s < 2 ^ n → cnt n s n = pop s := by decide +kernel

theorem matStep_one {p l best c : Nat} {sub : Nat → Nat} (h1 : best ≤ c) (h2 : ∀ k, k < 6 → 1 + sub (clr l k) ≤ c) : ∀ k, k ≤ 6 → matStep p l sub best k ≤ c := by
  intro k
  induction k with
  | zero => intro _; rw [step_zero]; exact h1
  | succ k ih =>
    intro hk
    have h3 := ih (by omega)
    cases hb : bitAt (p &&& l) k with
    | true => rw [step_on sub hb]; exact Nat.max_le.2 ⟨h3, h2 k (by omega)⟩
    | false => rw [step_off sub hb]; exact h3
theorem step_ge {p l best : Nat} {sub : Nat → Nat} : ∀ k, best ≤ matStep p l sub best k := by
  intro k
  induction k with
  | zero => rw [step_zero]; exact Nat.le_refl _
  | succ k ih =>
    cases hb : bitAt (p &&& l) k with
    | true => rw [step_on sub hb]; exact Nat.le_trans ih (Nat.le_max_left _ _)
    | false => rw [step_off sub hb]; exact ih
theorem step_take {p l best : Nat} {sub : Nat → Nat} {j : Nat} (hb : bitAt (p &&& l) j = true) : ∀ k, j < k → 1 + sub (clr l j) ≤ matStep p l sub best k := by
  intro k
  induction k with
  | zero => intro h; omega
  | succ k ih =>
    intro h
    by_cases e : j = k
    · subst e; rw [step_on sub hb]; exact Nat.le_max_right _ _
    · have h3 := ih (by omega)
      cases hb2 : bitAt (p &&& l) k with
      | true => rw [step_on sub hb2]; exact Nat.le_trans h3 (Nat.le_max_left _ _)
      | false => rw [step_off sub hb2]; exact h3
/-- Either nothing was taken, or one of the outputs was. -/
theorem step_cases {p l best : Nat} {sub : Nat → Nat} : ∀ k, matStep p l sub best k = best ∨ ∃ j, j < k ∧ bitAt (p &&& l) j = true ∧ matStep p l sub best k = 1 + sub (clr l j) := by
  intro k
  induction k with
  | zero => left; rw [step_zero]
  | succ k ih =>
    cases hb : bitAt (p &&& l) k with
    | true =>
      rw [step_on sub hb]
      rcases Nat.le_total (matStep p l sub best k) (1 + sub (clr l k)) with h | h
      · right; exact ⟨k, by omega, hb, Nat.max_eq_right h⟩
      · rw [Nat.max_eq_left h]
        rcases ih with h1 | ⟨j, h1, h2, h3⟩
        · left; exact h1
        · right; exact ⟨j, by omega, h2, h3⟩
    | false =>
      rw [step_off sub hb]
      rcases ih with h1 | ⟨j, h1, h2, h3⟩
      · left; exact h1
      · right; exact ⟨j, by omega, h2, h3⟩
theorem lstep_some {p l : Nat} {sub : Nat → Option (List Int)} : ∀ f k, (leadStep p l sub f k).isSome = true ↔ ∃ j, k ≤ j ∧ j < k + f ∧ bitAt (p &&& l) j = true ∧ (sub (clr l j)).isSome = true := by
  intro f
  induction f with
  | zero => intro k; rw [lstep_end]; constructor
            · intro h; cases h
            · rintro ⟨j, h1, h2, _⟩; omega
  | succ f ih =>
    intro k
    cases hb : bitAt (p &&& l) k with
    | true =>
      cases hs : sub (clr l k) with
      | some r => rw [lstep_hit hb hs]; exact ⟨fun _ => ⟨k, Nat.le_refl _, by omega, hb, by rw [hs]; rfl⟩, fun _ => rfl⟩
      | none =>
        rw [lstep_miss hb hs, ih]
        constructor
        · rintro ⟨j, h1, h2, h3⟩; exact ⟨j, by omega, by omega, h3⟩
        · rintro ⟨j, h1, h2, h3, h4⟩
          by_cases e : j = k
          · subst e; rw [hs] at h4; cases h4
          · exact ⟨j, by omega, by omega, h3, h4⟩
    | false =>
      rw [lstep_off hb, ih]
      constructor
      · rintro ⟨j, h1, h2, h3⟩; exact ⟨j, by omega, by omega, h3⟩
      · rintro ⟨j, h1, h2, h3, h4⟩
        by_cases e : j = k
        · subst e; rw [hb] at h3; cases h3
        · exact ⟨j, by omega, by omega, h3, h4⟩

theorem nth_cast {zs : List Int} (hp : planOk zs = true) {a : Nat} (h : a < zs.length) : ∃ p : Nat, nth zs a = p ∧ p < 64 := by
  have h1 := (planOk_out hp).2.2 a h
  obtain ⟨p, hp⟩ := Int.eq_ofNat_of_zero_le h1.1
  exact ⟨p, hp, by omega⟩

/-- LEADING SUCCEEDS EXACTLY IF THE GREATEST MATCHING TAKES ALL. -/
theorem lead_mat {zs : List Int} (hp : planOk zs = true) (s : Nat) : ∀ m, m ≤ zs.length → ∀ l, mat zs s m l ≤ cnt zs.length s m ∧ ((lead zs s m l).isSome = true ↔ mat zs s m l = cnt zs.length s m) := by
  intro m
  induction m with
  | zero => intro _ l; rw [mat_zero, lead_zero]; simp [cnt]
  | succ m ih =>
    intro hm l
    have IH := ih (by omega)
    obtain ⟨p, hpz, _⟩ := nth_cast hp (a := zs.length - (m + 1)) (by omega)
    cases hb : bitAt s (zs.length - (m + 1)) with
    | false =>
      rw [mat_off l rfl hb, lead_off l rfl hb, cnt, hb, Option.isSome_map]
      simpa using IH l
    | true =>
      rw [mat_on l rfl hb hpz, lead_on l rfl hb hpz, cnt, hb, if_pos rfl]
      have hle : matStep p l (mat zs s m) (mat zs s m l) 6 ≤ cnt zs.length s m + 1 := matStep_one (by have := (IH l).1; omega) (fun k _ => by have := (IH (clr l k)).1; omega) 6 (Nat.le_refl _)
      refine ⟨hle, ?_⟩
      rw [lstep_some]
      constructor
      · rintro ⟨j, _, h2, h3, h4⟩
        have h5 := step_take (sub := mat zs s m) (best := mat zs s m l) h3 6 (by omega)
        rw [(IH (clr l j)).2.1 h4] at h5
        omega
      · intro h
        rcases step_cases (p := p) (l := l) (best := mat zs s m l) (sub := mat zs s m) 6 with h1 | ⟨j, h1, h2, h3⟩
        · have := (IH l).1; omega
        · exact ⟨j, Nat.zero_le _, by omega, h2, (IH (clr l j)).2.2 (by omega)⟩
theorem lead_full {zs : List Int} (hp : planOk zs = true) {s : Nat} (hs : s < 2 ^ zs.length) : mat zs s zs.length 63 ≤ pop s ∧ ((lead zs s zs.length 63).isSome = true ↔ mat zs s zs.length 63 = pop s) := by
  have h := lead_mat hp s zs.length (Nat.le_refl _) 63
  rwa [cnt_pop zs.length (by have := (planOk_out hp).2.1; omega) s hs] at h

/-! More outputs, more inputs. -/
def Part (l l' : Nat) : Prop := ∀ j, j < 6 → bitAt l j = true → bitAt l' j = true
theorem clr_bits : ∀ l, l < 64 → ∀ k, k < 6 → ∀ j, j < 6 → bitAt (clr l k) j = (bitAt l j && !(j == k)) := by decide +kernel
theorem clr64 {l k : Nat} (h : l < 64) : clr l k < 64 := Nat.lt_of_le_of_lt (clr_le l k) h
theorem Part.refl (l : Nat) : Part l l := fun _ _ h => h
theorem Part.after {l l' k : Nat} (h : Part l l') (hl : l < 64) (hl' : l' < 64) (hk : k < 6) : Part (clr l k) (clr l' k) := fun j hj hb => by
  rw [clr_bits l hl k hk j hj] at hb
  rw [clr_bits l' hl' k hk j hj]
  simp only [Bool.and_eq_true] at hb ⊢
  exact ⟨h j hj hb.1, hb.2⟩
theorem Part.clr_self {l k : Nat} (hl : l < 64) (hk : k < 6) : Part (clr l k) l := fun j hj hb => by
  rw [clr_bits l hl k hk j hj] at hb
  simp only [Bool.and_eq_true] at hb
  exact hb.1
theorem mat_mono {zs : List Int} (hp : planOk zs = true) (s : Nat) : ∀ m, m ≤ zs.length → ∀ l l', l < 64 → l' < 64 → Part l l' → mat zs s m l ≤ mat zs s m l' := by
  intro m
  induction m with
  | zero => intro _ l l' _ _ _; rw [mat_zero]; exact Nat.zero_le _
  | succ m ih =>
    intro hm l l' hl hl' hs
    have IH := ih (by omega)
    obtain ⟨p, hpz, _⟩ := nth_cast hp (a := zs.length - (m + 1)) (by omega)
    cases hb : bitAt s (zs.length - (m + 1)) with
    | false => rw [mat_off l rfl hb, mat_off l' rfl hb]; exact IH l l' hl hl' hs
    | true =>
      rw [mat_on l rfl hb hpz, mat_on l' rfl hb hpz]
      rcases step_cases (p := p) (l := l) (best := mat zs s m l) (sub := mat zs s m) 6 with h1 | ⟨j, h1, h2, h3⟩
      · rw [h1]; exact Nat.le_trans (IH l l' hl hl' hs) (step_ge 6)
      · rw [h3]
        have hb' : bitAt (p &&& l') j = true := by
          rw [bitAt_and, Bool.and_eq_true] at h2 ⊢
          exact ⟨h2.1, hs j h1 h2.2⟩
        exact Nat.le_trans (Nat.add_le_add_left (IH _ _ (clr64 hl) (clr64 hl') (hs.after hl hl' h1)) 1) (step_take hb' 6 h1)
/-- One input more: at most one more. -/
theorem mat_input {zs : List Int} (hp : planOk zs = true) (s s' i : Nat) (hs : ∀ j, j < zs.length → j ≠ i → bitAt s' j = bitAt s j) (hi : bitAt s i = false) :
    ∀ m, m ≤ zs.length → ∀ l, l < 64 → mat zs s' m l ≤ mat zs s m l + 1 ∧ mat zs s m l ≤ mat zs s' m l ∧ (zs.length - m > i ∨ m = 0 → mat zs s' m l = mat zs s m l) := by
  intro m
  induction m with
  | zero => intro _ l _; rw [mat_zero, mat_zero]; omega
  | succ m ih =>
    intro hm l hl
    have IH := ih (by omega)
    obtain ⟨p, hpz, _⟩ := nth_cast hp (a := zs.length - (m + 1)) (by omega)
    by_cases e : zs.length - (m + 1) = i
    · have heq : ∀ l, l < 64 → mat zs s' m l = mat zs s m l := fun l hl => (IH l hl).2.2 (by omega)
      have e0 : mat zs s (m + 1) l = mat zs s m l := mat_off l e hi
      rw [e0]
      refine ⟨?_, ?_, fun h => by omega⟩
      · cases hb : bitAt s' (zs.length - (m + 1)) with
        | false => rw [mat_off l rfl hb, heq l hl]; omega
        | true =>
          rw [mat_on l rfl hb hpz]
          refine matStep_one (by rw [heq l hl]; omega) (fun k hk => ?_) 6 (Nat.le_refl _)
          rw [heq (clr l k) (clr64 hl)]
          have := mat_mono hp s m (by omega) (clr l k) l (clr64 hl) hl (Part.clr_self hl hk)
          omega
      · rw [← heq l hl]
        cases hb : bitAt s' (zs.length - (m + 1)) with
        | false => rw [mat_off l rfl hb]; exact Nat.le_refl _
        | true => rw [mat_on l rfl hb hpz]; exact step_ge 6
    · have hbs := hs (zs.length - (m + 1)) (by omega) e
      cases hb : bitAt s (zs.length - (m + 1)) with
      | false =>
        rw [mat_off l rfl hb, mat_off l rfl (hbs.trans hb)]
        exact ⟨(IH l hl).1, (IH l hl).2.1, fun h => (IH l hl).2.2 (by omega)⟩
      | true =>
        rw [mat_on l rfl hb hpz, mat_on l rfl (hbs.trans hb) hpz]
        refine ⟨?_, ?_, fun h => ?_⟩
        · rcases step_cases (p := p) (l := l) (best := mat zs s' m l) (sub := mat zs s' m) 6 with h1 | ⟨j, h1, h2, h3⟩
          · rw [h1]; have := (IH l hl).1; have := step_ge (p := p) (l := l) (best := mat zs s m l) (sub := mat zs s m) 6; omega
          · rw [h3]; have := (IH _ (clr64 (k := j) hl)).1; have := step_take (best := mat zs s m l) (sub := mat zs s m) h2 6 h1; omega
        · rcases step_cases (p := p) (l := l) (best := mat zs s m l) (sub := mat zs s m) 6 with h1 | ⟨j, h1, h2, h3⟩
          · rw [h1]; have := (IH l hl).2.1; have := step_ge (p := p) (l := l) (best := mat zs s' m l) (sub := mat zs s' m) 6; omega
          · rw [h3]; have := (IH _ (clr64 (k := j) hl)).2.1; have := step_take (best := mat zs s' m l) (sub := mat zs s' m) h2 6 h1; omega
        · have heq : ∀ l, l < 64 → mat zs s' m l = mat zs s m l := fun l hl => (IH l hl).2.2 (by omega)
          apply Nat.le_antisymm
          · rcases step_cases (p := p) (l := l) (best := mat zs s' m l) (sub := mat zs s' m) 6 with h1 | ⟨j, h1, h2, h3⟩
            · rw [h1, heq l hl]; exact step_ge 6
            · rw [h3, heq (clr l j) (clr64 hl)]; exact step_take h2 6 h1
          · rcases step_cases (p := p) (l := l) (best := mat zs s m l) (sub := mat zs s m) 6 with h1 | ⟨j, h1, h2, h3⟩
            · rw [h1, ← heq l hl]; exact step_ge 6
            · rw [h3, ← heq (clr l j) (clr64 hl)]; exact step_take h2 6 h1

/-- Every set of k inputs can be led. -/
def Conc (zs : List Int) (k : Nat) : Prop := ∀ s, s < 2 ^ zs.length → pop s = k → k ≤ mat zs s zs.length 63
theorem add_input_b : ∀ n, n < 7 → ∀ s, s < 2 ^ n → pop s < n → ((List.range n).any fun i => !bitAt s i && decide (s + 2 ^ i < 2 ^ n) && pop (s + 2 ^ i) == pop s + 1 && (List.range n).all fun j => j == i || bitAt (s + 2 ^ i) j == bitAt s j) = true := by decide +kernel
theorem add_input (n : Nat) (hn : n < 7) (s : Nat) (hs : s < 2 ^ n) (hp : pop s < n) : ∃ i, i < n ∧ bitAt s i = false ∧ s + 2 ^ i < 2 ^ n ∧ pop (s + 2 ^ i) = pop s + 1 ∧ ∀ j, j < n → j ≠ i → bitAt (s + 2 ^ i) j = bitAt s j := by
  have h := add_input_b n hn s hs hp
  rw [List.any_eq_true] at h
  obtain ⟨i, hi, h⟩ := h
  simp only [Bool.and_eq_true, List.all_eq_true, Bool.or_eq_true, beq_iff_eq, decide_eq_true_eq, List.mem_range, Bool.not_eq_true'] at h hi
  exact ⟨i, hi, h.1.1.1, h.1.1.2, h.1.2, fun j hj hne => (h.2 j hj).resolve_left hne⟩
theorem Conc.down {zs : List Int} (hp : planOk zs = true) {k : Nat} (hk : k + 1 ≤ zs.length) (h : Conc zs (k + 1)) : Conc zs k := by
  intro s hs hpop
  have h6 := (planOk_out hp).2.1
  obtain ⟨i, hi, hb, hlt, hpo, hoth⟩ := add_input zs.length (by omega) s hs (by omega)
  have h1 := h (s + 2 ^ i) hlt (by omega)
  have h2 := (mat_input hp s (s + 2 ^ i) i hoth hb zs.length (Nat.le_refl _) 63 (by omega)).1
  omega
theorem Conc.zero (zs : List Int) : Conc zs 0 := fun _ _ _ => Nat.zero_le _
/-- The greatest k up to n for which P holds (P 0 does). -/
def greatest (P : Nat → Prop) [DecidablePred P] : Nat → Nat
  | 0 => 0
  | n + 1 => if P (n + 1) then n + 1 else greatest P n
open Classical in
noncomputable def concB (zs : List Int) (k : Nat) : Bool := decide (Conc zs k)
open Classical in
noncomputable def great (zs : List Int) : Nat := greatest (Conc zs) zs.length
open Classical in
theorem great_up {zs : List Int} (hp : planOk zs = true) {k : Nat} (hk : k ≤ zs.length) (h : Conc zs k) (h2 : k = zs.length ∨ ¬ Conc zs (k + 1)) : great zs = k := by
  have hno : ∀ n, n ≤ zs.length → k < n → ¬ Conc zs n := by
    intro n
    induction n with
    | zero => intro _ h; omega
    | succ n ih =>
      intro h3 h4 h5
      by_cases e : n = k
      · subst e; rcases h2 with h2 | h2
        · omega
        · exact h2 h5
      · exact ih (by omega) (by omega) (h5.down hp h3)
  have key : ∀ n, n ≤ zs.length → k ≤ n → greatest (Conc zs) n = k := by
    intro n
    induction n with
    | zero => intro _ h; have : k = 0 := by omega
              subst this; rfl
    | succ n ih =>
      intro h3 h4
      by_cases e : k = n + 1
      · subst e; rw [greatest, if_pos h]
      · rw [greatest, if_neg (hno (n + 1) h3 (by omega))]; exact ih (by omega) (by omega)
  exact key zs.length (Nat.le_refl _) hk
open Classical in
theorem great_down {zs : List Int} {k : Nat} (hk : k ≤ zs.length) (h : Conc zs k) (hno : ∀ j, k < j → j ≤ zs.length → ¬ Conc zs j) : great zs = k := by
  have key : ∀ n, n ≤ zs.length → k ≤ n → greatest (Conc zs) n = k := by
    intro n
    induction n with
    | zero => intro _ h; have : k = 0 := by omega
              subst this; rfl
    | succ n ih =>
      intro h3 h4
      by_cases e : k = n + 1
      · subst e; rw [greatest, if_pos h]
      · rw [greatest, if_neg (hno (n + 1) (by omega) h3)]; exact ih (by omega) (by omega)
  exact key zs.length (Nat.le_refl _) hk

attribute [irreducible] concB great

end Go.Proofs.Ythaggobbcgjfkaa
