/- Chapter 16: what the law of concentrators asks for, the plain part. -/
import Derived.Test.YthaggobbcgjfkaaC16m
namespace Go.Proofs.Ythaggobbcgjfkaa
open Go.RowKit Go.Deep
set_option linter.unusedVariables false

theorem sub_bits_b : ∀ p, p < 64 → ∀ s, s < 64 → isSub p s = (List.range 6).all (fun j => !bitAt p j || bitAt s j) := by decide +kernel
theorem sub_bits {p s : Nat} (hp : p < 64) (hs : s < 64) : isSub p s = true ↔ ∀ j, j < 6 → bitAt p j = true → bitAt s j = true := by
  rw [sub_bits_b p hp s hs, List.all_eq_true]
  constructor
  · intro h j hj hb
    have := h j (List.mem_range.2 hj)
    rw [hb] at this
    simpa using this
  · intro h j hj
    have := h j (List.mem_range.1 hj)
    cases hb : bitAt p j with
    | false => rfl
    | true => simp [this hb]
theorem sub_le_b : ∀ p, p < 64 → ∀ s, s < 64 → isSub p s = true → p ≤ s := by decide +kernel
theorem firstOf_spec {P : Nat → Bool} : ∀ f p, (∃ r, p ≤ r ∧ r < p + f ∧ P r = true) → P (firstOf P f p) = true ∧ p ≤ firstOf P f p ∧ firstOf P f p < p + f := by
  intro f
  induction f with
  | zero => rintro p ⟨r, h1, h2, _⟩; omega
  | succ f ih =>
    rintro p ⟨r, h1, h2, h3⟩
    rw [firstOf]
    by_cases hp : P p = true
    · rw [if_pos hp]; exact ⟨hp, Nat.le_refl _, by omega⟩
    · rw [if_neg hp]
      have hne : r ≠ p := fun e => hp (e ▸ h3)
      obtain ⟨a, b, c⟩ := ih (p + 1) ⟨r, by omega, by omega, h3⟩
      exact ⟨a, by omega, by omega⟩
section
variable {zs : List Int}
theorem pow_le64 (hp : planOk zs = true) : 2 ^ zs.length ≤ 64 := by
  have h6 := (planOk_out hp).2.1
  have : (2 : Nat) ^ zs.length ≤ 2 ^ 6 := Nat.pow_le_pow_right (by omega) h6
  omega
theorem among_of (hp : planOk zs = true) {s T : Nat} (hs : s < 2 ^ zs.length) (hT : T < 64) (h : isSub T s = true) : Among zs s zs.length T := by
  have h64 := pow_le64 hp
  have hb := (sub_bits hT (by omega)).1 h
  refine ⟨hT, fun j hj => ?_⟩
  have hj6 : j < 6 := by
    refine Nat.lt_of_not_le fun hc => ?_
    rw [bit_big hT hc] at hj
    cases hj
  have h1 := hb j hj6 hj
  refine ⟨h1, by omega, Nat.lt_of_not_le fun hc => ?_⟩
  have := (full_bits_b zs.length (by have := (planOk_out hp).2.1; omega) s hs j hj6).1 hc
  rw [this] at h1
  cases h1
theorem sub_of_among (hp : planOk zs = true) {s T : Nat} (hs : s < 2 ^ zs.length) (h : Among zs s zs.length T) : isSub T s = true := by
  have h64 := pow_le64 hp
  exact (sub_bits h.1 (by omega)).2 fun j _ hb => (h.2 j hb).1
theorem and63 {x : Nat} (h : x < 64) : x &&& 63 = x := by
  have : ∀ x, x < 64 → x &&& 63 = x := by decide +kernel
  exact this x h
theorem cnt_of (hp : planOk zs = true) {s : Nat} (hs : s < 2 ^ zs.length) : cnt zs.length s zs.length = pop s := cnt_pop zs.length (by have := (planOk_out hp).2.1; omega) s hs
/-- Koenig's law for all inputs and all outputs. -/
theorem konig_le (hp : planOk zs = true) {s T : Nat} (hs : s < 2 ^ zs.length) (hT : T < 64) (h : isSub T s = true) : mat zs s zs.length 63 + pop T ≤ pop s + pop (joined zs T) := by
  have := (konig hp s zs.length (Nat.le_refl _) 63 (by omega)).1 T (among_of hp hs hT h)
  rwa [cnt_of hp hs, and63 (joined64 hp T)] at this
theorem konig_ex (hp : planOk zs = true) {s : Nat} (hs : s < 2 ^ zs.length) : ∃ T, T < 64 ∧ isSub T s = true ∧ mat zs s zs.length 63 + pop T = pop s + pop (joined zs T) := by
  obtain ⟨T, hT, h⟩ := (konig hp s zs.length (Nat.le_refl _) 63 (by omega)).2
  rw [cnt_of hp hs, and63 (joined64 hp T)] at h
  exact ⟨T, hT.1, sub_of_among hp hs hT, h⟩
/-- Led apart exactly if no set has too few outputs. -/
theorem hall_yes (hp : planOk zs = true) {s : Nat} (hs : s < 2 ^ zs.length) (h : (lead zs s zs.length 63).isSome = true) : tight zs s = 0 := by
  have h64 := pow_le64 hp
  have hm := (lead_full hp hs).2.1 h
  refine tight_none (k := s + 1) (fun r h1 h2 => ?_) (by omega)
  cases ht : tightP zs s r with
  | false => rfl
  | true =>
    rw [tightP, Bool.and_eq_true, decide_eq_true_eq] at ht
    have := konig_le hp hs (T := r) (by omega) ht.1
    omega
theorem hall_no (hp : planOk zs = true) {s : Nat} (hs : s < 2 ^ zs.length) (h : (lead zs s zs.length 63).isSome = false) : 1 ≤ tight zs s ∧ tight zs s ≤ s ∧ isSub (tight zs s) s = true ∧ pop (joined zs (tight zs s)) < pop (tight zs s) := by
  have h64 := pow_le64 hp
  have hm := lead_full hp hs
  have hlt : mat zs s zs.length 63 < pop s := by
    rcases Nat.lt_or_ge (mat zs s zs.length 63) (pop s) with h1 | h1
    · exact h1
    · rw [hm.2.2 (by omega)] at h; cases h
  obtain ⟨T, hT, hsub, he⟩ := konig_ex hp hs
  have h1 : pop (joined zs T) < pop T := by omega
  have hT0 : T ≠ 0 := fun e => by subst e; rw [pop_zero] at h1; omega
  have hTs := sub_le_b T hT s (by omega) hsub
  obtain ⟨a, b, c⟩ := firstOf_spec (P := tightP zs s) s 1 ⟨T, by omega, by omega, by rw [tightP, hsub, decide_eq_true h1]; rfl⟩
  have ht : firstOf (tightP zs s) s 1 = tight zs s := by unfold tight; rfl
  rw [ht] at a b c
  rw [tightP, Bool.and_eq_true, decide_eq_true_eq] at a
  exact ⟨b, by omega, a.1, a.2⟩
/-- What a matching looks like: -1 for an input that is not of the set; an output of the input's own for another; no output twice. -/
def Shape (zs : List Int) (s m l : Nat) (r : List Int) : Prop := ∀ j, j < m → (bitAt s (zs.length - m + j) = false ∧ nth r j = -1) ∨
  (bitAt s (zs.length - m + j) = true ∧ ∃ k : Nat, k < 6 ∧ nth r j = k ∧ bitAt (nth zs (zs.length - m + j)).toNat k = true ∧ bitAt l k = true ∧ ∀ i, i < j → nth r i ≠ k)
theorem nth_cons_zero (x : Int) (l : List Int) : nth (x :: l) 0 = x := rfl
theorem nth_cons_succ (x : Int) (l : List Int) (j : Nat) : nth (x :: l) (j + 1) = nth l j := rfl
theorem clr_off : ∀ l, l < 64 → ∀ k, k < 6 → bitAt (clr l k) k = false := by decide +kernel
theorem lead_shape (hp : planOk zs = true) (s : Nat) : ∀ m, m ≤ zs.length → ∀ l, l < 64 → ∀ r, lead zs s m l = some r → Shape zs s m l r := by
  intro m
  induction m with
  | zero => intro _ l _ r _ j hj; omega
  | succ m ih =>
    intro hm l hl r h
    obtain ⟨p, hpz, hp64⟩ := nth_cast hp (a := zs.length - (m + 1)) (by omega)
    have hsh : ∀ j, zs.length - (m + 1) + (j + 1) = zs.length - m + j := fun j => by omega
    cases hb : bitAt s (zs.length - (m + 1)) with
    | false =>
      rw [lead_off l rfl hb] at h
      obtain ⟨q, hq, rfl⟩ := Option.map_eq_some_iff.1 h
      have hq := ih (by omega) l hl q hq
      intro j hj
      cases j with
      | zero => exact .inl ⟨hb, rfl⟩
      | succ j =>
        rw [hsh, nth_cons_succ]
        rcases hq j (by omega) with h1 | ⟨h1, k, h2, h3, h4, h5, h6⟩
        · exact .inl h1
        · refine .inr ⟨h1, k, h2, h3, h4, h5, fun i hi => ?_⟩
          cases i with
          | zero => rw [nth_cons_zero]; omega
          | succ i => rw [nth_cons_succ]; exact h6 i (by omega)
    | true =>
      rw [lead_on l rfl hb hpz] at h
      have key : ∀ f k, k + f = 6 → leadStep p l (lead zs s m) f k = some r → Shape zs s (m + 1) l r := by
        intro f
        induction f with
        | zero => intro k _ h; rw [lstep_end] at h; cases h
        | succ f ihf =>
          intro k hk h
          cases hb2 : bitAt (p &&& l) k with
          | false => rw [lstep_off hb2] at h; exact ihf _ (by omega) h
          | true =>
            cases hs : lead zs s m (clr l k) with
            | none => rw [lstep_miss hb2 hs] at h; exact ihf _ (by omega) h
            | some q =>
              rw [lstep_hit hb2 hs] at h
              injection h with h
              subst h
              have hq := ih (by omega) _ (clr64 hl) q hs
              rw [bitAt_and, Bool.and_eq_true] at hb2
              intro j hj
              cases j with
              | zero =>
                refine .inr ⟨hb, k, by omega, rfl, ?_, hb2.2, fun i hi => by omega⟩
                show bitAt (nth zs (zs.length - (m + 1))).toNat k = true
                rw [hpz, Int.toNat_natCast]; exact hb2.1
              | succ j =>
                rw [hsh, nth_cons_succ]
                rcases hq j (by omega) with h1 | ⟨h1, k', h2, h3, h4, h5, h6⟩
                · exact .inl h1
                · refine .inr ⟨h1, k', h2, h3, h4, Part.clr_self hl (by omega) k' h2 h5, fun i hi => ?_⟩
                  cases i with
                  | zero =>
                    rw [nth_cons_zero]
                    intro e
                    obtain rfl : k = k' := by omega
                    rw [clr_off l hl k (by omega)] at h5
                    cases h5
                  | succ i => rw [nth_cons_succ]; exact h6 i (by omega)
      exact key 6 0 rfl h
/-- The greatest number of inputs that can all be led, exactly. -/
theorem great_spec (hp : planOk zs = true) : great zs ≤ zs.length ∧ Conc zs (great zs) ∧ ∀ k, k ≤ zs.length → (concB zs k = decide (k ≤ great zs)) := by
  have key : ∀ d k, k + d = zs.length → Conc zs k → ∃ g, g ≤ zs.length ∧ Conc zs g ∧ (g = zs.length ∨ ¬ Conc zs (g + 1)) := by
    intro d
    induction d with
    | zero => intro k hk h; exact ⟨k, by omega, h, .inl (by omega)⟩
    | succ d ih =>
      intro k hk h
      by_cases h2 : Conc zs (k + 1)
      · exact ih (k + 1) (by omega) h2
      · exact ⟨k, by omega, h, .inr h2⟩
  obtain ⟨g, hg, hc, hn⟩ := key zs.length 0 (by omega) (Conc.zero zs)
  rw [great_up hp hg hc hn]
  have down : ∀ d k, k + d ≤ zs.length → Conc zs (k + d) → Conc zs k := by
    intro d
    induction d with
    | zero => intro k _ h; exact h
    | succ d ih => intro k hk h; exact ih k (by omega) (Conc.down hp (by omega) h)
  refine ⟨hg, hc, fun k hk => ?_⟩
  by_cases hkg : k ≤ g
  · rw [decide_eq_true hkg]
    exact conc_of.2 (down (g - k) k (by omega) (by rw [show k + (g - k) = g by omega]; exact hc))
  · rw [decide_eq_false hkg]
    refine conc_of_not.2 fun h => ?_
    rcases hn with hn | hn
    · omega
    · exact hn (down (k - (g + 1)) (g + 1) (by omega) (by rw [show g + 1 + (k - (g + 1)) = k by omega]; exact h))
theorem full64 {n : Nat} (h : n < 7) : 2 ^ n - 1 < 64 ∧ 2 ^ n - 1 < 2 ^ n ∧ pop (2 ^ n - 1) = n := (by decide +kernel : ∀ n, n < 7 → 2 ^ n - 1 < 64 ∧ 2 ^ n - 1 < 2 ^ n ∧ pop (2 ^ n - 1) = n) n h
theorem sub_full {n s : Nat} (h : n < 7) (hs : s < 2 ^ n) : isSub s (2 ^ n - 1) = true := (by decide +kernel : ∀ n, n < 7 → ∀ s, s < 2 ^ n → isSub s (2 ^ n - 1) = true) n h s hs
theorem pop_le_n {n s : Nat} (h : n < 7) (hs : s < 2 ^ n) : pop s ≤ n := by have := (full_cnt n h).2 s hs; omega
/-- A greater set has no smaller matching. -/
theorem mat_full (hp : planOk zs = true) {s : Nat} (hs : s < 2 ^ zs.length) : mat zs s zs.length 63 ≤ mat zs (2 ^ zs.length - 1) zs.length 63 := by
  have h64 := pow_le64 hp
  have h7 : zs.length < 7 := by have := (planOk_out hp).2.1; omega
  obtain ⟨f1, f2, f3⟩ := full64 h7
  obtain ⟨T, hT, hsub, he⟩ := konig_ex hp f2
  rw [f3] at he
  have hTn : T < 2 ^ zs.length := by have := sub_le_b T hT _ f1 hsub; omega
  have hs64 : s < 64 := by omega
  have h1 := konig_le hp hs (T := T &&& s) (and64 hT) ((sub_bits (and64 hT) hs64).2 fun j _ hb => by
    rw [bitAt_and, Bool.and_eq_true] at hb; exact hb.2)
  have h2 := pop_mod hT hs64
  have h3 : pop (joined zs (T &&& s)) ≤ pop (joined zs T) := by
    refine pop_part (joined64 hp _) (joined64 hp _) fun j _ h => ?_
    rw [joined_bit] at h ⊢
    obtain ⟨i, hi, hb, hz⟩ := h
    rw [bitAt_and, Bool.and_eq_true] at hb
    exact ⟨i, hi, hb.1, hz⟩
  have h4 : T ||| s < 2 ^ zs.length := Nat.or_lt_two_pow hTn hs
  have h5 := pop_le_n h7 h4
  omega
theorem great_most (hp : planOk zs = true) : great zs ≤ mat zs (2 ^ zs.length - 1) zs.length 63 := by
  have h7 : zs.length < 7 := by have := (planOk_out hp).2.1; omega
  obtain ⟨hg, hc, _⟩ := great_spec hp
  have h1 : 2 ^ great zs - 1 < 2 ^ zs.length := by
    have := Nat.pow_le_pow_right (show 0 < 2 by omega) hg
    have : 0 < 2 ^ great zs := Nat.two_pow_pos _
    omega
  exact Nat.le_trans (hc _ h1 (full64 (n := great zs) (by omega)).2.2) (mat_full hp h1)
/-- The plan without an output. -/
theorem clr_comm : ∀ l, l < 64 → ∀ o, o < 6 → ∀ k, k < 6 → clr (clr l k) o = clr (clr l o) k := by decide +kernel
theorem clr_and : ∀ o, o < 6 → ∀ p, p < 64 → ∀ k, k < 6 → bitAt (clr p o) k = (bitAt p k && !(k == o)) := by decide +kernel
theorem without_eq (hp : planOk zs = true) {o : Nat} (ho : o < 6) : without zs o = zs.map (fun z => ((clr z.toNat o : Nat) : Int)) := by
  unfold without
  rw [if_pos ⟨hp, by omega, by omega⟩]
  refine List.map_congr_left fun z hz => ?_
  obtain ⟨j, hj, rfl⟩ := List.getElem_of_mem hz
  obtain ⟨p, hpz, hp64⟩ := nth_cast hp hj
  have e : zs[j] = (p : Int) := by rw [← hpz, nth_eq hj]
  rw [e, Int.toNat_natCast, Int.toNat_natCast]
  exact clr_spec hp64 ho
theorem without_nth (hp : planOk zs = true) {o j : Nat} (ho : o < 6) (hj : j < zs.length) : nth (without zs o) j = ((clr (nth zs j).toNat o : Nat) : Int) := by
  rw [without_eq hp ho, nth_eq (by simpa using hj), List.getElem_map, nth_eq hj]
theorem without_len (hp : planOk zs = true) {o : Nat} (ho : o < 6) : (without zs o).length = zs.length := by rw [without_eq hp ho]; simp
theorem without_ok (hp : planOk zs = true) {o : Nat} (ho : o < 6) : planOk (without zs o) = true := by
  obtain ⟨h1, h2, h3⟩ := planOk_out hp
  refine planOk_yes (by rw [without_len hp ho]; exact ⟨h1, h2⟩) fun j hj => ?_
  rw [without_len hp ho] at hj
  rw [without_nth hp ho hj, okSet, decide_eq_true_eq]
  have := h3 j hj
  have := clr_le (nth zs j).toNat o
  omega
theorem matStep_same {p l p' l' : Nat} {sub sub' : Nat → Nat} {b : Nat} (h1 : ∀ j, j < 6 → bitAt (p' &&& l') j = bitAt (p &&& l) j) (h2 : ∀ j, j < 6 → sub' (clr l' j) = sub (clr l j)) : ∀ k, k ≤ 6 → matStep p' l' sub' b k = matStep p l sub b k := by
  intro k
  induction k with
  | zero => intro _; rw [step_zero, step_zero]
  | succ k ih =>
    intro hk
    cases hb : bitAt (p &&& l) k with
    | true => rw [step_on _ hb, step_on _ (by rw [h1 k (by omega)]; exact hb), ih (by omega), h2 k (by omega)]
    | false => rw [step_off _ hb, step_off _ (by rw [h1 k (by omega)]; exact hb), ih (by omega)]
theorem mat_without (hp : planOk zs = true) {o : Nat} (ho : o < 6) (s : Nat) : ∀ m, m ≤ zs.length → ∀ l, l < 64 → mat (without zs o) s m l = mat zs s m (clr l o) := by
  intro m
  induction m with
  | zero => intro _ l _; rw [mat_zero, mat_zero]
  | succ m ih =>
    intro hm l hl
    obtain ⟨p, hpz, hp64⟩ := nth_cast hp (a := zs.length - (m + 1)) (by omega)
    have hw : (without zs o).length - (m + 1) = zs.length - (m + 1) := by rw [without_len hp ho]
    have hpz' : nth (without zs o) (zs.length - (m + 1)) = ((clr p o : Nat) : Int) := by rw [without_nth hp ho (by omega), hpz, Int.toNat_natCast]
    cases hb : bitAt s (zs.length - (m + 1)) with
    | false => rw [mat_off l hw hb, mat_off (clr l o) rfl hb, ih (by omega) l hl]
    | true =>
      rw [mat_on l hw hb hpz', mat_on (clr l o) rfl hb hpz, ih (by omega) l hl]
      refine matStep_same (fun j hj => ?_) (fun j hj => ?_) 6 (Nat.le_refl _)
      · rw [bitAt_and, bitAt_and, clr_and o ho p hp64 j hj, clr_and o ho l hl j hj]
        cases bitAt p j <;> cases bitAt l j <;> cases (j == o) <;> rfl
      · rw [ih (by omega) _ (clr64 hl), clr_comm l hl o ho j hj]
theorem less_most (hp : planOk zs = true) {o : Nat} (ho : o < 6) : mat (without zs o) (2 ^ zs.length - 1) zs.length 63 ≤ mat zs (2 ^ zs.length - 1) zs.length 63 ∧ mat zs (2 ^ zs.length - 1) zs.length 63 ≤ mat (without zs o) (2 ^ zs.length - 1) zs.length 63 + 1 := by
  rw [mat_without hp ho _ zs.length (Nat.le_refl _) 63 (by omega)]
  refine ⟨mat_mono hp _ zs.length (Nat.le_refl _) _ _ (clr64 (by omega)) (by omega) (Part.clr_self (by omega) ho), ?_⟩
  obtain ⟨T, hT, he⟩ := (konig hp (2 ^ zs.length - 1) zs.length (Nat.le_refl _) (clr 63 o) (clr64 (by omega))).2
  have h1 := (konig hp (2 ^ zs.length - 1) zs.length (Nat.le_refl _) 63 (by omega)).1 T hT
  have hJ := joined64 hp T
  obtain ⟨J, hJe⟩ : ∃ J, joined zs T = J := ⟨_, rfl⟩
  rw [hJe] at he h1 hJ
  have h2 : pop (J &&& 63) ≤ pop (J &&& clr 63 o) + 1 := (by decide +kernel : ∀ J, J < 64 → ∀ o, o < 6 → pop (J &&& 63) ≤ pop (J &&& clr 63 o) + 1) J hJ o ho
  omega
theorem joined_less (hp : planOk zs = true) {o : Nat} (ho : o < 6) (s : Nat) : isSub (joined (without zs o) s) (joined zs s) = true := by
  refine (sub_bits (joined64 (without_ok hp ho) s) (joined64 hp s)).2 fun j hj h => ?_
  rw [joined_bit] at h ⊢
  obtain ⟨i, hi, hb, hz⟩ := h
  rw [without_len hp ho] at hi
  obtain ⟨p, hpz, hp64⟩ := nth_cast hp hi
  rw [without_nth hp ho hi, hpz, Int.toNat_natCast, Int.toNat_natCast, clr_and o ho p hp64 j hj, Bool.and_eq_true] at hz
  exact ⟨i, hi, hb, by rw [hpz, Int.toNat_natCast]; exact hz.1⟩
end
/-- The members of a set, in order. -/
def memL (s k : Nat) : List Int := ((List.range k).filter (bitAt s)).map (fun j => ((j : Nat) : Int))
theorem memL_zero (s : Nat) : memL s 0 = [] := rfl
theorem memL_on {s k : Nat} (h : bitAt s k = true) : memL s (k + 1) = memL s k ++ [(k : Int)] := by simp [memL, List.range_succ, List.filter_append, h]
theorem memL_off {s k : Nat} (h : bitAt s k = false) : memL s (k + 1) = memL s k := by simp [memL, List.range_succ, List.filter_append, h]
theorem memL_mem {s k : Nat} {x : Nat} : (x : Int) ∈ memL s k ↔ x < k ∧ bitAt s x = true := by
  unfold memL
  rw [List.mem_map]
  constructor
  · rintro ⟨j, hj, e⟩
    obtain rfl : j = x := by omega
    rw [List.mem_filter, List.mem_range] at hj
    exact hj
  · rintro ⟨h1, h2⟩
    exact ⟨x, List.mem_filter.2 ⟨List.mem_range.2 h1, h2⟩, rfl⟩
theorem memL_len : ∀ s, s < 64 → (memL s 6).length = pop s := by decide +kernel
theorem memL_end : ∀ s, s < 64 → ∀ k, k < 7 → s / 2 ^ k = 0 → memL s k = memL s 6 := by decide +kernel
/-- What has been seen of a matching's outputs. -/
def seenO (r : List Int) (k : Nat) : List Int := (r.take k).filter (fun x => decide (0 ≤ x))
theorem seenO_succ {r : List Int} {k : Nat} (h : k < r.length) : seenO r (k + 1) = seenO r k ++ (if 0 ≤ nth r k then [nth r k] else []) := by
  unfold seenO
  rw [take_nth h, List.filter_append]
  congr 1
  by_cases h0 : 0 ≤ nth r k <;> simp [h0]
theorem seenO_mem {r : List Int} {k : Nat} {x : Int} (h : x ∈ seenO r k) : ∃ j, j < k ∧ nth r j = x := by
  unfold seenO at h
  obtain ⟨h1, _⟩ := List.mem_filter.1 h
  obtain ⟨j, hj, e⟩ := List.mem_take_iff_getElem.1 h1
  exact ⟨j, by omega, by rw [nth_eq (by omega), e]⟩
end Go.Proofs.Ythaggobbcgjfkaa
