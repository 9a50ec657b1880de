/- Chapter 13: the plain law of counting: tokens one by one, and all at once; numbers that are given out. -/
import Derived.Test.YtcijnmooifcicaaC13j
import Derived.Test.YtcijnmooifcicaaSrt
namespace Go.Proofs.Ytcijnmooifcicaa
open Go.RowKit Go.Deep
set_option linter.unusedVariables false

theorem nth_ext {a b : List Int} {n : Nat} (ha : a.length = n) (hb : b.length = n) (h : ∀ i, i < n → nth a i = nth b i) : a = b := by
  apply List.ext_getElem
  · omega
  · intro i h1 h2
    rw [← nth_eq h1, ← nth_eq h2]
    exact h i (by omega)
theorem set_nth {l : List Int} {a j : Nat} {x : Int} (ha : a < l.length) : nth (l.set a x) j = if a = j then x else nth l j := by
  by_cases e : a = j
  · subst e
    rw [if_pos rfl, nth_eq (by rw [List.length_set]; exact ha), List.getElem_set_self]
  · rw [if_neg e]
    simp only [nth, List.getD, List.getElem?_set_ne e]
def bump (ts : List Int) (a : Nat) : List Int := ts.set a (nth ts a + 1)
theorem bump_len (ts : List Int) (a : Nat) : (bump ts a).length = ts.length := by rw [bump, List.length_set]
theorem bump_nth {ts : List Int} {a j : Nat} (ha : a < ts.length) : nth (bump ts a) j = if a = j then nth ts a + 1 else nth ts j := set_nth ha
theorem ctStep_len (ys : List Int) (p q : Nat) : (ctStep ys p q).length = ys.length := by rw [ctStep, List.length_set, List.length_set]
theorem ctStep_nth {ys : List Int} {p q j : Nat} (hp : p < ys.length) (hq : q < ys.length) : nth (ctStep ys p q) j = if q = j then (nth ys p + nth ys q) / 2 else if p = j then (nth ys p + nth ys q + 1) / 2 else nth ys j := by
  unfold ctStep
  rw [set_nth (by rw [List.length_set]; exact hq), set_nth hp]
theorem ct_off {T : List Int} {p q b : Nat} (hp : p < T.length) (hq : q < T.length) (hb : b < T.length) (h1 : p ≠ b) (h2 : q ≠ b) : ctStep (bump T b) p q = bump (ctStep T p q) b := by
  refine nth_ext (n := T.length) (by rw [ctStep_len, bump_len]) (by rw [bump_len, ctStep_len]) fun j hj => ?_
  have b1 : nth (bump T b) p = nth T p := by rw [bump_nth hb, if_neg (fun e => h1 e.symm)]
  have b2 : nth (bump T b) q = nth T q := by rw [bump_nth hb, if_neg (fun e => h2 e.symm)]
  have b3 : nth (ctStep T p q) b = nth T b := by rw [ctStep_nth hp hq, if_neg h2, if_neg h1]
  rw [ctStep_nth (ys := bump T b) (by rw [bump_len]; exact hp) (by rw [bump_len]; exact hq), bump_nth (ts := ctStep T p q) (a := b) (j := j) (by rw [ctStep_len]; exact hb), b1, b2, b3, ctStep_nth (j := j) hp hq, bump_nth (j := j) hb]
  by_cases e1 : q = j
  · rw [if_pos e1, if_pos e1, if_neg (show ¬ b = j by omega)]
  · rw [if_neg e1, if_neg e1]
    by_cases e2 : p = j
    · rw [if_pos e2, if_pos e2, if_neg (show ¬ b = j by omega)]
    · rw [if_neg e2, if_neg e2]
theorem ct_low {T : List Int} {p q b : Nat} (hp : p < T.length) (hq : q < T.length) (hpq : p ≠ q) (hb : p = b ∨ q = b) (he : (nth T p + nth T q) % 2 = 0) : ctStep (bump T b) p q = bump (ctStep T p q) p := by
  have hbl : b < T.length := by omega
  have hs : nth (bump T b) p + nth (bump T b) q = nth T p + nth T q + 1 := by
    rw [bump_nth hbl, bump_nth hbl]
    rcases hb with rfl | rfl
    · rw [if_pos rfl, if_neg hpq]; omega
    · rw [if_pos rfl, if_neg (fun e => hpq e.symm)]; omega
  refine nth_ext (n := T.length) (by rw [ctStep_len, bump_len]) (by rw [bump_len, ctStep_len]) fun j hj => ?_
  have b3 : nth (ctStep T p q) p = (nth T p + nth T q + 1) / 2 := by rw [ctStep_nth hp hq, if_neg (fun e => hpq e.symm), if_pos rfl]
  rw [ctStep_nth (ys := bump T b) (by rw [bump_len]; exact hp) (by rw [bump_len]; exact hq), hs, bump_nth (ts := ctStep T p q) (a := p) (j := j) (by rw [ctStep_len]; exact hp), b3, ctStep_nth (j := j) hp hq, bump_nth (j := j) hbl]
  by_cases e1 : q = j
  · rw [if_pos e1, if_pos e1, if_neg (show ¬ p = j by omega)]; omega
  · rw [if_neg e1, if_neg e1]
    by_cases e2 : p = j
    · rw [if_pos e2, if_pos e2]; omega
    · rw [if_neg e2, if_neg e2, if_neg e2, if_neg (show ¬ b = j by omega)]
theorem ct_high {T : List Int} {p q b : Nat} (hp : p < T.length) (hq : q < T.length) (hpq : p ≠ q) (hb : p = b ∨ q = b) (he : (nth T p + nth T q) % 2 = 1) : ctStep (bump T b) p q = bump (ctStep T p q) q := by
  have hbl : b < T.length := by omega
  have hs : nth (bump T b) p + nth (bump T b) q = nth T p + nth T q + 1 := by
    rw [bump_nth hbl, bump_nth hbl]
    rcases hb with rfl | rfl
    · rw [if_pos rfl, if_neg hpq]; omega
    · rw [if_pos rfl, if_neg (fun e => hpq e.symm)]; omega
  refine nth_ext (n := T.length) (by rw [ctStep_len, bump_len]) (by rw [bump_len, ctStep_len]) fun j hj => ?_
  have b3 : nth (ctStep T p q) q = (nth T p + nth T q) / 2 := by rw [ctStep_nth hp hq, if_pos rfl]
  rw [ctStep_nth (ys := bump T b) (by rw [bump_len]; exact hp) (by rw [bump_len]; exact hq), hs, bump_nth (ts := ctStep T p q) (a := q) (j := j) (by rw [ctStep_len]; exact hq), b3, ctStep_nth (j := j) hp hq, bump_nth (j := j) hbl]
  by_cases e1 : q = j
  · rw [if_pos e1, if_pos e1]; omega
  · rw [if_neg e1, if_neg e1, if_neg e1]
    by_cases e2 : p = j
    · rw [if_pos e2, if_pos e2]; omega
    · rw [if_neg e2, if_neg e2, if_neg (show ¬ b = j by omega)]

/-- Comparators between two different wires. -/
def PqW (W n : Nat) (zss : List (List Int)) : Prop := ∀ k, k < n → ∃ p q : Nat, nth (row zss k) 0 = p ∧ nth (row zss k) 1 = q ∧ p < W ∧ q < W ∧ p ≠ q
def oddAt (zss : List (List Int)) (ts : List Int) (j : Nat) : Bool := decide ((nth (ctTo ts zss j) (nth (row zss j) 0).toNat + nth (ctTo ts zss j) (nth (row zss j) 1).toNat) % 2 = 1)
def FInv (zss : List (List Int)) (n : Nat) (ts : List Int) (v : List Bool) : Prop := v.length = n ∧ ∀ j, j < n → bAt v j = oddAt zss ts j
theorem bAt_set {v : List Bool} {k j : Nat} {x : Bool} (hk : k < v.length) : bAt (v.set k x) j = if k = j then x else bAt v j := by
  unfold bAt
  by_cases e : k = j
  · subst e
    rw [if_pos rfl]
    simp [List.getD, hk]
  · rw [if_neg e]
    simp only [List.getD, List.getElem?_set_ne e]
theorem tt_in {W n : Nat} {zss : List (List Int)} (hP : PqW W n zss) {ts : List Int} (hl : ts.length = W) {v : List Bool} (hv : FInv zss n ts v) {a : Nat} (ha : a < W) :
    ∀ k, k ≤ n → ∃ v' b, ttIn zss v a k = (v', b) ∧ b < W ∧ v'.length = n ∧ ctTo (bump ts a) zss k = bump (ctTo ts zss k) b ∧ (∀ j, k ≤ j → bAt v' j = bAt v j) ∧ ∀ j, j < k → bAt v' j = oddAt zss (bump ts a) j := by
  intro k
  induction k with
  | zero => intro _; exact ⟨v, a, ttIn_zero _ _ _, ha, hv.1, by rw [ct_zero, ct_zero], fun _ _ => rfl, fun j h => by omega⟩
  | succ k ih =>
    intro hk
    obtain ⟨v', b, h1, h2, h3, h4, h5, h6⟩ := ih (by omega)
    obtain ⟨p, q, hp, hq, hpW, hqW, hpq⟩ := hP k (by omega)
    have hTl : (ctTo ts zss k).length = W := by rw [ct_len, hl]
    have hflag : bAt v' k = decide ((nth (ctTo ts zss k) p + nth (ctTo ts zss k) q) % 2 = 1) := by
      rw [h5 k (Nat.le_refl _), hv.2 k (by omega), oddAt, hp, hq, Int.toNat_natCast, Int.toNat_natCast]
    have hodd : oddAt zss (bump ts a) k = decide ((nth (bump (ctTo ts zss k) b) p + nth (bump (ctTo ts zss k) b) q) % 2 = 1) := by
      rw [oddAt, hp, hq, Int.toNat_natCast, Int.toNat_natCast, h4]
    have hbT : b < (ctTo ts zss k).length := by omega
    rw [ct_succ hp hq, ct_succ hp hq, h4]
    by_cases hb : p = b ∨ q = b
    · have hs : nth (bump (ctTo ts zss k) b) p + nth (bump (ctTo ts zss k) b) q = nth (ctTo ts zss k) p + nth (ctTo ts zss k) q + 1 := by
        rw [bump_nth hbT, bump_nth hbT]
        rcases hb with rfl | rfl
        · rw [if_pos rfl, if_neg hpq]; omega
        · rw [if_pos rfl, if_neg (fun e => hpq e.symm)]; omega
      rw [hs] at hodd
      by_cases he : (nth (ctTo ts zss k) p + nth (ctTo ts zss k) q) % 2 = 1
      · rw [decide_eq_true he] at hflag
        refine ⟨_, _, ttIn_high h1 hp hq hb hflag, hqW, by rw [List.length_set]; exact h3, ct_high (by omega) (by omega) hpq hb he, fun j hj => ?_, fun j hj => ?_⟩
        · rw [bAt_set (by omega), if_neg (by omega)]; exact h5 j (by omega)
        · rw [bAt_set (by omega)]
          by_cases e : k = j
          · subst e; rw [if_pos rfl, hodd, decide_eq_false (by omega)]
          · rw [if_neg e]; exact h6 j (by omega)
      · rw [decide_eq_false he] at hflag
        refine ⟨_, _, ttIn_low h1 hp hq hb hflag, hpW, by rw [List.length_set]; exact h3, ct_low (by omega) (by omega) hpq hb (by omega), fun j hj => ?_, fun j hj => ?_⟩
        · rw [bAt_set (by omega), if_neg (by omega)]; exact h5 j (by omega)
        · rw [bAt_set (by omega)]
          by_cases e : k = j
          · subst e; rw [if_pos rfl, hodd, decide_eq_true (by omega)]
          · rw [if_neg e]; exact h6 j (by omega)
    · have h1' : p ≠ b := fun e => hb (.inl e)
      have h2' : q ≠ b := fun e => hb (.inr e)
      refine ⟨v', b, ttIn_skip h1 hp hq h1' h2', h2, h3, ct_off (by omega) (by omega) hbT h1' h2', fun j hj => h5 j (by omega), fun j hj => ?_⟩
      by_cases e : j = k
      · subst e
        rw [hflag, hodd, bump_nth hbT, bump_nth hbT, if_neg (fun e => h1' e.symm), if_neg (fun e => h2' e.symm)]
      · exact h6 j (by omega)
theorem ct_zeros {W n : Nat} {zss : List (List Int)} (hP : PqW W n zss) : ∀ k, k ≤ n → ctTo (List.replicate W 0) zss k = List.replicate W 0 := by
  have hz : ∀ j, nth (List.replicate W 0) j = 0 := fun j => by
    simp only [nth, List.getD, List.getElem?_replicate]
    split <;> rfl
  intro k
  induction k with
  | zero => intro _; exact ct_zero _ _
  | succ k ih =>
    intro hk
    obtain ⟨p, q, hp, hq, hpW, hqW, hpq⟩ := hP k (by omega)
    rw [ct_succ hp hq, ih (by omega)]
    refine nth_ext (n := W) (by rw [ctStep_len, List.length_replicate]) List.length_replicate fun j hj => ?_
    rw [ctStep_nth (by rw [List.length_replicate]; exact hpW) (by rw [List.length_replicate]; exact hqW), hz, hz, hz]
    split
    · rfl
    · split <;> rfl
theorem cnt_app {l : List Int} {x : Int} : ∀ i, i ≤ l.length → ∀ j, cnt (l ++ [x]) i j = cnt l i j := by
  intro i
  induction i with
  | zero => intro _ j; rw [cnt, cnt]
  | succ i ih =>
    intro hi j
    have e : nth (l ++ [x]) i = nth l i := by rw [nth_eq (by rw [List.length_append]; omega), nth_eq (by omega), List.getElem_append_left (by omega)]
    rw [cnt, cnt, ih (by omega), e]
theorem cntL_app {W i : Nat} {l : List Int} {x : Int} (hi : i ≤ l.length) : cntL W (l ++ [x]) i = cntL W l i :=
  nth_ext (cntL_len _ _ _) (cntL_len _ _ _) fun j hj => by rw [cntL_nth hj, cntL_nth hj, cnt_app i hi]
theorem cntL_bump {W i a : Nat} {l : List Int} (ha : nth l i = a) (hW : a < W) : cntL W l (i + 1) = bump (cntL W l i) a := by
  rw [bump, cntL_nth hW, cntL_set ha hW]
theorem nth_last {l : List Int} {x : Int} {i : Nat} (h : l.length = i) : nth (l ++ [x]) i = x := by
  rw [nth_eq (by rw [List.length_append, h]; simp), List.getElem_append_right (by omega)]
  simp
theorem nth_first {l : List Int} {x : Int} {i : Nat} (h : i < l.length) : nth (l ++ [x]) i = nth l i := by
  rw [nth_eq (by rw [List.length_append]; omega), nth_eq h, List.getElem_append_left h]
/-- Tokens one by one end as they do all at once. -/
theorem tt_law {W n m : Nat} {zss : List (List Int)} (hP : PqW W n zss) {es : List Int} (hes : ∀ i, i < m → ∃ a : Nat, nth es i = a ∧ a < W) :
    ∀ i, i ≤ m → ∃ v out, ttTo zss n es i = (v, out) ∧ out.length = i ∧ FInv zss n (cntL W es i) v ∧ ctTo (cntL W es i) zss n = cntL W out i ∧ ∀ j, j < i → ∃ b : Nat, nth out j = b ∧ b < W := by
  intro i
  induction i with
  | zero =>
    intro _
    have hz := ct_zeros hP
    refine ⟨_, _, ttTo_zero _ _ _, rfl, ⟨List.length_replicate, fun j hj => ?_⟩, by rw [← cntL_zero, ← cntL_zero, hz n (Nat.le_refl _)], fun j h => by omega⟩
    have h0 : ∀ j, nth (List.replicate W 0) j = 0 := fun j => by
      simp only [nth, List.getD, List.getElem?_replicate]
      split <;> rfl
    rw [oddAt, ← cntL_zero, hz j (by omega), h0, h0]
    simp [bAt, List.getD, hj]
  | succ i ih =>
    intro hi
    obtain ⟨v, out, h1, h2, h3, h4, h5⟩ := ih (by omega)
    obtain ⟨a, ha, haW⟩ := hes i (by omega)
    obtain ⟨v', b, t1, t2, t3, t4, t5, t6⟩ := tt_in hP (cntL_len W es i) h3 haW n (Nat.le_refl _)
    refine ⟨v', out ++ [(b : Int)], ttTo_succ h1 ha t1, by rw [List.length_append, h2]; rfl, ?_, ?_, fun j hj => ?_⟩
    · rw [cntL_bump ha haW]; exact ⟨t3, fun j hj => t6 j hj⟩
    · rw [cntL_bump ha haW, t4, h4, cntL_bump (nth_last h2) t2, cntL_app (by omega)]
    · by_cases e : j = i
      · subst e; exact ⟨b, nth_last h2, t2⟩
      · rw [nth_first (by omega)]; exact h5 j (by omega)

/-- Sums. -/
theorem sum_set : ∀ (l : List Int) (a : Nat) (x : Int), a < l.length → (l.set a x).sum = l.sum - nth l a + x := by
  intro l
  induction l with
  | nil => intro a x h; simp at h
  | cons y l ih =>
    intro a x h
    cases a with
    | zero => simp [nth]; omega
    | succ a =>
      have hn : nth (y :: l) (a + 1) = nth l a := by simp [nth]
      rw [List.set_cons_succ, List.sum_cons, List.sum_cons, ih a x (by simpa using h), hn]
      omega
theorem sum_step {ys : List Int} {p q : Nat} (hp : p < ys.length) (hq : q < ys.length) (hpq : p ≠ q) : (ctStep ys p q).sum = ys.sum := by
  unfold ctStep
  rw [sum_set _ _ _ (by rw [List.length_set]; exact hq), sum_set _ _ _ hp, set_nth hp, if_neg hpq]
  omega
theorem sum_ct {W n : Nat} {zss : List (List Int)} (hP : PqW W n zss) {ts : List Int} (hl : ts.length = W) : ∀ k, k ≤ n → (ctTo ts zss k).sum = ts.sum := by
  intro k
  induction k with
  | zero => intro _; rw [ct_zero]
  | succ k ih =>
    intro hk
    obtain ⟨p, q, hp, hq, hpW, hqW, hpq⟩ := hP k (by omega)
    rw [ct_succ hp hq, sum_step (by rw [ct_len, hl]; exact hpW) (by rw [ct_len, hl]; exact hqW) hpq, ih (by omega)]
theorem sum_cnt {W : Nat} {l : List Int} {m : Nat} (h : ∀ i, i < m → ∃ a : Nat, nth l i = a ∧ a < W) : ∀ i, i ≤ m → (cntL W l i).sum = (i : Int) := by
  intro i
  induction i with
  | zero =>
    intro _
    rw [← cntL_zero]
    induction W with
    | zero => rfl
    | succ W ihW => rw [List.replicate_succ, List.sum_cons]; rw [show (List.replicate W (0 : Int)).sum = 0 by clear ihW h; induction W with | zero => rfl | succ W ih => rw [List.replicate_succ, List.sum_cons, ih]; rfl]; rfl
  | succ i ih =>
    intro hi
    obtain ⟨a, ha, haW⟩ := h i (by omega)
    rw [cntL_bump ha haW, bump, sum_set _ _ _ (by rw [cntL_len]; exact haW), ih (by omega)]
    omega
theorem sum_take {l : List Int} {k : Nat} (h : k < l.length) : (l.take (k + 1)).sum = (l.take k).sum + nth l k := by
  rw [take_nth h, List.sum_append]
  simp

/-- Numbers that are given out. -/
theorem cnt_mono {l : List Int} {j : Nat} : ∀ d i, cnt l i j ≤ cnt l (i + d) j := by
  intro d
  induction d with
  | zero => intro i; exact Nat.le_refl _
  | succ d ih => intro i; have := ih i; rw [show i + (d + 1) = (i + d) + 1 from rfl, cnt]; omega
theorem cnt_lt {l : List Int} {i m a : Nat} (ha : nth l i = a) (hi : i < m) : cnt l i a < cnt l m a := by
  have h1 := cnt_mono (l := l) (j := a) (m - (i + 1)) (i + 1)
  rw [show i + 1 + (m - (i + 1)) = m by omega] at h1
  rw [cnt, if_pos ha] at h1
  omega
theorem cf_nth {W : Nat} {l : List Int} {m : Nat} (h : ∀ i, i < m → ∃ a : Nat, nth l i = a ∧ a < W) : ∀ k, k ≤ m → ∀ i, i < k → ∃ a : Nat, nth l i = a ∧ a < W ∧ nth (cfTo W l k) i = ((W * cnt l i a + a : Nat) : Int) := by
  intro k
  induction k with
  | zero => intro _ i hi; omega
  | succ k ih =>
    intro hk i hi
    obtain ⟨a, ha, haW⟩ := h k (by omega)
    rw [cfTo_succ (x := W) (l := l) (r := ((W * cnt l k a : Nat) : Int)) (s := ((W * cnt l k a + a : Nat) : Int)) ha rfl (by rw [Int.natCast_mul]) (by omega)]
    by_cases e : i = k
    · subst e
      exact ⟨a, ha, haW, nth_last (cfTo_len _ _ _)⟩
    · obtain ⟨a', h1, h2, h3⟩ := ih (by omega) i (by omega)
      exact ⟨a', h1, h2, by rw [nth_first (by rw [cfTo_len]; omega)]; exact h3⟩
theorem div_same {W q q' a a' : Nat} (h : a < W) (h' : a' < W) (e : W * q + a = W * q' + a') : q = q' ∧ a = a' := by
  have h1 : (W * q + a) / W = q := by rw [Nat.mul_add_div (by omega), Nat.div_eq_of_lt h]; omega
  have h2 : (W * q' + a') / W = q' := by rw [Nat.mul_add_div (by omega), Nat.div_eq_of_lt h']; omega
  have h3 : q = q' := by rw [← h1, ← h2, e]
  subst h3
  omega
theorem stair_of {S : List Int} {m : Nat} (hl : S.length = m) (hs : Srt S) (hd : S.Nodup) (hb : ∀ x ∈ S, 0 ≤ x ∧ x < (m : Int)) : S = marks 0 m := by
  have up : ∀ i, i + 1 < m → nth S i < nth S (i + 1) := fun i hi => by
    have h1 := srt_nth hs (i := i) (j := i + 1) (by omega) (by omega)
    have h2 := (List.pairwise_iff_getElem.1 hd) i (i + 1) (by omega) (by omega) (by omega)
    rw [nth_eq (by omega), nth_eq (by omega)] at h1 ⊢
    omega
  have lo : ∀ i, i < m → (i : Int) ≤ nth S i := by
    intro i
    induction i with
    | zero => intro hi; have := hb _ (nth_mem (zs := S) (k := 0) (by omega)); omega
    | succ i ih => intro hi; have := ih (by omega); have := up i hi; omega
  have hi : ∀ d i, i + d + 1 = m → nth S i ≤ (i : Int) := by
    intro d
    induction d with
    | zero => intro i hi; have := hb _ (nth_mem (zs := S) (k := i) (by omega)); omega
    | succ d ih => intro i hi; have := ih (i + 1) (by omega); have := up i (by omega); omega
  refine nth_ext hl (marks_len _ _) fun i hm => ?_
  rw [marks_nth 0 m i hm]
  have h1 := lo i hm
  have h2 := hi (m - 1 - i) i (by omega)
  omega
theorem cf_law {W m : Nat} {l : List Int} (h : ∀ i, i < m → ∃ a : Nat, nth l i = a ∧ a < W) (hc : ∀ j, j < W → (cnt l m j : Int) = ((m : Int) + W - 1 - j) / W) : insTo (cfTo W l m) m = marks 0 m := by
  have hlen := cfTo_len (W : Int) l m
  have hn := cf_nth h m (Nat.le_refl _)
  have hd : (cfTo W l m).Nodup := by
    rw [List.Nodup, List.pairwise_iff_getElem]
    intro i j hi hj hij
    obtain ⟨a, a1, a2, a3⟩ := hn i (by omega)
    obtain ⟨b, b1, b2, b3⟩ := hn j (by omega)
    rw [nth_eq hi] at a3
    rw [nth_eq hj] at b3
    rw [a3, b3]
    intro e
    have e' : W * cnt l i a + a = W * cnt l j b + b := by omega
    obtain ⟨e1, e2⟩ := div_same a2 b2 e'
    subst e2
    have := cnt_lt a1 hij
    omega
  have hb : ∀ x ∈ cfTo W l m, 0 ≤ x ∧ x < (m : Int) := by
    intro x hx
    obtain ⟨i, hi, e⟩ := List.getElem_of_mem hx
    obtain ⟨a, a1, a2, a3⟩ := hn i (by omega)
    rw [nth_eq hi, e] at a3
    subst a3
    refine ⟨by omega, ?_⟩
    have h1 := cnt_lt a1 (show i < m by omega)
    have h2 := hc a a2
    have h3 : ((cnt l m a : Nat) : Int) * W ≤ (m : Int) + W - 1 - a := by rw [h2]; exact Int.ediv_mul_le _ (by omega)
    have h4 : W * (cnt l i a + 1) ≤ W * cnt l m a := Nat.mul_le_mul_left W h1
    have h5 : ((W * cnt l m a : Nat) : Int) ≤ (m : Int) + W - 1 - a := by rw [Int.natCast_mul, Int.mul_comm]; exact h3
    rw [Nat.mul_add] at h4
    omega
  have hp := insTo_perm (cfTo W l m) m (by omega)
  rw [List.take_of_length_le (by omega)] at hp
  exact stair_of (insTo_len _ _) (insTo_srt _ _) (hp.nodup_iff.2 hd) (fun x hx => hb x (hp.mem_iff.1 hx))
end Go.Proofs.Ytcijnmooifcicaa
