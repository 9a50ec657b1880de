/- Sorting by inserting: the plain law: whoever inserts each number behind the last one that is not greater has, at the end, the sorted list. -/
import Derived.Test.YtcijnmooifcicaaWords
namespace Go.Proofs.Ytcijnmooifcicaa
open Go.RowKit Go.Deep
set_option linter.unusedVariables false

/-- Where x is put into a list: behind the last of the first k numbers that is not greater, when the others of them are greater. -/
def insAt (x : Int) (ys : List Int) : Nat → Nat
  | 0 => 0
  | k + 1 => if x < nth ys k then insAt x ys k else k + 1
theorem insAt_zero (x : Int) (ys : List Int) : insAt x ys 0 = 0 := rfl
theorem insAt_on {x : Int} {ys : List Int} {k : Nat} (h : x < nth ys k) : insAt x ys (k + 1) = insAt x ys k := by rw [insAt, if_pos h]
theorem insAt_off {x : Int} {ys : List Int} {k : Nat} (h : ¬ x < nth ys k) : insAt x ys (k + 1) = k + 1 := by rw [insAt, if_neg h]
theorem insAt_le (x : Int) (ys : List Int) (k : Nat) : insAt x ys k ≤ k := by
  induction k with
  | zero => exact Nat.le_refl _
  | succ k ih => rw [insAt]; split <;> omega
def insIn (x : Int) (ys : List Int) : List Int := ys.take (insAt x ys ys.length) ++ [x] ++ ys.drop (insAt x ys ys.length)
theorem insIn_len (x : Int) (ys : List Int) : (insIn x ys).length = ys.length + 1 := by
  have := insAt_le x ys ys.length
  simp [insIn]; omega
def insTo (zs : List Int) : Nat → List Int
  | 0 => []
  | k + 1 => insIn (nth zs k) (insTo zs k)
theorem insTo_zero (zs : List Int) : insTo zs 0 = [] := rfl
theorem insTo_succ (zs : List Int) (k : Nat) : insTo zs (k + 1) = insIn (nth zs k) (insTo zs k) := rfl
theorem insTo_len (zs : List Int) (k : Nat) : (insTo zs k).length = k := by
  induction k with
  | zero => rfl
  | succ k ih => rw [insTo, insIn_len, ih]
theorem insIn_perm (x : Int) (ys : List Int) : (insIn x ys).Perm (x :: ys) := by
  have h : (ys.take (insAt x ys ys.length) ++ [x] ++ ys.drop (insAt x ys ys.length)).Perm (x :: (ys.take (insAt x ys ys.length) ++ ys.drop (insAt x ys ys.length))) := by
    rw [List.append_assoc]
    exact List.perm_middle
  rw [List.take_append_drop] at h
  exact h
theorem insTo_perm (zs : List Int) : ∀ k, k ≤ zs.length → (insTo zs k).Perm (zs.take k) := by
  intro k
  induction k with
  | zero => intro _; simp [insTo]
  | succ k ih =>
    intro hk
    rw [insTo, take_nth (by omega)]
    refine (insIn_perm _ _).trans ?_
    refine (List.Perm.cons _ (ih (by omega))).trans ?_
    exact (List.perm_append_singleton _ _).symm
abbrev Srt (l : List Int) : Prop := l.Pairwise (· ≤ ·)
theorem nth_take {ys : List Int} {i k : Nat} (h : i < k) (hk : i < ys.length) : (ys.take k)[i]? = some (nth ys i) := by
  rw [List.getElem?_take, if_pos h, List.getElem?_eq_getElem hk, nth_eq hk]
theorem insAt_above {x : Int} {ys : List Int} : ∀ k, ∀ i, insAt x ys k ≤ i → i < k → x < nth ys i := by
  intro k
  induction k with
  | zero => intro i _ h; omega
  | succ k ih =>
    intro i h1 h2
    by_cases h : x < nth ys k
    · rw [insAt_on h] at h1
      by_cases e : i = k
      · subst e; exact h
      · exact ih i h1 (by omega)
    · rw [insAt_off h] at h1; omega
theorem insAt_below {x : Int} {ys : List Int} : ∀ k, 0 < insAt x ys k → nth ys (insAt x ys k - 1) ≤ x := by
  intro k
  induction k with
  | zero => intro h; rw [insAt_zero] at h; omega
  | succ k ih =>
    intro h
    by_cases hx : x < nth ys k
    · rw [insAt_on hx] at h ⊢; exact ih h
    · rw [insAt_off hx]; simp; omega
theorem srt_nth {ys : List Int} (h : Srt ys) {i j : Nat} (hij : i ≤ j) (hj : j < ys.length) : nth ys i ≤ nth ys j := by
  rw [nth_eq (show i < ys.length by omega), nth_eq hj]
  by_cases e : i = j
  · subst e; exact Int.le_refl _
  · exact List.pairwise_iff_getElem.1 h i j (by omega) hj (by omega)
theorem insIn_srt {x : Int} {ys : List Int} (h : Srt ys) : Srt (insIn x ys) := by
  have hle := insAt_le x ys ys.length
  unfold insIn
  refine List.pairwise_append.2 ⟨List.pairwise_append.2 ⟨h.sublist (List.take_sublist _ _), by simp, ?_⟩, h.sublist (List.drop_sublist _ _), ?_⟩
  · intro a ha b hb
    simp at hb
    subst hb
    obtain ⟨i, hi, rfl⟩ := List.mem_take_iff_getElem.1 ha
    have h1 := insAt_below (x := b) (ys := ys) ys.length (by omega)
    have h2 := srt_nth h (i := i) (j := insAt b ys ys.length - 1) (by omega) (by omega)
    rw [nth_eq (show i < ys.length by omega)] at h2
    omega
  · intro a ha b hb
    obtain ⟨j, hj, rfl⟩ := List.mem_drop_iff_getElem.1 hb
    have h1 := insAt_above (x := x) (ys := ys) ys.length (insAt x ys ys.length + j) (by omega) (by omega)
    have e : nth ys (insAt x ys ys.length + j) = ys[insAt x ys ys.length + j] := nth_eq (by omega)
    rw [e] at h1
    rcases List.mem_append.1 ha with ha | ha
    · obtain ⟨i, hi, rfl⟩ := List.mem_take_iff_getElem.1 ha
      have h2 := srt_nth h (i := i) (j := insAt x ys ys.length + j) (by omega) (by omega)
      rw [nth_eq (show i < ys.length by omega), e] at h2
      exact h2
    · simp at ha
      subst ha
      omega
theorem insTo_srt (zs : List Int) (k : Nat) : Srt (insTo zs k) := by
  induction k with
  | zero => simp [insTo]
  | succ k ih => rw [insTo]; exact insIn_srt ih
theorem srt_eq {a b : List Int} (h : a.Perm b) (ha : Srt a) (hb : Srt b) : a = b :=
  List.Perm.eq_of_pairwise (fun x y _ _ h1 h2 => Int.le_antisymm h1 h2) ha hb h
theorem insTo_merge (zs : List Int) : insTo zs zs.length = zs.mergeSort fun x y => decide (x ≤ y) := by
  refine srt_eq ?_ (insTo_srt _ _) ?_
  · refine (insTo_perm zs zs.length (Nat.le_refl _)).trans ?_
    rw [List.take_length]
    exact (List.mergeSort_perm _ _).symm
  · have := List.pairwise_mergeSort (le := fun (x y : Int) => decide (x ≤ y)) (fun a b c h1 h2 => by simp at *; omega) (fun a b => by simp; omega) zs
    exact this.imp (fun h => by simpa using h)
attribute [irreducible] insAt insIn insTo

end Go.Proofs.Ytcijnmooifcicaa
