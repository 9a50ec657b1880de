/- Sorting and compacting rows of ints: what slices.Sort and slices.Compact leave; sorted lists without doubles. -/
import Derived.Test.YtobdkfhmmpigiaaGreatMB
import Derived.Test.YtobdkfhmmpigiaaGreatLay
import Derived.Test.YtobdkfhmmpigiaaGreatLayC
import Derived.Sort.OwnSortedInts
import Derived.Sort.EveryDepth
namespace Go.Proofs.YtobdkfhmmpigiaaGreat
open Go.RowKit Go.Deep Go.Sort Go.Shelf
set_option linter.unusedVariables false

def srtM (zs : List Int) : List Int := zs.mergeSort fun x y => decide (x ≤ y)
theorem srtM_len (zs : List Int) : (srtM zs).length = zs.length := List.length_mergeSort _
theorem srtM_mem {zs : List Int} {x : Int} : x ∈ srtM zs ↔ x ∈ zs := (List.mergeSort_perm zs _).mem_iff
theorem srtM_srt (zs : List Int) : (srtM zs).Pairwise (· ≤ ·) := by
  have h := List.pairwise_mergeSort (le := fun x y : Int => decide (x ≤ y)) (fun a b c h1 h2 => by simp at *; omega) (fun a b => by simp; omega) zs
  exact h.imp (by simp)

theorem implSortM (g n c base : Nat) (zs : List Int) (w : World) (ha : OwnI w base 3 (some ⟨g, 0, none⟩) n c zs) (hn : n ≤ 1048576) :
    Calls Tryz.prog 60 #[.slice (some ⟨g, 0, none⟩) n c] w fun e w' => e = .returned (.tuple #[]) ∧ OwnI w' base 3 (some ⟨g, 0, none⟩) n c (srtM zs) ∧ w.grownBy w' (some g) := by
  have hl := ha.lenI
  rcases ha.form with ⟨h0, _⟩ | ⟨g', cur, hA, hbase, hlt, hh, hnc, hcm, hcs, htk⟩
  · cases h0
  injection hA with hA
  injection hA with hA
  subst hA
  subst hl
  have hH := holds_of_blockI (ss := zs) hh htk
  refine (calls_of_every_depth fun D => AnyS.slices_Sort_int_alone lays189 D g 0 c zs w hH hlt (by omega)).mono ?_
  rintro e w' ⟨rfl, q, os, rfl⟩
  refine ⟨rfl, ?_, grownBy_sortedI _⟩
  exact ownsRow_sortedI (srtM_len zs) hbase hh hnc hcm (by omega)

theorem own_take {w : World} {base g n c k : Nat} {e : TypeId} {xs : List Value} (h : Own w base e (some ⟨g, 0, none⟩) n c xs) (hk : k ≤ n) : Own w base e (some ⟨g, 0, none⟩) k c (xs.take k) := by
  have hl := h.len
  rcases h.form with ⟨h0, _⟩ | ⟨g', cur, hA, hbase, hlt, hh, hnc, hcm, hcs, htk⟩
  · cases h0
  injection hA with hA
  injection hA with hA
  subst hA
  refine ⟨by simp; omega, .inr ⟨g, c, cur, rfl, hbase, hh, by omega, hcm, by omega, ?_⟩⟩
  rw [Nat.mul_one, ← htk, List.take_take, Nat.min_eq_left hk]

theorem comp_len (zs : List Int) : (Lib.compact zs).length ≤ zs.length := by
  unfold Lib.compact Lib.compactUpTo
  rw [List.length_map]
  exact Nat.le_trans (List.length_filter_le _ _) (by simp)
theorem implCompact (g n c base : Nat) (zs : List Int) (w : World) (ha : OwnI w base 3 (some ⟨g, 0, none⟩) n c zs) (hn : n ≤ 1048576) :
    Calls Tryz.prog 61 #[.slice (some ⟨g, 0, none⟩) n c] w fun e w' => e = .returned (.slice (some ⟨g, 0, none⟩) (Lib.compact zs).length c) ∧ OwnI w' base 3 (some ⟨g, 0, none⟩) (Lib.compact zs).length c (Lib.compact zs) ∧ w.grownBy w' (some g) := by
  have hl := ha.lenI
  rcases ha.form with ⟨h0, _⟩ | ⟨g', cur, hA, hbase, hlt, hh, hnc, hcm, hcs, htk⟩
  · cases h0
  injection hA with hA
  injection hA with hA
  subst hA
  subst hl
  have hH := holds_of_blockI (ss := zs) hh htk
  refine (Any.slices_Compact_int laysNm220 g 0 c zs w hH (by omega) hnc).mono ?_
  rintro e w' ⟨rfl, q, rfl⟩
  have hcl := comp_len zs
  rw [← grow_empty (putRow _ _ _ _ _)]
  refine ⟨rfl, ?_, grownBy_sortedI _⟩
  have h1 := ownsRow_sortedI (base := base) (n := q) (os := #[]) (ts := Lib.compact zs ++ List.replicate (zs.length - (Lib.compact zs).length) 0) (ss := zs) (by simp; omega) hbase hh hnc hcm (by omega)
  have h2 := own_take (k := (Lib.compact zs).length) h1 hcl
  rw [← List.map_take, List.take_left'  rfl] at h2
  exact h2

/-- A sorted list, its doubles struck, rises and has the same members. -/
theorem comp_props (zs : List Int) (h : zs.Pairwise (· ≤ ·)) : ∀ m, m ≤ zs.length → (Lib.compactUpTo zs.toArray m).Pairwise (· < ·) ∧ ∀ x, x ∈ Lib.compactUpTo zs.toArray m ↔ x ∈ zs.take m := by
  have hle : ∀ i j, i ≤ j → j < zs.length → nth zs i ≤ nth zs j := by
    intro i j hij hj
    by_cases e : i = j
    · subst e; exact Int.le_refl _
    · have := List.pairwise_iff_getElem.1 h i j (by omega) hj (by omega)
      rw [nth_eq (by omega), nth_eq hj]
      exact this
  have hget : ∀ m, m < zs.length → zs.toArray[m]! = nth zs m := by
    intro m hm
    rw [getElem!_pos zs.toArray m (by simpa using hm), nth_eq hm]
    simp
  intro m
  induction m with
  | zero => intro _; simp [Lib.compactUpTo]
  | succ m ih =>
    intro hm
    obtain ⟨p1, p2⟩ := ih (by omega)
    rw [Lib.compactUpTo_succ, take_nth (by omega)]
    by_cases hk : Lib.keeps zs.toArray m = true
    · rw [hk, if_pos rfl, hget m (by omega)]
      refine ⟨List.pairwise_append.2 ⟨p1, by simp, fun a ha b hb => ?_⟩, fun x => by simp [p2]⟩
      simp at hb
      subst hb
      have ha2 := (p2 a).1 ha
      obtain ⟨i, hi, hia⟩ := List.getElem_of_mem ha2
      rw [List.length_take] at hi
      rw [List.getElem_take] at hia
      unfold Lib.keeps at hk
      have hk := of_decide_eq_true hk
      rcases hk with hk | hk
      · omega
      · rw [hget m (by omega), hget (m - 1) (by omega)] at hk
        have h1 := hle i (m - 1) (by omega) (by omega)
        have h2 := hle (m - 1) m (by omega) (by omega)
        rw [nth_eq (by omega), hia] at h1
        omega
    · rw [if_neg hk, List.append_nil]
      refine ⟨p1, fun x => ?_⟩
      rw [p2]
      simp only [List.mem_append, List.mem_singleton]
      constructor
      · exact Or.inl
      · rintro (h1 | h1)
        · exact h1
        · have hm0 : m ≠ 0 := fun e => hk (by unfold Lib.keeps; rw [e]; simp)
          have he : zs.toArray[m]! = zs.toArray[m - 1]! := by
            by_cases e : zs.toArray[m]! = zs.toArray[m - 1]!
            · exact e
            · exact absurd (Lib.keeps_pos e) hk
          rw [hget m (by omega), hget (m - 1) (by omega)] at he
          rw [h1, he, nth_eq (show m - 1 < zs.length by omega)]
          exact List.mem_take_iff_getElem.2 ⟨m - 1, by omega, rfl⟩
theorem rise_ext : ∀ {a b : List Int}, a.Pairwise (· < ·) → b.Pairwise (· < ·) → (∀ x, x ∈ a ↔ x ∈ b) → a = b
  | [], [], _, _, _ => rfl
  | [], y :: b, _, _, h => absurd ((h y).2 (by simp)) (by simp)
  | x :: a, [], _, _, h => absurd ((h x).1 (by simp)) (by simp)
  | x :: a, y :: b, ha, hb, h => by
    have ha' := List.pairwise_cons.1 ha
    have hb' := List.pairwise_cons.1 hb
    have hxy : x = y := by
      have h1 := (h x).1 (by simp)
      have h2 := (h y).2 (by simp)
      simp only [List.mem_cons] at h1 h2
      rcases h1 with h1 | h1
      · exact h1
      · rcases h2 with h2 | h2
        · exact h2.symm
        · have := ha'.1 y h2; have := hb'.1 x h1; omega
    subst hxy
    congr 1
    refine rise_ext ha'.2 hb'.2 fun z => ?_
    have hz := h z
    simp only [List.mem_cons] at hz
    constructor
    · intro hm
      rcases hz.1 (.inr hm) with e | e
      · subst e; have := ha'.1 z hm; omega
      · exact e
    · intro hm
      rcases hz.2 (.inr hm) with e | e
      · subst e; have := hb'.1 z hm; omega
      · exact e
theorem sel_rise (P : Nat → Bool) (N : Nat) : (selL P N).Pairwise (· < ·) := by
  unfold selL
  refine List.Pairwise.map _ (fun a b (h : a < b) => by omega) ((List.pairwise_lt_range (n := N)).filter P)
/-- What images of a list are: sorted, each once. -/
def imL (F : Int → Int) (zs : List Int) : List Int := Lib.compact (srtM (zs.map F))
theorem imL_rise (F : Int → Int) (zs : List Int) : (imL F zs).Pairwise (· < ·) := (comp_props _ (srtM_srt _) _ (Nat.le_refl _)).1
theorem imL_mem {F : Int → Int} {zs : List Int} {x : Int} : x ∈ imL F zs ↔ ∃ z ∈ zs, F z = x := by
  unfold imL Lib.compact
  rw [(comp_props _ (srtM_srt _) _ (Nat.le_refl _)).2, List.take_length, srtM_mem, List.mem_map]
theorem imL_len (F : Int → Int) (zs : List Int) : (imL F zs).length ≤ zs.length := by
  unfold imL
  exact Nat.le_trans (comp_len _) (by rw [srtM_len, List.length_map]; exact Nat.le_refl _)
attribute [irreducible] srtM imL
end Go.Proofs.YtobdkfhmmpigiaaGreat
