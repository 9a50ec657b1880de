/- Chapter 15: rounds, the plain part; a row of rows to which one row is appended. -/
import Derived.Test.YtaeabpmpfadkjaaC15j
namespace Go.Proofs.Ytaeabpmpfadkjaa
open Go.RowKit Go.Deep
set_option linter.unusedVariables false

/-- Do the first k of a round meet i not? -/
def rnFree (zs : List Int) (i : Nat) (r : List Int) : Nat → Bool
  | 0 => true
  | k + 1 => rnFree zs i r k && !pairMeet zs i (nth r k).toNat
theorem rnFree_zero (zs : List Int) (i : Nat) (r : List Int) : rnFree zs i r 0 = true := rfl
theorem rnFree_succ {zs : List Int} {i k q : Nat} {r : List Int} (h : nth r k = q) : rnFree zs i r (k + 1) = (rnFree zs i r k && !pairMeet zs i q) := by rw [rnFree, h]; rfl
theorem rnFree_down {zs : List Int} {i k : Nat} {r : List Int} (h : rnFree zs i r k = false) : ∀ m, k ≤ m → rnFree zs i r m = false := by
  intro m
  induction m with
  | zero => intro hm; have : k = 0 := by omega
            subst this; exact h
  | succ m ih =>
    intro hm
    by_cases e : k = m + 1
    · subst e; exact h
    · rw [rnFree, ih (by omega)]; rfl
def rnGo (zs : List Int) (i : Nat) (rs : List (List Int)) : Nat → Nat → Nat
  | a, 0 => a
  | a, f + 1 => if rnFree zs i (row rs a) (row rs a).length = true then a else rnGo zs i rs (a + 1) f
def rnIdx (zs : List Int) (i : Nat) (rs : List (List Int)) : Nat := rnGo zs i rs 0 rs.length
theorem rnGo_end (zs : List Int) (i : Nat) (rs : List (List Int)) (a : Nat) : rnGo zs i rs a 0 = a := by rw [rnGo]
theorem rnGo_hit {zs : List Int} {i a L : Nat} {rs : List (List Int)} (ha : a < L) (h : rnFree zs i (row rs a) (row rs a).length = true) : rnGo zs i rs a (L - a) = a := by
  obtain ⟨f, hf⟩ : ∃ f, L - a = f + 1 := ⟨L - a - 1, by omega⟩
  rw [hf, rnGo, if_pos h]
theorem rnGo_miss {zs : List Int} {i a L : Nat} {rs : List (List Int)} (ha : a < L) (h : rnFree zs i (row rs a) (row rs a).length = false) : rnGo zs i rs a (L - a) = rnGo zs i rs (a + 1) (L - (a + 1)) := by
  obtain ⟨f, hf⟩ : ∃ f, L - a = f + 1 := ⟨L - a - 1, by omega⟩
  rw [hf, rnGo, if_neg (by rw [h]; simp), show L - (a + 1) = f by omega]
theorem rnGo_le (zs : List Int) (i : Nat) (rs : List (List Int)) : ∀ f a, rnGo zs i rs a f ≤ a + f := by
  intro f
  induction f with
  | zero => intro a; rw [rnGo_end]; omega
  | succ f ih =>
    intro a
    rw [rnGo]
    split
    · omega
    · have := ih (a + 1); omega
def rnPut (rs : List (List Int)) (i a : Nat) : List (List Int) := if a = rs.length then rs ++ [[(i : Int)]] else rs.set a (row rs a ++ [(i : Int)])
def rnTo (zs : List Int) : Nat → List (List Int)
  | 0 => []
  | i + 1 => rnPut (rnTo zs i) i (rnIdx zs i (rnTo zs i))
theorem rnTo_zero (zs : List Int) : rnTo zs 0 = [] := rfl
theorem rnTo_succ {zs : List Int} {i a : Nat} {rs : List (List Int)} (h : rnTo zs i = rs) (ha : rnGo zs i rs 0 rs.length = a) : rnTo zs (i + 1) = rnPut rs i a := by rw [rnTo, h, rnIdx, ha]
def rnV (zs : List Int) : Int := if ordV zs = true then ((rnTo zs zs.length).length : Int) else -1
theorem rnV_no {zs : List Int} (h : ordV zs = false) : rnV zs = -1 := by rw [rnV, h]; rfl
theorem rnV_yes {zs : List Int} {n : Nat} (hl : zs.length = n) (h : ordV zs = true) : rnV zs = ((rnTo zs n).length : Int) := by rw [rnV, h, hl]; rfl
/-- At most i rounds, each of at most i numbers below i. -/
def RnOk (i : Nat) (rs : List (List Int)) : Prop := rs.length ≤ i ∧ ∀ a, a < rs.length → (row rs a).length ≤ i ∧ ∀ k, k < (row rs a).length → ∃ q : Nat, nth (row rs a) k = q ∧ q < i
theorem rnOk_zero : RnOk 0 [] := ⟨Nat.le_refl _, fun a h => by simp at h⟩
theorem row_app_old {rs : List (List Int)} {r : List Int} {j : Nat} (hj : j < rs.length) : row (rs ++ [r]) j = row rs j := by
  unfold row
  simp [List.getD, List.getElem?_append_left hj]
theorem row_app_new (rs : List (List Int)) (r : List Int) : row (rs ++ [r]) rs.length = r := by
  unfold row
  simp [List.getD]
theorem row_set_same {rs : List (List Int)} {r : List Int} {j : Nat} (hj : j < rs.length) : row (rs.set j r) j = r := by
  unfold row
  simp [List.getD, hj]
theorem row_set_other {rs : List (List Int)} {r : List Int} {j k : Nat} (h : j ≠ k) : row (rs.set j r) k = row rs k := by
  unfold row
  simp [List.getD, List.getElem?_set_ne h]
theorem nth_app_old {l : List Int} {x : Int} {k : Nat} (hk : k < l.length) : nth (l ++ [x]) k = nth l k := by
  simp [nth, List.getD, List.getElem?_append_left hk]
theorem nth_app_new (l : List Int) (x : Int) : nth (l ++ [x]) l.length = x := by
  simp [nth, List.getD]
theorem rnOk_put {rs : List (List Int)} {i a : Nat} (h : RnOk i rs) (ha : a ≤ rs.length) : RnOk (i + 1) (rnPut rs i a) := by
  obtain ⟨h1, h2⟩ := h
  unfold rnPut
  split
  · refine ⟨by simp; omega, fun b hb => ?_⟩
    by_cases e : b = rs.length
    · subst e
      rw [row_app_new]
      refine ⟨by simp, fun k hk => ?_⟩
      have : k = 0 := by simp at hk; omega
      subst this
      exact ⟨i, rfl, by omega⟩
    · have hb2 : b < rs.length := by simp at hb; omega
      rw [row_app_old hb2]
      obtain ⟨h3, h4⟩ := h2 b hb2
      exact ⟨by omega, fun k hk => by obtain ⟨q, e1, e2⟩ := h4 k hk; exact ⟨q, e1, by omega⟩⟩
  · refine ⟨by simp; omega, fun b hb => ?_⟩
    have hb2 : b < rs.length := by simpa using hb
    obtain ⟨h3, h4⟩ := h2 b hb2
    by_cases e : a = b
    · subst e
      rw [row_set_same hb2]
      refine ⟨by simp; omega, fun k hk => ?_⟩
      by_cases e2 : k = (row rs a).length
      · subst e2
        exact ⟨i, nth_app_new _ _, by omega⟩
      · have hk2 : k < (row rs a).length := by simp at hk; omega
        obtain ⟨q, e3, e4⟩ := h4 k hk2
        exact ⟨q, by rw [nth_app_old hk2]; exact e3, by omega⟩
    · rw [row_set_other e]
      exact ⟨by omega, fun k hk => by obtain ⟨q, e1, e2⟩ := h4 k hk; exact ⟨q, e1, by omega⟩⟩
theorem rnOk_to (zs : List Int) : ∀ i, RnOk i (rnTo zs i) := by
  intro i
  induction i with
  | zero => exact rnOk_zero
  | succ i ih =>
    rw [rnTo]
    refine rnOk_put ih ?_
    have := rnGo_le zs i (rnTo zs i) (rnTo zs i).length 0
    unfold rnIdx
    omega
attribute [irreducible] rnFree rnGo rnTo

/-- One row of a row of rows is replaced (its block alone has changed, or it moved to a new one). -/
theorem rowsIn_put {w1 w4 : World} {B g k c i m d m' c' : Nat} {R R' : Option Addr} {f : Nat → List Int} {vs : List Value} {zs' : List Int}
    (ho : Own w1 B 24 (some ⟨g, 0, none⟩) k c vs) (hr : RowsIn w1 B w1.heap.size (some ⟨g, 0, none⟩) k f vs) (hi : i < k) (hv : vs[i]? = some (.slice R m d))
    (o4 : OwnI w4 B 3 R' m' c' zs') (hg : w1.grownBy w4 (blk R)) (hb : blk R' = blk R ∨ ∃ j, blk R' = some j ∧ w1.heap.size ≤ j) :
    Own w4 B 24 (some ⟨g, 0, none⟩) k c vs ∧ Own (w4.setCell ⟨g, i, none⟩ (.slice R' m' c')) B 24 (some ⟨g, 0, none⟩) k c (vs.set i (.slice R' m' c')) ∧
      RowsIn (w4.setCell ⟨g, i, none⟩ (.slice R' m' c')) B w4.heap.size (some ⟨g, 0, none⟩) k (fun j => if j = i then zs' else f j) (vs.set i (.slice R' m' c')) := by
  obtain ⟨R0, m0, d0, hv0, hR0, hd0⟩ := hr i hi
  rw [hv] at hv0
  injection hv0 with hv0
  injection hv0 with e1 e2 e3
  subst e1 e2 e3
  have hgb := ho.blk_ g rfl
  have hs := hg.size
  have hgR : some g ≠ blk R := fun e => (hd0 g e.symm).2.1 rfl
  have ho4 : Own w4 B 24 (some ⟨g, 0, none⟩) k c vs := ho.kept hg (fun g' e1 e2 => by
    have e3 : g = g' := by simpa [blk] using e1
    subst e3
    exact hgR e2)
  have hlen := ho.len
  have hgR' : ∀ q, blk R' = some q → q ≠ g := fun q hq e => by
    subst e
    rcases hb with hb | ⟨j, hj, hj2⟩
    · rw [hb] at hq; exact hgR hq.symm
    · rw [hj] at hq; injection hq with hq; omega
  refine ⟨ho4, ho4.set_ _ hi, fun j hj => ?_⟩
  by_cases e : j = i
  · subst e
    refine ⟨R', m', c', by simp [List.getElem?_set]; omega, by simp only [if_true]; exact o4.setOther (fun q hq => hgR' q hq) _, fun q hq => ⟨(o4.blk_ q hq).2, fun e => hgR' q hq (by simpa [blk] using e.symm), fun a B' ma da ha hva => ?_⟩⟩
    rw [List.getElem?_set, if_neg (by omega)] at hva
    obtain ⟨B3, m3, d3, hv3, hB3, hd3⟩ := hr a (by omega)
    rw [hv3] at hva
    injection hva with hva
    injection hva with e1
    subst e1
    intro hq2
    rcases hb with hb | ⟨p, hp, hp2⟩
    · rw [hb] at hq
      exact (hd0 q hq).2.2 a B3 m3 d3 ha hv3 hq2
    · rw [hp] at hq
      injection hq with hq
      have := (hB3.blk_ q hq2).2
      omega
  · obtain ⟨B3, m3, d3, hv3, hB3, hd3⟩ := hr j hj
    have hne : ∀ q, blk B3 = some q → some q ≠ blk R := fun q hq e2 => by
      rcases Nat.lt_or_ge j i with h | h
      · exact (hd0 q e2.symm).2.2 j B3 m3 d3 h hv3 hq
      · exact (hd3 q hq).2.2 i R m d (by omega) hv e2.symm
    have hqg : ∀ q, blk B3 = some q → q ≠ g := fun q hq e => by subst e; exact (hd3 q hq).2.1 rfl
    refine ⟨B3, m3, d3, by rw [List.getElem?_set, if_neg (by omega)]; exact hv3, by simp only [if_neg e]; exact (hB3.kept hg hne).setOther (fun q hq => hqg q hq) _, fun q hq => ⟨by have := (hd3 q hq).1; omega, (hd3 q hq).2.1, fun a B' ma da ha hva => ?_⟩⟩
    by_cases e2 : i = a
    · subst e2
      rw [List.getElem?_set, if_pos rfl, if_pos (by omega)] at hva
      injection hva with hva
      injection hva with e1
      subst e1
      intro hq2
      rcases hb with hb | ⟨p, hp, hp2⟩
      · exact hne q hq (by rw [← hb]; exact hq2.symm)
      · rw [hp] at hq2
        injection hq2 with hq2
        have := (hB3.blk_ q hq).2
        omega
    · rw [List.getElem?_set, if_neg e2] at hva
      exact (hd3 q hq).2.2 a B' ma da ha hva
theorem rowsIn_eq {w : World} {lo hi n : Nat} {A : Option Addr} {f g : Nat → List Int} {vs : List Value} (h : RowsIn w lo hi A n f vs) (he : ∀ j, j < n → f j = g j) : RowsIn w lo hi A n g vs := by
  intro j hj
  rw [← he j hj]
  exact h j hj
/-- The rows, and an empty one behind them. -/
def addE (rs : List (List Int)) (L j : Nat) : List Int := if j = L then [] else row rs j
theorem addE_old {rs : List (List Int)} {L j : Nat} (h : j < L) : row rs j = addE rs L j := by unfold addE; rw [if_neg (by omega)]
theorem addE_new (rs : List (List Int)) (L : Nat) : addE rs L L = [] := by unfold addE; rw [if_pos rfl]
theorem put_row {rs : List (List Int)} {i a : Nat} (ha : a < rs.length) (j : Nat) (hj : j < rs.length) : (if j = a then row rs a ++ [(i : Int)] else row rs j) = row (rnPut rs i a) j := by
  have h : rnPut rs i a = rs.set a (row rs a ++ [(i : Int)]) := by unfold rnPut; rw [if_neg (by omega)]
  rw [h]
  by_cases e : j = a
  · subst e; rw [if_pos rfl, row_set_same hj]
  · rw [if_neg e, row_set_other (fun h => e h.symm)]
theorem put_len {rs : List (List Int)} {i a : Nat} (ha : a < rs.length) : (rnPut rs i a).length = rs.length := by
  unfold rnPut
  rw [if_neg (by omega), List.length_set]
theorem put_new (rs : List (List Int)) (i : Nat) : rnPut rs i rs.length = rs ++ [[(i : Int)]] := by
  unfold rnPut
  rw [if_pos rfl]

end Go.Proofs.Ytaeabpmpfadkjaa
