/- Slices of slices of ints: heldIntSS; a row appended to a row of rows. -/
import Derived.Test.YtobdkfhmmpigiaaMat2
namespace Go.Proofs.Ytobdkfhmmpigiaa
open Go.RowKit Go.Deep
set_option linter.unusedVariables false

theorem OwnR.nil_ (w : World) (lo hi : Nat) : OwnR w lo hi none 0 0 [] := ⟨rfl, [], Own.nil_ _ _ _, by simp [blk], fun j hj => by omega⟩

theorem OwnR.more {w : World} {A : Option Addr} {n c lo hi lo2 : Nat} {zss : List (List Int)} (h : OwnR w lo hi A n c zss) (hl : lo2 ≤ lo) : OwnR w lo2 hi A n c zss := by
  obtain ⟨h1, vs, ho, hA, hr⟩ := h
  refine ⟨h1, vs, ho.more hl, hA, fun j hj => ?_⟩
  obtain ⟨B, m, d, hv, hB, hd⟩ := hr j hj
  exact ⟨B, m, d, hv, hB.more hl, hd⟩
theorem OwnR.keepHi {w : World} {A : Option Addr} {n c lo hi hi2 : Nat} {zss : List (List Int)} (h : OwnR w lo hi A n c zss) (hl : hi ≤ hi2) : OwnR w lo hi2 A n c zss := by
  obtain ⟨h1, vs, ho, hA, hr⟩ := h
  refine ⟨h1, vs, ho, fun g hg => Nat.lt_of_lt_of_le (hA g hg) hl, fun j hj => ?_⟩
  obtain ⟨B, m, d, hv, hB, hd⟩ := hr j hj
  exact ⟨B, m, d, hv, hB, fun g hg => ⟨Nat.lt_of_lt_of_le (hd g hg).1 hl, (hd g hg).2⟩⟩


theorem rowsIn_push {w1 w2 : World} {lo hi k c m cR : Nat} {A A2 R : Option Addr} {f : Nat → List Int} {vs : List Value}
    (ho : Own w1 lo 28 A k c vs) (hr : RowsIn w1 lo hi A k f vs) (hA : ∀ g, blk A = some g → g < hi) (hhi : hi ≤ w1.heap.size)
    (hR : OwnI w1 lo 3 R m cR (f k)) (hR2 : ∀ g, blk R = some g → hi ≤ g) (hg : w1.grownBy w2 (blk A)) (hat : blk A2 = blk A ∨ blk A2 = some (w1.heap.size + 1)) :
    RowsIn w2 lo w2.heap.size A2 (k + 1) f (vs ++ [.slice R m cR]) := by
  have hs := hg.size
  have hlen := ho.len
  intro j hj
  by_cases e : j = k
  · subst e
    refine ⟨R, m, cR, by rw [List.getElem?_append_right (by omega), hlen]; simp, hR.kept hg (fun g e1 e2 => ?_), fun g hg1 => ⟨?_, ?_, ?_⟩⟩
    · have := hR2 g e1
      have := hA g e2.symm
      omega
    · have := (hR.blk_ g hg1).2
      omega
    · have h3 := (hR.blk_ g hg1).2
      have h4 := hR2 g hg1
      rcases hat with hat | hat
      · rw [hat]
        intro h5
        have := hA g h5
        omega
      · rw [hat]
        intro h5
        injection h5 with h5
        omega
    · intro i B' m' d' hi' hv hb
      rw [List.getElem?_append_left (by omega)] at hv
      obtain ⟨B3, m3, d3, hv3, _, hd3⟩ := hr i hi'
      rw [hv3] at hv
      injection hv with hv
      injection hv with e1
      subst e1
      have := (hd3 g hb).1
      have := hR2 g hg1
      omega
  · obtain ⟨B, m3, d3, hv, hB, hd⟩ := hr j (by omega)
    refine ⟨B, m3, d3, by rw [List.getElem?_append_left (by omega)]; exact hv, hB.kept hg (fun g e1 e2 => (hd g e1).2.1 e2.symm), fun g hg1 => ⟨?_, ?_, ?_⟩⟩
    · have := (hB.blk_ g hg1).2
      omega
    · have h3 := (hB.blk_ g hg1).2
      rcases hat with hat | hat
      · rw [hat]; exact (hd g hg1).2.1
      · rw [hat]
        intro h5
        injection h5 with h5
        omega
    · intro i B' m' d' hi' hv' hb
      rw [List.getElem?_append_left (by omega)] at hv'
      exact (hd g hg1).2.2 i B' m' d' hi' hv' hb

end Go.Proofs.Ytobdkfhmmpigiaa
