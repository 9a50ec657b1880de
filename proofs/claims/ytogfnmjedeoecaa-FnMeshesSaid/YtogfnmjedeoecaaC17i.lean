/- Chapter 17: what slices.Sort leaves of a row of the call's own. -/
import Derived.Test.YtogfnmjedeoecaaC17h
import Derived.Test.YtogfnmjedeoecaaLay
import Derived.Sort.OwnSortedInts
import Derived.Sort.EveryDepth
namespace Go.Proofs.Ytogfnmjedeoecaa
open Go.RowKit Go.Deep Go.Sort Go.Shelf
set_option linter.unusedVariables false

/-- The sorted list. -/
def srt (zs : List Int) : List Int := insTo zs zs.length
theorem srt_len (zs : List Int) : (srt zs).length = zs.length := insTo_len _ _
theorem srt_srt (zs : List Int) : Srt (srt zs) := insTo_srt _ _
theorem srt_perm (zs : List Int) : (srt zs).Perm zs := by have := insTo_perm zs zs.length (Nat.le_refl _); rwa [List.take_length] at this
theorem srt_of {zs : List Int} {n : Nat} (h : zs.length = n) : insTo zs n = srt zs := by rw [srt, h]

theorem implSort (g n c base : Nat) (zs : List Int) (w : World) (ha : OwnI w base 3 (some ⟨g, 0, none⟩) n c zs) (hn : n ≤ 1048576) :
    Calls Try.prog 68 #[.slice (some ⟨g, 0, none⟩) n c] w fun e w' => e = .returned (.tuple #[]) ∧ OwnI w' base 3 (some ⟨g, 0, none⟩) n c (srt zs) ∧ w.grownBy w' (some g) := by
  have hl := ha.lenI
  rcases ha.form with ⟨h0, _⟩ | ⟨g', cur, hA, hbase, hlt, hh, hnc, hcm, hcs, htk⟩
  · cases h0
  injection hA with hA
  injection hA with hA
  subst hA
  subst hl
  have hH := holds_of_blockI (ss := zs) hh htk
  refine (calls_of_every_depth fun D => AnyS.slices_Sort_int_alone lays189 D g 0 c zs w hH hlt (by omega)).mono ?_
  rintro e w' ⟨rfl, q, os, rfl⟩
  refine ⟨rfl, ?_, grownBy_sortedI _⟩
  have hs : srt zs = zs.mergeSort fun x y => decide (x ≤ y) := insTo_merge zs
  rw [← hs]
  exact ownsRow_sortedI (srt_len zs) hbase hh hnc hcm (by omega)

attribute [irreducible] srt
end Go.Proofs.Ytogfnmjedeoecaa
