/- Parts of slices of ints: list[p:p+m], list[:p], list[p:]. -/
import Derived.Test.YtchmmaokommnaaaIn
namespace Go.Proofs.Ytchmmaokommnaaa
open Go.RowKit Go.Deep
set_option linter.unusedVariables false

/-- m numbers from place p on. -/
def cutL (zs : List Int) (p m : Nat) : List Int := (zs.drop p).take m
theorem cut_len {zs : List Int} {p m : Nat} (h : p + m ≤ zs.length) : (cutL zs p m).length = m := by simp [cutL]; omega
theorem cut_nth {zs : List Int} {p m k : Nat} (h : k < m) : nth (cutL zs p m) k = nth zs (p + k) := by
  simp [cutL, nth, List.getD, h, List.getElem?_drop]
theorem rd_cut {w : World} {a : Addr} {n p m : Nat} {zs : List Int} (h : RdI w (some a) n zs) (hp : p + m ≤ n) : RdI w (some (a.add p)) m (cutL zs p m) := by
  have hl := h.lenI
  refine ⟨by simp [cutL]; omega, fun hm => ?_⟩
  obtain ⟨ad, had, hb, hcell⟩ := h.2 (by omega)
  injection had with had
  subst had
  refine ⟨_, rfl, by rw [block_of_add]; exact hb, fun j u hu => ?_⟩
  rw [add_of_add]
  apply hcell
  rw [cutL, List.map_take, List.map_drop, List.getElem?_take] at hu
  split at hu
  · rw [List.getElem?_drop] at hu; exact hu
  · cases hu
attribute [irreducible] cutL
end Go.Proofs.Ytchmmaokommnaaa
