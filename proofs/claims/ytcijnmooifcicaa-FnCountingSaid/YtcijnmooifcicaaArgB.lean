/- What is known of an argument that is a slice of bytes. -/
import Derived.Test.YtcijnmooifcicaaDraw
namespace Go.Proofs.Ytcijnmooifcicaa
open Go.RowKit Go.Deep
set_option linter.unusedVariables false

theorem byte_of_wf {x : Int} (h : (Lit.int .u8 x).wf = true) : 0 ≤ x ∧ x < 256 := by
  have h1 : IntKind.u8.min = 0 := rfl
  have h2 : IntKind.u8.max = 255 := rfl
  simp only [Lit.wf, Bool.and_eq_true, decide_eq_true_eq] at h
  omega
def RdArgB (w : World) (A : Option Addr) (n c : Nat) (zs : List Int) : Prop := RdU w A n zs ∧ ∀ z ∈ zs, 0 ≤ z ∧ z < 256
theorem RdArgB.nil_ (w : World) : RdArgB w none 0 0 [] := ⟨Rd.nil_, by simp⟩
theorem RdArgB.of_open {w : World} {x : Addr} {n c : Nat} {zs : List Int} (hl : n ≤ c) (hm : c ≤ maxLen) (hz : zs.length = c)
    (hcell : ∀ i, i < zs.length → w.cell? (x.add i) = some (.int .u8 (zs.getD i 0))) (hwz : ∀ n ∈ zs, (Lit.int .u8 n).wf = true) : RdArgB w (some x) n c (zs.take n) := by
  refine ⟨⟨by simp; omega, fun hn => ⟨x, rfl, ?_, ?_⟩⟩, fun z h => byte_of_wf (hwz z (List.mem_of_mem_take h))⟩
  · have := World.block_lt_of_cell? w _ (hcell 0 (by omega))
    rwa [block_of_add] at this
  · intro j u hu
    have hj : j < n := by
      have := (List.getElem?_eq_some_iff.1 hu).1
      simp at this; omega
    rw [hcell j (by omega)]
    rw [List.getElem?_map, List.getElem?_take, if_pos hj, List.getElem?_eq_getElem (l := zs) (by omega)] at hu
    rw [List.getD, List.getElem?_eq_getElem (l := zs) (by omega)]
    exact hu
end Go.Proofs.Ytcijnmooifcicaa
