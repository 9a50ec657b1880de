/- Slices of slices of ints that a call has made, with all blocks in an interval and no block twice (OwnR): made by toIntSS, marked by markIntSS. -/
import Derived.Test.YtobdkfhmmpigiaaMat
namespace Go.Proofs.Ytobdkfhmmpigiaa
open Go.RowKit Go.Deep
set_option linter.unusedVariables false

theorem Own.keepAt {w w' : World} {base : Nat} {e : TypeId} {A : Option Addr} {n c : Nat} {xs : List Value} (h : Own w base e A n c xs) (hk : ∀ g, blk A = some g → w'.heap[g]? = w.heap[g]?) : Own w' base e A n c xs := by
  refine ⟨h.1, ?_⟩
  rcases h.2 with hn | ⟨g, cap, cur, hv, hb, hgg, rest⟩
  · exact .inl hn
  · refine .inr ⟨g, cap, cur, hv, hb, ?_, rest⟩
    rw [hk g (by injection hv with hA; rw [hA]; rfl)]
    exact hgg

/-- From w to w' only blocks in [lo, hi) have changed. -/
structure Chg (lo hi : Nat) (w w' : World) : Prop where
  os : w'.os = w.os
  tape : w'.tape = w.tape
  output : w'.output = w.output
  size : w.heap.size ≤ w'.heap.size
  block : ∀ g, g < w.heap.size → (g < lo ∨ hi ≤ g) → w'.heap[g]? = w.heap[g]?
theorem Chg.refl (lo hi : Nat) (w : World) : Chg lo hi w w := ⟨rfl, rfl, rfl, Nat.le_refl _, fun _ _ _ => rfl⟩
theorem Chg.trans {lo hi : Nat} {a b c : World} (h : Chg lo hi a b) (k : Chg lo hi b c) : Chg lo hi a c :=
  ⟨k.os.trans h.os, k.tape.trans h.tape, k.output.trans h.output, Nat.le_trans h.size k.size, fun g hg hd => (k.block g (Nat.lt_of_lt_of_le hg h.size) hd).trans (h.block g hg hd)⟩
theorem Chg.of_grown {lo hi : Nat} {w w' : World} {r : Option Nat} (h : w.grownBy w' r) (hr : ∀ g, r = some g → lo ≤ g ∧ g < hi) : Chg lo hi w w' :=
  ⟨h.os, h.tape, h.output, h.size, fun g hg hd => h.block g hg (fun he => by have := hr g he.symm; omega)⟩
theorem Chg.below {lo hi : Nat} {w w' : World} (h : Chg lo hi w w') {B : Nat} (h1 : B ≤ lo) (h2 : B ≤ w.heap.size) : Below B w w' :=
  ⟨h.os, h.tape, h.output, h.size, fun k hk => h.block k (by omega) (.inl (by omega))⟩
theorem Own.chg {lo hi : Nat} {w w' : World} {base : Nat} {e : TypeId} {A : Option Addr} {n c : Nat} {xs : List Value} (h : Own w base e A n c xs) (hc : Chg lo hi w w') (hd : ∀ g, blk A = some g → g < lo ∨ hi ≤ g) : Own w' base e A n c xs :=
  h.keepAt fun g hg => hc.block g (h.blk_ g hg).2 (hd g hg)

def RowsIn (w : World) (lo hi : Nat) (A : Option Addr) (n : Nat) (f : Nat → List Int) (vs : List Value) : Prop :=
  ∀ j, j < n → ∃ B m d, vs[j]? = some (.slice B m d) ∧ OwnI w lo 3 B m d (f j) ∧ ∀ g, blk B = some g → g < hi ∧ blk A ≠ some g ∧ ∀ i B' m' d', i < j → vs[i]? = some (.slice B' m' d') → blk B' ≠ some g
def OwnR (w : World) (lo hi : Nat) (A : Option Addr) (n c : Nat) (zss : List (List Int)) : Prop :=
  zss.length = n ∧ ∃ vs, Own w lo 28 A n c vs ∧ (∀ g, blk A = some g → g < hi) ∧ RowsIn w lo hi A n (row zss) vs
section
variable {w w' : World} {A : Option Addr} {n c lo hi lo2 hi2 : Nat} {zss : List (List Int)} {f : Nat → List Int} {vs : List Value}
theorem OwnR.own (h : OwnR w lo hi A n c zss) : OwnM w lo A n c zss := by
  obtain ⟨hl, vs, ho, _, hr⟩ := h
  refine ⟨hl, vs, ho, fun j hj => ?_⟩
  obtain ⟨B, m, d, hv, hB, hd⟩ := hr j hj
  exact ⟨B, m, d, hv, hB, fun g hg => (hd g hg).2.1⟩
theorem OwnR.rd (h : OwnR w lo hi A n c zss) : RdM w A n zss := h.own.rd
theorem OwnR.cap (h : OwnR w lo hi A n c zss) : n ≤ c ∧ c ≤ maxLen := h.own.cap
theorem RowsIn.keep (h : RowsIn w lo hi A n f vs) (hk : ∀ g, lo ≤ g → g < hi → g < w.heap.size → w'.heap[g]? = w.heap[g]?) : RowsIn w' lo hi A n f vs := by
  intro j hj
  obtain ⟨B, m, d, hv, hB, hd⟩ := h j hj
  exact ⟨B, m, d, hv, hB.keepAt fun g hg => hk g (hB.blk_ g hg).1 (hd g hg).1 (hB.blk_ g hg).2, hd⟩
theorem OwnR.keep (h : OwnR w lo hi A n c zss) (hk : ∀ g, lo ≤ g → g < hi → g < w.heap.size → w'.heap[g]? = w.heap[g]?) : OwnR w' lo hi A n c zss := by
  obtain ⟨hl, vs, ho, hA, hr⟩ := h
  exact ⟨hl, vs, ho.keepAt fun g hg => hk g (ho.blk_ g hg).1 (hA g hg) (ho.blk_ g hg).2, hA, hr.keep hk⟩
theorem OwnR.below (h : OwnR w lo hi A n c zss) (hb : Below w.heap.size w w') : OwnR w' lo hi A n c zss := h.keep fun g _ _ hg => hb.block g hg
theorem OwnR.chg (h : OwnR w lo hi A n c zss) (hc : Chg lo2 hi2 w w') (hd : hi ≤ lo2 ∨ hi2 ≤ lo) : OwnR w' lo hi A n c zss := h.keep fun g h1 h2 hg => hc.block g hg (by omega)
theorem OwnR.grown {r : Option Nat} (h : OwnR w lo hi A n c zss) (hc : w.grownBy w' r) (hd : ∀ g, r = some g → g < lo ∨ hi ≤ g) : OwnR w' lo hi A n c zss :=
  h.keep fun g h1 h2 hg => hc.block g hg (fun he => by have := hd g he.symm; omega)
end


def marksM (m : Int) (zss : List (List Int)) : List (List Int) := (List.range zss.length).map fun j => marks (m + tot zss j) (row zss j).length
theorem marksM_row {m : Int} {zss : List (List Int)} {n j : Nat} (hl : zss.length = n) (h : j < n) : row (marksM m zss) j = marks (m + tot zss j) (row zss j).length := by
  unfold row marksM
  simp [List.getD, hl, h, row]

/-- The rows of which the first k have been marked. -/
def mixed (m : Int) (zss : List (List Int)) (k j : Nat) : List Int := if j < k then marks (m + tot zss j) (row zss j).length else row zss j


end Go.Proofs.Ytobdkfhmmpigiaa
