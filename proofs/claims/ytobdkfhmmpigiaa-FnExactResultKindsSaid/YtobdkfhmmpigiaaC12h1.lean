/- Chapter 12: the sets of results level by level, in plain Lean (what spec.l12Sets computes). -/
import Derived.Test.YtobdkfhmmpigiaaC12f
import Derived.Test.YtobdkfhmmpigiaaRowsF
namespace Go.Proofs.Ytobdkfhmmpigiaa
open Go.RowKit Go.Deep
set_option linter.unusedVariables false

/-- How many sets at the front of a list are less than a set. -/
def posL : List (List Int) → List Int → Nat
  | [], _ => 0
  | a :: r, x => if lessV a x = true then posL r x + 1 else 0
theorem posL_le : ∀ (z : List (List Int)) (x : List Int), posL z x ≤ z.length
  | [], x => by simp [posL]
  | a :: r, x => by have := posL_le r x; rw [posL]; split <;> simp <;> omega
theorem row_drop {z : List (List Int)} {k : Nat} (h : k < z.length) : z.drop k = row z k :: z.drop (k + 1) := by
  rw [List.drop_eq_getElem_cons h]
  congr 1
  unfold row
  rw [List.getD_eq_getElem?_getD, List.getElem?_eq_getElem h]; rfl
theorem posL_on {z : List (List Int)} {x : List Int} {k : Nat} (h : k < z.length) (hl : lessV (row z k) x = true) (hp : posL z x = k + posL (z.drop k) x) : posL z x = k + 1 + posL (z.drop (k + 1)) x := by
  rw [hp, row_drop h, posL, if_pos hl]; omega
theorem posL_off {z : List (List Int)} {x : List Int} {k : Nat} (h : k < z.length) (hl : lessV (row z k) x = false) (hp : posL z x = k + posL (z.drop k) x) : posL z x = k := by
  rw [hp, row_drop h, posL, if_neg (by rw [hl]; simp)]; omega
theorem posL_end {z : List (List Int)} {x : List Int} {k : Nat} (h : z.length = k) (hp : posL z x = k + posL (z.drop k) x) : posL z x = k := by
  rw [hp, List.drop_of_length_le (by omega), posL]; omega
theorem posL_start (z : List (List Int)) (x : List Int) : posL z x = 0 + posL (z.drop 0) x := by simp
/-- A list of sets with one more set at its place. -/
def insL (z : List (List Int)) (x : List Int) : List (List Int) := z.take (posL z x) ++ [x] ++ z.drop (posL z x)
def addL (z : List (List Int)) (x : List Int) : List (List Int) := if hasV z x = true then z else insL z x
theorem addL_has {z : List (List Int)} {x : List Int} (h : hasV z x = true) : addL z x = z := if_pos h
theorem addL_new {z : List (List Int)} {x : List Int} {k : Nat} (h : hasV z x = false) (hp : posL z x = k) : addL z x = z.take k ++ [x] ++ z.drop k := by
  subst hp; exact if_neg (by rw [h]; simp)
theorem addL_len (z : List (List Int)) (x : List Int) : (addL z x).length ≤ z.length + 1 := by
  have := posL_le z x
  unfold addL
  split
  · omega
  · unfold insL; simp; omega
/-- The sets behind the first k comparators of a set, laid into z. -/
def pairTo (n : Nat) (set : List Int) (z : List (List Int)) : Nat → List (List Int)
  | 0 => z
  | k + 1 => addL (pairTo n set z k) (allV [row (stdL n) k] 1 set (2 ^ n))
/-- The sets behind a comparator of the first j sets. -/
def setTo (n : Nat) (now : List (List Int)) : Nat → List (List Int)
  | 0 => []
  | j + 1 => pairTo n (row now j) (setTo n now j) (stdL n).length
/-- The sets behind i comparators. -/
def lvl (n : Nat) : Nat → List (List Int)
  | 0 => [marks 0 (2 ^ n)]
  | i + 1 => setTo n (lvl n i) (lvl n i).length
theorem lvl_zero (n : Nat) : lvl n 0 = [marks 0 (2 ^ n)] := rfl
theorem lvl_succ (n i : Nat) : lvl n (i + 1) = setTo n (lvl n i) (lvl n i).length := rfl
theorem setTo_zero (n : Nat) (now : List (List Int)) : setTo n now 0 = [] := rfl
theorem setTo_succ (n : Nat) (now : List (List Int)) (j : Nat) : setTo n now (j + 1) = pairTo n (row now j) (setTo n now j) (stdL n).length := rfl
theorem pairTo_zero (n : Nat) (set : List Int) (z : List (List Int)) : pairTo n set z 0 = z := rfl
theorem pairTo_succ (n : Nat) (set : List Int) (z : List (List Int)) (k : Nat) : pairTo n set z (k + 1) = addL (pairTo n set z k) (allV [row (stdL n) k] 1 set (2 ^ n)) := rfl
theorem stdL_len {n : Nat} (h : n ≤ 4) : (stdL n).length ≤ 6 := by
  have hc : n = 0 ∨ n = 1 ∨ n = 2 ∨ n = 3 ∨ n = 4 := by omega
  rcases hc with rfl | rfl | rfl | rfl | rfl <;> decide
theorem stdL_row {n : Nat} (h : n ≤ 4) : ∀ k, k < (stdL n).length → ∃ p q : Nat, row (stdL n) k = [(p : Int), (q : Int)] ∧ p < n ∧ q < n := by
  have key : ∀ n : Nat, n < 5 → ∀ k : Nat, k < 6 → k < (stdL n).length → ((List.range 4).any fun p => (List.range 4).any fun q => decide (row (stdL n) k = [(p : Int), (q : Int)] ∧ p < n ∧ q < n)) = true := by decide +kernel
  intro k hk
  have h1 := key n (by omega) k (by have := stdL_len h; omega) hk
  obtain ⟨p, _, h2⟩ := List.any_eq_true.1 h1
  obtain ⟨q, _, h3⟩ := List.any_eq_true.1 h2
  exact ⟨p, q, of_decide_eq_true h3⟩
/-- Sets of masks of W bits. -/
def SetsR (N : Nat) (z : List (List Int)) : Prop := ∀ x ∈ z, ∃ P : Nat → Bool, x = selL P N
theorem SetsR.at_ {N : Nat} {z : List (List Int)} (h : SetsR N z) {j : Nat} (hj : j < z.length) : ∃ P : Nat → Bool, row z j = selL P N := by
  refine h _ ?_
  have h1 := row_drop hj
  have : row z j ∈ z.drop j := by rw [h1]; simp
  exact List.mem_of_mem_drop this
theorem SetsR.add {N : Nat} {z : List (List Int)} (h : SetsR N z) (P : Nat → Bool) : SetsR N (addL z (selL P N)) := by
  intro x hx
  unfold addL at hx
  split at hx
  · exact h x hx
  · unfold insL at hx
    simp only [List.mem_append, List.mem_singleton] at hx
    rcases hx with (hx | hx) | hx
    · exact h x (List.mem_of_mem_take hx)
    · exact ⟨P, hx⟩
    · exact h x (List.mem_of_mem_drop hx)
theorem selL_maskR (P : Nat → Bool) (N m : Nat) (h : (selL P N).length = m) : MaskR N m (selL P N) := by
  intro k hk
  have hmem : nth (selL P N) k ∈ selL P N := by rw [nth_eq (by omega)]; exact List.getElem_mem _
  obtain ⟨s, h1, h2, _⟩ := selL_mem.1 hmem
  exact ⟨s, h1, h2⟩
theorem marks_sel (N : Nat) : marks 0 N = selL (fun _ => true) N := (selL_all N).symm
attribute [irreducible] posL
end Go.Proofs.Ytobdkfhmmpigiaa
