/- Chapter 12: spec.l03Apply. -/
import Derived.Test.YtobdkfhmmpigiaaGreatMB
import Derived.Deep.RegionHeld3
import Derived.Test.YtobdkfhmmpigiaaGreatApp1
import Derived.Test.YtobdkfhmmpigiaaGreatRowsF
namespace Go.Proofs.YtobdkfhmmpigiaaGreat
open Go.RowKit Go.Deep
set_option linter.unusedVariables false
attribute [local go_sem] bits_and_one

theorem add_one_ (a : Addr) : a.add 1 = ⟨a.block, a.off + 1, none⟩ := by unfold Addr.add; rw [if_neg (by omega)]
def bsTo (zss : List (List Int)) (s : Nat) : Nat → Nat
  | 0 => s
  | k + 1 => bst (bsTo zss s k) (nth (row zss k) 0).toNat (nth (row zss k) 1).toNat
/-- Every row is a comparator of W wires. -/
def PairR (W n : Nat) (zss : List (List Int)) : Prop := ∀ k, k < n → ∃ p q : Nat, row zss k = [(p : Int), (q : Int)] ∧ p < W ∧ q < W
theorem bsTo_lt {W n s : Nat} {zss : List (List Int)} (hR : PairR W n zss) (h4 : W ≤ 4) (hs : s < 2 ^ W) : ∀ k, k ≤ n → bsTo zss s k < 2 ^ W := by
  intro k
  induction k with
  | zero => intro _; exact hs
  | succ k ih =>
    intro hk
    obtain ⟨p, q, hrow, hp, hq⟩ := hR k (by omega)
    rw [bsTo, hrow]
    simpa [nth] using bst_w h4 (ih (by omega)) hp hq
theorem w16 {W s : Nat} (h4 : W ≤ 4) (hs : s < 2 ^ W) : s < 16 := by
  have : 2 ^ W ≤ 2 ^ 4 := Nat.pow_le_pow_right (by omega) h4
  omega
theorem move_fact {s p q : Nat} (hs : s < 16) (hp : p < 4) (hq : q < 4) (hb : bitAt s p = true) (hc : bitAt s q = false) : ∃ P Q : Nat, RowKit.wrap64 (2 ^ p) = (P : Int) ∧ RowKit.wrap64 (2 ^ q) = (Q : Int) ∧ P ≤ 8 ∧ Q ≤ 8 ∧ (s : Int) - (P : Int) + (Q : Int) = ((bst s p q : Nat) : Int) := by
  have h := sub_fact s hs p hp q hq
  rw [hb, hc] at h
  simp at h
  have hP : 2 ^ p ≤ 2 ^ 3 := Nat.pow_le_pow_right (by omega) (by omega)
  have hQ : 2 ^ q ≤ 2 ^ 3 := Nat.pow_le_pow_right (by omega) (by omega)
  refine ⟨2 ^ p, 2 ^ q, wrap_pow p (by omega), wrap_pow q (by omega), by omega, by omega, ?_⟩
  rw [Int.natCast_pow, Int.natCast_pow]
  exact h.1

end Go.Proofs.YtobdkfhmmpigiaaGreat

/- Chapter 12: spec.l04All. -/
namespace Go.Proofs.YtobdkfhmmpigiaaGreat
open Go.RowKit Go.Deep
set_option linter.unusedVariables false
attribute [local go_sem] bits_and_one

theorem boolInfo : (Tryz.prog.info? 4).map (fun i => (i.zero, i.size, i.bytes)) = some (some (.bool false), 1, 1) := by kernel_rfl
def flV (N : Nat) (P : Nat → Bool) : List Value := (List.range N).map fun j => Value.bool (P j)
theorem flV_get {N : Nat} {P : Nat → Bool} {j : Nat} (h : j < N) : (flV N P)[j]? = some (.bool (P j)) := by
  simp [flV, h]
theorem flV_zero (N : Nat) : List.replicate N (Value.bool false) = flV N fun _ => false := by
  apply List.ext_getElem?
  intro j
  by_cases hj : j < N
  · rw [flV_get hj]; simp [hj]
  · simp [flV, hj]
theorem flV_set {N : Nat} {P : Nat → Bool} {z : Nat} (hn : z < N) : (flV N P).set z (.bool true) = flV N fun j => P j || j == z := by
  apply List.ext_getElem?
  intro j
  rw [List.getElem?_set]
  by_cases hj : j < N
  · rw [flV_get hj, flV_get hj]
    by_cases e : z = j
    · subst e; simp [flV, hn]
    · have h2 : (j == z) = false := by simp; omega
      simp [e, h2]
  · have h1 : (flV N P).length ≤ j := by simp [flV]; omega
    have h2 : (flV N fun j => P j || j == z).length ≤ j := by simp [flV]; omega
    rw [List.getElem?_eq_none h1, List.getElem?_eq_none h2]
    have : z ≠ j := by omega
    simp [this]
attribute [irreducible] flV
/-- The masks that the first k of a set lead to. -/
def img (zss : List (List Int)) (n : Nat) (set : List Int) : Nat → Nat → Bool
  | 0 => fun _ => false
  | k + 1 => fun j => img zss n set k j || j == bsTo zss (nth set k).toNat n
def allV (zss : List (List Int)) (n : Nat) (set : List Int) (N : Nat) : List Int := selL (img zss n set set.length) N
def MaskR (N m : Nat) (set : List Int) : Prop := ∀ k, k < m → ∃ s : Nat, nth set k = s ∧ s < N

end Go.Proofs.YtobdkfhmmpigiaaGreat

/- Chapter 12: spec.l12All, the standard comparators. -/
namespace Go.Proofs.YtobdkfhmmpigiaaGreat
open Go.RowKit Go.Deep
set_option linter.unusedVariables false

theorem row_snoc_lt {zss : List (List Int)} {r : List Int} {j : Nat} (h : j < zss.length) : row zss j = row (zss ++ [r]) j := by
  unfold row; rw [List.getD_eq_getElem?_getD, List.getD_eq_getElem?_getD, List.getElem?_append_left h]
theorem row_snoc_eq {zss : List (List Int)} {r : List Int} {j : Nat} (h : zss.length = j) : row (zss ++ [r]) j = r := by
  subst h; unfold row; rw [List.getD_eq_getElem?_getD, List.getElem?_append_right (Nat.le_refl _)]; simp
theorem RowsIn.congr {w : World} {lo hi n : Nat} {A : Option Addr} {f f' : Nat → List Int} {vs : List Value} (h : RowsIn w lo hi A n f vs) (hf : ∀ j, j < n → f j = f' j) : RowsIn w lo hi A n f' vs := by
  intro j hj
  rw [← hf j hj]
  exact h j hj
abbrev pr (a b : Nat) : List Int := [(a : Int), (b : Int)]
theorem own_pair2 (w : World) (x y : Int) : OwnI (w.alloc (.cells #[.int .i64 x, .int .i64 y] 3)) w.heap.size 3 (some ⟨w.heap.size, 0, none⟩) 2 2 [x, y] :=
  World.ownsRow_lit (base := w.heap.size) (e := 3) (size := 1) w #[.int .i64 x, .int .i64 y] 2 (Nat.le_refl _) (by unfold maxLen; omega) rfl

/-- The comparators of wire i with the d wires behind it. -/
def inL (i : Nat) : Nat → List (List Int)
  | 0 => []
  | d + 1 => inL i d ++ [pr i (i + 1 + d)]
/-- The standard comparators whose first wire is below i. -/
def stdTo (n : Nat) : Nat → List (List Int)
  | 0 => []
  | i + 1 => stdTo n i ++ inL i (n - 1 - i)
def stdL (n : Nat) : List (List Int) := stdTo n n
theorem in_step (z : List (List Int)) (i d k : Nat) (h : i + 1 + d = k) : (z ++ inL i d) ++ [pr i k] = z ++ inL i (d + 1) := by
  subst h; rw [inL, List.append_assoc]
theorem in_start (z : List (List Int)) (i : Nat) : z ++ inL i 0 = z := by rw [inL, List.append_nil]
theorem std_step (n i : Nat) : stdTo n i ++ inL i (n - 1 - i) = stdTo n (i + 1) := rfl

end Go.Proofs.YtobdkfhmmpigiaaGreat

/- Chapter 12: spec.l04Rename. -/
namespace Go.Proofs.YtobdkfhmmpigiaaGreat
open Go.RowKit Go.Deep
set_option linter.unusedVariables false
attribute [local go_sem] bits_and_one

/-- A mask with other wires, up to wire k. -/
def renM (names : List Int) (s : Nat) : Nat → Nat
  | 0 => 0
  | k + 1 => renM names s k + if bitAt s k = true then 2 ^ (nth names k).toNat else 0
theorem renM_zero (names : List Int) (s : Nat) : renM names s 0 = 0 := rfl
theorem renM_on {names : List Int} {s k q x : Nat} (h : bitAt s k = true) (hq : nth names k = q) (hx : renM names s k = x) : renM names s (k + 1) = x + 2 ^ q := by
  rw [renM, if_pos h, hq, hx]; rfl
theorem renM_off {names : List Int} {s k x : Nat} (h : bitAt s k = false) (hx : renM names s k = x) : renM names s (k + 1) = x := by
  rw [renM, if_neg (by rw [h]; simp), hx]; rfl
/-- The masks that the first k of a set become. -/
def imgR (names : List Int) (n : Nat) (set : List Int) : Nat → Nat → Bool
  | 0 => fun _ => false
  | k + 1 => fun j => imgR names n set k j || j == renM names (nth set k).toNat n
def renV (names : List Int) (n : Nat) (set : List Int) (N : Nat) : List Int := selL (imgR names n set set.length) N
theorem grow8 {x p j n : Nat} (h1 : x ≤ 8 * j) (h2 : p ≤ 8) (h3 : j < n) (h4 : n ≤ 4) : x ≤ 32 ∧ x + p ≤ 8 * (j + 1) ∧ x ≤ 8 * (j + 1) ∧ j + 1 ≤ n := by omega
theorem add_fact2 {x p : Nat} (h1 : x ≤ 32) (h2 : p ≤ 8) : wrap64 ((x : Int) + (p : Int)) = ((x + p : Nat) : Int) := by rw [IntWalk.wrap64_in _ (by omega)]; rfl
theorem less1 {j n : Nat} (h3 : j < n) : n - (j + 1) < n - j := by omega
attribute [irreducible] renM

end Go.Proofs.YtobdkfhmmpigiaaGreat

/- Chapter 12: the sets of results level by level, in plain Lean (what spec.l12Sets computes). -/
namespace Go.Proofs.YtobdkfhmmpigiaaGreat
open Go.RowKit Go.Deep
set_option linter.unusedVariables false

/-- How many sets at the front of a list are less than a set. -/
def posL : List (List Int) → List Int → Nat
  | [], _ => 0
  | a :: r, x => if lessV a x = true then posL r x + 1 else 0
theorem posL_le : ∀ (z : List (List Int)) (x : List Int), posL z x ≤ z.length
  | [], x => by simp [posL]
  | a :: r, x => by have := posL_le r x; rw [posL]; split <;> simp <;> omega
theorem row_drop {z : List (List Int)} {k : Nat} (h : k < z.length) : z.drop k = row z k :: z.drop (k + 1) := by
  rw [List.drop_eq_getElem_cons h]
  congr 1
  unfold row
  rw [List.getD_eq_getElem?_getD, List.getElem?_eq_getElem h]; rfl
theorem posL_on {z : List (List Int)} {x : List Int} {k : Nat} (h : k < z.length) (hl : lessV (row z k) x = true) (hp : posL z x = k + posL (z.drop k) x) : posL z x = k + 1 + posL (z.drop (k + 1)) x := by
  rw [hp, row_drop h, posL, if_pos hl]; omega
theorem posL_off {z : List (List Int)} {x : List Int} {k : Nat} (h : k < z.length) (hl : lessV (row z k) x = false) (hp : posL z x = k + posL (z.drop k) x) : posL z x = k := by
  rw [hp, row_drop h, posL, if_neg (by rw [hl]; simp)]; omega
theorem posL_end {z : List (List Int)} {x : List Int} {k : Nat} (h : z.length = k) (hp : posL z x = k + posL (z.drop k) x) : posL z x = k := by
  rw [hp, List.drop_of_length_le (by omega), posL]; omega
theorem posL_start (z : List (List Int)) (x : List Int) : posL z x = 0 + posL (z.drop 0) x := by simp
/-- A list of sets with one more set at its place. -/
def insL (z : List (List Int)) (x : List Int) : List (List Int) := z.take (posL z x) ++ [x] ++ z.drop (posL z x)
def addL (z : List (List Int)) (x : List Int) : List (List Int) := if hasV z x = true then z else insL z x
theorem addL_has {z : List (List Int)} {x : List Int} (h : hasV z x = true) : addL z x = z := if_pos h
theorem addL_new {z : List (List Int)} {x : List Int} {k : Nat} (h : hasV z x = false) (hp : posL z x = k) : addL z x = z.take k ++ [x] ++ z.drop k := by
  subst hp; exact if_neg (by rw [h]; simp)
theorem addL_len (z : List (List Int)) (x : List Int) : (addL z x).length ≤ z.length + 1 := by
  have := posL_le z x
  unfold addL
  split
  · omega
  · unfold insL; simp; omega
/-- The sets behind the first k comparators of a set, laid into z. -/
def pairTo (n : Nat) (set : List Int) (z : List (List Int)) : Nat → List (List Int)
  | 0 => z
  | k + 1 => addL (pairTo n set z k) (allV [row (stdL n) k] 1 set (2 ^ n))
/-- The sets behind a comparator of the first j sets. -/
def setTo (n : Nat) (now : List (List Int)) : Nat → List (List Int)
  | 0 => []
  | j + 1 => pairTo n (row now j) (setTo n now j) (stdL n).length
/-- The sets behind i comparators. -/
def lvl (n : Nat) : Nat → List (List Int)
  | 0 => [marks 0 (2 ^ n)]
  | i + 1 => setTo n (lvl n i) (lvl n i).length
theorem lvl_zero (n : Nat) : lvl n 0 = [marks 0 (2 ^ n)] := rfl
theorem lvl_succ (n i : Nat) : lvl n (i + 1) = setTo n (lvl n i) (lvl n i).length := rfl
theorem setTo_zero (n : Nat) (now : List (List Int)) : setTo n now 0 = [] := rfl
theorem setTo_succ (n : Nat) (now : List (List Int)) (j : Nat) : setTo n now (j + 1) = pairTo n (row now j) (setTo n now j) (stdL n).length := rfl
theorem pairTo_zero (n : Nat) (set : List Int) (z : List (List Int)) : pairTo n set z 0 = z := rfl
theorem pairTo_succ (n : Nat) (set : List Int) (z : List (List Int)) (k : Nat) : pairTo n set z (k + 1) = addL (pairTo n set z k) (allV [row (stdL n) k] 1 set (2 ^ n)) := rfl
theorem stdL_len {n : Nat} (h : n ≤ 4) : (stdL n).length ≤ 6 := by
  have hc : n = 0 ∨ n = 1 ∨ n = 2 ∨ n = 3 ∨ n = 4 := by omega
  rcases hc with rfl | rfl | rfl | rfl | rfl <;> decide
theorem stdL_row {n : Nat} (h : n ≤ 4) : ∀ k, k < (stdL n).length → ∃ p q : Nat, row (stdL n) k = [(p : Int), (q : Int)] ∧ p < n ∧ q < n := by
  have key : ∀ n : Nat, n < 5 → ∀ k : Nat, k < 6 → k < (stdL n).length → ((List.range 4).any fun p => (List.range 4).any fun q => decide (row (stdL n) k = [(p : Int), (q : Int)] ∧ p < n ∧ q < n)) = true := by decide +kernel
  intro k hk
  have h1 := key n (by omega) k (by have := stdL_len h; omega) hk
  obtain ⟨p, _, h2⟩ := List.any_eq_true.1 h1
  obtain ⟨q, _, h3⟩ := List.any_eq_true.1 h2
  exact ⟨p, q, of_decide_eq_true h3⟩
/-- Sets of masks of W bits. -/
def SetsR (N : Nat) (z : List (List Int)) : Prop := ∀ x ∈ z, ∃ P : Nat → Bool, x = selL P N
theorem SetsR.at_ {N : Nat} {z : List (List Int)} (h : SetsR N z) {j : Nat} (hj : j < z.length) : ∃ P : Nat → Bool, row z j = selL P N := by
  refine h _ ?_
  have h1 := row_drop hj
  have : row z j ∈ z.drop j := by rw [h1]; simp
  exact List.mem_of_mem_drop this
theorem SetsR.add {N : Nat} {z : List (List Int)} (h : SetsR N z) (P : Nat → Bool) : SetsR N (addL z (selL P N)) := by
  intro x hx
  unfold addL at hx
  split at hx
  · exact h x hx
  · unfold insL at hx
    simp only [List.mem_append, List.mem_singleton] at hx
    rcases hx with (hx | hx) | hx
    · exact h x (List.mem_of_mem_take hx)
    · exact ⟨P, hx⟩
    · exact h x (List.mem_of_mem_drop hx)
theorem selL_maskR (P : Nat → Bool) (N m : Nat) (h : (selL P N).length = m) : MaskR N m (selL P N) := by
  intro k hk
  have hmem : nth (selL P N) k ∈ selL P N := by rw [nth_eq (by omega)]; exact List.getElem_mem _
  obtain ⟨s, h1, h2, _⟩ := selL_mem.1 hmem
  exact ⟨s, h1, h2⟩
theorem marks_sel (N : Nat) : marks 0 N = selL (fun _ => true) N := (selL_all N).symm
attribute [irreducible] posL
end Go.Proofs.YtobdkfhmmpigiaaGreat

/- Chapter 12: spec.l12Sets, the walk. -/
namespace Go.Proofs.YtobdkfhmmpigiaaGreat
open Go.RowKit Go.Deep
set_option linter.unusedVariables false

theorem rdV_to {w : World} {A : Option Addr} {n k : Nat} {vs : List Value} (h : Rd w A n vs) (hk : k ≤ n) : Rd w A k (vs.take k) := by
  refine ⟨by rw [List.length_take, h.1]; omega, fun h0 => ?_⟩
  obtain ⟨ad, e, hb, hc⟩ := h.2 (by omega)
  refine ⟨ad, e, hb, fun j u hu => hc j u ?_⟩
  have hj := (List.getElem?_eq_some_iff.1 hu).1
  rw [List.length_take] at hj
  rw [List.getElem?_take, if_pos (by omega)] at hu
  exact hu
theorem rdV_from {w : World} {g n k : Nat} {vs : List Value} (h : Rd w (some ⟨g, 0, none⟩) n vs) (hk : k ≤ n) : Rd w (some ⟨g, k, none⟩) (n - k) (vs.drop k) := by
  refine ⟨by rw [List.length_drop, h.1], fun h0 => ?_⟩
  obtain ⟨ad, e, hb, hc⟩ := h.2 (by omega)
  injection e with e
  subst e
  refine ⟨_, rfl, hb, fun j u hu => ?_⟩
  rw [List.getElem?_drop] at hu
  have h1 := hc (k + j) u hu
  rw [← h1]
  congr 1
  unfold Addr.add
  by_cases e1 : j = 0 <;> by_cases e2 : k = 0 <;> simp [e1, e2]
theorem rdV_end {w : World} {g n k : Nat} {vs : List Value} (h : Rd w (some ⟨g, 0, none⟩) n vs) (hk : n = k) : Rd w (some ⟨g, 0, none⟩) (n - k) (vs.drop k) := by
  subst hk
  rw [Nat.sub_self, List.drop_of_length_le (by rw [h.1]; exact Nat.le_refl _)]
  exact Rd.nil_
theorem all2_one {R : Value → List Int → Prop} {vs : List Value} {zs : List (List Int)} (h : All2 R vs zs) (hR : ∀ v z, R v z → v.oneCell' = true) : ∀ u ∈ vs, u.oneCell' = true := by
  intro u hu
  obtain ⟨j, hj, rfl⟩ := List.getElem_of_mem hu
  obtain ⟨v, h1, h2⟩ := h.at_ j (by rw [← h.len]; exact hj)
  rw [List.getElem?_eq_getElem hj] at h1
  injection h1 with h1
  rw [h1]
  exact hR _ _ h2
theorem own_some_ {w : World} {base : Nat} {e : TypeId} {A : Option Addr} {n c : Nat} {xs : List Value} (h : Own w base e A n c xs) (hn : 0 < n) : ∃ g, A = some ⟨g, 0, none⟩ := by
  obtain ⟨g, u, hA, _⟩ := h.at_ hn
  exact ⟨g, hA⟩
theorem pairR_lit {n : Nat} (h : n ≤ 4) {k : Nat} (hk : k < (stdL n).length) : PairR n 1 [row (stdL n) k] := by
  intro j hj
  obtain rfl : j = 0 := by omega
  obtain ⟨p, q, h1, h2, h3⟩ := stdL_row h k hk
  exact ⟨p, q, by rw [← h1]; unfold row; rfl, h2, h3⟩
/-- A literal of one row that is read. -/
theorem rdM_lit {w : World} {B : Option Addr} {m d : Nat} {z : List Int} (h : RdI w B m z) (hc : m ≤ d ∧ d ≤ maxLen) : RdM (w.alloc (.cells #[.slice B m d] 30)) (some ⟨w.heap.size, 0, none⟩) 1 [z] := by
  refine ⟨rfl, fun j hj => ?_⟩
  obtain rfl : j = 0 := by omega
  obtain ⟨ad, e, hb, hcell⟩ := (rd_one (w := w) (.slice B m d) 30).2 (by omega)
  injection e with e
  subst e
  exact ⟨_, B, m, d, rfl, hb, hcell 0 _ rfl, by have : row [z] 0 = z := by unfold row; rfl
                                                rw [this]; exact h.alloc _, hc.1, hc.2⟩
theorem pair_len (n : Nat) (set : List Int) (z : List (List Int)) : ∀ k, (pairTo n set z k).length ≤ z.length + k
  | 0 => Nat.le_refl _
  | k + 1 => by have := pair_len n set z k; have := addL_len (pairTo n set z k) (allV [row (stdL n) k] 1 set (2 ^ n)); rw [pairTo]; omega
theorem sets_len {n : Nat} (h : n ≤ 4) (now : List (List Int)) : ∀ j, (setTo n now j).length ≤ 6 * j
  | 0 => Nat.le_refl _
  | j + 1 => by have := sets_len h now j; have := pair_len n (row now j) (setTo n now j) (stdL n).length; have := stdL_len h; rw [setTo]; omega
theorem lvl_len {n : Nat} (h : n ≤ 4) : ∀ i, i ≤ 5 → (lvl n i).length ≤ 7776 := by
  have key : ∀ i, (lvl n i).length ≤ 6 ^ i := by
    intro i
    induction i with
    | zero => exact Nat.le_refl _
    | succ i ih => have := sets_len h (lvl n i) (lvl n i).length; rw [lvl_succ, Nat.pow_succ]; omega
  intro i hi
  exact Nat.le_trans (key i) (Nat.le_trans (Nat.pow_le_pow_right (n := 6) (by omega) hi) (by decide))
theorem all_set (zss : List (List Int)) (n : Nat) (set : List Int) (N : Nat) : ∃ P, allV zss n set N = selL P N := ⟨_, rfl⟩
theorem sel_len {N : Nat} {x : List Int} {z : List (List Int)} (h : SetsR N z) (hN : N ≤ 16) {j : Nat} (hj : j < z.length) : (row z j).length ≤ 16 := by
  obtain ⟨P, hP⟩ := h.at_ hj
  rw [hP]
  exact Nat.le_trans (selL_le P N) hN
theorem SetsR.nil_ (N : Nat) : SetsR N [] := fun x hx => by simp at hx
theorem add0_ (g q : Nat) : (⟨g, 0, none⟩ : Addr).add q = ⟨g, q, none⟩ := by unfold Addr.add; by_cases e : q = 0 <;> simp [e]
theorem pow16 {n : Nat} (h : n ≤ 4) : 2 ^ n ≤ 16 := Nat.pow_le_pow_right (n := 2) (by omega) h

/-- A set put into its place: the list of headers behind three appends. -/
theorem sets_ins {w4 w8 : World} {C D g2 g8 m2 c8 q mx cx : Nat} {Ax : Option Addr} {vs : List Value} {z2 : List (List Int)} {x : List Int}
    (har : All2 (Rw w4 C fun g => blk (some ⟨g2, 0, none⟩) ≠ some g) vs z2) (hox : OwnI w4 C 3 Ax mx cx x) (hD : w4.heap.size = D) (hb8 : Below D w4 w8)
    (ho8 : Own w8 D 30 (some ⟨g8, 0, none⟩) (m2 + 1) c8 (vs.take q ++ (.slice Ax mx cx) :: vs.drop q)) (hlz : z2.length = m2) (hq : q ≤ m2) (hCD : C ≤ D) :
    OwnS w8 C (some ⟨g8, 0, none⟩) (m2 + 1) c8 (z2.take q ++ [x] ++ z2.drop q) := by
  have hg8 := (ho8.blk_ g8 rfl).1
  refine ⟨by simp; omega, _, ho8.more hCD, ?_⟩
  have har' : All2 (Rw w8 C fun g => blk (some ⟨g8, 0, none⟩) ≠ some g) vs z2 := har.mono fun v z k => k.keep fun g h1 h2 h3 => ⟨hb8.block g (by omega), fun e => by simp [blk] at e; omega⟩
  have hx' : Rw w8 C (fun g => blk (some ⟨g8, 0, none⟩) ≠ some g) (.slice Ax mx cx) x :=
    ⟨Ax, mx, cx, rfl, hox.keepAt fun g hg => hb8.block g (by have := (hox.blk_ g hg).2; omega), fun g hg e => by
      have := (hox.blk_ g hg).2
      simp [blk] at e; omega⟩
  rw [List.append_assoc]
  exact (har'.take q).append ⟨hx', har'.drop q⟩

end Go.Proofs.YtobdkfhmmpigiaaGreat
