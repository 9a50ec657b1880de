/- Chapter 12: both sides' lists of results, in numbers (plain Lean). -/
import Derived.Test.YtobdkfhmmpigiaaGreatC12v1
namespace Go.Proofs.YtobdkfhmmpigiaaGreat
open Go.RowKit Go.Deep
set_option linter.unusedVariables false

/-- The program's list. -/
def runC (n : Nat) : Nat → Nat → List Nat → List Nat
  | 0, c, out => if out.contains c = true then out else out ++ [c]
  | K + 1, c, out => (allP n 0).foldl (fun o p => runC n K (stepC n p.1 p.2 c) o) out
theorem known_dec {n c : Nat} {out : List Nat} (hc : c < 2 ^ 2 ^ n) (ho : ∀ x ∈ out, x < 2 ^ 2 ^ n) : knownC (out.map (dec n)) (keyC (dec n c)) = out.contains c := by
  rw [key_dec hc, Bool.eq_iff_iff]
  unfold knownC
  rw [List.any_eq_true, List.contains_iff_mem]
  constructor
  · rintro ⟨x, hx, h⟩
    obtain ⟨y, hy, rfl⟩ := List.mem_map.1 hx
    rw [beq_iff_eq, key_dec (ho y hy)] at h
    rw [← h]; exact hy
  · intro h
    exact ⟨dec n c, List.mem_map.2 ⟨c, h, rfl⟩, by rw [beq_iff_eq, key_dec hc]⟩
theorem allP_lt {n : Nat} (hn : n ≤ 4) : ∀ p ∈ allP n 0, p.1 < n ∧ p.2 < n := fun p hp => of_decide_eq_true (List.all_eq_true.1 (allP_mem n (by omega)) p hp)
theorem run_dec {n : Nat} (hn : n ≤ 4) : ∀ K zss c out, c < 2 ^ 2 ^ n → (∀ x ∈ out, x < 2 ^ 2 ^ n) → runL n seeS K zss (dec n c) (out.map (dec n)) = ((runC n K c out).map (dec n), false) ∧ ∀ x ∈ runC n K c out, x < 2 ^ 2 ^ n := by
  intro K
  induction K with
  | zero =>
    intro zss c out hc ho
    rw [runL_zero, runC]
    have hk := known_dec hc ho
    cases h : out.contains c with
    | true =>
      rw [h] at hk
      rw [see_old hk, if_pos rfl]
      exact ⟨rfl, ho⟩
    | false =>
      rw [h] at hk
      rw [see_new hk, if_neg (by simp)]
      refine ⟨by simp, fun x hx => ?_⟩
      rcases List.mem_append.1 hx with hx | hx
      · exact ho x hx
      · simp at hx; subst hx; exact hc
  | succ K ih =>
    intro zss c out hc ho
    rw [runL_succ, runC]
    have hP := allP_lt hn
    generalize allP n 0 = l at hP
    induction l generalizing out with
    | nil => rw [goP_nil]; exact ⟨rfl, ho⟩
    | cons p l il =>
      have hp := hP p (by simp)
      have h3 := ih (zss ++ [pr p.1 p.2]) (stepC n p.1 p.2 c) out (stepC_lt hn hp.1 hp.2) ho
      have e : runL n seeS K (zss ++ [pr p.1 p.2]) (stI p.1 p.2 (dec n c)) (out.map (dec n)) = ((runC n K (stepC n p.1 p.2 c) out).map (dec n), false) := by
        rw [stI_dec hn hp.1 hp.2]
        exact h3.1
      rw [goP_off (by rw [e]), e, List.foldl_cons]
      exact il _ h3.2 (fun q hq => hP q (by simp [hq]))
def outC (n K : Nat) : List Nat := runC n K (2 ^ 2 ^ n - 1) []
theorem full_lt (n : Nat) : 2 ^ 2 ^ n - 1 < 2 ^ 2 ^ n := by have : 0 < 2 ^ 2 ^ n := Nat.pow_pos (by omega); omega
theorem out_dec {n K : Nat} (hn : n ≤ 4) : outI n K = (outC n K).map (dec n) := by
  have h := run_dec hn K [] (2 ^ 2 ^ n - 1) [] (full_lt n) (by simp)
  unfold outI outC
  rw [marks_dec]
  have h1 := h.1
  simp only [List.map_nil] at h1
  rw [h1]

/-- The reference's list. -/
def posC (n : Nat) : List Nat → Nat → Nat
  | [], _ => 0
  | a :: r, x => if lessV (dec n a) (dec n x) = true then posC n r x + 1 else 0
theorem pos_dec (n x : Nat) : ∀ z : List Nat, posL (z.map (dec n)) (dec n x) = posC n z x
  | [] => by rw [List.map_nil, posL, posC]
  | a :: r => by rw [List.map_cons, posL, posC, pos_dec n x r]
def addC (n : Nat) (z : List Nat) (x : Nat) : List Nat := if z.contains x = true then z else z.take (posC n z x) ++ [x] ++ z.drop (posC n z x)
theorem hasTo_iff (zss : List (List Int)) (set : List Int) : ∀ k, hasTo zss set k = true ↔ ∃ i, i < k ∧ (row zss i).length = set.length ∧ witV (row zss i) set = true := by
  intro k
  induction k with
  | zero => rw [hasTo_zero]; simp
  | succ k ih =>
    rw [hasTo_succ, Bool.or_eq_true, ih, Bool.and_eq_true, beq_iff_eq]
    constructor
    · rintro (⟨i, h1, h2⟩ | h)
      · exact ⟨i, by omega, h2⟩
      · exact ⟨k, by omega, h⟩
    · rintro ⟨i, h1, h2⟩
      by_cases e : i = k
      · subst e; exact .inr h2
      · exact .inl ⟨i, by omega, h2⟩
theorem row_map (n : Nat) (z : List Nat) {i : Nat} (h : i < z.length) : row (z.map (dec n)) i = dec n (z.getD i 0) := by
  unfold row
  simp [List.getD, h]
theorem getD_mem {z : List Nat} {i : Nat} (h : i < z.length) : z.getD i 0 ∈ z := by
  rw [List.getD_eq_getElem?_getD, List.getElem?_eq_getElem h]
  exact List.getElem_mem h
theorem has_dec {n x : Nat} {z : List Nat} (hx : x < 2 ^ 2 ^ n) (hz : ∀ y ∈ z, y < 2 ^ 2 ^ n) : hasV (z.map (dec n)) (dec n x) = z.contains x := by
  rw [Bool.eq_iff_iff]
  unfold hasV
  rw [hasTo_iff, List.contains_iff_mem, List.length_map]
  constructor
  · rintro ⟨i, h1, h2, h3⟩
    rw [row_map n z h1] at h2 h3
    rw [witV_iff] at h3
    have h4 := (rise_sub (dec_rise _ _) (dec_rise _ _) h3).2 h2
    have hm := getD_mem h1
    rw [← dec_inj (hz _ hm) hx h4]
    exact hm
  · intro h
    obtain ⟨i, hi, rfl⟩ := List.getElem_of_mem h
    refine ⟨i, hi, ?_⟩
    have e : z.getD i 0 = z[i] := by rw [List.getD_eq_getElem?_getD, List.getElem?_eq_getElem hi]; rfl
    rw [row_map n z hi, e]
    exact ⟨rfl, (witV_iff _ _).2 fun x hx => hx⟩
theorem add_dec {n x : Nat} {z : List Nat} (hx : x < 2 ^ 2 ^ n) (hz : ∀ y ∈ z, y < 2 ^ 2 ^ n) : addL (z.map (dec n)) (dec n x) = (addC n z x).map (dec n) ∧ ∀ y ∈ addC n z x, y < 2 ^ 2 ^ n := by
  have hh := has_dec hx hz
  unfold addC
  cases h : z.contains x with
  | true =>
    rw [h] at hh
    rw [addL_has hh, if_pos rfl]
    exact ⟨rfl, hz⟩
  | false =>
    rw [h] at hh
    rw [addL_new hh (pos_dec n x z), if_neg (by simp)]
    refine ⟨by simp [List.map_take, List.map_drop], fun y hy => ?_⟩
    simp only [List.mem_append, List.mem_singleton] at hy
    rcases hy with (hy | hy) | hy
    · exact hz y (List.mem_of_mem_take hy)
    · subst hy; exact hx
    · exact hz y (List.mem_of_mem_drop hy)
def pkP (n k : Nat) : Nat × Nat := (allP n 0).getD k (0, 0)
theorem pk_row : ∀ n : Nat, n < 5 → ∀ k : Nat, k < 6 → k < (stdL n).length → row (stdL n) k = pr (pkP n k).1 (pkP n k).2 ∧ (pkP n k).1 < n ∧ (pkP n k).2 < n := by decide +kernel
def pairC (n c : Nat) (z : List Nat) : Nat → List Nat
  | 0 => z
  | k + 1 => addC n (pairC n c z k) (stepC n (pkP n k).1 (pkP n k).2 c)
theorem pair_dec {n c : Nat} {z : List Nat} (hn : n ≤ 4) (hz : ∀ y ∈ z, y < 2 ^ 2 ^ n) : ∀ k, k ≤ (stdL n).length → pairTo n (dec n c) (z.map (dec n)) k = (pairC n c z k).map (dec n) ∧ ∀ y ∈ pairC n c z k, y < 2 ^ 2 ^ n := by
  intro k
  induction k with
  | zero => intro _; exact ⟨rfl, hz⟩
  | succ k ih =>
    intro hk
    obtain ⟨h1, h2⟩ := ih (by omega)
    obtain ⟨q1, q2, q3⟩ := pk_row n (by omega) k (by have := stdL_len hn; omega) (by omega)
    rw [pairTo_succ, pairC, h1, q1, all_dec]
    exact add_dec (stepC_lt hn q2 q3) h2
def setC (n : Nat) (now : List Nat) : Nat → List Nat
  | 0 => []
  | j + 1 => pairC n (now.getD j 0) (setC n now j) (stdL n).length
theorem set_dec {n : Nat} {now : List Nat} (hn : n ≤ 4) : ∀ j, j ≤ now.length → setTo n (now.map (dec n)) j = (setC n now j).map (dec n) ∧ ∀ y ∈ setC n now j, y < 2 ^ 2 ^ n := by
  intro j
  induction j with
  | zero => intro _; exact ⟨rfl, fun y hy => by simp [setC] at hy⟩
  | succ j ih =>
    intro hj
    obtain ⟨h1, h2⟩ := ih (by omega)
    rw [setTo_succ, setC, h1, row_map n now (by omega)]
    exact pair_dec hn h2 _ (Nat.le_refl _)
def lvlC (n : Nat) : Nat → List Nat
  | 0 => [2 ^ 2 ^ n - 1]
  | i + 1 => setC n (lvlC n i) (lvlC n i).length
theorem lvl_dec {n : Nat} (hn : n ≤ 4) : ∀ i, lvl n i = (lvlC n i).map (dec n) ∧ ∀ y ∈ lvlC n i, y < 2 ^ 2 ^ n := by
  intro i
  induction i with
  | zero =>
    rw [lvl_zero, lvlC, marks_dec]
    exact ⟨rfl, fun y hy => by simp at hy; subst hy; exact full_lt n⟩
  | succ i ih =>
    rw [lvl_succ, lvlC, ih.1, List.length_map]
    exact set_dec hn _ (Nat.le_refl _)

/-- The tests for the same kind. -/
def fitSC (n a b : Nat) : Bool := decide ((dec n a).length ≤ (dec n b).length) && cluLe (cluV n (dec n a)) (cluV n (dec n b)) (n + 1) && (ordsL n).any fun nm => subC (imgC (fun s => renM nm s n) a (2 ^ n)) b
theorem fitTo_any (n : Nat) (a b : List Int) : ∀ j, j ≤ (ordsL n).length → fitTo n a b j = ((ordsL n).take j).any fun nm => witV (renV nm n a (2 ^ n)) b := by
  intro j
  induction j with
  | zero => intro _; rw [fitTo_zero]; simp
  | succ j ih =>
    intro hj
    rw [any_snoc (d := []) (by omega), row_getD, ← ih (by omega)]
    conv => lhs; unfold fitTo
theorem imgC_lt2 {f : Nat → Nat} {c n : Nat} (h : ∀ s, s < 2 ^ n → f s < 2 ^ n) : imgC f c (2 ^ n) < 2 ^ 2 ^ n := imgC_lt h _ (Nat.le_refl _)
theorem any_congr {α : Type} {l : List α} {f g : α → Bool} (h : ∀ x ∈ l, f x = g x) : l.any f = l.any g := by
  rw [Bool.eq_iff_iff, List.any_eq_true, List.any_eq_true]
  constructor
  · rintro ⟨x, h1, h2⟩; exact ⟨x, h1, by rw [← h x h1]; exact h2⟩
  · rintro ⟨x, h1, h2⟩; exact ⟨x, h1, by rw [h x h1]; exact h2⟩
theorem row_of_mem {z : List (List Int)} {x : List Int} (h : x ∈ z) : ∃ j, j < z.length ∧ row z j = x := by
  obtain ⟨j, hj, e⟩ := List.getElem_of_mem h
  refine ⟨j, hj, ?_⟩
  unfold row
  rw [List.getD_eq_getElem?_getD, List.getElem?_eq_getElem hj]
  exact e
theorem fitV_dec {n a b : Nat} (h1 : 1 ≤ n) (hn : n ≤ 4) : fitV n (dec n a) (dec n b) = fitSC n a b := by
  unfold fitV fitSC
  congr 1
  rw [fitTo_any n _ _ _ (Nat.le_refl _), List.take_length]
  refine any_congr fun nm hm => ?_
  obtain ⟨j, hj, rfl⟩ := row_of_mem hm
  rw [ren_dec, witV_dec (imgC_lt2 (ord_facts h1 hn hj).2.2.2)]
def fitIC (n a b : Nat) : Bool := (ordR n n).any fun nm => subC (imgC (fun s => renO nm s n) a (2 ^ n)) b
def renB (n : Nat) : Bool := (ordR n n).all fun nm => (List.range (2 ^ n)).all fun s => decide (renO nm s n < 2 ^ n)
theorem renB_all : ∀ n : Nat, n < 5 → renB n = true := by decide +kernel
theorem fitI_dec {n a b : Nat} (hn : n ≤ 4) : fitI n (dec n a) (dec n b) = fitIC n a b := by
  unfold fitI fitIC
  refine any_congr fun nm hm => ?_
  have h : ∀ s, s < 2 ^ n → renO nm s n < 2 ^ n := fun s hs => of_decide_eq_true (List.all_eq_true.1 (List.all_eq_true.1 (renB_all n (by omega)) nm hm) s (List.mem_range.2 hs))
  rw [renI_dec h, witI_dec (imgC_lt2 h)]
def kinSC (n : Nat) (S : List Nat) : Nat → List Nat
  | 0 => []
  | j + 1 => if ((kinSC n S j).any fun o => (dec n o).length == (dec n (S.getD j 0)).length && fitSC n o (S.getD j 0)) = true then kinSC n S j else kinSC n S j ++ [S.getD j 0]
theorem knT_any (n : Nat) (set : List Int) (left : List (List Int)) : ∀ i, i ≤ left.length → knT n set left i = (left.take i).any fun o => o.length == set.length && fitV n o set := by
  intro i
  induction i with
  | zero => intro _; rw [knT_zero]; simp
  | succ i ih =>
    intro hi
    rw [any_snoc (d := []) (by omega), row_getD, ← ih (by omega), knT_succ]
theorem kinS_dec {n : Nat} {S : List Nat} (h1 : 1 ≤ n) (hn : n ≤ 4) : ∀ j, j ≤ S.length → kinTo n (S.map (dec n)) j = (kinSC n S j).map (dec n) := by
  intro j
  induction j with
  | zero => intro _; rw [kinTo_zero]; rfl
  | succ j ih =>
    intro hj
    have e : knT n (dec n (S.getD j 0)) ((kinSC n S j).map (dec n)) (kinSC n S j).length = (kinSC n S j).any fun o => (dec n o).length == (dec n (S.getD j 0)).length && fitSC n o (S.getD j 0) := by
      rw [knT_any n _ _ _ (by simp), List.take_of_length_le (by simp), List.any_map]
      refine any_congr fun o _ => ?_
      show ((dec n o).length == (dec n (S.getD j 0)).length && fitV n (dec n o) (dec n (S.getD j 0))) = _
      rw [fitV_dec h1 hn]
    rw [kinSC]
    cases hv : (kinSC n S j).any fun o => (dec n o).length == (dec n (S.getD j 0)).length && fitSC n o (S.getD j 0) with
    | true =>
      rw [if_pos rfl]
      exact kinTo_old (ih (by omega)) (List.length_map _) (by rw [row_map n S (by omega), e, hv])
    | false =>
      rw [if_neg (by simp), kinTo_new (ih (by omega)) (List.length_map _) (by rw [row_map n S (by omega), e, hv]), row_map n S (by omega), List.map_append]
      rfl
def kinIC (n : Nat) (S : List Nat) : Nat → List Nat
  | 0 => []
  | j + 1 => if ((kinIC n S j).any fun o => (dec n (S.getD j 0)).length == (dec n o).length && fitIC n (S.getD j 0) o) = true then kinIC n S j else kinIC n S j ++ [S.getD j 0]
theorem kinI_dec {n : Nat} {S : List Nat} (hn : n ≤ 4) : ∀ j, j ≤ S.length → kinI n (S.map (dec n)) j = (kinIC n S j).map (dec n) := by
  intro j
  induction j with
  | zero => intro _; rw [kinI_zero]; rfl
  | succ j ih =>
    intro hj
    have e : ((kinIC n S j).map (dec n)).any (sameI n (dec n (S.getD j 0))) = (kinIC n S j).any fun o => (dec n (S.getD j 0)).length == (dec n o).length && fitIC n (S.getD j 0) o := by
      rw [List.any_map]
      refine any_congr fun o _ => ?_
      show sameI n (dec n (S.getD j 0)) (dec n o) = _
      unfold sameI
      rw [fitI_dec hn]
    rw [kinIC]
    cases hv : (kinIC n S j).any fun o => (dec n (S.getD j 0)).length == (dec n o).length && fitIC n (S.getD j 0) o with
    | true =>
      rw [if_pos rfl]
      exact kinI_old (ih (by omega)) (by rw [row_map n S (by omega), e, hv])
    | false =>
      rw [if_neg (by simp), kinI_new (ih (by omega)) (by rw [row_map n S (by omega), e, hv]), row_map n S (by omega), List.map_append]
      rfl
end Go.Proofs.YtobdkfhmmpigiaaGreat
