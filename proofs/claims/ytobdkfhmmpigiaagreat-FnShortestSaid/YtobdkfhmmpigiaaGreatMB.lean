/- Chapter 12: sets of masks, the reference's helpers. -/
import Derived.Test.YtobdkfhmmpigiaaGreatMA
namespace Go.Proofs.YtobdkfhmmpigiaaGreat
open Go.RowKit Go.Deep
set_option linter.unusedVariables false
attribute [local go_sem] bits_and_one

theorem nth_last {l : List Int} {x : Int} {i : Nat} (h : l.length = i) : nth (l ++ [x]) i = x := by
  rw [nth_eq (by rw [List.length_append, h]; simp), List.getElem_append_right (by omega)]
  simp
theorem nth_first {l : List Int} {x : Int} {i : Nat} (h : i < l.length) : nth (l ++ [x]) i = nth l i := by
  rw [nth_eq (by rw [List.length_append]; omega), nth_eq h, List.getElem_append_left h]
theorem nth_ext {a b : List Int} {n : Nat} (ha : a.length = n) (hb : b.length = n) (h : ∀ i, i < n → nth a i = nth b i) : a = b := by
  apply List.ext_getElem
  · omega
  · intro i h1 h2
    rw [← nth_eq h1, ← nth_eq h2]
    exact h i (by omega)
/-- The numbers below N that hold, in ascending order. -/
def selL (p : Nat → Bool) (N : Nat) : List Int := ((List.range N).filter p).map fun m : Nat => (m : Int)
theorem selL_zero (p : Nat → Bool) : selL p 0 = [] := rfl
theorem selL_on {p : Nat → Bool} {N : Nat} (h : p N = true) : selL p (N + 1) = selL p N ++ [(N : Int)] := by
  simp [selL, List.range_succ, h]
theorem selL_off {p : Nat → Bool} {N : Nat} (h : p N = false) : selL p (N + 1) = selL p N := by
  simp [selL, List.range_succ, h]
theorem selL_le (p : Nat → Bool) (N : Nat) : (selL p N).length ≤ N := by
  have := List.length_filter_le p (List.range N)
  simp [selL] at *
  exact this
theorem selL_all (N : Nat) : selL (fun _ => true) N = marks 0 N := by
  have hf : (List.range N).filter (fun _ => true) = List.range N := List.filter_eq_self.2 (by simp)
  unfold selL
  rw [hf]
  refine nth_ext (n := N) (by simp) (marks_len _ _) fun i hi => ?_
  rw [marks_nth 0 N i hi, nth_eq (by simp; exact hi)]
  simp
theorem selL_mem {p : Nat → Bool} {N : Nat} {x : Int} : x ∈ selL p N ↔ ∃ m : Nat, x = m ∧ m < N ∧ p m = true := by
  simp only [selL, List.mem_map, List.mem_filter, List.mem_range]
  constructor
  · rintro ⟨m, ⟨h1, h2⟩, rfl⟩; exact ⟨m, rfl, h1, h2⟩
  · rintro ⟨m, rfl, h1, h2⟩; exact ⟨m, ⟨h1, h2⟩, rfl⟩
theorem marks_succ0 (k : Nat) : marks 0 (k + 1) = marks 0 k ++ [(k : Int)] :=
  nth_ext (n := k + 1) (marks_len _ _) (by rw [List.length_append, marks_len]; rfl) (fun i hi => by
    rw [marks_nth 0 _ i hi]
    by_cases e : i = k
    · subst e; rw [nth_last (marks_len _ _)]; omega
    · rw [nth_first (by rw [marks_len]; omega), marks_nth 0 _ i (by omega)])


/-- Is every number of a list in another one? -/
def conTo (y : Int) (b : List Int) : Nat → Bool
  | 0 => false
  | k + 1 => conTo y b k || y == nth b k
def witTo (a b : List Int) : Nat → Bool
  | 0 => true
  | k + 1 => witTo a b k && conTo (nth a k) b b.length
def witV (a b : List Int) : Bool := witTo a b a.length
theorem conTo_zero (y : Int) (b : List Int) : conTo y b 0 = false := rfl
theorem conTo_succ (y : Int) (b : List Int) (k : Nat) : conTo y b (k + 1) = (conTo y b k || y == nth b k) := rfl
theorem witTo_zero (a b : List Int) : witTo a b 0 = true := rfl
theorem witTo_succ (a b : List Int) (k : Nat) : witTo a b (k + 1) = (witTo a b k && conTo (nth a k) b b.length) := rfl
theorem witTo_bad {a b : List Int} {k : Nat} (h : witTo a b k = false) : ∀ m, k ≤ m → witTo a b m = false := by
  intro m
  induction m with
  | zero => intro hm; have : k = 0 := by omega
            subst this; exact h
  | succ m ih =>
    intro hm
    by_cases e : k = m + 1
    · subst e; exact h
    · rw [witTo, ih (by omega)]; rfl
attribute [irreducible] conTo witTo

end Go.Proofs.YtobdkfhmmpigiaaGreat

/- Chapter 12: the reference's comparison of sets of masks (l12Less) and its test for a known one (l12Has). -/
namespace Go.Proofs.YtobdkfhmmpigiaaGreat
open Go.RowKit Go.Deep
set_option linter.unusedVariables false

/-- Is a list of masks less than another one? -/
def lessV : List Int → List Int → Bool
  | [], b => decide (0 < b.length)
  | _ :: _, [] => false
  | x :: a, y :: b => if x = y then lessV a b else decide (x < y)
theorem lessV_nil (b : List Int) : lessV [] b = decide (0 < b.length) := by cases b <;> rfl
theorem lessV_end {a : List Int} (h : 0 < a.length) : lessV a [] = false := by
  cases a with
  | nil => cases h
  | cons x a => rfl
theorem lessV_same {a b : List Int} {k : Nat} (h1 : k < a.length) (h2 : k < b.length) (h : nth a k = nth b k) : lessV (a.drop k) (b.drop k) = lessV (a.drop (k + 1)) (b.drop (k + 1)) := by
  rw [drop_nth h1, drop_nth h2, lessV, if_pos h]
theorem lessV_diff {a b : List Int} {k : Nat} (h1 : k < a.length) (h2 : k < b.length) (h : ¬ nth a k = nth b k) : lessV (a.drop k) (b.drop k) = decide (nth a k < nth b k) := by
  rw [drop_nth h1, drop_nth h2, lessV, if_neg h]


/-- Does a list of sets, up to its k-th, contain a set? -/
def hasTo (zss : List (List Int)) (set : List Int) : Nat → Bool
  | 0 => false
  | k + 1 => hasTo zss set k || ((row zss k).length == set.length && witV (row zss k) set)
def hasV (zss : List (List Int)) (set : List Int) : Bool := hasTo zss set zss.length
theorem hasTo_zero (zss : List (List Int)) (set : List Int) : hasTo zss set 0 = false := rfl
theorem hasTo_succ (zss : List (List Int)) (set : List Int) (k : Nat) : hasTo zss set (k + 1) = (hasTo zss set k || ((row zss k).length == set.length && witV (row zss k) set)) := rfl
theorem hasTo_on {zss : List (List Int)} {set : List Int} {k : Nat} (h : hasTo zss set k = true) : ∀ m, k ≤ m → hasTo zss set m = true := by
  intro m
  induction m with
  | zero => intro hm; have : k = 0 := by omega
            subst this; exact h
  | succ m ih =>
    intro hm
    by_cases e : k = m + 1
    · subst e; exact h
    · rw [hasTo_succ, ih (by omega)]; rfl
attribute [irreducible] hasTo lessV

end Go.Proofs.YtobdkfhmmpigiaaGreat

/- bits.OnesCount at masks below 256. -/
namespace Go.Proofs.YtobdkfhmmpigiaaGreat
open Go.RowKit Go.Deep
set_option linter.unusedVariables false
attribute [local go_sem] bits_and_one

/-- How many ones a number below 256 has. -/
def pop (q : Nat) : Nat := q % 2 + q / 2 % 2 + q / 4 % 2 + q / 8 % 2 + q / 16 % 2 + q / 32 % 2 + q / 64 % 2 + q / 128 % 2
theorem pop_step (m : Nat) (h : m < 256) : pop m = m % 2 + pop (m / 2) := by unfold pop; omega
theorem pop_le (m : Nat) : pop m ≤ 8 := by unfold pop; omega

def pop1 (x : Nat) : Nat := (x / 2 &&& 85) + (x &&& 85)
def pop2 (x : Nat) : Nat := (x / 4 &&& 51) + (x &&& 51)
def pop3 (x : Nat) : Nat := (x / 16 + x) &&& 3855
theorem pop1_lt : ∀ x : Nat, x < 256 → pop1 x < 256 := by decide +kernel
theorem pop2_lt : ∀ x : Nat, x < 256 → pop2 (pop1 x) < 256 := by decide +kernel
theorem pop3_eq : ∀ x : Nat, x < 256 → pop3 (pop2 (pop1 x)) = pop x := by decide +kernel
theorem pop1_fact : ∀ x : Nat, x < 256 → IntKind.u64.wrap (bits .and .u64 ((x : Int) / 2) 6148914691236517205 + bits .and .u64 (x : Int) 6148914691236517205) = (pop1 x : Int) := by decide +kernel
theorem pop2_fact : ∀ x : Nat, x < 256 → IntKind.u64.wrap (bits .and .u64 ((x : Int) / 4) 3689348814741910323 + bits .and .u64 (x : Int) 3689348814741910323) = (pop2 x : Int) := by decide +kernel
theorem pop3_fact : ∀ x : Nat, x < 256 → bits .and .u64 ((x : Int) / 16 + (x : Int)) 1085102592571150095 = (pop3 x : Int) := by decide +kernel
theorem and127 : ∀ x : Nat, x < 9 → bits .and .i64 (x : Int) 127 = (x : Int) := by decide +kernel
theorem pop_zero : pop 0 = 0 := rfl
attribute [irreducible] pop pop1 pop2 pop3

set_option maxHeartbeats 1000000 in
theorem implOnes (w : World) (q : Nat) (hq : q < 256) :
    Calls Tryz.prog 75 #[.int .i64 q] w fun e w' => e = .returned (.int .i64 (pop q)) ∧ w = w' := by
  have e1 := pop1_fact q hq
  have l1 := pop1_lt q hq
  have e2 := pop2_fact _ l1
  have l2 := pop2_lt q hq
  have e3 := pop3_fact _ l2
  have e4 := pop3_eq q hq
  have l3 := pop_le q
  go_enter Tryz.func75, Tryz.ntmps75
  go_wp2
  go_ret
  refine ⟨ret_int ?_, rfl⟩
  generalize pop q = p at l3
  have h256 : (p : Int) / 256 = 0 := by omega
  rw [h256]
  have h1 : ((p : Int) + 0) / 65536 = 0 := by omega
  rw [h1]
  have h2 : ((p : Int) + 0 + (0 : Int)) / 4294967296 = 0 := by omega
  simp only [Int.add_zero] at h2 ⊢
  rw [h2]
  simp only [Int.add_zero]
  exact and127 p (by omega)
end Go.Proofs.YtobdkfhmmpigiaaGreat

/- Chapter 12: one comparator at a mask: impl.step, spec.l03Apply at one pair. -/
namespace Go.Proofs.YtobdkfhmmpigiaaGreat
open Go.RowKit Go.Deep
set_option linter.unusedVariables false
attribute [local go_sem] bits_and_one

/-- A mask behind a comparator. -/
def bst (s p q : Nat) : Nat := if bitAt s p = true ∧ bitAt s q = false then s ^^^ 2 ^ p ^^^ 2 ^ q else s
theorem bst_lt : ∀ s : Nat, s < 16 → ∀ p : Nat, p < 4 → ∀ q : Nat, q < 4 → bst s p q < 16 := by decide +kernel
theorem bst_w1 : ∀ s : Nat, s < 2 → ∀ p : Nat, p < 1 → ∀ q : Nat, q < 1 → bst s p q < 2 := by decide +kernel
theorem bst_w2 : ∀ s : Nat, s < 4 → ∀ p : Nat, p < 2 → ∀ q : Nat, q < 2 → bst s p q < 4 := by decide +kernel
theorem bst_w3 : ∀ s : Nat, s < 8 → ∀ p : Nat, p < 3 → ∀ q : Nat, q < 3 → bst s p q < 8 := by decide +kernel
theorem bst_w {n s p q : Nat} (h4 : n ≤ 4) (hs : s < 2 ^ n) (hp : p < n) (hq : q < n) : bst s p q < 2 ^ n := by
  have hc : n = 1 ∨ n = 2 ∨ n = 3 ∨ n = 4 := by omega
  rcases hc with rfl | rfl | rfl | rfl
  · exact bst_w1 s hs p hp q hq
  · exact bst_w2 s hs p hp q hq
  · exact bst_w3 s hs p hp q hq
  · exact bst_lt s hs p hp q hq
theorem xor_fact : ∀ s : Nat, s < 16 → ∀ p : Nat, p < 4 → bits .xor .i64 (s : Int) (RowKit.wrap64 (2 ^ p)) = ((s ^^^ 2 ^ p : Nat) : Int) ∧ s ^^^ 2 ^ p < 16 := by decide +kernel
theorem sub_fact : ∀ s : Nat, s < 16 → ∀ p : Nat, p < 4 → ∀ q : Nat, q < 4 → (!(bitAt s p && !bitAt s q) || (decide ((s : Int) - 2 ^ p + 2 ^ q = ((bst s p q : Nat) : Int)) && decide (0 ≤ (s : Int) - 2 ^ p))) = true := by decide +kernel

set_option maxHeartbeats 1000000 in
theorem implMStep (s p q : Nat) (w : World) (hs : s < 16) (hp : p < 4) (hq : q < 4) : Calls Tryz.prog 45 #[.int .i64 s, .int .i64 p, .int .i64 q] w fun e w' => e = .returned (.int .i64 (bst s p q : Nat)) ∧ Below w.heap.size w w' := by
  cases hb : bitAt s p with
  | true =>
    obtain ⟨f1, f2⟩ := bit_on hb
    cases hc : bitAt s q with
    | true =>
      obtain ⟨g1, g2⟩ := bit_on hc
      have HE := Lib.hid (show bst s p q = s by rw [bst, if_neg (by rw [hc]; simp)])
      clear hb hc
      go_enter Tryz.func45, Tryz.ntmps45
      go_wp2_with fail
      go_ret
      exact ⟨by rw [HE.out]; rfl, Below.refl _ _⟩
    | false =>
      obtain ⟨g1, g2⟩ := bit_off hc
      obtain ⟨x1, x2⟩ := xor_fact s hs p hp
      obtain ⟨y1, _⟩ := xor_fact _ x2 q hq
      obtain ⟨t, ht⟩ : ∃ t, s ^^^ 2 ^ p = t := ⟨_, rfl⟩
      rw [ht] at x1 y1
      obtain ⟨u, hu⟩ : ∃ u, t ^^^ 2 ^ q = u := ⟨_, rfl⟩
      rw [hu] at y1
      have HE := Lib.hid (show bst s p q = u by rw [bst, if_pos ⟨hb, hc⟩, ht, hu])
      clear hb hc ht hu x2
      go_enter Tryz.func45, Tryz.ntmps45
      go_wp2_with fail
      go_region
      all_goals
        go_wp2_with fail
        go_ret
        exact ⟨by rw [HE.out]; rfl, (Below.refl _ _).drew⟩
  | false =>
    obtain ⟨f1, f2⟩ := bit_off hb
    have HE := Lib.hid (show bst s p q = s by rw [bst, if_neg (by rw [hb]; simp)])
    clear hb
    go_enter Tryz.func45, Tryz.ntmps45
    go_wp2_with fail
    go_ret
    exact ⟨by rw [HE.out]; rfl, Below.refl _ _⟩
end Go.Proofs.YtobdkfhmmpigiaaGreat

/- Chapter 12: impl.isFew, impl.areCounted, impl.allMasks. -/
namespace Go.Proofs.YtobdkfhmmpigiaaGreat
open Go.RowKit Go.Deep
set_option linter.unusedVariables false
attribute [local go_sem] bits_and_one

theorem implFew (n : Int) (w : World) : Calls Tryz.prog 20 #[.int .i64 n] w fun e w' => e = .returned (.bool (decide (1 ≤ n ∧ n ≤ 4))) ∧ w = w' := by
  by_cases h1 : 1 ≤ n <;> by_cases h2 : n ≤ 4
  all_goals
    go_enter Tryz.func20, Tryz.ntmps20
    go_wp2
    go_ret
    exact ⟨by simp [h1, h2], rfl⟩

set_option maxHeartbeats 1000000 in
theorem implCounted (n K : Int) (w : World) : Calls Tryz.prog 30 #[.int .i64 n, .int .i64 K] w fun e w' => e = .returned (.bool (decide ((1 ≤ n ∧ n ≤ 4) ∧ 0 ≤ K ∧ K ≤ 5))) ∧ w = w' := by
  by_cases h0 : 1 ≤ n ∧ n ≤ 4
  · have HF : decide (1 ≤ n ∧ n ≤ 4) = true := decide_eq_true h0
    rcases (show (¬ 0 ≤ K ∧ K ≤ 5) ∨ (0 ≤ K ∧ K ≤ 5) ∨ (0 ≤ K ∧ ¬ K ≤ 5) by omega) with ⟨h1, h2⟩ | ⟨h1, h2⟩ | ⟨h1, h2⟩
    all_goals
      go_enter Tryz.func30, Tryz.ntmps30
      go_wp2_with fail
      refine (implFew n _).mono ?_
      rintro e w' ⟨rfl, hww⟩
      obtain rfl := hww
      rw [HF]
      go_wp2_with fail
      go_ret
      exact ⟨by simp [h0, h1, h2], rfl⟩
  · have HF : decide (1 ≤ n ∧ n ≤ 4) = false := decide_eq_false h0
    go_enter Tryz.func30, Tryz.ntmps30
    go_wp2_with fail
    refine (implFew n _).mono ?_
    rintro e w' ⟨rfl, hww⟩
    obtain rfl := hww
    rw [HF]
    go_wp2_with fail
    go_ret
    exact ⟨by simp [h0], rfl⟩

set_option maxHeartbeats 1000000 in
theorem implMasks (n : Nat) (w : World) (hn : n ≤ 4) : Calls Tryz.prog 22 #[.int .i64 n] w fun e w' => ∃ A m c, e = .returned (.slice A m c) ∧ OwnI w' w.heap.size 3 A m c (marks 0 (2 ^ n)) ∧ Below w.heap.size w w' := by
  obtain ⟨N, hN⟩ : ∃ N, 2 ^ n = N := ⟨_, rfl⟩
  have hw := wrap_pow n (by omega)
  have hN16 : N ≤ 16 := by rw [← hN]; exact Nat.pow_le_pow_right (n := 2) (by omega) hn
  rw [hN] at hw ⊢
  clear hN
  go_enter Tryz.func22, Tryz.ntmps22
  go_wp2_with fail
  rw [hw]
  go_loopw [3, 8] (fun lv iv wr => ∃ k : Nat, ∃ A c, lv = .slice A k c ∧ iv = .int .i64 k ∧ k ≤ N ∧ OwnI wr w.heap.size 3 A k c (marks 0 k) ∧ Below w.heap.size w wr) (fun _ iv _ => N - (intOf iv).toNat)
  case atStart => exact ⟨0, _, _, rfl, rfl, Nat.zero_le _, own_empty w _, below_alloc w _⟩
  case round =>
    obtain ⟨k, A, c, rfl, rfl, hk, hown, hb⟩ := hrel
    have hsz := hb.size
    by_cases hlt : k < N
    · have H := Lib.hid (marks_succ0 k)
      go_wp2_with (at_builtin; refine wpL_append1 _ rfl _ _ _ rfl w.heap.size 3 (.int .i64 0) 8 Tryz.underlying30 intInfo rfl _ k _ _ rfl hown _ rfl rfl (by unfold maxLen; omega) (by omega) hsz ?_)
      intro A6 c6 w6 ho6 hg6 hat6
      have hb6 := own_below hown hb hsz hg6
      go_wp2_with fail
      go_roundw
      case rel => exact ⟨k + 1, A6, c6, rfl, by go_num, by omega, by rw [OwnI, H.out]; simpa using ho6, hb6⟩
      case measure => (simp [intOf] <;> omega)
    · obtain rfl : k = N := by omega
      go_wp2_with fail
      go_ret
      exact ⟨A, k, c, rfl, hown, hb⟩
end Go.Proofs.YtobdkfhmmpigiaaGreat
