/- Chapter 12: sets of masks, the reference's helpers. -/
import Derived.Test.YtobdkfhmmpigiaaIntS
import Derived.Test.YtobdkfhmmpigiaaMat3
namespace Go.Proofs.Ytobdkfhmmpigiaa
open Go.RowKit Go.Deep
set_option linter.unusedVariables false
attribute [local go_sem] bits_and_one

theorem nth_last {l : List Int} {x : Int} {i : Nat} (h : l.length = i) : nth (l ++ [x]) i = x := by
  rw [nth_eq (by rw [List.length_append, h]; simp), List.getElem_append_right (by omega)]
  simp
theorem nth_first {l : List Int} {x : Int} {i : Nat} (h : i < l.length) : nth (l ++ [x]) i = nth l i := by
  rw [nth_eq (by rw [List.length_append]; omega), nth_eq h, List.getElem_append_left h]
theorem nth_ext {a b : List Int} {n : Nat} (ha : a.length = n) (hb : b.length = n) (h : ∀ i, i < n → nth a i = nth b i) : a = b := by
  apply List.ext_getElem
  · omega
  · intro i h1 h2
    rw [← nth_eq h1, ← nth_eq h2]
    exact h i (by omega)
/-- The numbers below N that hold, in ascending order. -/
def selL (p : Nat → Bool) (N : Nat) : List Int := ((List.range N).filter p).map fun m : Nat => (m : Int)
theorem selL_zero (p : Nat → Bool) : selL p 0 = [] := rfl
theorem selL_on {p : Nat → Bool} {N : Nat} (h : p N = true) : selL p (N + 1) = selL p N ++ [(N : Int)] := by
  simp [selL, List.range_succ, h]
theorem selL_off {p : Nat → Bool} {N : Nat} (h : p N = false) : selL p (N + 1) = selL p N := by
  simp [selL, List.range_succ, h]
theorem selL_le (p : Nat → Bool) (N : Nat) : (selL p N).length ≤ N := by
  have := List.length_filter_le p (List.range N)
  simp [selL] at *
  exact this
theorem selL_all (N : Nat) : selL (fun _ => true) N = marks 0 N := by
  have hf : (List.range N).filter (fun _ => true) = List.range N := List.filter_eq_self.2 (by simp)
  unfold selL
  rw [hf]
  refine nth_ext (n := N) (by simp) (marks_len _ _) fun i hi => ?_
  rw [marks_nth 0 N i hi, nth_eq (by simp; exact hi)]
  simp
theorem selL_mem {p : Nat → Bool} {N : Nat} {x : Int} : x ∈ selL p N ↔ ∃ m : Nat, x = m ∧ m < N ∧ p m = true := by
  simp only [selL, List.mem_map, List.mem_filter, List.mem_range]
  constructor
  · rintro ⟨m, ⟨h1, h2⟩, rfl⟩; exact ⟨m, rfl, h1, h2⟩
  · rintro ⟨m, rfl, h1, h2⟩; exact ⟨m, ⟨h1, h2⟩, rfl⟩
theorem marks_succ0 (k : Nat) : marks 0 (k + 1) = marks 0 k ++ [(k : Int)] :=
  nth_ext (n := k + 1) (marks_len _ _) (by rw [List.length_append, marks_len]; rfl) (fun i hi => by
    rw [marks_nth 0 _ i hi]
    by_cases e : i = k
    · subst e; rw [nth_last (marks_len _ _)]; omega
    · rw [nth_first (by rw [marks_len]; omega), marks_nth 0 _ i (by omega)])

set_option maxHeartbeats 1000000 in
theorem specMasks (n : Nat) (w : World) (hn : n ≤ 4) : Calls Try.prog 15 #[.int .i64 n] w fun e w' => ∃ A m c, e = .returned (.slice A m c) ∧ OwnI w' w.heap.size 3 A m c (marks 0 (2 ^ n)) ∧ Below w.heap.size w w' := by
  obtain ⟨N, hN⟩ : ∃ N, 2 ^ n = N := ⟨_, rfl⟩
  have hw := wrap_pow n (by omega)
  have hN16 : N ≤ 16 := by rw [← hN]; exact Nat.pow_le_pow_right (n := 2) (by omega) hn
  rw [hN] at hw ⊢
  clear hN
  go_enter Try.func15, Try.ntmps15
  go_wp2_with fail
  go_loopw [3, 4] (fun lv iv wr => ∃ k : Nat, ∃ A c, lv = .slice A k c ∧ iv = .int .i64 k ∧ k ≤ N ∧ OwnI wr w.heap.size 3 A k c (marks 0 k) ∧ Below w.heap.size w wr) (fun _ iv _ => N - (intOf iv).toNat)
  case atStart => exact ⟨0, _, _, rfl, rfl, Nat.zero_le _, own_empty w _, below_alloc w _⟩
  case round =>
    obtain ⟨k, A, c, rfl, rfl, hk, hown, hb⟩ := hrel
    have hsz := hb.size
    by_cases hlt : k < N
    · have H := Lib.hid (marks_succ0 k)
      go_wp2_with (at_builtin; refine wpL_append1 _ rfl _ _ _ rfl w.heap.size 3 (.int .i64 0) 8 Try.underlying28 intInfo rfl _ k _ _ rfl hown _ rfl rfl (by unfold maxLen; omega) (by omega) hsz ?_)
      intro A6 c6 w6 ho6 hg6 hat6
      have hb6 := own_below hown hb hsz hg6
      go_wp2_with fail
      go_roundw
      case rel => exact ⟨k + 1, A6, c6, rfl, by go_num, by omega, by rw [OwnI, H.out]; simpa using ho6, hb6⟩
      case measure => (simp [intOf] <;> omega)
    · obtain rfl : k = N := by omega
      go_wp2_with fail
      go_ret
      exact ⟨A, k, c, rfl, hown, hb⟩

/-- Is every number of a list in another one? -/
def conTo (y : Int) (b : List Int) : Nat → Bool
  | 0 => false
  | k + 1 => conTo y b k || y == nth b k
def witTo (a b : List Int) : Nat → Bool
  | 0 => true
  | k + 1 => witTo a b k && conTo (nth a k) b b.length
def witV (a b : List Int) : Bool := witTo a b a.length
theorem conTo_zero (y : Int) (b : List Int) : conTo y b 0 = false := rfl
theorem conTo_succ (y : Int) (b : List Int) (k : Nat) : conTo y b (k + 1) = (conTo y b k || y == nth b k) := rfl
theorem witTo_zero (a b : List Int) : witTo a b 0 = true := rfl
theorem witTo_succ (a b : List Int) (k : Nat) : witTo a b (k + 1) = (witTo a b k && conTo (nth a k) b b.length) := rfl
theorem witTo_bad {a b : List Int} {k : Nat} (h : witTo a b k = false) : ∀ m, k ≤ m → witTo a b m = false := by
  intro m
  induction m with
  | zero => intro hm; have : k = 0 := by omega
            subst this; exact h
  | succ m ih =>
    intro hm
    by_cases e : k = m + 1
    · subst e; exact h
    · rw [witTo, ih (by omega)]; rfl
attribute [irreducible] conTo witTo

set_option maxHeartbeats 2000000 in
theorem specWithin (A B : Option Addr) (n m c d : Nat) (a b : List Int) (w : World) (ha : RdI w A n a) (hb : RdI w B m b) (hn : n ≤ 1048576) (hm : m ≤ 1048576) :
    Calls Try.prog 22 #[.slice A n c, .slice B m d] w fun e w' => e = .returned (.bool (witV a b)) ∧ w = w' := by
  have HLA := Lib.hid ha.lenI
  have HLB := Lib.hid hb.lenI
  go_enter Try.func22, Try.ntmps22
  go_wp2_with fail
  go_loopw [12] (fun iv wr => ∃ k : Nat, k ≤ n ∧ iv = .int .i64 k ∧ Hid (witTo a b k = true) ∧ w = wr) (fun iv _ => n - (intOf iv).toNat)
  case atStart => exact ⟨0, Nat.zero_le _, rfl, Lib.hid (witTo_zero _ _), rfl⟩
  case round =>
    obtain ⟨k, hk, rfl, HW, rfl⟩ := hrel
    by_cases hlt : k < n
    · obtain ⟨a1, rfl, _, l1⟩ := ha.at_ hlt
      obtain ⟨y, hy⟩ : ∃ y, nth a k = y := ⟨_, rfl⟩
      rw [hy] at l1
      have HY := Lib.hid hy
      have HC0 := Lib.hid (conTo_zero y b)
      clear hy
      go_wp2_with fail
      go_loopw [7, 18] (fun fv jv wr => ∃ j : Nat, j ≤ m ∧ jv = .int .i64 j ∧ fv = .bool (conTo y b j) ∧ w = wr) (fun _ jv _ => m - (intOf jv).toNat)
      case atStart => exact ⟨0, Nat.zero_le _, rfl, by rw [HC0.out], rfl⟩
      case round =>
        obtain ⟨j, hj, rfl, rfl, rfl⟩ := hrel
        by_cases hlt2 : j < m
        · obtain ⟨b1, rfl, _, l2⟩ := hb.at_ hlt2
          have HS := Lib.hid (conTo_succ y b j)
          cases hc : conTo y b j with
          | true =>
            have HS2 := Lib.hid (show conTo y b (j + 1) = true by rw [HS.out, hc]; rfl)
            clear hc
            go_wp2_with fail
            go_roundw
            case rel => exact ⟨j + 1, by omega, by go_num, by rw [HS2.out], by first | rfl | trivial⟩
            case measure => simp [intOf]; omega
          | false =>
            have HS2 := Lib.hid (show conTo y b (j + 1) = (y == nth b j) by rw [HS.out, hc]; rfl)
            clear hc
            go_wp2_with fail
            go_roundw
            case rel => exact ⟨j + 1, by omega, by go_num, by rw [HS2.out], by first | rfl | trivial⟩
            case measure => simp [intOf]; omega
        · obtain rfl : j = m := by omega
          have HN := Lib.hid (show witTo a b (k + 1) = conTo y b j by rw [witTo_succ, HW.out, HY.out, HLB.out]; rfl)
          cases hc : conTo y b j with
          | true =>
            have HN2 := Lib.hid (show witTo a b (k + 1) = true by rw [HN.out, hc])
            clear hc
            go_wp2_with fail
            go_roundw
            case rel => exact ⟨k + 1, by omega, by go_num, HN2, by first | rfl | trivial⟩
            case measure => simp [intOf]; omega
          | false =>
            have HE := Lib.hid (show witV a b = false from witTo_bad (show witTo a b (k + 1) = false by rw [HN.out, hc]) a.length (by rw [HLA.out]; omega))
            clear hc
            go_wp2_with fail
            go_ret
            exact ⟨by rw [HE.out]; rfl, rfl⟩
    · obtain rfl : k = n := by omega
      have HE := Lib.hid (show witV a b = true by unfold witV; rw [HLA.out]; exact HW.out)
      go_wp2_with fail
      go_ret
      exact ⟨by rw [HE.out]; rfl, rfl⟩
end Go.Proofs.Ytobdkfhmmpigiaa
