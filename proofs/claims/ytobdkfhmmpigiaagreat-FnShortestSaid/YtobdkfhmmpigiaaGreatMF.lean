/- spec.l01In: yes and no. -/
import Derived.Test.YtobdkfhmmpigiaaGreatMA
import Derived.Deep.RegionHeld3
namespace Go.Proofs.YtobdkfhmmpigiaaGreat
open Go.RowKit Go.Deep
set_option linter.unusedVariables false

theorem l01In_yes (n lo hi : Int) (w : World) (h : lo ≤ n ∧ n ≤ hi) : Calls Tryz.prog 67 #[.int .i64 n, .int .i64 lo, .int .i64 hi] w fun e w' => e = .returned (.bool true) ∧ w = w' := by
  have h1 := h.1
  have h2 := h.2
  go_enter Tryz.func67, Tryz.ntmps67
  go_wp2
  go_ret
  exact ⟨rfl, rfl⟩
theorem l01In_no (n lo hi : Int) (w : World) (h : ¬ (lo ≤ n ∧ n ≤ hi)) : Calls Tryz.prog 67 #[.int .i64 n, .int .i64 lo, .int .i64 hi] w fun e w' => e = .returned (.bool false) ∧ w = w' := by
  by_cases h1 : lo ≤ n
  · have h2 : hi < n := by omega
    clear h
    have h3 : decide (n ≤ hi) = false := by simp; omega
    go_enter Tryz.func67, Tryz.ntmps67
    go_wp2
    go_ret
    exact ⟨rfl, rfl⟩
  · have h2 : n < lo := by omega
    clear h h1
    go_enter Tryz.func67, Tryz.ntmps67
    go_wp2
    go_ret
    exact ⟨rfl, rfl⟩

end Go.Proofs.YtobdkfhmmpigiaaGreat

/- Networks: what the statements' own helpers do with them, and which are valid. -/
namespace Go.Proofs.YtobdkfhmmpigiaaGreat
open Go.RowKit Go.Deep
set_option linter.unusedVariables false


theorem bcell {W w1 : World} (hb : Below W.heap.size W w1) : (∀ b o, b < W.heap.size → w1.cell? ⟨b, o, none⟩ = W.cell? ⟨b, o, none⟩) ∧ (∀ b o, b < W.heap.size → w1.frozen? ⟨b, o, none⟩ = W.frozen? ⟨b, o, none⟩) :=
  ⟨fun b o h => hb.cell (p := ⟨b, o, none⟩) h, fun b o h => hb.frozen (p := ⟨b, o, none⟩) h⟩





end Go.Proofs.YtobdkfhmmpigiaaGreat

/- Networks: which are valid. -/
namespace Go.Proofs.YtobdkfhmmpigiaaGreat
open Go.RowKit Go.Deep
set_option linter.unusedVariables false

theorem add_one_ (a : Addr) : a.add 1 = ⟨a.block, a.off + 1, none⟩ := by unfold Addr.add; rw [if_neg (by omega)]
theorem below_a {w wr wA : World} (h : Below w.heap.size w wr) {m : Nat} (hA : Below wr.heap.size (wr.drewN m) wA) : Below w.heap.size w wA :=
  h.trans ((below_drewN (Below.refl _ _) m : Below w.heap.size wr (wr.drewN m)).trans (hA.mono h.size))
theorem below_a0 {w wr wA : World} (h : Below w.heap.size w wr) (hA : Below wr.heap.size wr wA) : Below w.heap.size w wA := h.trans (hA.mono h.size)
theorem below_b {w wr wA wB : World} (h : Below w.heap.size w wr) {m k : Nat} (hA : Below wr.heap.size (wr.drewN m) wA) (hB : Below wA.heap.size (wA.drewN k) wB) : Below w.heap.size w wB := below_a (below_a h hA) hB
theorem below_b0 {w wr wA wB : World} (h : Below w.heap.size w wr) {m : Nat} (hA : Below wr.heap.size (wr.drewN m) wA) (hB : Below wA.heap.size wA wB) : Below w.heap.size w wB := below_a0 (below_a h hA) hB
def inW (x z : Int) : Bool := decide (0 ≤ z ∧ z < x)
def pairB (x : Int) (p : List Int) : Bool := decide (p.length = 2) && (inW x (nth p 0) && (inW x (nth p 1) && !(nth p 0 == nth p 1)))
def netTo (x : Int) (zss : List (List Int)) : Nat → Bool
  | 0 => true
  | k + 1 => netTo x zss k && pairB x (row zss k)
def netV (x : Int) (zss : List (List Int)) : Bool := decide (1 ≤ x ∧ x ≤ 8) && (decide (zss.length ≤ 60) && netTo x zss zss.length)
theorem netTo_zero (x : Int) (zss : List (List Int)) : netTo x zss 0 = true := rfl
theorem netTo_on {x : Int} {zss : List (List Int)} {k : Nat} (h1 : netTo x zss k = true) (h2 : pairB x (row zss k) = true) : netTo x zss (k + 1) = true := by rw [netTo, h1, h2]; rfl
theorem netTo_bad {x : Int} {zss : List (List Int)} {k : Nat} (h2 : pairB x (row zss k) = false) : ∀ m, k < m → netTo x zss m = false := by
  intro m
  induction m with
  | zero => intro h; omega
  | succ m ih =>
    intro hm
    by_cases e : k = m
    · subst e; rw [netTo, h2, Bool.and_false]
    · rw [netTo, ih (by omega)]; rfl
theorem netTo_row {x : Int} {zss : List (List Int)} : ∀ n, netTo x zss n = true → ∀ k, k < n → pairB x (row zss k) = true := by
  intro n
  induction n with
  | zero => intro _ k h; omega
  | succ n ih =>
    intro h k hk
    rw [netTo, Bool.and_eq_true] at h
    by_cases e : k = n
    · subst e; exact h.2
    · exact ih h.1 k (by omega)
theorem net_bad {x : Int} {zss : List (List Int)} {n k : Nat} (hl : zss.length = n) (hk : k < n) (h2 : pairB x (row zss k) = false) : netV x zss = false := by rw [netV, hl, netTo_bad h2 n hk]; simp
theorem net_x {x : Int} {zss : List (List Int)} (h : ¬ (1 ≤ x ∧ x ≤ 8)) : netV x zss = false := by rw [netV, decide_eq_false h]; rfl
theorem net_len {x : Int} {zss : List (List Int)} {n : Nat} (hl : zss.length = n) (h : ¬ n ≤ 60) : netV x zss = false := by rw [netV, hl, decide_eq_false h]; simp
theorem net_yes {x : Int} {zss : List (List Int)} {n : Nat} (hl : zss.length = n) (h1 : 1 ≤ x ∧ x ≤ 8) (h2 : n ≤ 60) (h3 : netTo x zss n = true) : netV x zss = true := by rw [netV, hl, decide_eq_true h1, decide_eq_true h2, h3]; rfl
/-- What a valid network gives. -/
theorem net_out {x : Int} {zss : List (List Int)} {n : Nat} (hl : zss.length = n) (h : netV x zss = true) :
    ∃ W : Nat, x = W ∧ 1 ≤ W ∧ W ≤ 8 ∧ n ≤ 60 ∧ ∀ k, k < n → (row zss k).length = 2 ∧ ∃ p q : Nat, nth (row zss k) 0 = p ∧ nth (row zss k) 1 = q ∧ p < W ∧ q < W ∧ p ≠ q := by
  rw [netV, Bool.and_eq_true, Bool.and_eq_true, decide_eq_true_eq, decide_eq_true_eq, hl] at h
  obtain ⟨h1, h2, h3⟩ := h
  obtain ⟨W, rfl⟩ := Int.eq_ofNat_of_zero_le (show 0 ≤ x by omega)
  refine ⟨W, rfl, by omega, by omega, h2, fun k hk => ?_⟩
  have hp := netTo_row n h3 k hk
  simp only [pairB, inW, Bool.and_eq_true, decide_eq_true_eq, Bool.not_eq_true', beq_eq_false_iff_ne] at hp
  obtain ⟨hl2, ⟨a, b⟩, ⟨c, d⟩, e⟩ := hp
  obtain ⟨p, hp⟩ := Int.eq_ofNat_of_zero_le a
  obtain ⟨q, hq⟩ := Int.eq_ofNat_of_zero_le c
  exact ⟨hl2, p, q, hp, hq, by omega, by omega, by intro e2; exact e (by rw [hp, hq, e2])⟩
attribute [irreducible] netTo

theorem implIsWire (x z : Int) (A : Option Addr) (n c : Nat) (w : World) :
    Calls Tryz.prog 48 #[.agg #[.int .i64 x, .slice A n c], .int .i64 z] w fun e w' => e = .returned (.bool (inW x z)) ∧ Below w.heap.size w w' := by
  by_cases h0 : 0 ≤ z
  · by_cases h1 : z < x
    · have H := Lib.hid (show inW x z = true by unfold inW; exact decide_eq_true ⟨h0, h1⟩)
      go_enter Tryz.func48, Tryz.ntmps48
      go_wp2
      go_ret
      exact ⟨ret_bool H.out.symm, below_alloc w _⟩
    · have H := Lib.hid (show inW x z = false by unfold inW; exact decide_eq_false (fun h => h1 h.2))
      go_enter Tryz.func48, Tryz.ntmps48
      go_wp2
      go_ret
      exact ⟨ret_bool H.out.symm, below_alloc w _⟩
  · have H := Lib.hid (show inW x z = false by unfold inW; exact decide_eq_false (fun h => h0 h.1))
    go_enter Tryz.func48, Tryz.ntmps48
    go_wp2
    go_ret
    exact ⟨ret_bool H.out.symm, below_alloc w _⟩

theorem implIsWires_yes (x : Int) (w : World) (h : 1 ≤ x ∧ x ≤ 8) : Calls Tryz.prog 28 #[.int .i64 x] w fun e w' => e = .returned (.bool true) ∧ w = w' := by
  obtain ⟨h1, h2⟩ := h
  go_enter Tryz.func28, Tryz.ntmps28
  go_wp2
  go_ret
  exact ⟨rfl, rfl⟩
theorem implIsWires_no (x : Int) (w : World) (h : ¬ (1 ≤ x ∧ x ≤ 8)) : Calls Tryz.prog 28 #[.int .i64 x] w fun e w' => e = .returned (.bool false) ∧ w = w' := by
  by_cases h1 : 1 ≤ x
  · have h2 : 8 < x := by omega
    have d : decide (x ≤ 8) = false := by simp; omega
    clear h
    go_enter Tryz.func28, Tryz.ntmps28
    go_wp2
    go_ret
    exact ⟨rfl, rfl⟩
  · clear h
    go_enter Tryz.func28, Tryz.ntmps28
    go_wp2
    go_ret
    exact ⟨rfl, rfl⟩


end Go.Proofs.YtobdkfhmmpigiaaGreat
