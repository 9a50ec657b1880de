/- Networks: which are valid. -/
import Derived.Test.YtcijnmooifcicaaNet
namespace Go.Proofs.Ytcijnmooifcicaa
open Go.RowKit Go.Deep
set_option linter.unusedVariables false

theorem add_one_ (a : Addr) : a.add 1 = ⟨a.block, a.off + 1, none⟩ := by unfold Addr.add; rw [if_neg (by omega)]
theorem below_a {w wr wA : World} (h : Below w.heap.size w wr) {m : Nat} (hA : Below wr.heap.size (wr.drewN m) wA) : Below w.heap.size w wA :=
  h.trans ((below_drewN (Below.refl _ _) m : Below w.heap.size wr (wr.drewN m)).trans (hA.mono h.size))
theorem below_a0 {w wr wA : World} (h : Below w.heap.size w wr) (hA : Below wr.heap.size wr wA) : Below w.heap.size w wA := h.trans (hA.mono h.size)
theorem below_b {w wr wA wB : World} (h : Below w.heap.size w wr) {m k : Nat} (hA : Below wr.heap.size (wr.drewN m) wA) (hB : Below wA.heap.size (wA.drewN k) wB) : Below w.heap.size w wB := below_a (below_a h hA) hB
theorem below_b0 {w wr wA wB : World} (h : Below w.heap.size w wr) {m : Nat} (hA : Below wr.heap.size (wr.drewN m) wA) (hB : Below wA.heap.size wA wB) : Below w.heap.size w wB := below_a0 (below_a h hA) hB
def inW (x z : Int) : Bool := decide (0 ≤ z ∧ z < x)
def pairB (x : Int) (p : List Int) : Bool := decide (p.length = 2) && (inW x (nth p 0) && (inW x (nth p 1) && !(nth p 0 == nth p 1)))
def netTo (x : Int) (zss : List (List Int)) : Nat → Bool
  | 0 => true
  | k + 1 => netTo x zss k && pairB x (row zss k)
def netV (x : Int) (zss : List (List Int)) : Bool := decide (1 ≤ x ∧ x ≤ 8) && (decide (zss.length ≤ 60) && netTo x zss zss.length)
theorem netTo_zero (x : Int) (zss : List (List Int)) : netTo x zss 0 = true := rfl
theorem netTo_on {x : Int} {zss : List (List Int)} {k : Nat} (h1 : netTo x zss k = true) (h2 : pairB x (row zss k) = true) : netTo x zss (k + 1) = true := by rw [netTo, h1, h2]; rfl
theorem netTo_bad {x : Int} {zss : List (List Int)} {k : Nat} (h2 : pairB x (row zss k) = false) : ∀ m, k < m → netTo x zss m = false := by
  intro m
  induction m with
  | zero => intro h; omega
  | succ m ih =>
    intro hm
    by_cases e : k = m
    · subst e; rw [netTo, h2, Bool.and_false]
    · rw [netTo, ih (by omega)]; rfl
theorem netTo_row {x : Int} {zss : List (List Int)} : ∀ n, netTo x zss n = true → ∀ k, k < n → pairB x (row zss k) = true := by
  intro n
  induction n with
  | zero => intro _ k h; omega
  | succ n ih =>
    intro h k hk
    rw [netTo, Bool.and_eq_true] at h
    by_cases e : k = n
    · subst e; exact h.2
    · exact ih h.1 k (by omega)
theorem net_bad {x : Int} {zss : List (List Int)} {n k : Nat} (hl : zss.length = n) (hk : k < n) (h2 : pairB x (row zss k) = false) : netV x zss = false := by rw [netV, hl, netTo_bad h2 n hk]; simp
theorem net_x {x : Int} {zss : List (List Int)} (h : ¬ (1 ≤ x ∧ x ≤ 8)) : netV x zss = false := by rw [netV, decide_eq_false h]; rfl
theorem net_len {x : Int} {zss : List (List Int)} {n : Nat} (hl : zss.length = n) (h : ¬ n ≤ 60) : netV x zss = false := by rw [netV, hl, decide_eq_false h]; simp
theorem net_yes {x : Int} {zss : List (List Int)} {n : Nat} (hl : zss.length = n) (h1 : 1 ≤ x ∧ x ≤ 8) (h2 : n ≤ 60) (h3 : netTo x zss n = true) : netV x zss = true := by rw [netV, hl, decide_eq_true h1, decide_eq_true h2, h3]; rfl
/-- What a valid network gives. -/
theorem net_out {x : Int} {zss : List (List Int)} {n : Nat} (hl : zss.length = n) (h : netV x zss = true) :
    ∃ W : Nat, x = W ∧ 1 ≤ W ∧ W ≤ 8 ∧ n ≤ 60 ∧ ∀ k, k < n → (row zss k).length = 2 ∧ ∃ p q : Nat, nth (row zss k) 0 = p ∧ nth (row zss k) 1 = q ∧ p < W ∧ q < W ∧ p ≠ q := by
  rw [netV, Bool.and_eq_true, Bool.and_eq_true, decide_eq_true_eq, decide_eq_true_eq, hl] at h
  obtain ⟨h1, h2, h3⟩ := h
  obtain ⟨W, rfl⟩ := Int.eq_ofNat_of_zero_le (show 0 ≤ x by omega)
  refine ⟨W, rfl, by omega, by omega, h2, fun k hk => ?_⟩
  have hp := netTo_row n h3 k hk
  simp only [pairB, inW, Bool.and_eq_true, decide_eq_true_eq, Bool.not_eq_true', beq_eq_false_iff_ne] at hp
  obtain ⟨hl2, ⟨a, b⟩, ⟨c, d⟩, e⟩ := hp
  obtain ⟨p, hp⟩ := Int.eq_ofNat_of_zero_le a
  obtain ⟨q, hq⟩ := Int.eq_ofNat_of_zero_le c
  exact ⟨hl2, p, q, hp, hq, by omega, by omega, by intro e2; exact e (by rw [hp, hq, e2])⟩
attribute [irreducible] netTo

theorem implIsWire (x z : Int) (A : Option Addr) (n c : Nat) (w : World) :
    Calls Try.prog 56 #[.agg #[.int .i64 x, .slice A n c], .int .i64 z] w fun e w' => e = .returned (.bool (inW x z)) ∧ Below w.heap.size w w' := by
  by_cases h0 : 0 ≤ z
  · by_cases h1 : z < x
    · have H := Lib.hid (show inW x z = true by unfold inW; exact decide_eq_true ⟨h0, h1⟩)
      go_enter Try.func56, Try.ntmps56
      go_wp2
      go_ret
      exact ⟨ret_bool H.out.symm, below_alloc w _⟩
    · have H := Lib.hid (show inW x z = false by unfold inW; exact decide_eq_false (fun h => h1 h.2))
      go_enter Try.func56, Try.ntmps56
      go_wp2
      go_ret
      exact ⟨ret_bool H.out.symm, below_alloc w _⟩
  · have H := Lib.hid (show inW x z = false by unfold inW; exact decide_eq_false (fun h => h0 h.1))
    go_enter Try.func56, Try.ntmps56
    go_wp2
    go_ret
    exact ⟨ret_bool H.out.symm, below_alloc w _⟩

theorem implIsWires_yes (x : Int) (w : World) (h : 1 ≤ x ∧ x ≤ 8) : Calls Try.prog 48 #[.int .i64 x] w fun e w' => e = .returned (.bool true) ∧ w = w' := by
  obtain ⟨h1, h2⟩ := h
  go_enter Try.func48, Try.ntmps48
  go_wp2
  go_ret
  exact ⟨rfl, rfl⟩
theorem implIsWires_no (x : Int) (w : World) (h : ¬ (1 ≤ x ∧ x ≤ 8)) : Calls Try.prog 48 #[.int .i64 x] w fun e w' => e = .returned (.bool false) ∧ w = w' := by
  by_cases h1 : 1 ≤ x
  · have h2 : 8 < x := by omega
    have d : decide (x ≤ 8) = false := by simp; omega
    clear h
    go_enter Try.func48, Try.ntmps48
    go_wp2
    go_ret
    exact ⟨rfl, rfl⟩
  · clear h
    go_enter Try.func48, Try.ntmps48
    go_wp2
    go_ret
    exact ⟨rfl, rfl⟩

set_option maxHeartbeats 4000000 in
theorem specNetOk (x : Int) (A : Option Addr) (n c : Nat) (zss : List (List Int)) (w : World) (ha : RdM w A n zss) (hn : n ≤ 1048576) :
    Calls Try.prog 52 #[.agg #[.int .i64 x, .slice A n c]] w fun e w' => e = .returned (.bool (netV x zss)) ∧ Below w.heap.size w w' := by
  have hl := ha.1
  by_cases hx : 1 ≤ x ∧ x ≤ 8
  · have C1 := Lib.hid (fun w' => l01In_yes x 1 8 w' hx)
    by_cases h60 : n ≤ 60
    · have HL := Lib.hid hl
      have HX := Lib.hid hx
      obtain ⟨hx1, hx8⟩ := hx
      have HA := Lib.hid ha
      clear hl ha
      go_enter Try.func52, Try.ntmps52
      go_wp2_with fail
      refine (C1.out _).mono ?_
      rintro e w' ⟨rfl, rfl⟩
      go_wp2_with fail
      go_loopw [18] (fun i wr => ∃ k : Nat, k ≤ n ∧ i = .int .i64 k ∧ Hid (netTo x zss k = true) ∧ Hid (wr.cell? ⟨w.heap.size, 0, none⟩ = some (.int .i64 x) ∧ wr.cell? ⟨w.heap.size, 1, none⟩ = some (.slice A n c)) ∧ w.heap.size + 1 ≤ wr.heap.size ∧ Below w.heap.size w wr) (fun i _ => n - (intOf i).toNat)
      case atStart => exact ⟨0, Nat.zero_le _, rfl, Lib.hid (netTo_zero _ _), Lib.hid ⟨by simp, by simp⟩, by simp, below_alloc w _⟩
      case round =>
        obtain ⟨k, hk, rfl, HK, HCC, hsz, hbl⟩ := hrel
        obtain ⟨hc0, hc1⟩ := HCC.out
        by_cases hlt : k < n
        · obtain ⟨a1, B, m, d, rfl, _, h1, hB, hmd, hd⟩ := (HA.out.below hbl).2 k hlt
          unfold maxLen at hd
          have HM := Lib.hid hB.lenI
          by_cases hm2 : m = 2
          · subst hm2
            obtain ⟨b, rfl, lb, p0⟩ := hB.at_ (show 0 < 2 by omega)
            obtain ⟨b', hb', _, p1⟩ := hB.at_ (show 1 < 2 by omega)
            injection hb' with hb'
            subst hb'
            replace p0 : wr.cell? b = some (.int .i64 (nth (row zss k) 0)) := p0
            replace p1 : wr.cell? ⟨b.block, b.off + 1, none⟩ = some (.int .i64 (nth (row zss k) 1)) := by rw [← add_one_]; exact p1
            obtain ⟨y0, hy0⟩ : ∃ y, nth (row zss k) 0 = y := ⟨_, rfl⟩
            obtain ⟨y1, hy1⟩ : ∃ y, nth (row zss k) 1 = y := ⟨_, rfl⟩
            rw [hy0] at p0
            rw [hy1] at p1
            have HP := Lib.hid (show pairB x (row zss k) = (inW x y0 && (inW x y1 && !(y0 == y1))) by rw [pairB, HM.out, hy0, hy1]; rfl)
            clear hy0 hy1 hB
            have ex : IntKind.i64.wrap (x - 1) = x - 1 := IntWalk.i64_in _ (by omega)
            have EX := Lib.hid ex
            clear ex
            have DD := Lib.hid (fun (y : Int) (w' : World) => (l01In_any y 0 (x - 1) w').mono (fun _ _ (h : _ ∧ _) => (⟨h.1, h.2.symm⟩ : _ ∧ _)))
            by_cases h0 : 0 ≤ y0 ∧ y0 ≤ x - 1
            · have d1 : decide (0 ≤ y0 ∧ y0 ≤ x - 1) = true := by simp; omega
              by_cases h1' : 0 ≤ y1 ∧ y1 ≤ x - 1
              · have d2 : decide (0 ≤ y1 ∧ y1 ≤ x - 1) = true := by simp; omega
                have HQ := Lib.hid (show pairB x (row zss k) = !(y0 == y1) by rw [HP.out, inW, inW, decide_eq_true (by omega), decide_eq_true (by omega)]; rfl)
                clear h0 h1'
                cases h01 : y0 == y1 with
                | true =>
                  have H := Lib.hid (net_bad HL.out hlt (show pairB x (row zss k) = false by rw [HQ.out, h01]; rfl))
                  have ex := EX.out
                  go_wp2_with fail
                  go_quiet ((go_at_call 47; exact Calls.quiet_of_same (DD.out _ _)))
                  clear ex
                  go_wp2
                  go_ret
                  exact ⟨ret_bool H.out.symm, below_drewN hbl _⟩
                | false =>
                  have H := Lib.hid (netTo_on HK.out (show pairB x (row zss k) = true by rw [HQ.out, h01]; rfl))
                  have ex := EX.out
                  go_wp2_with fail
                  go_quiet ((go_at_call 47; exact Calls.quiet_of_same (DD.out _ _)))
                  clear ex
                  go_wp2
                  go_roundw
                  case rel => exact ⟨k + 1, by omega, by go_num, H, Lib.hid ⟨by simpa using hc0, by simpa using hc1⟩, by simpa using hsz, below_drewN hbl _⟩
                  case measure => (simp [intOf] <;> omega)
              · have d2 : decide (0 ≤ y1 ∧ y1 ≤ x - 1) = false := by simp; omega
                have H := Lib.hid (net_bad HL.out hlt (show pairB x (row zss k) = false by rw [HP.out, show inW x y1 = false from decide_eq_false (by omega)]; simp))
                clear h0 h1'
                have ex := EX.out
                go_wp2_with fail
                go_quiet ((go_at_call 47; exact Calls.quiet_of_same (DD.out _ _)))
                clear ex
                go_wp2
                go_ret
                exact ⟨ret_bool H.out.symm, below_drewN hbl _⟩
            · have d1 : decide (0 ≤ y0 ∧ y0 ≤ x - 1) = false := by simp; omega
              have H := Lib.hid (net_bad HL.out hlt (show pairB x (row zss k) = false by rw [HP.out, show inW x y0 = false from decide_eq_false (by omega)]; simp))
              clear h0
              have ex := EX.out
              go_wp2_with fail
              go_quiet ((go_at_call 47; exact Calls.quiet_of_same (DD.out _ _)))
              clear ex
              go_wp2
              go_ret
              exact ⟨ret_bool H.out.symm, below_drewN hbl _⟩
          · have H := Lib.hid (net_bad HL.out hlt (show pairB x (row zss k) = false by rw [pairB, HM.out, decide_eq_false hm2]; rfl))
            have e2 : ((m : Int) != 2) = true := by simp; omega
            clear hm2
            go_wp2_with fail
            go_quiet (fail)
            go_wp2
            go_ret
            exact ⟨ret_bool H.out.symm, below_drewN hbl _⟩
        · obtain rfl : k = n := by omega
          have H := Lib.hid (net_yes HL.out HX.out h60 HK.out)
          go_wp2_with fail
          go_ret
          exact ⟨ret_bool H.out.symm, hbl⟩
    · have H := Lib.hid (net_len (x := x) hl h60)
      have h61 : 60 < n := by omega
      clear hl h60 hx
      go_enter Try.func52, Try.ntmps52
      go_wp2_with fail
      refine (C1.out _).mono ?_
      rintro e w' ⟨rfl, rfl⟩
      go_wp2_with fail
      go_ret
      exact ⟨ret_bool H.out.symm, below_alloc w _⟩
  · have H := Lib.hid (net_x (zss := zss) hx)
    have C1 := Lib.hid (fun w' => l01In_no x 1 8 w' hx)
    clear hl hx
    go_enter Try.func52, Try.ntmps52
    go_wp2_with fail
    refine (C1.out _).mono ?_
    rintro e w' ⟨rfl, rfl⟩
    go_wp2_with fail
    go_ret
    exact ⟨ret_bool H.out.symm, below_alloc w _⟩

end Go.Proofs.Ytcijnmooifcicaa
