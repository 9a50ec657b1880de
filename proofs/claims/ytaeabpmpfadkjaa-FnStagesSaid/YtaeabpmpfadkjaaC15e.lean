/- Chapter 15: orders, PathOf, DoMeet. -/
import Derived.Test.YtaeabpmpfadkjaaC15d
import Derived.Test.YtaeabpmpfadkjaaOrd
namespace Go.Proofs.Ytaeabpmpfadkjaa
open Go.RowKit Go.Deep
set_option linter.unusedVariables false
attribute [local go_sem] bits_and_one

def ordV (zs : List Int) : Bool := decide (IsN zs.length) && isOrd zs
theorem ordV_out {zs : List Int} {n : Nat} (h : ordV zs = true) (hl : zs.length = n) : (n = 2 ∨ n = 4 ∨ n = 8) ∧ isOrd zs = true := by
  simp only [ordV, Bool.and_eq_true, decide_eq_true_eq] at h
  rw [hl] at h
  refine ⟨?_, h.2⟩
  have := h.1
  unfold IsN at this
  omega
theorem isN_of {n : Nat} (h : n = 2 ∨ n = 4 ∨ n = 8) : IsN n := by unfold IsN; omega

set_option maxHeartbeats 1000000 in
theorem specOrder (A : Option Addr) (n c : Nat) (zs : List Int) (w : World) (ha : RdI w A n zs) (hn : n ≤ 1048576) :
    Calls Try.prog 53 #[.slice A n c] w fun e w' => e = .returned (.bool (ordV zs)) ∧ Below w.heap.size w w' := by
  have hl := ha.lenI
  by_cases h : IsN n
  · have H := Lib.hid (show ordV zs = isOrd zs by rw [ordV, hl, decide_eq_true h, Bool.true_and])
    clear hl
    go_enter Try.func53, Try.ntmps53
    go_wp2_with (first | (go_at_call 44; refine (specN_yes _ _ h).mono ?_; rintro e w' ⟨rfl, rfl⟩) | (go_at_call 71; refine (specPerm A n c zs _ ha hn).mono ?_; rintro e w2 ⟨rfl, hb2⟩))
    go_ret
    exact ⟨ret_bool H.out.symm, hb2⟩
  · have H := Lib.hid (show ordV zs = false by rw [ordV, hl, decide_eq_false h, Bool.false_and])
    clear hl
    go_enter Try.func53, Try.ntmps53
    go_wp2_with (go_at_call 44; refine (specN_no _ _ h).mono ?_; rintro e w' ⟨rfl, rfl⟩)
    go_ret
    exact ⟨ret_bool H.out.symm, Below.refl _ _⟩
set_option maxHeartbeats 1000000 in
theorem implStaged (A : Option Addr) (n c : Nat) (zs : List Int) (w : World) (ha : RdI w A n zs) (hn : n ≤ 1048576) :
    Calls Try.prog 54 #[.slice A n c] w fun e w' => e = .returned (.bool (ordV zs)) ∧ Below w.heap.size w w' := by
  have hl := ha.lenI
  by_cases h : IsN n
  · have H := Lib.hid (show ordV zs = isOrd zs by rw [ordV, hl, decide_eq_true h, Bool.true_and])
    have hn8 : n = 2 ∨ n = 4 ∨ n = 8 := by unfold IsN at h; omega
    have hsg : 1 ≤ stgN n ∧ stgN n ≤ 3 := by rcases hn8 with rfl | rfl | rfl <;> decide
    have hsg1 := hsg.1
    have HN := Lib.hid hn8
    clear hl hsg hn8
    go_enter Try.func54, Try.ntmps54
    go_wp2_with (first | (go_at_call 46; refine (implStages_yes _ _ HN.out).mono ?_; rintro e w' ⟨rfl, rfl⟩) | (go_at_call 72; refine (implIsOrder A n c zs _ ha hn).mono ?_; rintro e w2 ⟨rfl, hb2⟩))
    go_ret
    exact ⟨ret_bool H.out.symm, hb2⟩
  · have H := Lib.hid (show ordV zs = false by rw [ordV, hl, decide_eq_false h, Bool.false_and])
    clear hl
    go_enter Try.func54, Try.ntmps54
    go_wp2_with (go_at_call 46; refine (implStages_no _ _ h).mono ?_; rintro e w' ⟨rfl, rfl⟩)
    go_ret
    exact ⟨ret_bool H.out.symm, Below.refl _ _⟩

/-- One of the first k places holds the same number in both lists. -/
def meetTo (xs ys : List Int) : Nat → Bool
  | 0 => false
  | k + 1 => meetTo xs ys k || nth xs k == nth ys k
def meetB (xs ys : List Int) : Bool := meetTo xs ys xs.length
theorem meet_hit {xs ys : List Int} {k : Nat} (h : (nth xs k == nth ys k) = true) (hk : k < xs.length) : meetB xs ys = true := by
  have : ∀ m, k < m → meetTo xs ys m = true := by
    intro m
    induction m with
    | zero => intro h; omega
    | succ m ih =>
      intro hm
      rw [meetTo]
      by_cases e : k = m
      · subst e; rw [h, Bool.or_true]
      · rw [ih (by omega), Bool.true_or]
  exact this _ hk
theorem meet_miss {xs ys : List Int} {k : Nat} (h : meetTo xs ys k = false) (h1 : (nth xs k == nth ys k) = false) : meetTo xs ys (k + 1) = false := by rw [meetTo, h, h1]; rfl
theorem meetTo_zero (xs ys : List Int) : meetTo xs ys 0 = false := rfl
attribute [irreducible] meetTo

set_option maxHeartbeats 1000000 in
theorem specMeet (A B : Option Addr) (n c d : Nat) (xs ys : List Int) (w : World) (ha : RdI w A n xs) (hb : RdI w B n ys) (hn : n ≤ 1048576) :
    Calls Try.prog 48 #[.slice A n c, .slice B n d] w fun e w' => e = .returned (.bool (meetB xs ys)) ∧ w = w' := by
  have hl := Lib.hid ha.lenI
  go_enter Try.func48, Try.ntmps48
  go_wp2
  go_loop [9] (fun i => ∃ k : Nat, k ≤ n ∧ i = .int .i64 k ∧ meetTo xs ys k = false) (fun i => n - (intOf i).toNat)
  case atStart => exact ⟨0, Nat.zero_le _, rfl, meetTo_zero _ _⟩
  case round =>
    obtain ⟨k, hk, rfl, hm⟩ := hrel
    have HM := Lib.hid hm
    clear hm
    by_cases hlt : k < n
    · obtain ⟨a1, rfl, _, h1⟩ := ha.at_ hlt
      obtain ⟨a2, rfl, _, h2⟩ := hb.at_ hlt
      cases he : nth xs k == nth ys k with
      | true =>
        have H := Lib.hid (meet_hit he (by rw [hl.out]; exact hlt))
        go_wp2
        go_ret
        exact ⟨ret_bool H.out.symm, rfl⟩
      | false =>
        have H := Lib.hid (meet_miss HM.out he)
        go_wp2
        go_round
        case rel => exact ⟨k + 1, by omega, by go_num, H.out⟩
        case measure => (simp [intOf] <;> omega)
    · have H := Lib.hid (show meetB xs ys = false by rw [meetB, hl.out, show n = k by omega]; exact HM.out)
      go_wp2
      go_ret
      exact ⟨ret_bool H.out.symm, rfl⟩

def pathsMeet (n a b c d : Nat) : Bool := meetB (pathL n a b) (pathL n c d)
theorem pathL_len (n a b : Nat) : (pathL n a b).length = stgN n := by rw [pathL, pathR_len]
theorem stg_le {n : Nat} (h : n = 2 ∨ n = 4 ∨ n = 8) : 1 ≤ stgN n ∧ stgN n ≤ 3 := by rcases h with rfl | rfl | rfl <;> decide

set_option maxHeartbeats 1000000 in
theorem implMeet (n a b c d : Nat) (w : World) (hn : n = 2 ∨ n = 4 ∨ n = 8) (ha : a < n) (hb : b < n) (hc : c < n) (hd : d < n) :
    Calls Try.prog 50 #[.int .i64 n, .int .i64 a, .int .i64 b, .int .i64 c, .int .i64 d] w fun e w' => e = .returned (.bool (pathsMeet n a b c d)) ∧ Below w.heap.size w w' := by
  have HN := Lib.hid hn
  have HS := Lib.hid (stg_le hn)
  clear hn
  go_enter Try.func50, Try.ntmps50
  go_wp2_with fail
  refine (implPath n a b w HN.out ha hb).mono ?_
  rintro e w1 ⟨A1, c1, X1, x1, k1, rfl, ho1, _, hk1, hb1⟩
  have HK1 := Lib.hid hk1
  clear hk1
  go_wp2_with fail
  refine (implPath n c d w1 HN.out hc hd).mono ?_
  rintro e w2 ⟨A2, c2, X2, x2, k2, rfl, ho2, _, hk2, hb2⟩
  obtain rfl : k2 = k1 := by rw [hk2, HK1.out]
  clear hk2
  have hB := hb1.trans (hb2.mono hb1.size)
  have hr1 := ho1.rd.below hb2
  have hr2 := ho2.rd
  have hk3 : k2 ≤ 3 := by rw [HK1.out]; exact HS.out.2
  have hl := Lib.hid (pathL_len n a b)
  clear ho1 ho2 hb1 hb2
  go_wp2_with fail
  go_loopw [32] (fun i wr => ∃ k : Nat, k ≤ k2 ∧ i = .int .i64 k ∧ Below w.heap.size w wr ∧ Below w2.heap.size w2 wr ∧ meetTo (pathL n a b) (pathL n c d) k = false) (fun i _ => k2 - (intOf i).toNat)
  case atStart => exact ⟨0, Nat.zero_le _, rfl, hB, Below.refl _ _, meetTo_zero _ _⟩
  case round =>
    obtain ⟨k, hk, rfl, hbl, hbl2, hm⟩ := hrel
    have HM := Lib.hid hm
    clear hm
    by_cases hlt : k < k2
    · obtain ⟨a1, rfl, _, h1⟩ := (hr1.below hbl2).at_ hlt
      obtain ⟨a2, rfl, _, h2⟩ := (hr2.below hbl2).at_ hlt
      cases he : nth (pathL n a b) k == nth (pathL n c d) k with
      | true =>
        have H := Lib.hid (show pathsMeet n a b c d = true from meet_hit he (by rw [hl.out, ← HK1.out]; exact hlt))
        go_wp2
        go_region
        all_goals
          go_wp2
          go_ret
          exact ⟨ret_bool H.out.symm, hbl.drew⟩
      | false =>
        have H := Lib.hid (meet_miss HM.out he)
        go_wp2
        go_region
        all_goals
          go_wp2
          go_roundw
          case rel => exact ⟨k + 1, by omega, by go_num, hbl.drew, hbl2.drew, H.out⟩
          case measure => (simp [intOf] <;> omega)
    · have H := Lib.hid (show pathsMeet n a b c d = false by rw [pathsMeet, meetB, hl.out, ← HK1.out, show k2 = k by omega]; exact HM.out)
      go_wp2
      go_ret
      exact ⟨ret_bool H.out.symm, hbl⟩

def okPos (n a b : Int) : Prop := IsN n ∧ (0 ≤ a ∧ a < n) ∧ 0 ≤ b ∧ b < n
instance (n a b : Int) : Decidable (okPos n a b) := by unfold okPos; infer_instance
def pathV (n a b : Int) : List Int := if okPos n a b then pathL n.toNat a.toNat b.toNat else []
theorem pathV_no {n a b : Int} (h : ¬ okPos n a b) : pathV n a b = [] := if_neg h
theorem okPos_nat {n a b : Int} (h : okPos n a b) : ∃ m i k : Nat, n = m ∧ a = i ∧ b = k ∧ (m = 2 ∨ m = 4 ∨ m = 8) ∧ i < m ∧ k < m := by
  obtain ⟨h1, ⟨h2, h3⟩, h4, h5⟩ := h
  obtain ⟨m, rfl, hm⟩ := isN_nat h1
  obtain ⟨i, rfl⟩ := Int.eq_ofNat_of_zero_le h2
  obtain ⟨k, rfl⟩ := Int.eq_ofNat_of_zero_le h4
  exact ⟨m, i, k, rfl, rfl, rfl, hm, by omega, by omega⟩

set_option maxHeartbeats 2000000 in
theorem specPathOf (n a b : Int) (w : World) :
    Calls Try.prog 24 #[.int .i64 n, .int .i64 a, .int .i64 b] w fun e w' => ∃ A' n' c', e = .returned (.slice A' n' c') ∧ OwnI w' w.heap.size 3 A' n' c' (pathV n a b) ∧ Below w.heap.size w w' := by
  by_cases h : IsN n
  · obtain ⟨m, rfl, hm⟩ := isN_nat h
    have hm8 : m ≤ 8 := by omega
    have hm2 : 2 ≤ m := by omega
    by_cases h1 : 0 ≤ a ∧ a ≤ (m : Int) - 1
    · by_cases h2 : 0 ≤ b ∧ b ≤ (m : Int) - 1
      · obtain ⟨i, rfl⟩ := Int.eq_ofNat_of_zero_le h1.1
        obtain ⟨k, rfl⟩ := Int.eq_ofNat_of_zero_le h2.1
        have HV := Lib.hid (show pathV (m : Int) (i : Int) (k : Int) = pathL m i k by rw [pathV, if_pos ⟨h, ⟨by omega, by omega⟩, by omega, by omega⟩]; simp only [Int.toNat_natCast])
        have CC := Lib.hid (specPath m i k w hm (by omega) (by omega))
        clear hm
        go_enter Try.func24, Try.ntmps24
        go_wp2_with (first | (go_at_call 44; refine (specN_yes _ _ h).mono ?_; rintro e w' ⟨rfl, rfl⟩) | (go_at_call 47; refine (l01In_yes _ _ _ _ (by omega)).mono ?_; rintro e w' ⟨rfl, rfl⟩) | (go_at_call 51; refine CC.out.mono ?_; rintro e w2 ⟨A2, n2, c2, rfl, ho2, hb2⟩))
        go_ret
        exact ⟨_, _, _, rfl, by rw [HV.out]; exact ho2, hb2⟩
      · have HV := Lib.hid (show pathV (m : Int) a b = [] from if_neg (fun x => h2 ⟨x.2.2.1, by have := x.2.2.2; omega⟩))
        clear hm
        have hno : ¬ (0 ≤ b ∧ b ≤ (m : Int) - 1) := h2
        obtain ⟨i, rfl⟩ := Int.eq_ofNat_of_zero_le h1.1
        have C1 := Lib.hid (l01In_yes (i : Int) 0 ((m : Int) - 1) w h1)
        have C2 := Lib.hid (l01In_no b 0 ((m : Int) - 1) w h2)
        clear h1 h2 hno
        go_enter Try.func24, Try.ntmps24
        go_wp2_with (go_at_call 44; refine (specN_yes _ _ h).mono ?_; rintro e w' ⟨rfl, rfl⟩)
        refine C1.out.mono ?_
        rintro e w' ⟨rfl, rfl⟩
        go_wp2_with fail
        refine C2.out.mono ?_
        rintro e w' ⟨rfl, rfl⟩
        go_wp2_with fail
        go_ret
        exact ⟨_, _, _, rfl, by rw [HV.out]; exact Own.nil_ _ _ _, Below.refl _ _⟩
    · have HV := Lib.hid (show pathV (m : Int) a b = [] from if_neg (fun x => h1 ⟨x.2.1.1, by have := x.2.1.2; omega⟩))
      have C1 := Lib.hid (l01In_no a 0 ((m : Int) - 1) w h1)
      clear hm h1
      go_enter Try.func24, Try.ntmps24
      go_wp2_with (go_at_call 44; refine (specN_yes _ _ h).mono ?_; rintro e w' ⟨rfl, rfl⟩)
      refine C1.out.mono ?_
      rintro e w' ⟨rfl, rfl⟩
      go_wp2_with fail
      go_ret
      exact ⟨_, _, _, rfl, by rw [HV.out]; exact Own.nil_ _ _ _, Below.refl _ _⟩
  · have HV := Lib.hid (pathV_no (a := a) (b := b) (fun x => h x.1))
    go_enter Try.func24, Try.ntmps24
    go_wp2_with (go_at_call 44; refine (specN_no _ _ h).mono ?_; rintro e w' ⟨rfl, rfl⟩)
    go_ret
    exact ⟨_, _, _, rfl, by rw [HV.out]; exact Own.nil_ _ _ _, Below.refl _ _⟩

set_option maxHeartbeats 2000000 in
theorem implPositions (n a b : Int) (w : World) :
    Calls Try.prog 49 #[.int .i64 n, .int .i64 a, .int .i64 b] w fun e w' => e = .returned (.bool (decide (okPos n a b))) ∧ w = w' := by
  by_cases h : IsN n
  · obtain ⟨m, rfl, hm⟩ := isN_nat h
    have hsg := (stg_le hm).1
    have HM := Lib.hid hm
    have H := Lib.hid (show decide (okPos (m : Int) a b) = (decide (0 ≤ a) && decide (a < m) && (decide (0 ≤ b) && decide (b < m))) by
      unfold okPos
      simp only [h, true_and, Bool.decide_and])
    clear hm h
    by_cases h1 : 0 ≤ a <;> by_cases h2 : a < m <;> by_cases h3 : 0 ≤ b <;> by_cases h4 : b < m
    all_goals
      have d1 : decide (0 ≤ a) = decide (0 ≤ a) := rfl
      go_enter Try.func49, Try.ntmps49
      go_wp2_with (go_at_call 46; refine (implStages_yes _ _ HM.out).mono ?_; rintro e w' ⟨rfl, rfl⟩)
      all_goals go_ret
      all_goals exact ⟨ret_bool (by rw [H.out]; simp [h1, h2, h3, h4]), rfl⟩
  · have H := Lib.hid (show decide (okPos n a b) = false from decide_eq_false (fun x => h x.1))
    go_enter Try.func49, Try.ntmps49
    go_wp2_with (go_at_call 46; refine (implStages_no _ _ h).mono ?_; rintro e w' ⟨rfl, rfl⟩)
    go_ret
    exact ⟨ret_bool H.out.symm, rfl⟩

set_option maxHeartbeats 1000000 in
theorem implPathOf (n a b : Int) (w : World) :
    Calls Try.prog 25 #[.int .i64 n, .int .i64 a, .int .i64 b] w fun e w' => ∃ A' n' c', e = .returned (.slice A' n' c') ∧ OwnI w' w.heap.size 3 A' n' c' (pathV n a b) ∧ Below w.heap.size w w' := by
  have C := implPositions n a b w
  by_cases h : okPos n a b
  · obtain ⟨m, i, k, rfl, rfl, rfl, hm, hi, hk⟩ := okPos_nat h
    have HV := Lib.hid (show pathV (m : Int) (i : Int) (k : Int) = pathL m i k by rw [pathV, if_pos h]; simp only [Int.toNat_natCast])
    have C2 := Lib.hid (implPath m i k w hm hi hk)
    rw [decide_eq_true h] at C
    have CC := Lib.hid C
    clear C h hm
    go_enter Try.func25, Try.ntmps25
    go_wp2_with fail
    refine CC.out.mono ?_
    rintro e w' ⟨rfl, rfl⟩
    go_wp2_with fail
    refine C2.out.mono ?_
    rintro e w2 ⟨A1, c1, A2, c2, k2, rfl, ho1, _, rfl, hb2⟩
    go_wp2_with fail
    go_ret
    exact ⟨_, _, _, rfl, by rw [HV.out]; exact ho1, hb2⟩
  · have HV := Lib.hid (pathV_no h)
    rw [decide_eq_false h] at C
    have CC := Lib.hid C
    clear C h
    go_enter Try.func25, Try.ntmps25
    go_wp2_with fail
    refine CC.out.mono ?_
    rintro e w' ⟨rfl, rfl⟩
    go_wp2_with fail
    go_ret
    exact ⟨_, _, _, rfl, by rw [HV.out]; exact Own.nil_ _ _ _, Below.refl _ _⟩

theorem pathV_len (n a b : Int) : (pathV n a b).length ≤ 1048576 := by
  unfold pathV
  split
  · rename_i h
    obtain ⟨m, i, k, rfl, rfl, rfl, hm, hi, hk⟩ := okPos_nat h
    rw [pathL_len, Int.toNat_natCast]
    have := (stg_le hm).2
    omega
  · simp

end Go.Proofs.Ytaeabpmpfadkjaa
