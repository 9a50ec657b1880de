/- Chapter 18 (gaps): IsGapSorted and GapMoves of the reference and of the program. -/
import Derived.Test.YtojlcpfnkpfgnaaIn
namespace Go.Proofs.Ytojlcpfnkpfgnaa
open Go.RowKit Go.Deep
set_option linter.unusedVariables false

def gapOk (zs : List Int) (h : Int) : Bool := decide (zs.length ≤ 16) && decide (1 ≤ h ∧ h ≤ 16)
theorem gapOk_out {zs : List Int} {h : Int} {n : Nat} (hg : gapOk zs h = true) (hl : zs.length = n) : n ≤ 16 ∧ ∃ m : Nat, h = m ∧ 1 ≤ m ∧ m ≤ 16 := by
  simp only [gapOk, Bool.and_eq_true, decide_eq_true_eq] at hg
  obtain ⟨h1, h2, h3⟩ := hg
  obtain ⟨m, rfl⟩ := Int.eq_ofNat_of_zero_le (show 0 ≤ h by omega)
  exact ⟨by omega, m, rfl, by omega, by omega⟩

set_option maxHeartbeats 1000000 in
theorem specGap (A : Option Addr) (n c : Nat) (zs : List Int) (h : Int) (w : World) (ha : RdI w A n zs) (hn : n ≤ 1048576) :
    Calls Try.prog 28 #[.slice A n c, .int .i64 h] w fun e w' => e = .returned (.bool (gapOk zs h)) ∧ w = w' := by
  have hl := ha.lenI
  by_cases h1 : n ≤ 16
  · by_cases h2 : 1 ≤ h ∧ h ≤ 16
    · have H := Lib.hid (show gapOk zs h = true by rw [gapOk, hl, decide_eq_true h1, decide_eq_true h2]; rfl)
      clear hl
      go_enter Try.func28, Try.ntmps28
      go_wp2_with (go_at_call 30; refine (l01In_yes _ _ _ _ h2).mono ?_; rintro e w' ⟨rfl, rfl⟩)
      go_ret
      exact ⟨ret_bool H.out.symm, rfl⟩
    · have H := Lib.hid (show gapOk zs h = false by rw [gapOk, decide_eq_false h2, Bool.and_false])
      clear hl
      go_enter Try.func28, Try.ntmps28
      go_wp2_with (go_at_call 30; refine (l01In_no _ _ _ _ h2).mono ?_; rintro e w' ⟨rfl, rfl⟩)
      go_ret
      exact ⟨ret_bool H.out.symm, rfl⟩
  · have H := Lib.hid (show gapOk zs h = false by rw [gapOk, hl, decide_eq_false h1, Bool.false_and])
    clear hl
    go_enter Try.func28, Try.ntmps28
    go_wp2
    go_ret
    exact ⟨ret_bool H.out.symm, rfl⟩
set_option maxHeartbeats 1000000 in
theorem implGap (A : Option Addr) (n c : Nat) (zs : List Int) (h : Int) (w : World) (ha : RdI w A n zs) (hn : n ≤ 1048576) :
    Calls Try.prog 29 #[.slice A n c, .int .i64 h] w fun e w' => e = .returned (.bool (gapOk zs h)) ∧ w = w' := by
  have hl := ha.lenI
  have H := Lib.hid (show gapOk zs h = (decide (n ≤ 16) && (decide (1 ≤ h) && decide (h ≤ 16))) by rw [gapOk, hl, Bool.decide_and])
  clear hl
  by_cases h1 : n ≤ 16 <;> by_cases h2 : 1 ≤ h <;> by_cases h3 : h ≤ 16
  all_goals
    go_enter Try.func29, Try.ntmps29
    go_wp2
    all_goals go_ret
    all_goals exact ⟨ret_bool (by rw [H.out]; simp [h1, h2, h3]), rfl⟩

/-- The first k pairs at distance h stand in order. -/
def gapTo (zs : List Int) (h : Nat) : Nat → Bool
  | 0 => true
  | k + 1 => gapTo zs h k && decide (nth zs k ≤ nth zs (k + h))
def gapV (zs : List Int) (h : Int) : Bool := gapOk zs h && gapTo zs h.toNat (zs.length - h.toNat)
theorem gap_zero (zs : List Int) (h : Nat) : gapTo zs h 0 = true := rfl
theorem gap_succ {zs : List Int} {h k : Nat} (h1 : gapTo zs h k = true) (h2 : nth zs k ≤ nth zs (k + h)) : gapTo zs h (k + 1) = true := by rw [gapTo, h1, decide_eq_true h2]; rfl
theorem gap_bad {zs : List Int} {h k : Nat} (h2 : nth zs (k + h) < nth zs k) : ∀ m, k < m → gapTo zs h m = false := by
  intro m
  induction m with
  | zero => intro h; omega
  | succ m ih =>
    intro hm
    by_cases e : k = m
    · subst e; rw [gapTo, decide_eq_false (by omega), Bool.and_false]
    · rw [gapTo, ih (by omega)]; rfl
attribute [irreducible] gapTo

set_option maxHeartbeats 1000000 in
theorem specIsGap (A : Option Addr) (n c : Nat) (zs : List Int) (h : Int) (w : World) (ha : RdI w A n zs) (hn : n ≤ 1048576) :
    Calls Try.prog 9 #[.slice A n c, .int .i64 h] w fun e w' => e = .returned (.bool (gapV zs h)) ∧ Below w.heap.size w w' := by
  have C := specGap A n c zs h w ha hn
  cases hg : gapOk zs h with
  | false =>
    have H := Lib.hid (show gapV zs h = false by rw [gapV, hg]; rfl)
    rw [hg] at C
    have CC := Lib.hid C
    clear C hg
    go_enter Try.func9, Try.ntmps9
    go_wp2_with fail
    refine CC.out.mono ?_
    rintro e w' ⟨rfl, rfl⟩
    go_wp2_with fail
    go_ret
    exact ⟨ret_bool H.out.symm, Below.refl _ _⟩
  | true =>
    obtain ⟨hn16, m, rfl, hm1, hm16⟩ := gapOk_out hg ha.lenI
    have H := Lib.hid (show gapV zs (m : Int) = gapTo zs m (n - m) by rw [gapV, hg, Bool.true_and, Int.toNat_natCast, ha.lenI])
    rw [hg] at C
    have CC := Lib.hid C
    clear C hg
    go_enter Try.func9, Try.ntmps9
    go_wp2_with fail
    refine CC.out.mono ?_
    rintro e w' ⟨rfl, rfl⟩
    go_wp2_with fail
    go_loopw [5] (fun i wr => ∃ k : Nat, k ≤ n - m ∧ i = .int .i64 k ∧ Below w.heap.size w wr ∧ gapTo zs m k = true) (fun i _ => n - (intOf i).toNat)
    case atStart => exact ⟨0, Nat.zero_le _, rfl, Below.refl _ _, gap_zero _ _⟩
    case round =>
      obtain ⟨k, hk, rfl, hbl, hgt⟩ := hrel
      have HG := Lib.hid hgt
      clear hgt
      by_cases hlt : k + m < n
      · obtain ⟨a1, hA1, _, h1⟩ := (ha.below hbl).at_ (show k < n by omega)
        obtain ⟨a2, hA2, _, h2⟩ := (ha.below hbl).at_ hlt
        subst hA1
        injection hA2 with hA2
        subst hA2
        by_cases hle : nth zs k ≤ nth zs (k + m)
        · have H2 := Lib.hid (gap_succ HG.out hle)
          go_wp2
          go_region
          all_goals
            go_wp2
            go_roundw
            case rel => exact ⟨k + 1, by omega, by go_num, hbl.drew, H2.out⟩
            case measure => (simp [intOf] <;> omega)
        · have H2 := Lib.hid (gap_bad (zs := zs) (h := m) (k := k) (by omega) (n - m) (by omega))
          have hgt : nth zs (k + m) < nth zs k := by omega
          clear hle
          go_wp2
          go_region
          all_goals
            go_wp2
            go_ret
            exact ⟨ret_bool (by rw [H.out, H2.out]), hbl.drew⟩
      · have H2 := Lib.hid (show gapTo zs m (n - m) = true by rw [show n - m = k by omega]; exact HG.out)
        go_wp2
        go_ret
        exact ⟨ret_bool (by rw [H.out, H2.out]), hbl⟩

set_option maxHeartbeats 1000000 in
theorem implIsGap (A : Option Addr) (n c : Nat) (zs : List Int) (h : Int) (w : World) (ha : RdI w A n zs) (hn : n ≤ 1048576) :
    Calls Try.prog 11 #[.slice A n c, .int .i64 h] w fun e w' => e = .returned (.bool (gapV zs h)) ∧ Below w.heap.size w w' := by
  have C := implGap A n c zs h w ha hn
  cases hg : gapOk zs h with
  | false =>
    have H := Lib.hid (show gapV zs h = false by rw [gapV, hg]; rfl)
    rw [hg] at C
    have CC := Lib.hid C
    clear C hg
    go_enter Try.func11, Try.ntmps11
    go_wp2_with fail
    refine CC.out.mono ?_
    rintro e w' ⟨rfl, rfl⟩
    go_wp2_with fail
    go_ret
    exact ⟨ret_bool H.out.symm, Below.refl _ _⟩
  | true =>
    obtain ⟨hn16, m, rfl, hm1, hm16⟩ := gapOk_out hg ha.lenI
    have H := Lib.hid (show gapV zs (m : Int) = gapTo zs m (n - m) by rw [gapV, hg, Bool.true_and, Int.toNat_natCast, ha.lenI])
    rw [hg] at C
    have CC := Lib.hid C
    clear C hg
    go_enter Try.func11, Try.ntmps11
    go_wp2_with fail
    refine CC.out.mono ?_
    rintro e w' ⟨rfl, rfl⟩
    go_wp2_with fail
    go_loopw [5] (fun i wr => ∃ k : Nat, k ≤ n - m ∧ i = .int .i64 k ∧ Below w.heap.size w wr ∧ gapTo zs m k = true) (fun i _ => n - (intOf i).toNat)
    case atStart => exact ⟨0, Nat.zero_le _, rfl, Below.refl _ _, gap_zero _ _⟩
    case round =>
      obtain ⟨k, hk, rfl, hbl, hgt⟩ := hrel
      have HG := Lib.hid hgt
      clear hgt
      by_cases hlt : k + m < n
      · obtain ⟨a1, hA1, _, h1⟩ := (ha.below hbl).at_ (show k < n by omega)
        obtain ⟨a2, hA2, _, h2⟩ := (ha.below hbl).at_ hlt
        subst hA1
        injection hA2 with hA2
        subst hA2
        by_cases hle : nth zs k ≤ nth zs (k + m)
        · have H2 := Lib.hid (gap_succ HG.out hle)
          go_wp2
          go_region
          all_goals
            go_wp2
            go_roundw
            case rel => exact ⟨k + 1, by omega, by go_num, hbl.drew, H2.out⟩
            case measure => (simp [intOf] <;> omega)
        · have H2 := Lib.hid (gap_bad (zs := zs) (h := m) (k := k) (by omega) (n - m) (by omega))
          have hgt : nth zs (k + m) < nth zs k := by omega
          clear hle
          go_wp2
          go_region
          all_goals
            go_wp2
            go_ret
            exact ⟨ret_bool (by rw [H.out, H2.out]), hbl.drew⟩
      · have H2 := Lib.hid (show gapTo zs m (n - m) = true by rw [show n - m = k by omega]; exact HG.out)
        go_wp2
        go_ret
        exact ⟨ret_bool (by rw [H.out, H2.out]), hbl⟩

/-- Is the number at i greater than the one s steps of h behind it? -/
def termOf (zs : List Int) (h i s : Nat) : Nat := if i + s * h < zs.length ∧ nth zs (i + s * h) < nth zs i then 1 else 0
/-- .. of the first t such steps. -/
def cntTo (zs : List Int) (h i : Nat) : Nat → Nat
  | 0 => 0
  | t + 1 => cntTo zs h i t + termOf zs h i (t + 1)
def movesTo (zs : List Int) (h : Nat) : Nat → Nat
  | 0 => 0
  | q + 1 => movesTo zs h q + cntTo zs h q zs.length
def movesV (zs : List Int) (h : Int) : Int := if gapOk zs h = true then (movesTo zs h.toNat zs.length : Int) else -1
theorem termOf_le (zs : List Int) (h i s : Nat) : termOf zs h i s ≤ 1 := by unfold termOf; split <;> omega
theorem cntTo_le (zs : List Int) (h i : Nat) : ∀ t, cntTo zs h i t ≤ t := by
  intro t
  induction t with
  | zero => exact Nat.le_refl _
  | succ t ih => rw [cntTo]; have := termOf_le zs h i (t + 1); omega
theorem movesTo_le (zs : List Int) (h : Nat) : ∀ q, movesTo zs h q ≤ q * zs.length := by
  intro q
  induction q with
  | zero => simp [movesTo]
  | succ q ih => rw [movesTo, Nat.succ_mul]; have := cntTo_le zs h q zs.length; omega
theorem cnt_end {zs : List Int} {h i t : Nat} (hout : zs.length ≤ i + (t + 1) * h) : ∀ m, t ≤ m → cntTo zs h i m = cntTo zs h i t := by
  intro m
  induction m with
  | zero => intro h1; have : t = 0 := by omega
            subst this; rfl
  | succ m ih =>
    intro h1
    by_cases e : t = m + 1
    · subst e; rfl
    · rw [cntTo, ih (by omega)]
      have : termOf zs h i (m + 1) = 0 := by
        unfold termOf
        rw [if_neg]
        intro hc
        have h2 : (t + 1) * h ≤ (m + 1) * h := Nat.mul_le_mul_right _ (by omega)
        omega
      omega
theorem moves_zero (zs : List Int) (h : Nat) : movesTo zs h 0 = 0 := rfl
theorem moves_succ (zs : List Int) (h q : Nat) : movesTo zs h (q + 1) = movesTo zs h q + cntTo zs h q zs.length := rfl
theorem cnt_zero (zs : List Int) (h i : Nat) : cntTo zs h i 0 = 0 := rfl
theorem cnt_yes {zs : List Int} {h i t : Nat} (h1 : i + (t + 1) * h < zs.length) (h2 : nth zs (i + (t + 1) * h) < nth zs i) : cntTo zs h i (t + 1) = cntTo zs h i t + 1 := by rw [cntTo, termOf, if_pos ⟨h1, h2⟩]
theorem cnt_no {zs : List Int} {h i t : Nat} (h2 : ¬ nth zs (i + (t + 1) * h) < nth zs i) : cntTo zs h i (t + 1) = cntTo zs h i t := by rw [cntTo, termOf, if_neg (fun x => h2 x.2)]; rfl
attribute [irreducible] cntTo movesTo

set_option maxHeartbeats 2000000 in
theorem specMoves (A : Option Addr) (n c : Nat) (zs : List Int) (h : Int) (w : World) (ha : RdI w A n zs) (hn : n ≤ 1048576) :
    Calls Try.prog 13 #[.slice A n c, .int .i64 h] w fun e w' => e = .returned (.int .i64 (movesV zs h)) ∧ Below w.heap.size w w' := by
  have C := specGap A n c zs h w ha hn
  cases hg : gapOk zs h with
  | false =>
    have H := Lib.hid (show movesV zs h = -1 by rw [movesV, if_neg (by simp [hg])])
    rw [hg] at C
    have CC := Lib.hid C
    clear C hg
    go_enter Try.func13, Try.ntmps13
    go_wp2_with fail
    refine CC.out.mono ?_
    rintro e w' ⟨rfl, rfl⟩
    go_wp2_with fail
    go_ret
    exact ⟨ret_int H.out.symm, Below.refl _ _⟩
  | true =>
    obtain ⟨hn16, m, rfl, hm1, hm16⟩ := gapOk_out hg ha.lenI
    have hl := Lib.hid ha.lenI
    have H := Lib.hid (show movesV zs (m : Int) = (movesTo zs m n : Int) by rw [movesV, if_pos hg, Int.toNat_natCast, ha.lenI])
    rw [hg] at C
    have CC := Lib.hid C
    clear C hg
    go_enter Try.func13, Try.ntmps13
    go_wp2_with fail
    refine CC.out.mono ?_
    rintro e w' ⟨rfl, rfl⟩
    go_wp2_with fail
    go_loopw [5, 15] (fun v i wr => ∃ q : Nat, q ≤ n ∧ i = .int .i64 q ∧ v = .int .i64 (movesTo zs m q) ∧ w = wr) (fun _ i _ => n - (intOf i).toNat)
    case atStart => exact ⟨0, Nat.zero_le _, rfl, int_eq (by rw [moves_zero]; rfl), rfl⟩
    case round =>
      obtain ⟨q, hq, rfl, rfl, rfl⟩ := hrel
      obtain ⟨M, hM⟩ : ∃ M, movesTo zs m q = M := ⟨_, rfl⟩
      have hM256 : M ≤ 256 := by
        rw [← hM]
        have h1 := movesTo_le zs m q
        rw [hl.out] at h1
        exact Nat.le_trans h1 (Nat.mul_le_mul (show q ≤ 16 by omega) hn16)
      rw [hM]
      have HM := Lib.hid hM
      clear hM
      by_cases hlt : q < n
      · obtain ⟨a1, hA1, _, h1⟩ := ha.at_ hlt
        subst hA1
        go_wp2
        go_loopw [5, 8] (fun v i wr => ∃ t k : Nat, i = .int .i64 k ∧ k = q + (t + 1) * m ∧ k ≤ n + m ∧ t ≤ n ∧ v = .int .i64 ((M + cntTo zs m q t : Nat) : Int) ∧ w = wr) (fun _ i _ => n + m - (intOf i).toNat)
        case atStart => exact ⟨0, q + m, by go_num, by omega, by omega, by omega, int_eq (by rw [cnt_zero]; rfl), rfl⟩
        case round =>
          obtain ⟨t, k, rfl, hk, hkn, htn, rfl, rfl⟩ := hrel
          have hct := cntTo_le zs m q t
          obtain ⟨X, hX⟩ : ∃ X, M + cntTo zs m q t = X := ⟨_, rfl⟩
          have hX300 : X ≤ 300 := by omega
          rw [hX]
          have HX := Lib.hid hX
          have HK := Lib.hid hk
          clear hX hk hct
          by_cases hkl : k < n
          · obtain ⟨a2, hA2, _, h2⟩ := ha.at_ hkl
            injection hA2 with hA2
            subst hA2
            have htn2 : t + 1 ≤ n := by
              have h3 := HK.out
              have h4 : t + 1 ≤ (t + 1) * m := Nat.le_mul_of_pos_right _ (by omega)
              omega
            have HK2 := Lib.hid (show k + m = q + (t + 1 + 1) * m by rw [HK.out, Nat.succ_mul (t + 1) m]; omega)
            by_cases hgt : nth zs k < nth zs q
            · have H2 := Lib.hid (show X + 1 = M + cntTo zs m q (t + 1) by rw [cnt_yes (by rw [← HK.out, hl.out]; exact hkl) (by rw [← HK.out]; exact hgt)]; have := HX.out; omega)
              go_wp2
              go_roundw
              case rel => exact ⟨t + 1, k + m, by go_num, HK2.out, by omega, htn2, int_eq (by rw [← H2.out]; omega), (by first | rfl | trivial)⟩
              case measure => (simp [intOf] <;> omega)
            · have H2 := Lib.hid (show X = M + cntTo zs m q (t + 1) by rw [cnt_no (by rw [← HK.out]; exact hgt)]; exact HX.out.symm)
              go_wp2
              go_roundw
              case rel => exact ⟨t + 1, k + m, by go_num, HK2.out, by omega, htn2, int_eq (by rw [← H2.out]), (by first | rfl | trivial)⟩
              case measure => (simp [intOf] <;> omega)
          · have H2 := Lib.hid (show X = movesTo zs m (q + 1) by rw [moves_succ, HM.out, hl.out, cnt_end (t := t) (by rw [hl.out, ← HK.out]; omega) n (by omega)]; exact HX.out.symm)
            go_wp2
            go_roundw
            case rel => exact ⟨q + 1, by omega, by go_num, int_eq (by rw [H2.out]), (by first | rfl | trivial)⟩
            case measure => (simp [intOf] <;> omega)
      · obtain rfl : q = n := by omega
        go_wp2
        go_ret
        exact ⟨ret_int (by rw [H.out, HM.out]), Below.refl _ _⟩

set_option maxHeartbeats 2000000 in
theorem implMoves (A : Option Addr) (n c : Nat) (zs : List Int) (h : Int) (w : World) (ha : RdI w A n zs) (hn : n ≤ 1048576) :
    Calls Try.prog 14 #[.slice A n c, .int .i64 h] w fun e w' => e = .returned (.int .i64 (movesV zs h)) ∧ Below w.heap.size w w' := by
  have C := implGap A n c zs h w ha hn
  cases hg : gapOk zs h with
  | false =>
    have H := Lib.hid (show movesV zs h = -1 by rw [movesV, if_neg (by simp [hg])])
    rw [hg] at C
    have CC := Lib.hid C
    clear C hg
    go_enter Try.func14, Try.ntmps14
    go_wp2_with fail
    refine CC.out.mono ?_
    rintro e w' ⟨rfl, rfl⟩
    go_wp2_with fail
    go_ret
    exact ⟨ret_int H.out.symm, Below.refl _ _⟩
  | true =>
    obtain ⟨hn16, m, rfl, hm1, hm16⟩ := gapOk_out hg ha.lenI
    have hl := Lib.hid ha.lenI
    have H := Lib.hid (show movesV zs (m : Int) = (movesTo zs m n : Int) by rw [movesV, if_pos hg, Int.toNat_natCast, ha.lenI])
    rw [hg] at C
    have CC := Lib.hid C
    clear C hg
    go_enter Try.func14, Try.ntmps14
    go_wp2_with fail
    refine CC.out.mono ?_
    rintro e w' ⟨rfl, rfl⟩
    go_wp2_with fail
    go_loopw [5, 15] (fun v i wr => ∃ q : Nat, q ≤ n ∧ i = .int .i64 q ∧ v = .int .i64 (movesTo zs m q) ∧ w = wr) (fun _ i _ => n - (intOf i).toNat)
    case atStart => exact ⟨0, Nat.zero_le _, rfl, int_eq (by rw [moves_zero]; rfl), rfl⟩
    case round =>
      obtain ⟨q, hq, rfl, rfl, rfl⟩ := hrel
      obtain ⟨M, hM⟩ : ∃ M, movesTo zs m q = M := ⟨_, rfl⟩
      have hM256 : M ≤ 256 := by
        rw [← hM]
        have h1 := movesTo_le zs m q
        rw [hl.out] at h1
        exact Nat.le_trans h1 (Nat.mul_le_mul (show q ≤ 16 by omega) hn16)
      rw [hM]
      have HM := Lib.hid hM
      clear hM
      by_cases hlt : q < n
      · obtain ⟨a1, hA1, _, h1⟩ := ha.at_ hlt
        subst hA1
        go_wp2
        go_loopw [5, 8] (fun v i wr => ∃ t k : Nat, i = .int .i64 k ∧ k = q + (t + 1) * m ∧ k ≤ n + m ∧ t ≤ n ∧ v = .int .i64 ((M + cntTo zs m q t : Nat) : Int) ∧ w = wr) (fun _ i _ => n + m - (intOf i).toNat)
        case atStart => exact ⟨0, q + m, by go_num, by omega, by omega, by omega, int_eq (by rw [cnt_zero]; rfl), rfl⟩
        case round =>
          obtain ⟨t, k, rfl, hk, hkn, htn, rfl, rfl⟩ := hrel
          have hct := cntTo_le zs m q t
          obtain ⟨X, hX⟩ : ∃ X, M + cntTo zs m q t = X := ⟨_, rfl⟩
          have hX300 : X ≤ 300 := by omega
          rw [hX]
          have HX := Lib.hid hX
          have HK := Lib.hid hk
          clear hX hk hct
          by_cases hkl : k < n
          · obtain ⟨a2, hA2, _, h2⟩ := ha.at_ hkl
            injection hA2 with hA2
            subst hA2
            have htn2 : t + 1 ≤ n := by
              have h3 := HK.out
              have h4 : t + 1 ≤ (t + 1) * m := Nat.le_mul_of_pos_right _ (by omega)
              omega
            have HK2 := Lib.hid (show k + m = q + (t + 1 + 1) * m by rw [HK.out, Nat.succ_mul (t + 1) m]; omega)
            by_cases hgt : nth zs k < nth zs q
            · have H2 := Lib.hid (show X + 1 = M + cntTo zs m q (t + 1) by rw [cnt_yes (by rw [← HK.out, hl.out]; exact hkl) (by rw [← HK.out]; exact hgt)]; have := HX.out; omega)
              go_wp2
              go_roundw
              case rel => exact ⟨t + 1, k + m, by go_num, HK2.out, by omega, htn2, int_eq (by rw [← H2.out]; omega), (by first | rfl | trivial)⟩
              case measure => (simp [intOf] <;> omega)
            · have H2 := Lib.hid (show X = M + cntTo zs m q (t + 1) by rw [cnt_no (by rw [← HK.out]; exact hgt)]; exact HX.out.symm)
              go_wp2
              go_roundw
              case rel => exact ⟨t + 1, k + m, by go_num, HK2.out, by omega, htn2, int_eq (by rw [← H2.out]), (by first | rfl | trivial)⟩
              case measure => (simp [intOf] <;> omega)
          · have H2 := Lib.hid (show X = movesTo zs m (q + 1) by rw [moves_succ, HM.out, hl.out, cnt_end (t := t) (by rw [hl.out, ← HK.out]; omega) n (by omega)]; exact HX.out.symm)
            go_wp2
            go_roundw
            case rel => exact ⟨q + 1, by omega, by go_num, int_eq (by rw [H2.out]), (by first | rfl | trivial)⟩
            case measure => (simp [intOf] <;> omega)
      · obtain rfl : q = n := by omega
        go_wp2
        go_ret
        exact ⟨ret_int (by rw [H.out, HM.out]), Below.refl _ _⟩

set_option maxHeartbeats 2000000 in
theorem lawIsGapSorted (w : World) (A0 : Option Addr) (n0 c0 : Nat) (z0 : List Int) (x1 : Int) (g0 : RdArg w A0 n0 c0 z0) (_g1 : In64 x1) :
    Calls Try.prog 3 #[.slice A0 n0 c0, .int .i64 x1] w fun e w' => e = .returned (.bool true) ∧ Below w.heap.size w w' := by
  have ha0 := g0.1
  by_cases hn0 : 1048576 < n0
  · go_enter Try.func3, Try.ntmps3
    go_wp2
    go_ret
    exact ⟨rfl, Below.refl _ _⟩
  replace hn0 : n0 ≤ 1048576 := by omega
  clear g0
  have hB0 : Below w.heap.size w w := Below.refl _ _
  go_enter Try.func3, Try.ntmps3
  go_wp2_with fail
  refine (toIntS_any A0 n0 c0 z0 w (ha0.below hB0) hn0).mono ?_
  rintro e w1 ⟨AP0, cP0, rfl, oP0, hb1⟩
  have hs1 := hb1.size
  have hB1 := hB0.trans (hb1.mono hB0.size)
  have iP0 := oP0.blk_
  go_wp2_with fail
  refine (specIsGap AP0 n0 cP0 z0 x1 w1 oP0.rd hn0 ).mono ?_
  rintro e w2 ⟨rfl, hb2⟩
  have hs2 := hb2.size
  have hB2 := hB1.trans (hb2.mono hB1.size)
  replace oP0 := oP0.below hb2
  go_wp2_with fail
  refine (toIntS_any A0 n0 c0 z0 w2 (ha0.below hB2) hn0).mono ?_
  rintro e w3 ⟨AX0, cX0, rfl, oX0, hb3⟩
  have hs3 := hb3.size
  have hB3 := hB2.trans (hb3.mono hB2.size)
  replace oP0 := oP0.below hb3
  have iX0 := oX0.blk_
  go_wp2_with fail
  refine (implIsGap AX0 n0 cX0 z0 x1 w3 oX0.rd hn0 ).mono ?_
  rintro e w4 ⟨rfl, hb4⟩
  have hs4 := hb4.size
  have hB4 := hB3.trans (hb4.mono hB3.size)
  replace oP0 := oP0.below hb4
  replace oX0 := oX0.below hb4
  go_wp2_with fail
  refine (toIntS_any A0 n0 c0 z0 w4 (ha0.below hB4) hn0).mono ?_
  rintro e w5 ⟨AT0, cT0, rfl, oT0, hb5⟩
  have hs5 := hb5.size
  have hB5 := hB4.trans (hb5.mono hB4.size)
  replace oP0 := oP0.below hb5
  replace oX0 := oX0.below hb5
  have iT0 := oT0.blk_
  go_wp2_with fail
  refine (eqIntS_yes AX0 AT0 n0 cX0 cT0 z0 w5 oX0.rd oT0.rd (by unfold maxLen; omega)).mono ?_
  rintro e w6 ⟨rfl, hb6⟩
  have hs6 := hb6.size
  have hB6 := hB5.trans (hb6.mono hB5.size)
  replace oP0 := oP0.below hb6
  replace oX0 := oX0.below hb6
  replace oT0 := oT0.below hb6
  go_wp2_with fail
  go_ret
  exact ⟨rfl, hB6⟩
set_option maxHeartbeats 2000000 in
theorem lawGapMoves (w : World) (A0 : Option Addr) (n0 c0 : Nat) (z0 : List Int) (x1 : Int) (g0 : RdArg w A0 n0 c0 z0) (_g1 : In64 x1) :
    Calls Try.prog 4 #[.slice A0 n0 c0, .int .i64 x1] w fun e w' => e = .returned (.bool true) ∧ Below w.heap.size w w' := by
  have ha0 := g0.1
  by_cases hn0 : 1048576 < n0
  · go_enter Try.func4, Try.ntmps4
    go_wp2
    go_ret
    exact ⟨rfl, Below.refl _ _⟩
  replace hn0 : n0 ≤ 1048576 := by omega
  clear g0
  have hB0 : Below w.heap.size w w := Below.refl _ _
  go_enter Try.func4, Try.ntmps4
  go_wp2_with fail
  refine (toIntS_any A0 n0 c0 z0 w (ha0.below hB0) hn0).mono ?_
  rintro e w1 ⟨AP0, cP0, rfl, oP0, hb1⟩
  have hs1 := hb1.size
  have hB1 := hB0.trans (hb1.mono hB0.size)
  have iP0 := oP0.blk_
  go_wp2_with fail
  refine (specMoves AP0 n0 cP0 z0 x1 w1 oP0.rd hn0 ).mono ?_
  rintro e w2 ⟨rfl, hb2⟩
  have hs2 := hb2.size
  have hB2 := hB1.trans (hb2.mono hB1.size)
  replace oP0 := oP0.below hb2
  go_wp2_with fail
  refine (toIntS_any A0 n0 c0 z0 w2 (ha0.below hB2) hn0).mono ?_
  rintro e w3 ⟨AX0, cX0, rfl, oX0, hb3⟩
  have hs3 := hb3.size
  have hB3 := hB2.trans (hb3.mono hB2.size)
  replace oP0 := oP0.below hb3
  have iX0 := oX0.blk_
  go_wp2_with fail
  refine (implMoves AX0 n0 cX0 z0 x1 w3 oX0.rd hn0 ).mono ?_
  rintro e w4 ⟨rfl, hb4⟩
  have hs4 := hb4.size
  have hB4 := hB3.trans (hb4.mono hB3.size)
  replace oP0 := oP0.below hb4
  replace oX0 := oX0.below hb4
  go_wp2_with fail
  refine (toIntS_any A0 n0 c0 z0 w4 (ha0.below hB4) hn0).mono ?_
  rintro e w5 ⟨AT0, cT0, rfl, oT0, hb5⟩
  have hs5 := hb5.size
  have hB5 := hB4.trans (hb5.mono hB4.size)
  replace oP0 := oP0.below hb5
  replace oX0 := oX0.below hb5
  have iT0 := oT0.blk_
  go_wp2_with fail
  refine (eqIntS_yes AX0 AT0 n0 cX0 cT0 z0 w5 oX0.rd oT0.rd (by unfold maxLen; omega)).mono ?_
  rintro e w6 ⟨rfl, hb6⟩
  have hs6 := hb6.size
  have hB6 := hB5.trans (hb6.mono hB5.size)
  replace oP0 := oP0.below hb6
  replace oX0 := oX0.below hb6
  replace oT0 := oT0.below hb6
  go_wp2_with fail
  go_ret
  exact ⟨rfl, hB6⟩

end Go.Proofs.Ytojlcpfnkpfgnaa
