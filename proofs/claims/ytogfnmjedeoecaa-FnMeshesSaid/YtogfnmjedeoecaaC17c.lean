/- Chapter 17: rows that have both lesser numbers and others. -/
import Derived.Test.YtogfnmjedeoecaaC17b
namespace Go.Proofs.Ytogfnmjedeoecaa
open Go.RowKit Go.Deep
set_option linter.unusedVariables false

def mnTo (zs : List Int) : Nat → Int
  | 0 => nth zs 0
  | k + 1 => min (mnTo zs k) (nth zs k)
def mxTo (zs : List Int) : Nat → Int
  | 0 => nth zs 0
  | k + 1 => max (mxTo zs k) (nth zs k)
theorem mn_zero (zs : List Int) : mnTo zs 0 = nth zs 0 := rfl
theorem mx_zero (zs : List Int) : mxTo zs 0 = nth zs 0 := rfl
theorem mn_succ (zs : List Int) (k : Nat) : mnTo zs (k + 1) = min (mnTo zs k) (nth zs k) := rfl
theorem mx_succ (zs : List Int) (k : Nat) : mxTo zs (k + 1) = max (mxTo zs k) (nth zs k) := rfl
theorem mn_one (zs : List Int) : mnTo zs 1 = nth zs 0 := by rw [mn_succ, mn_zero]; omega
theorem mx_one (zs : List Int) : mxTo zs 1 = nth zs 0 := by rw [mx_succ, mx_zero]; omega
/-- One of the first k numbers is less than t (is at least t). -/
def lowTo (zs : List Int) (t : Int) : Nat → Bool
  | 0 => false
  | k + 1 => lowTo zs t k || decide (nth zs k < t)
def highTo (zs : List Int) (t : Int) : Nat → Bool
  | 0 => false
  | k + 1 => highTo zs t k || decide (t ≤ nth zs k)
theorem low_zero (zs : List Int) (t : Int) : lowTo zs t 0 = false := rfl
theorem high_zero (zs : List Int) (t : Int) : highTo zs t 0 = false := rfl
theorem low_lt {zs : List Int} {t : Int} {k : Nat} (h : nth zs k < t) : lowTo zs t (k + 1) = true := by rw [lowTo, decide_eq_true h, Bool.or_true]
theorem low_ge {zs : List Int} {t : Int} {k : Nat} (h : ¬ nth zs k < t) : lowTo zs t (k + 1) = lowTo zs t k := by rw [lowTo, decide_eq_false h, Bool.or_false]
theorem high_lt {zs : List Int} {t : Int} {k : Nat} (h : nth zs k < t) : highTo zs t (k + 1) = highTo zs t k := by rw [highTo, decide_eq_false (by omega), Bool.or_false]
theorem high_ge {zs : List Int} {t : Int} {k : Nat} (h : ¬ nth zs k < t) : highTo zs t (k + 1) = true := by rw [highTo, decide_eq_true (by omega), Bool.or_true]
theorem low_min (zs : List Int) (t : Int) (k : Nat) : lowTo zs t (k + 1) = decide (mnTo zs (k + 1) < t) := by
  induction k with
  | zero => rw [lowTo, low_zero, mn_one, Bool.false_or]
  | succ k ih =>
    rw [lowTo, ih, mn_succ zs (k + 1)]
    by_cases h1 : mnTo zs (k + 1) < t
    · rw [decide_eq_true h1, decide_eq_true (show min (mnTo zs (k + 1)) (nth zs (k + 1)) < t by omega)]; rfl
    · by_cases h2 : nth zs (k + 1) < t
      · rw [decide_eq_true h2, decide_eq_true (show min (mnTo zs (k + 1)) (nth zs (k + 1)) < t by omega), Bool.or_true]
      · rw [decide_eq_false h1, decide_eq_false h2, decide_eq_false (show ¬ min (mnTo zs (k + 1)) (nth zs (k + 1)) < t by omega)]; rfl
theorem high_max (zs : List Int) (t : Int) (k : Nat) : highTo zs t (k + 1) = decide (t ≤ mxTo zs (k + 1)) := by
  induction k with
  | zero => rw [highTo, high_zero, mx_one, Bool.false_or]
  | succ k ih =>
    rw [highTo, ih, mx_succ zs (k + 1)]
    by_cases h1 : t ≤ mxTo zs (k + 1)
    · rw [decide_eq_true h1, decide_eq_true (show t ≤ max (mxTo zs (k + 1)) (nth zs (k + 1)) by omega)]; rfl
    · by_cases h2 : t ≤ nth zs (k + 1)
      · rw [decide_eq_true h2, decide_eq_true (show t ≤ max (mxTo zs (k + 1)) (nth zs (k + 1)) by omega), Bool.or_true]
      · rw [decide_eq_false h1, decide_eq_false h2, decide_eq_false (show ¬ t ≤ max (mxTo zs (k + 1)) (nth zs (k + 1)) by omega)]; rfl
def dirty (zs : List Int) (t : Int) : Bool := lowTo zs t zs.length && highTo zs t zs.length
def dirtyTo (zss : List (List Int)) (t : Int) : Nat → Nat
  | 0 => 0
  | k + 1 => dirtyTo zss t k + if dirty (row zss k) t = true then 1 else 0
theorem dirtyTo_zero (zss : List (List Int)) (t : Int) : dirtyTo zss t 0 = 0 := rfl
theorem dirtyTo_on {zss : List (List Int)} {t : Int} {k : Nat} (h : dirty (row zss k) t = true) : dirtyTo zss t (k + 1) = dirtyTo zss t k + 1 := by rw [dirtyTo, if_pos h]
theorem dirtyTo_off {zss : List (List Int)} {t : Int} {k : Nat} (h : dirty (row zss k) t = false) : dirtyTo zss t (k + 1) = dirtyTo zss t k := by rw [dirtyTo, h]; rfl
theorem dirty_spec {zs : List Int} {t : Int} {m : Nat} (hl : zs.length = m) : dirty zs t = (lowTo zs t m && highTo zs t m) := by rw [dirty, hl]
theorem dirty_impl {zs : List Int} {t : Int} {m : Nat} (hl : zs.length = m) (h : 1 ≤ m) : dirty zs t = (decide (mnTo zs m < t) && decide (t ≤ mxTo zs m)) := by
  obtain ⟨k, rfl⟩ : ∃ k, m = k + 1 := ⟨m - 1, by omega⟩
  rw [dirty, hl, low_min, high_max]
def dirtyV (zss : List (List Int)) (t : Int) : Int := if meshV zss = true then (dirtyTo zss t zss.length : Int) else -1
theorem dirtyV_no {zss : List (List Int)} {t : Int} (h : meshV zss = false) : dirtyV zss t = -1 := by rw [dirtyV, h]; rfl
theorem dirtyV_yes {zss : List (List Int)} {t : Int} {n : Nat} (hl : zss.length = n) (h : meshV zss = true) : dirtyV zss t = (dirtyTo zss t n : Int) := by rw [dirtyV, h, hl]; rfl
attribute [irreducible] mnTo mxTo lowTo highTo dirtyTo dirty

set_option maxHeartbeats 1000000 in
theorem implMax (A : Option Addr) (n c : Nat) (zs : List Int) (w : World) (ha : RdI w A n zs) (hn : n ≤ 1048576) (h0 : 0 < n) :
    Calls Try.prog 51 #[.slice A n c] w fun e w' => e = .returned (.int .i64 (mxTo zs n)) ∧ w = w' := by
  obtain ⟨a0, rfl, _, hc0⟩ := ha.at_ h0
  replace hc0 : w.cell? a0 = some (.int .i64 (nth zs 0)) := hc0
  go_enter Try.func51, Try.ntmps51
  go_wp2
  go_loop [4, 3] (fun i v => ∃ k : Nat, 1 ≤ k ∧ k ≤ n ∧ i = .int .i64 k ∧ v = .int .i64 (mxTo zs k)) (fun i _ => n - (intOf i).toNat)
  case atStart => exact ⟨1, by omega, by omega, rfl, int_eq (by rw [mx_one])⟩
  case round =>
    obtain ⟨k, hk1, hk, rfl, rfl⟩ := hrel
    by_cases hlt : k < n
    · obtain ⟨a1, ha1, _, h1⟩ := ha.at_ hlt
      injection ha1 with ha1
      subst ha1
      have H := Lib.hid (mx_succ zs k)
      go_wp2
      go_round
      case rel => exact ⟨k + 1, by omega, by omega, by go_num, int_eq (by rw [H.out]; try omega)⟩
      case measure => (simp [intOf] <;> omega)
    · obtain rfl : k = n := by omega
      go_wp2
      go_ret
      exact ⟨rfl, rfl⟩

set_option maxHeartbeats 1000000 in
theorem implMin (A : Option Addr) (n c : Nat) (zs : List Int) (w : World) (ha : RdI w A n zs) (hn : n ≤ 1048576) (h0 : 0 < n) :
    Calls Try.prog 50 #[.slice A n c] w fun e w' => e = .returned (.int .i64 (mnTo zs n)) ∧ w = w' := by
  obtain ⟨a0, rfl, _, hc0⟩ := ha.at_ h0
  replace hc0 : w.cell? a0 = some (.int .i64 (nth zs 0)) := hc0
  go_enter Try.func50, Try.ntmps50
  go_wp2
  go_loop [4, 3] (fun i v => ∃ k : Nat, 1 ≤ k ∧ k ≤ n ∧ i = .int .i64 k ∧ v = .int .i64 (mnTo zs k)) (fun i _ => n - (intOf i).toNat)
  case atStart => exact ⟨1, by omega, by omega, rfl, int_eq (by rw [mn_one])⟩
  case round =>
    obtain ⟨k, hk1, hk, rfl, rfl⟩ := hrel
    by_cases hlt : k < n
    · obtain ⟨a1, ha1, _, h1⟩ := ha.at_ hlt
      injection ha1 with ha1
      subst ha1
      have H := Lib.hid (mn_succ zs k)
      go_wp2
      go_round
      case rel => exact ⟨k + 1, by omega, by omega, by go_num, int_eq (by rw [H.out]; try omega)⟩
      case measure => (simp [intOf] <;> omega)
    · obtain rfl : k = n := by omega
      go_wp2
      go_ret
      exact ⟨rfl, rfl⟩

set_option maxHeartbeats 4000000 in
theorem implDirty (A : Option Addr) (n c : Nat) (zss : List (List Int)) (t : Int) (w : World) (ha : RdM w A n zss) (hn : n ≤ 1048576) :
    Calls Try.prog 28 #[.slice A n c, .int .i64 t] w fun e w' => e = .returned (.int .i64 (dirtyV zss t)) ∧ w = w' := by
  have hl := ha.1
  have C := implMesh A n c zss w ha hn
  cases hg : meshV zss with
  | false =>
    have H := Lib.hid (dirtyV_no (t := t) hg)
    rw [hg] at C
    have CC := Lib.hid C
    clear C hg hl
    go_enter Try.func28, Try.ntmps28
    go_wp2_with fail
    refine CC.out.mono ?_
    rintro e w' ⟨rfl, rfl⟩
    go_wp2_with fail
    go_ret
    exact ⟨ret_int H.out.symm, rfl⟩
  | true =>
    have HV := Lib.hid (dirtyV_yes (t := t) hl hg)
    obtain ⟨hn1, hn4, M, hM1, hM4, hrows⟩ := mesh_out hg hl
    have HR := Lib.hid hrows
    rw [hg] at C
    have CC := Lib.hid C
    clear C hg hl hrows
    go_enter Try.func28, Try.ntmps28
    go_wp2_with fail
    refine CC.out.mono ?_
    rintro e w' ⟨rfl, rfl⟩
    go_wp2
    go_loop [13, 5] (fun i v => ∃ k q : Nat, k ≤ n ∧ i = .int .i64 k ∧ v = .int .i64 q ∧ Hid (q = dirtyTo zss t k) ∧ q ≤ k) (fun i _ => n - (intOf i).toNat)
    case atStart => exact ⟨0, 0, Nat.zero_le _, rfl, rfl, Lib.hid (by rw [dirtyTo_zero]), Nat.le_refl _⟩
    case round =>
      obtain ⟨k, q, hk, rfl, rfl, HQ, hq⟩ := hrel
      by_cases hlt : k < n
      · obtain ⟨a1, B, m, d, rfl, _, h1, hB, hmd, hd⟩ := ha.2 k hlt
        unfold maxLen at hd
        obtain rfl : m = M := by rw [← hB.lenI]; exact HR.out k hlt
        have HD := Lib.hid (dirty_impl (t := t) hB.lenI hM1)
        by_cases hlo : mnTo (row zss k) m < t
        · by_cases hhi : t ≤ mxTo (row zss k) m
          · have H := Lib.hid (dirtyTo_on (k := k) (zss := zss) (t := t) (by rw [HD.out, decide_eq_true hlo, decide_eq_true hhi]; rfl))
            go_wp2_with (first | (go_at_call 50; refine (implMin B m d (row zss k) _ hB (by omega) (by omega)).mono ?_; rintro e w' ⟨rfl, rfl⟩) | (go_at_call 51; refine (implMax B m d (row zss k) _ hB (by omega) (by omega)).mono ?_; rintro e w' ⟨rfl, rfl⟩))
            go_round
            case rel => exact ⟨k + 1, q + 1, by omega, by go_num, by go_num, Lib.hid (by rw [H.out, HQ.out]), by omega⟩
            case measure => (simp [intOf] <;> omega)
          · have H := Lib.hid (dirtyTo_off (k := k) (zss := zss) (t := t) (by rw [HD.out, decide_eq_false hhi, Bool.and_false]))
            have e1 : decide (t ≤ mxTo (row zss k) m) = false := decide_eq_false hhi
            go_wp2_with (first | (go_at_call 50; refine (implMin B m d (row zss k) _ hB (by omega) (by omega)).mono ?_; rintro e w' ⟨rfl, rfl⟩) | (go_at_call 51; refine (implMax B m d (row zss k) _ hB (by omega) (by omega)).mono ?_; rintro e w' ⟨rfl, rfl⟩))
            go_round
            case rel => exact ⟨k + 1, q, by omega, by go_num, rfl, Lib.hid (by rw [H.out, HQ.out]), by omega⟩
            case measure => (simp [intOf] <;> omega)
        · have H := Lib.hid (dirtyTo_off (k := k) (zss := zss) (t := t) (by rw [HD.out, decide_eq_false hlo, Bool.false_and]))
          have e1 : decide (mnTo (row zss k) m < t) = false := decide_eq_false hlo
          go_wp2_with (first | (go_at_call 50; refine (implMin B m d (row zss k) _ hB (by omega) (by omega)).mono ?_; rintro e w' ⟨rfl, rfl⟩) | (go_at_call 51; refine (implMax B m d (row zss k) _ hB (by omega) (by omega)).mono ?_; rintro e w' ⟨rfl, rfl⟩))
          go_round
          case rel => exact ⟨k + 1, q, by omega, by go_num, rfl, Lib.hid (by rw [H.out, HQ.out]), by omega⟩
          case measure => (simp [intOf] <;> omega)
      · obtain rfl : k = n := by omega
        go_wp2
        go_ret
        exact ⟨ret_int (by rw [HV.out, HQ.out]), rfl⟩

set_option maxHeartbeats 4000000 in
theorem specDirty (A : Option Addr) (n c : Nat) (zss : List (List Int)) (t : Int) (w : World) (ha : RdM w A n zss) (hn : n ≤ 1048576) :
    Calls Try.prog 27 #[.slice A n c, .int .i64 t] w fun e w' => e = .returned (.int .i64 (dirtyV zss t)) ∧ w = w' := by
  have hl := ha.1
  have C := specMesh A n c zss w ha hn
  cases hg : meshV zss with
  | false =>
    have H := Lib.hid (dirtyV_no (t := t) hg)
    rw [hg] at C
    have CC := Lib.hid C
    clear C hg hl
    go_enter Try.func27, Try.ntmps27
    go_wp2_with fail
    refine CC.out.mono ?_
    rintro e w' ⟨rfl, rfl⟩
    go_wp2_with fail
    go_ret
    exact ⟨ret_int H.out.symm, rfl⟩
  | true =>
    have HV := Lib.hid (dirtyV_yes (t := t) hl hg)
    obtain ⟨hn1, hn4, M, hM1, hM4, hrows⟩ := mesh_out hg hl
    have HR := Lib.hid hrows
    rw [hg] at C
    have CC := Lib.hid C
    clear C hg hl hrows
    go_enter Try.func27, Try.ntmps27
    go_wp2_with fail
    refine CC.out.mono ?_
    rintro e w' ⟨rfl, rfl⟩
    go_wp2
    go_loop [17, 5] (fun i v => ∃ k q : Nat, k ≤ n ∧ i = .int .i64 k ∧ v = .int .i64 q ∧ Hid (q = dirtyTo zss t k) ∧ q ≤ k) (fun i _ => n - (intOf i).toNat)
    case atStart => exact ⟨0, 0, Nat.zero_le _, rfl, rfl, Lib.hid (by rw [dirtyTo_zero]), Nat.le_refl _⟩
    case round =>
      obtain ⟨k, q, hk, rfl, rfl, HQ, hq⟩ := hrel
      by_cases hlt : k < n
      · obtain ⟨a1, B, m, d, rfl, _, h1, hB, hmd, hd⟩ := ha.2 k hlt
        unfold maxLen at hd
        obtain rfl : m = M := by rw [← hB.lenI]; exact HR.out k hlt
        have HD := Lib.hid (dirty_spec (t := t) hB.lenI)
        go_wp2
        go_loop [23, 8, 9] (fun i u v => ∃ j : Nat, ∃ lo hi : Bool, j ≤ m ∧ i = .int .i64 j ∧ u = .bool lo ∧ v = .bool hi ∧ Hid (lo = lowTo (row zss k) t j) ∧ Hid (hi = highTo (row zss k) t j)) (fun i _ _ => m - (intOf i).toNat)
        case atStart => exact ⟨0, false, false, Nat.zero_le _, rfl, rfl, rfl, Lib.hid (by rw [low_zero]), Lib.hid (by rw [high_zero])⟩
        case round =>
          obtain ⟨j, lo, hi, hj, rfl, rfl, rfl, HL, HH⟩ := hrel
          by_cases hjm : j < m
          · obtain ⟨a3, rfl, _, h2⟩ := hB.at_ hjm
            by_cases hx : nth (row zss k) j < t
            · have H1 := Lib.hid (low_lt hx)
              have H2 := Lib.hid (high_lt hx)
              have e1 : decide (t ≤ nth (row zss k) j) = false := by simp; omega
              cases lo <;> cases hi
              all_goals
                go_wp2
                go_round
                case rel => exact ⟨j + 1, true, _, by omega, by go_num, rfl, rfl, Lib.hid (by rw [H1.out]), Lib.hid (by rw [H2.out, ← HH.out])⟩
                case measure => (simp [intOf] <;> omega)
            · have H1 := Lib.hid (low_ge hx)
              have H2 := Lib.hid (high_ge hx)
              have hx2 : t ≤ nth (row zss k) j := by omega
              have e1 : decide (nth (row zss k) j < t) = false := decide_eq_false hx
              clear hx
              cases lo <;> cases hi
              all_goals
                go_wp2
                go_round
                case rel => exact ⟨j + 1, _, true, by omega, by go_num, rfl, rfl, Lib.hid (by rw [H1.out, ← HL.out]), Lib.hid (by rw [H2.out])⟩
                case measure => (simp [intOf] <;> omega)
          · obtain rfl : j = m := by omega
            have HD2 := Lib.hid (show dirty (row zss k) t = (lo && hi) by rw [HD.out, HL.out, HH.out])
            cases lo <;> cases hi
            case true.true =>
              have H := Lib.hid (dirtyTo_on HD2.out)
              go_wp2
              go_round
              case rel => exact ⟨k + 1, q + 1, by omega, by go_num, by go_num, Lib.hid (by rw [H.out, HQ.out]), by omega⟩
              case measure => (simp [intOf] <;> omega)
            all_goals
              have H := Lib.hid (dirtyTo_off HD2.out)
              go_wp2
              go_round
              case rel => exact ⟨k + 1, q, by omega, by go_num, rfl, Lib.hid (by rw [H.out, HQ.out]), by omega⟩
              case measure => (simp [intOf] <;> omega)
      · obtain rfl : k = n := by omega
        go_wp2
        go_ret
        exact ⟨ret_int (by rw [HV.out, HQ.out]), rfl⟩

end Go.Proofs.Ytogfnmjedeoecaa
