/- Rows of zeros and ones: impl.areBits. -/
import Derived.Test.YtaeabpmpfadkjaaIn
namespace Go.Proofs.Ytaeabpmpfadkjaa
open Go.RowKit Go.Deep
set_option linter.unusedVariables false

def isBit (z : Int) : Bool := z == 0 || z == 1
def bitsTo (zs : List Int) : Nat → Bool
  | 0 => true
  | k + 1 => bitsTo zs k && isBit (nth zs k)
theorem bitsTo_zero (zs : List Int) : bitsTo zs 0 = true := rfl
theorem bits_on {zs : List Int} {k : Nat} (h : bitsTo zs k = true) (h2 : isBit (nth zs k) = true) : bitsTo zs (k + 1) = true := by rw [bitsTo, h, h2]; rfl
theorem bits_bad {zs : List Int} {k : Nat} (h2 : isBit (nth zs k) = false) : ∀ m, k < m → bitsTo zs m = false := by
  intro m
  induction m with
  | zero => intro h; omega
  | succ m ih =>
    intro hm
    by_cases e : k = m
    · subst e; rw [bitsTo, h2, Bool.and_false]
    · rw [bitsTo, ih (by omega)]; rfl
theorem isBit_yes {z : Int} (h : isBit z = true) : 0 ≤ z ∧ z ≤ 1 := by
  simp [isBit] at h; omega
theorem isBit_no {z : Int} (h : isBit z = false) : ¬ (0 ≤ z ∧ z ≤ 1) := by
  simp [isBit] at h; omega
def bitRow (n : Nat) (zs : List Int) (m : Int) : Bool := decide ((n : Int) = m) && bitsTo zs n
attribute [irreducible] bitsTo isBit

theorem implBit (z : Int) (w : World) : Calls Try.prog 74 #[.int .i64 z] w fun e w' => e = .returned (.bool (!isBit z)) ∧ w = w' := by
  by_cases h0 : z = 0
  · subst h0
    have H := Lib.hid (show isBit 0 = true by unfold isBit; rfl)
    go_enter Try.func74, Try.ntmps74
    go_wp2
    go_ret
    exact ⟨ret_bool (by rw [H.out]; rfl), rfl⟩
  · by_cases h1 : z = 1
    · subst h1
      have H := Lib.hid (show isBit 1 = true by unfold isBit; rfl)
      go_enter Try.func74, Try.ntmps74
      go_wp2
      go_ret
      exact ⟨ret_bool (by rw [H.out]; rfl), rfl⟩
    · have H := Lib.hid (show isBit z = false by unfold isBit; simp [h0, h1])
      have h2 : (z != 0) = true := by simp [h0]
      have h3 : (z != 1) = true := by simp [h1]
      clear h0 h1
      go_enter Try.func74, Try.ntmps74
      go_wp2
      go_ret
      exact ⟨ret_bool (by rw [H.out]; rfl), rfl⟩

set_option maxHeartbeats 1000000 in
theorem implIndexBit (A : Option Addr) (n c : Nat) (zs : List Int) (w : World) (ha : RdI w A n zs) (hn : n ≤ 1048576) :
    Calls Try.prog 73 #[.slice A n c, .func (.func 74) #[] #[]] w fun e w' => ∃ r : Int, e = .returned (.int .i64 r) ∧ (0 ≤ r → bitsTo zs n = false) ∧ (r < 0 → bitsTo zs n = true) ∧ w = w' := by
  go_enter Try.func73, Try.ntmps73
  go_wp2
  go_loop [8] (fun i => ∃ k : Nat, k ≤ n ∧ i = .int .i64 k ∧ Hid (bitsTo zs k = true)) (fun i => n - (intOf i).toNat)
  case atStart => exact ⟨0, Nat.zero_le _, rfl, Lib.hid (bitsTo_zero _)⟩
  case round =>
    obtain ⟨k, hk, rfl, HK⟩ := hrel
    by_cases hlt : k < n
    · obtain ⟨a1, rfl, _, h1⟩ := ha.at_ hlt
      cases hb : isBit (nth zs k) with
      | true =>
        have H := Lib.hid (bits_on HK.out hb)
        have C := Lib.hid (implBit (nth zs k))
        have HB := Lib.hid hb
        clear hb
        go_wp2_with fail
        refine (C.out _).mono ?_
        rintro e w' ⟨rfl, rfl⟩
        rw [HB.out]
        go_wp2
        go_round
        case rel => exact ⟨k + 1, by omega, by go_num, H⟩
        case measure => (simp [intOf] <;> omega)
      | false =>
        have H := Lib.hid (bits_bad hb n hlt)
        have C := Lib.hid (implBit (nth zs k))
        have HB := Lib.hid hb
        clear hb
        go_wp2_with fail
        refine (C.out _).mono ?_
        rintro e w' ⟨rfl, rfl⟩
        rw [HB.out]
        go_wp2
        go_ret
        exact ⟨_, rfl, fun _ => H.out, fun h => by omega, rfl⟩
    · obtain rfl : k = n := by omega
      go_wp2
      go_ret
      exact ⟨_, rfl, fun h => by omega, fun _ => HK.out, rfl⟩
theorem implContainsBit (A : Option Addr) (n c : Nat) (zs : List Int) (w : World) (ha : RdI w A n zs) (hn : n ≤ 1048576) :
    Calls Try.prog 58 #[.slice A n c, .func (.func 74) #[] #[]] w fun e w' => e = .returned (.bool (!bitsTo zs n)) ∧ w = w' := by
  have C := Lib.hid (implIndexBit A n c zs w ha hn)
  go_enter Try.func58, Try.ntmps58
  go_wp2_with fail
  refine C.out.mono ?_
  rintro e w' ⟨r, rfl, h1, h2, rfl⟩
  by_cases hr : 0 ≤ r
  · have H := Lib.hid (h1 hr)
    clear h1 h2
    go_wp2
    go_ret
    exact ⟨ret_bool (by rw [H.out]; (simp <;> omega)), rfl⟩
  · have H := Lib.hid (h2 (by omega))
    clear h1 h2
    go_wp2
    go_ret
    exact ⟨ret_bool (by rw [H.out]; (simp <;> omega)), rfl⟩
set_option maxHeartbeats 1000000 in
theorem implAreBits (A : Option Addr) (n c : Nat) (zs : List Int) (m : Nat) (w : World) (ha : RdI w A n zs) (hn : n ≤ 1048576) :
    Calls Try.prog 65 #[.slice A n c, .int .i64 m] w fun e w' => e = .returned (.bool (bitRow n zs m)) ∧ w = w' := by
  by_cases h : n = m
  · subst h
    have H := Lib.hid (show bitRow n zs n = bitsTo zs n by rw [bitRow, decide_eq_true rfl]; rfl)
    have C := Lib.hid (implContainsBit A n c zs w ha hn)
    go_enter Try.func65, Try.ntmps65
    go_wp2_with fail
    refine C.out.mono ?_
    rintro e w' ⟨rfl, rfl⟩
    go_wp2_with fail
    go_ret
    exact ⟨ret_bool (by rw [H.out]; try simp), rfl⟩
  · have H := Lib.hid (show bitRow n zs m = false by rw [bitRow, decide_eq_false (by omega)]; rfl)
    have h2 : ((n : Int) == (m : Int)) = false := by simp; omega
    clear h
    go_enter Try.func65, Try.ntmps65
    go_wp2
    go_ret
    exact ⟨ret_bool H.out.symm, rfl⟩

end Go.Proofs.Ytaeabpmpfadkjaa
