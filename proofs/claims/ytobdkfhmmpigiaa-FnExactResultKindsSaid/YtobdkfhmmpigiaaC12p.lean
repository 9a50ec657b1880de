/- Chapter 12: the closures of impl.standardLists and impl.renamedMasks. -/
import Derived.Test.YtobdkfhmmpigiaaC12o
import Derived.Test.YtobdkfhmmpigiaaC12j
namespace Go.Proofs.Ytobdkfhmmpigiaa
open Go.RowKit Go.Deep
set_option linter.unusedVariables false
attribute [local go_sem] bits_and_one

set_option maxHeartbeats 1000000 in
theorem implStepC (s p q : Nat) (a b : Addr) (w : World) (hs : s < 16) (hp : p < 4) (hq : q < 4) (h1 : w.cell? a = some (.int .i64 (p : Nat))) (h2 : w.cell? b = some (.int .i64 (q : Nat))) :
    Calls Try.prog 38 #[.int .i64 s, .pointer (some a), .pointer (some b)] w fun e w' => e = .returned (.int .i64 (bst s p q : Nat)) ∧ Below w.heap.size w w' := by
  have CS := Lib.hid (implMStep s p q w hs hp hq)
  go_enter Try.func38, Try.ntmps38
  go_wp2_with fail
  refine CS.out.mono ?_
  rintro e w' ⟨rfl, hb⟩
  go_wp2_with fail
  go_ret
  exact ⟨rfl, hb⟩

/-- A mask with other wires, as the program computes it. -/
def renO (names : List Int) (s : Nat) : Nat → Nat
  | 0 => 0
  | k + 1 => renO names s k ||| (if bitAt s k = true then 2 ^ (nth names k).toNat else 0)
theorem renO_zero (names : List Int) (s : Nat) : renO names s 0 = 0 := rfl
theorem renO_on {names : List Int} {s k q x y : Nat} (h : bitAt s k = true) (hq : nth names k = q) (hx : renO names s k = x) (hy : x ||| 2 ^ q = y) : renO names s (k + 1) = y := by
  rw [renO, if_pos h, hq, hx, ← hy]; rfl
theorem renO_off {names : List Int} {s k x : Nat} (h : bitAt s k = false) (hx : renO names s k = x) : renO names s (k + 1) = x := by
  rw [renO, if_neg (by rw [h]; simp), hx]; simp
theorem or_pow {x q y : Nat} (hx : x < 16) (hq : q < 4) (hy : x ||| 2 ^ q = y) : y < 16 ∧ bits .or .i64 (x : Int) ((2 ^ q : Nat) : Int) = (y : Int) := by
  have h2 : 2 ^ q < 2 ^ 4 := Nat.pow_lt_pow_right (by omega) hq
  have h1 : x ||| 2 ^ q < 2 ^ 4 := Nat.or_lt_two_pow (by omega) h2
  refine ⟨by omega, ?_⟩
  generalize 2 ^ q = z at *
  rw [bits_or_small (by omega) (by omega) (by omega) (by omega), Int.toNat_natCast, Int.toNat_natCast, hy]
theorem or_none {x : Nat} (hx : x < 16) : bits .or .i64 (x : Int) 0 = (x : Int) := by
  rw [bits_or_small (by omega) (by omega) (by omega) (by omega)]
  simp
theorem bit_val {s k : Nat} : (bitAt s k = true → (s : Int) / 2 ^ k % 2 = 1) ∧ (bitAt s k = false → (s : Int) / 2 ^ k % 2 = 0) := by
  rw [bit_cast]
  unfold bitAt
  have h : s / 2 ^ k % 2 = 0 ∨ s / 2 ^ k % 2 = 1 := by omega
  rcases h with h | h <;> rw [h] <;> simp
attribute [irreducible] renO

set_option maxHeartbeats 2000000 in
theorem implRenC (s n : Nat) (a : Addr) (A : Option Addr) (c : Nat) (names : List Int) (w : World) (hs : s < 16) (hn : n ≤ 4) (h1 : w.cell? a = some (.slice A n c)) (ha : RdI w A n names) (hP : MaskR 4 n names) :
    Calls Try.prog 46 #[.int .i64 s, .pointer (some a)] w fun e w' => e = .returned (.int .i64 (renO names s n : Nat)) ∧ Below w.heap.size w w' := by
  have HA := Lib.hid ha
  have HP := Lib.hid hP
  have HR0 := Lib.hid (renO_zero names s)
  clear ha hP
  go_enter Try.func46, Try.ntmps46
  go_wp2_with fail
  go_loopw [4, 9] (fun xv jv wr => ∃ j x : Nat, j ≤ n ∧ jv = .int .i64 (j : Nat) ∧ xv = .int .i64 (x : Nat) ∧ x < 16 ∧ Hid (renO names s j = x) ∧ w = wr) (fun _ jv _ => n - (intOf jv).toNat)
  case atStart => exact ⟨0, 0, Nat.zero_le _, rfl, rfl, by omega, HR0, rfl⟩
  case round =>
    obtain ⟨j, x, hj, rfl, rfl, hx, HX, hww⟩ := hrel
    obtain rfl := hww
    by_cases hlt : j < n
    · obtain ⟨a1, rfl, _, l1⟩ := HA.out.at_ hlt
      obtain ⟨q, hq, hq4⟩ := HP.out j hlt
      rw [hq] at l1
      have hj1 : j + 1 ≤ n := hlt
      have hl1 := less1 hlt
      cases hb : bitAt s j with
      | true =>
        have hv := bit_val.1 hb
        have hwq := wrap_pow q (by omega)
        obtain ⟨p, hp⟩ : ∃ p, 2 ^ q = p := ⟨_, rfl⟩
        obtain ⟨y, hy⟩ : ∃ y, x ||| 2 ^ q = y := ⟨_, rfl⟩
        obtain ⟨hy16, hor⟩ := or_pow hx hq4 hy
        have HNX := Lib.hid (renO_on hb hq HX.out hy)
        have HY16 := Lib.hid hy16
        rw [hp] at hwq hor
        clear hb hq hp hy hx hy16
        go_wp2_with fail
        go_roundw
        case rel => exact ⟨j + 1, y, hj1, rfl, rfl, HY16.out, HNX, by first | trivial | rfl⟩
        case measure => simpa [intOf] using hl1
      | false =>
        have hv := bit_val.2 hb
        have hor := or_none hx
        have HNX := Lib.hid (renO_off hb HX.out)
        have HX16 := Lib.hid hx
        clear hb hq hx
        go_wp2_with fail
        go_roundw
        case rel => exact ⟨j + 1, x, hj1, rfl, rfl, HX16.out, HNX, by first | trivial | rfl⟩
        case measure => simpa [intOf] using hl1
    · obtain rfl : j = n := by omega
      go_wp2_with fail
      go_ret
      exact ⟨by rw [HX.out]; rfl, Below.refl _ _⟩
end Go.Proofs.Ytobdkfhmmpigiaa
