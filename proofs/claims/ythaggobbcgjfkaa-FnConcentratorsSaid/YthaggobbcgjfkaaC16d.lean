/- Chapter 16: JoinedWith's loops. -/
import Derived.Test.YthaggobbcgjfkaaC16c2
namespace Go.Proofs.Ythaggobbcgjfkaa
open Go.RowKit Go.Deep
set_option linter.unusedVariables false
attribute [local go_sem] bits_and_one

/-- The outputs that the first k inputs of a set are joined with. -/
def joinedTo (zs : List Int) (s : Nat) : Nat → Nat
  | 0 => 0
  | k + 1 => if bitAt s k = true then joinedTo zs s k ||| (nth zs k).toNat else joinedTo zs s k
theorem joinedTo_lt {zs : List Int} (s : Nat) (h : ∀ j, j < zs.length → 0 ≤ nth zs j ∧ nth zs j ≤ 63) (k : Nat) (hk : k ≤ zs.length) : joinedTo zs s k < 64 := by
  induction k with
  | zero => simp [joinedTo]
  | succ k ih =>
    have h1 := ih (by omega)
    have h2 := h k (by omega)
    unfold joinedTo
    split
    · exact Nat.or_lt_two_pow (n := 6) h1 (by omega)
    · exact h1
def joined (zs : List Int) (s : Nat) : Nat := joinedTo zs s zs.length

set_option maxHeartbeats 1000000 in
theorem specJoined (A : Option Addr) (n c : Nat) (zs : List Int) (s : Nat) (w : World) (ha : RdI w A n zs) (hp : planOk zs = true) (hs : s < 64) :
    Calls Try.prog 42 #[.slice A n c, .int .i64 s] w fun e w' => e = .returned (.int .i64 (joined zs s)) ∧ w = w' := by
  have hl := Lib.hid ha.lenI
  have hpo := planOk_out hp
  have hn : n ≤ 6 := by have := hl.out; omega
  have HP := Lib.hid hpo.2.2
  clear hpo hp
  go_enter Try.func42, Try.ntmps42
  go_wp2
  go_loop [5, 10] (fun v i => ∃ k : Nat, k ≤ n ∧ i = .int .i64 k ∧ v = .int .i64 (joinedTo zs s k)) (fun _ i => n - (intOf i).toNat)
  case atStart => exact ⟨0, Nat.zero_le _, rfl, rfl⟩
  case round =>
    obtain ⟨k, hk, rfl, rfl⟩ := hrel
    by_cases hlt : k < n
    · obtain ⟨a1, rfl, _, h1⟩ := ha.at_ hlt
      have hz := HP.out k (by have := hl.out; omega)
      have hj := joinedTo_lt s HP.out k (by have := hl.out; omega)
      have ho := bits_or_small (a := (joinedTo zs s k : Int)) (b := nth zs k) (by omega) (by omega) hz.1 (by omega)
      rw [Int.toNat_natCast] at ho
      cases hb : bitAt s k with
      | true =>
        have hb1 := (bit_on hb).1
        have H := Lib.hid (show joinedTo zs s (k + 1) = joinedTo zs s k ||| (nth zs k).toNat by simp [joinedTo, hb])
        clear hb
        go_wp2
        go_round
        case rel => exact ⟨k + 1, by omega, by go_num, by rw [H.out]⟩
        case measure => simp [intOf]; omega
      | false =>
        have hb1 := (bit_off hb).1
        have H := Lib.hid (show joinedTo zs s (k + 1) = joinedTo zs s k by simp [joinedTo, hb])
        clear hb
        go_wp2
        go_round
        case rel => exact ⟨k + 1, by omega, by go_num, by rw [H.out]⟩
        case measure => simp [intOf]; omega
    · have H := Lib.hid (show joinedTo zs s k = joined zs s by unfold joined; rw [hl.out, show n = k by omega])
      go_wp2
      go_ret
      exact ⟨ret_int (by rw [H.out]), rfl⟩

set_option maxHeartbeats 1000000 in
theorem implJoined (A : Option Addr) (n c : Nat) (zs : List Int) (s : Nat) (w : World) (ha : RdI w A n zs) (hp : planOk zs = true) (hs : s < 64) :
    Calls Try.prog 44 #[.slice A n c, .int .i64 s] w fun e w' => e = .returned (.int .i64 (joined zs s)) ∧ w = w' := by
  have hl := Lib.hid ha.lenI
  have hpo := planOk_out hp
  have hn : n ≤ 6 := by have := hl.out; omega
  have HP := Lib.hid hpo.2.2
  clear hpo hp
  go_enter Try.func44, Try.ntmps44
  go_wp2
  go_loop [5, 10] (fun v i => ∃ k : Nat, k ≤ n ∧ i = .int .i64 k ∧ v = .int .i64 (joinedTo zs s k)) (fun _ i => n - (intOf i).toNat)
  case atStart => exact ⟨0, Nat.zero_le _, rfl, rfl⟩
  case round =>
    obtain ⟨k, hk, rfl, rfl⟩ := hrel
    by_cases hlt : k < n
    · obtain ⟨a1, rfl, _, h1⟩ := ha.at_ hlt
      have hz := HP.out k (by have := hl.out; omega)
      have hj := joinedTo_lt s HP.out k (by have := hl.out; omega)
      have ho := bits_or_small (a := (joinedTo zs s k : Int)) (b := nth zs k) (by omega) (by omega) hz.1 (by omega)
      rw [Int.toNat_natCast] at ho
      cases hb : bitAt s k with
      | true =>
        have hb1 := (bit_on hb).1
        have H := Lib.hid (show joinedTo zs s (k + 1) = joinedTo zs s k ||| (nth zs k).toNat by simp [joinedTo, hb])
        clear hb
        go_wp2
        go_round
        case rel => exact ⟨k + 1, by omega, by go_num, by rw [H.out]⟩
        case measure => simp [intOf]; omega
      | false =>
        have hb1 := (bit_off hb).1
        have H := Lib.hid (show joinedTo zs s (k + 1) = joinedTo zs s k by simp [joinedTo, hb])
        clear hb
        go_wp2
        go_round
        case rel => exact ⟨k + 1, by omega, by go_num, by rw [H.out]⟩
        case measure => simp [intOf]; omega
    · have H := Lib.hid (show joinedTo zs s k = joined zs s by unfold joined; rw [hl.out, show n = k by omega])
      go_wp2
      go_ret
      exact ⟨ret_int (by rw [H.out]), rfl⟩

attribute [irreducible] joined

end Go.Proofs.Ythaggobbcgjfkaa
