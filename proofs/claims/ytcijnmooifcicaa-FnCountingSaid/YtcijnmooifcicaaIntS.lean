/- What the statements' own helpers do: toIntS copies, eqIntS compares, markIntS and heldIntS write and read marks; spec.l01In. -/
import Derived.Test.YtcijnmooifcicaaRows
import Derived.Test.YtcijnmooifcicaaWords
namespace Go.Proofs.Ytcijnmooifcicaa
open Go.RowKit
set_option linter.unusedVariables false

theorem intInfo : (Try.prog.info? 3).map (fun i => (i.zero, i.size, i.bytes)) = some (some (.int .i64 0), 1, 8) := by kernel_rfl

theorem l01In_any (n lo hi : Int) (w : World) : Calls Try.prog 47 #[.int .i64 n, .int .i64 lo, .int .i64 hi] w fun e w' => e = .returned (.bool (decide (lo ≤ n ∧ n ≤ hi))) ∧ w = w' := by
  by_cases h1 : lo ≤ n <;> by_cases h2 : n ≤ hi
  all_goals
    go_enter Try.func47, Try.ntmps47
    go_wp2
    go_ret
    exact ⟨by simp [h1, h2], rfl⟩

set_option maxHeartbeats 1000000 in
theorem eqIntS_yes (A B : Option Addr) (n c d : Nat) (zs : List Int) (w : World) (ha : RdI w A n zs) (hb : RdI w B n zs) (hn : n ≤ maxLen) :
    Calls Try.prog 15 #[.slice A n c, .slice B n d] w fun e w' => e = .returned (.bool true) ∧ Below w.heap.size w w' := by
  unfold maxLen at hn
  go_enter Try.func15, Try.ntmps15
  go_wp2
  go_loopw [5] (fun i wr => ∃ k : Nat, k ≤ n ∧ i = .int .i64 k ∧ Below w.heap.size w wr) (fun i _ => n - (intOf i).toNat)
  case atStart => exact ⟨0, Nat.zero_le _, rfl, Below.refl _ _⟩
  case round =>
    obtain ⟨k, hk, rfl, hbl⟩ := hrel
    by_cases hlt : k < n
    · obtain ⟨a1, rfl, _, h1⟩ := (ha.below hbl).at_ hlt
      obtain ⟨a2, rfl, _, h2⟩ := (hb.below hbl).at_ hlt
      go_wp2
      go_region
      all_goals
        go_wp2
        go_roundw
        case rel => exact ⟨k + 1, by omega, by go_num, hbl.drew⟩
        case measure => simp [intOf]; omega
    · go_wp2
      go_ret
      exact ⟨rfl, hbl⟩

set_option maxHeartbeats 1000000 in
theorem toIntS_any (A : Option Addr) (n c : Nat) (zs : List Int) (w : World) (ha : RdI w A n zs) (hn : n ≤ 1048576) :
    Calls Try.prog 13 #[.slice A n c] w fun e w' => ∃ A' c', e = .returned (.slice A' n c') ∧ OwnI w' w.heap.size 3 A' n c' zs ∧ Below w.heap.size w w' := by
  go_enter Try.func13, Try.ntmps13
  go_wp2_with (at_make; refine wpL_make _ rfl _ _ 22 rfl 3 (.int .i64 0) 8 Try.underlying22 intInfo rfl _ _ _ _ n rfl rfl rfl rfl (by omega) (by unfold maxLen; omega) ?_)
  intro w1 hown hbl hsz
  go_wp2
  go_loopw [4] (fun i wr => ∃ k : Nat, ∃ ys : List Int, k ≤ n ∧ i = .int .i64 k ∧ OwnI wr w.heap.size 3 (some ⟨w.heap.size, 0, none⟩) n n ys ∧ ys.take k = zs.take k ∧ Below w.heap.size w wr) (fun i _ => n - (intOf i).toNat)
  case atStart => exact ⟨0, List.replicate n 0, Nat.zero_le _, rfl, by simpa [OwnI, List.map_replicate] using hown, by simp, hbl⟩
  case round =>
    obtain ⟨k, ys, hk, rfl, hown, htk, hbl⟩ := hrel
    by_cases hlt : k < n
    · obtain ⟨a1, rfl, _, h1⟩ := (ha.below hbl).at_ hlt
      obtain ⟨g, u, hgA, _, _, _, h2, h3⟩ := hown.at_ hlt
      injection hgA with hgA
      injection hgA with hgA
      subst hgA
      have hown2 := hown.setI (x := nth zs k) hlt
      have H := Lib.hid (take_set_nth htk (by have := hown.lenI; omega) (by have := ha.lenI; omega))
      have hb2 := hbl.setCell (p := ⟨w.heap.size, k, none⟩) (Nat.le_refl _) (.int .i64 (nth zs k))
      clear htk hown hbl
      go_wp2
      go_roundw
      case rel => exact ⟨k + 1, _, by omega, by go_num, hown2, H.out, hb2⟩
      case measure => simp [intOf]; omega
    · have hkn : k = n := by omega
      subst hkn
      have l1 := hown.lenI
      have l2 := ha.lenI
      rw [List.take_of_length_le (by omega), List.take_of_length_le (by omega)] at htk
      subst htk
      go_wp2
      go_ret
      exact ⟨_, _, rfl, hown, hbl⟩

/-- The numbers k, k + 1, .. n of them. -/
def marks (k : Int) : Nat → List Int
  | 0 => []
  | n + 1 => marks k n ++ [k + n]
theorem marks_len (k : Int) (n : Nat) : (marks k n).length = n := by
  induction n with
  | zero => rfl
  | succ n ih => simp [marks, ih]
theorem marks_take (k : Int) (n j : Nat) (h : j ≤ n) : (marks k n).take j = marks k j := by
  induction n with
  | zero => have : j = 0 := by omega
            subst this; rfl
  | succ n ih =>
    by_cases hj : j = n + 1
    · subst hj; rw [List.take_of_length_le (by rw [marks_len]; omega)]
    · rw [marks, List.take_append_of_le_length (by rw [marks_len]; omega), ih (by omega)]
theorem marks_nth (k : Int) (n j : Nat) (h : j < n) : nth (marks k n) j = k + j := by
  have h1 := marks_take k n (j + 1) (by omega)
  rw [take_nth (by rw [marks_len]; omega), marks_take k n j (by omega)] at h1
  simpa [marks] using h1

theorem mark_step {ys : List Int} {m : Int} {k : Nat} (h1 : ys.take k = marks m k) (hk : k < ys.length) : (ys.set k (m + k)).take (k + 1) = marks m (k + 1) := by
  rw [take_nth (zs := ys.set k (m + k)) (by simpa using hk), List.take_set_of_le (Nat.le_refl _), h1, nth_eq (zs := ys.set k (m + k)) (by simpa using hk)]
  simp [marks]

set_option maxHeartbeats 1000000 in
theorem markIntS_any (A : Option Addr) (n c base : Nat) (zs : List Int) (m : Int) (w : World) (ha : OwnI w base 3 A n c zs) (hn : n ≤ 1048576) (hm0 : 0 ≤ m) (hm1 : m ≤ 4611686018427387904) :
    Calls Try.prog 18 #[.slice A n c, .int .i64 m] w fun e w' => e = .returned (.int .i64 (m + n)) ∧ OwnI w' base 3 A n c (marks m n) ∧ w.grownBy w' (blk A) := by
  go_enter Try.func18, Try.ntmps18
  go_wp2
  go_loopw [1, 5] (fun q i wr => ∃ k : Nat, ∃ ys : List Int, k ≤ n ∧ i = .int .i64 k ∧ q = .int .i64 (m + k) ∧ OwnI wr base 3 A n c ys ∧ ys.take k = marks m k ∧ w.grownBy wr (blk A)) (fun _ i _ => n - (intOf i).toNat)
  case atStart => exact ⟨0, zs, Nat.zero_le _, rfl, by simp, ha, by simp [marks], World.grownBy.refl _ _⟩
  case round =>
    obtain ⟨k, ys, hk, rfl, rfl, hown, htk, hgr⟩ := hrel
    by_cases hlt : k < n
    · obtain ⟨g, u, rfl, _, _, _, h2, h3⟩ := hown.at_ hlt
      have hown2 := hown.setI (x := m + k) hlt
      have H := Lib.hid (mark_step htk (m := m) (by have := hown.lenI; omega))
      have hg2 := grownBy_set hgr (p := ⟨g, k, none⟩) rfl (.int .i64 (m + k))
      clear htk hown hgr
      go_wp2
      go_roundw
      case rel => exact ⟨k + 1, _, by omega, by go_num, by go_num, hown2, H.out, hg2⟩
      case measure => simp [intOf]; omega
    · have hkn : k = n := by omega
      subst hkn
      have l1 := hown.lenI
      rw [List.take_of_length_le (by omega)] at htk
      subst htk
      go_wp2
      go_ret
      exact ⟨rfl, hown, hgr⟩

set_option maxHeartbeats 1000000 in
theorem heldIntS_any (A : Option Addr) (n c : Nat) (m : Int) (w : World) (ha : RdI w A n (marks m n)) (hn : n ≤ 1048576) (hm0 : 0 ≤ m) (hm1 : m ≤ 4611686018427387904) :
    Calls Try.prog 19 #[.slice A n c, .int .i64 m] w fun e w' => e = .returned (.int .i64 (m + n)) ∧ Below w.heap.size w w' := by
  go_enter Try.func19, Try.ntmps19
  go_wp2
  go_loopw [1, 5] (fun q i wr => ∃ k : Nat, k ≤ n ∧ i = .int .i64 k ∧ q = .int .i64 (m + k) ∧ Below w.heap.size w wr) (fun _ i _ => n - (intOf i).toNat)
  case atStart => exact ⟨0, Nat.zero_le _, rfl, by simp, Below.refl _ _⟩
  case round =>
    obtain ⟨k, hk, rfl, rfl, hbl⟩ := hrel
    by_cases hlt : k < n
    · obtain ⟨a1, rfl, _, h1⟩ := (ha.below hbl).at_ hlt
      rw [marks_nth _ _ _ hlt] at h1
      go_wp2
      go_roundw
      case rel => exact ⟨k + 1, by omega, by go_num, by go_num, hbl⟩
      case measure => simp [intOf]; omega
    · have hkn : k = n := by omega
      subst hkn
      go_wp2
      go_ret
      exact ⟨rfl, hbl⟩

end Go.Proofs.Ytcijnmooifcicaa
