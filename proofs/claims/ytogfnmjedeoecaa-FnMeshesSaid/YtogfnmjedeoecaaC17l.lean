/- Chapter 17: shear sorting. -/
import Derived.Test.YtogfnmjedeoecaaC17p
namespace Go.Proofs.Ytogfnmjedeoecaa
open Go.RowKit Go.Deep
set_option linter.unusedVariables false

theorem rises_bad {zs : List Int} {k : Nat} (hk : k + 1 < zs.length) (h : nth zs (k + 1) < nth zs k) : risesB zs = false := by
  cases hb : risesB zs with
  | false => rfl
  | true => have := (rises_iff zs).1 hb k hk; omega
theorem rises_ok {zs : List Int} (h : ∀ k, k + 1 < zs.length → nth zs k ≤ nth zs (k + 1)) : risesB zs = true := (rises_iff zs).2 h

set_option maxHeartbeats 1000000 in
theorem specRises (A : Option Addr) (n c : Nat) (zs : List Int) (w : World) (ha : RdI w A n zs) (hn : n ≤ 1048576) :
    Calls Try.prog 60 #[.slice A n c] w fun e w' => e = .returned (.bool (risesB zs)) ∧ Below w.heap.size w w' := by
  have hl := Lib.hid ha.lenI
  go_enter Try.func60, Try.ntmps60
  go_wp2
  go_loopw [3] (fun i wr => ∃ k : Nat, (k ≤ n ∨ k = 1) ∧ 1 ≤ k ∧ i = .int .i64 k ∧ Hid (∀ j, j + 1 < k → nth zs j ≤ nth zs (j + 1)) ∧ Below w.heap.size w wr) (fun i _ => n - (intOf i).toNat)
  case atStart => exact ⟨1, .inr rfl, Nat.le_refl _, rfl, Lib.hid (fun j hj => by omega), Below.refl _ _⟩
  case round =>
    obtain ⟨k, hk, hk1, rfl, HJ, hbl⟩ := hrel
    by_cases hlt : k < n
    · obtain ⟨s, hs⟩ : ∃ s, k = s + 1 := ⟨k - 1, by omega⟩
      obtain ⟨a1, rfl, _, h1⟩ := (ha.below hbl).at_ hlt
      obtain ⟨a2, ha2, _, h2⟩ := (ha.below hbl).at_ (show s < n by omega)
      injection ha2 with ha2
      subst ha2
      have e1 : ((k : Int) - 1) = (s : Int) := by omega
      have hk8 : k ≤ 1048576 := by omega
      have hsn : s < n := by omega
      have HS := Lib.hid hs
      clear hk
      by_cases hx : nth zs k < nth zs s
      · have H := Lib.hid (rises_bad (k := s) (by rw [hl.out, ← hs]; exact hlt) (by rw [← hs]; exact hx))
        clear hs
        go_wp2
        go_region
        all_goals
          go_wp2
          go_ret
          exact ⟨ret_bool H.out.symm, hbl.drew⟩
      · have H := Lib.hid (show ∀ j, j + 1 < k + 1 → nth zs j ≤ nth zs (j + 1) from fun j hj => by
          by_cases e : j = s
          · subst e; rw [← hs]; omega
          · exact HJ.out j (by omega))
        have d : decide (nth zs k < nth zs s) = false := decide_eq_false hx
        clear hx hs
        go_wp2
        go_region
        all_goals
          go_wp2
          go_roundw
          case rel => exact ⟨k + 1, .inl (by omega), by omega, by go_num, H, hbl.drew⟩
          case measure => (simp [intOf] <;> omega)
    · have H := Lib.hid (rises_ok (zs := zs) (fun j hj => HJ.out j (by rw [hl.out] at hj; omega)))
      have hk8 : k ≤ 1048577 := by omega
      clear hk
      go_wp2
      go_ret
      exact ⟨ret_bool H.out.symm, hbl⟩

theorem lessInt (a b : Int) (w : World) : Calls Try.prog 69 #[.int .i64 a, .int .i64 b] w fun e w' => e = .returned (.bool (decide (a < b))) ∧ w' = w := by
  by_cases h : a < b
  · go_enter Try.func69, Try.ntmps69
    go_wp2
    go_ret
    exact ⟨ret_bool (by simp [h]), rfl⟩
  · go_enter Try.func69, Try.ntmps69
    go_wp2
    go_ret
    exact ⟨ret_bool (by simp; omega), rfl⟩

set_option maxHeartbeats 1000000 in
theorem implSorted (A : Option Addr) (n c : Nat) (zs : List Int) (w : World) (ha : RdI w A n zs) (hn : n ≤ 1048576) :
    Calls Try.prog 61 #[.slice A n c] w fun e w' => e = .returned (.bool (risesB zs)) ∧ Below w.heap.size w w' := by
  have hl := Lib.hid ha.lenI
  go_enter Try.func61, Try.ntmps61
  go_wp2
  go_loopw [3] (fun i wr => ∃ z : Int, -1 ≤ z ∧ z < n + 1 ∧ Hid (0 < z → z < n) ∧ i = .int .i64 z ∧ Hid (∀ j : Nat, z ≤ j → j + 1 < n → nth zs j ≤ nth zs (j + 1)) ∧ Below w.heap.size w wr) (fun i _ => (intOf i).toNat)
  case atStart => exact ⟨_, by omega, by omega, Lib.hid (by omega), rfl, Lib.hid (fun j h1 h2 => by omega), Below.refl _ _⟩
  case round =>
    obtain ⟨z, hz1, hz2, hz3, rfl, HJ, hbl⟩ := hrel
    by_cases h0 : 0 < z
    · obtain ⟨k, rfl⟩ := Int.eq_ofNat_of_zero_le (show 0 ≤ z by omega)
      have hlt : k < n := by have := hz3.out h0; omega
      have hk1 : 0 < k := by omega
      obtain ⟨s, hs⟩ : ∃ s : Nat, k = s + 1 := ⟨k - 1, by omega⟩
      obtain ⟨a1, rfl, _, h1⟩ := (ha.below hbl).at_ hlt
      obtain ⟨a2, ha2, _, h2⟩ := (ha.below hbl).at_ (show s < n by omega)
      injection ha2 with ha2
      subst ha2
      have e1 : ((k : Int) - 1) = (s : Int) := by omega
      have e1w : IntKind.i64.wrap ((k : Int) - 1) = (s : Int) := by rw [IntWalk.i64_in _ (by omega)]; exact e1
      have hk8 : k ≤ 1048576 := by omega
      have hsn : s < n := by omega
      have HS := Lib.hid hs
      clear h0 hz1 hz2 hz3
      by_cases hx : nth zs k < nth zs s
      · have H := Lib.hid (rises_bad (k := s) (by rw [hl.out, ← hs]; exact hlt) (by rw [← hs]; exact hx))
        clear hs
        go_wp2_with fail
        go_quiet ((go_at_call 69; exact Calls.quiet_of_same (lessInt _ _ _)))
        clear e1w
        go_wp2
        go_ret
        exact ⟨ret_bool H.out.symm, below_drewN hbl _⟩
      · have H := Lib.hid (show ∀ j : Nat, ((s : Nat) : Int) ≤ j → j + 1 < n → nth zs j ≤ nth zs (j + 1) from fun j h1 h2 => by
          by_cases e : j = s
          · subst e; rw [← hs]; omega
          · exact HJ.out j (by omega) h2)
        have d : decide (nth zs k < nth zs s) = false := decide_eq_false hx
        have hx2 : nth zs s ≤ nth zs k := by omega
        clear hx hs
        go_wp2_with fail
        go_quiet ((go_at_call 69; exact Calls.quiet_of_same (lessInt _ _ _)))
        clear e1w
        go_wp2
        go_roundw
        case rel => exact ⟨s, by omega, by omega, Lib.hid (by omega), by go_num, H, below_drewN hbl _⟩
        case measure => (simp [intOf] <;> omega)
    · have H := Lib.hid (rises_ok (zs := zs) (fun j hj => HJ.out j (by omega) (by rw [hl.out] at hj; exact hj)))
      go_wp2
      go_ret
      exact ⟨ret_bool H.out.symm, hbl⟩

end Go.Proofs.Ytogfnmjedeoecaa
