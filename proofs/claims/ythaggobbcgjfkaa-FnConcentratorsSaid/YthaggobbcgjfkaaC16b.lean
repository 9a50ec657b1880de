/- Chapter 16: WithoutOutput of the reference and of the program. -/
import Derived.Test.YthaggobbcgjfkaaC16a
namespace Go.Proofs.Ythaggobbcgjfkaa
open Go.RowKit Go.Deep
set_option linter.unusedVariables false

/-- The plan without an output, as numbers. -/
def without (zs : List Int) (o : Int) : List Int := if planOk zs = true ∧ 0 ≤ o ∧ o ≤ 5 then zs.map (fun z => bits .andNot .i64 z (wrap64 (2 ^ o.toNat))) else []

theorem map_take_nth {zs : List Int} {k : Nat} (f : Int → Int) (h : k < zs.length) : (zs.take k).map f ++ [f (nth zs k)] = (zs.take (k + 1)).map f := by
  rw [take_nth h]; simp

set_option maxHeartbeats 1000000 in
theorem specWithout (A : Option Addr) (n c : Nat) (zs : List Int) (o : Int) (w : World) (ha : RdI w A n zs) (hn : n ≤ 1048576) :
    Calls Try.prog 17 #[.slice A n c, .int .i64 o] w fun e w' => ∃ A' n' c', e = .returned (.slice A' n' c') ∧ OwnI w' w.heap.size 3 A' n' c' (without zs o) ∧ Below w.heap.size w w' := by
  by_cases hp : planOk zs = true
  · by_cases h0 : 0 ≤ o ∧ o ≤ 5
    · have hw := Lib.hid (show without zs o = zs.map (fun z => bits .andNot .i64 z (wrap64 (2 ^ o.toNat))) from if_pos ⟨hp, h0⟩)
      have hl := Lib.hid ha.lenI
      obtain ⟨m, rfl⟩ := Int.eq_ofNat_of_zero_le h0.1
      rw [Int.toNat_natCast] at hw
      have hm : m ≤ 5 := by omega
      go_enter Try.func17, Try.ntmps17
      go_wp2_with (first | (go_at_call 40; refine (l01In_yes _ _ _ _ (by omega)).mono ?_; rintro e w' ⟨rfl, rfl⟩) | (go_at_call 13; refine (specPlanOk A n c zs _ ha hn).mono ?_; rintro e w' ⟨rfl, rfl⟩))
      go_loopw [5, 19] (fun v i wr => ∃ k : Nat, ∃ A' c', k ≤ n ∧ i = .int .i64 k ∧ v = .slice A' k c' ∧ OwnI wr w.heap.size 3 A' k c' ((zs.take k).map (fun z => bits .andNot .i64 z (wrap64 (2 ^ m)))) ∧ Below w.heap.size w wr) (fun _ i _ => n - (intOf i).toNat)
      case atStart => exact ⟨0, _, _, Nat.zero_le _, rfl, rfl, own_empty w _, below_alloc w _⟩
      case round =>
        obtain ⟨k, A', c', hk, rfl, rfl, hown, hbl⟩ := hrel
        have hsz := hbl.size
        by_cases hlt : k < n
        · obtain ⟨a1, rfl, _, h1⟩ := (ha.below hbl).at_ hlt
          have H := Lib.hid (map_take_nth (zs := zs) (k := k) (fun z => bits .andNot .i64 z (wrap64 (2 ^ m))) (by have := hl.out; omega))
          go_wp2_with (at_builtin; refine wpL_append1 _ rfl _ _ _ rfl w.heap.size 3 (.int .i64 0) 8 Try.underlying22 intInfo rfl _ k _ _ rfl hown _ rfl rfl (by unfold maxLen; omega) (by omega) hsz ?_)
          intro A2 c2 w2 ho2 hg2 hat2
          have hb2 := own_below hown hbl hsz hg2
          go_wp2
          go_roundw
          case rel => exact ⟨k + 1, A2, c2, by omega, by go_num, rfl, by rw [OwnI, ← H.out]; simpa using ho2, hb2⟩
          case measure => simp [intOf]; omega
        · have hkn : k = n := by omega
          subst hkn
          rw [List.take_of_length_le (Nat.le_of_eq hl.out), ← hw.out] at hown
          clear h0
          go_wp2
          go_ret
          exact ⟨_, _, _, rfl, hown, hbl⟩
    · have hw := Lib.hid (show without zs o = [] from if_neg (by simp; omega))
      go_enter Try.func17, Try.ntmps17
      go_wp2_with (first | (go_at_call 40; refine (l01In_no _ _ _ _ h0).mono ?_; rintro e w' ⟨rfl, rfl⟩) | (go_at_call 13; refine (specPlanOk A n c zs _ ha hn).mono ?_; rintro e w' ⟨rfl, rfl⟩))
      go_ret
      exact ⟨_, _, _, rfl, by rw [hw.out]; exact Own.nil_ _ _ _, Below.refl _ _⟩
  · have hp' : planOk zs = false := by simpa using hp
    have hw := Lib.hid (show without zs o = [] from if_neg (by simp [hp']))
    clear hp
    go_enter Try.func17, Try.ntmps17
    go_wp2_with ((go_at_call 13; refine (specPlanOk A n c zs _ ha hn).mono ?_; rintro e w' ⟨rfl, rfl⟩))
    go_ret
    exact ⟨_, _, _, rfl, by rw [hw.out]; exact Own.nil_ _ _ _, Below.refl _ _⟩

set_option maxHeartbeats 1000000 in
theorem implWithout (A : Option Addr) (n c : Nat) (zs : List Int) (o : Int) (w : World) (ha : RdI w A n zs) (hn : n ≤ 1048576) :
    Calls Try.prog 18 #[.slice A n c, .int .i64 o] w fun e w' => ∃ A' n' c', e = .returned (.slice A' n' c') ∧ OwnI w' w.heap.size 3 A' n' c' (without zs o) ∧ Below w.heap.size w w' := by
  by_cases hp : planOk zs = true
  · by_cases h0 : 0 ≤ o ∧ o ≤ 5
    · have hw := Lib.hid (show without zs o = zs.map (fun z => bits .andNot .i64 z (wrap64 (2 ^ o.toNat))) from if_pos ⟨hp, h0⟩)
      have hl := Lib.hid ha.lenI
      obtain ⟨m, rfl⟩ := Int.eq_ofNat_of_zero_le h0.1
      rw [Int.toNat_natCast] at hw
      have hm : m ≤ 5 := by omega
      go_enter Try.func18, Try.ntmps18
      go_wp2_with ((go_at_call 15; refine (implPlanOk A n c zs _ ha hn).mono ?_; rintro e w' ⟨rfl, rfl⟩))
      go_loopw [5, 22] (fun v i wr => ∃ k : Nat, ∃ A' c', k ≤ n ∧ i = .int .i64 k ∧ v = .slice A' k c' ∧ OwnI wr w.heap.size 3 A' k c' ((zs.take k).map (fun z => bits .andNot .i64 z (wrap64 (2 ^ m)))) ∧ Below w.heap.size w wr) (fun _ i _ => n - (intOf i).toNat)
      case atStart => exact ⟨0, _, _, Nat.zero_le _, rfl, rfl, own_empty w _, below_alloc w _⟩
      case round =>
        obtain ⟨k, A', c', hk, rfl, rfl, hown, hbl⟩ := hrel
        have hsz := hbl.size
        by_cases hlt : k < n
        · obtain ⟨a1, rfl, _, h1⟩ := (ha.below hbl).at_ hlt
          have H := Lib.hid (map_take_nth (zs := zs) (k := k) (fun z => bits .andNot .i64 z (wrap64 (2 ^ m))) (by have := hl.out; omega))
          go_wp2_with (at_builtin; refine wpL_append1 _ rfl _ _ _ rfl w.heap.size 3 (.int .i64 0) 8 Try.underlying22 intInfo rfl _ k _ _ rfl hown _ rfl rfl (by unfold maxLen; omega) (by omega) hsz ?_)
          intro A2 c2 w2 ho2 hg2 hat2
          have hb2 := own_below hown hbl hsz hg2
          go_wp2
          go_roundw
          case rel => exact ⟨k + 1, A2, c2, by omega, by go_num, rfl, by rw [OwnI, ← H.out]; simpa using ho2, hb2⟩
          case measure => simp [intOf]; omega
        · have hkn : k = n := by omega
          subst hkn
          rw [List.take_of_length_le (Nat.le_of_eq hl.out), ← hw.out] at hown
          clear h0
          go_wp2
          go_ret
          exact ⟨_, _, _, rfl, hown, hbl⟩
    · by_cases h1 : o < 0
      · have hw := Lib.hid (show without zs o = [] from if_neg (by simp; omega))
        go_enter Try.func18, Try.ntmps18
        go_wp2_with ((go_at_call 15; refine (implPlanOk A n c zs _ ha hn).mono ?_; rintro e w' ⟨rfl, rfl⟩))
        go_ret
        exact ⟨_, _, _, rfl, by rw [hw.out]; exact Own.nil_ _ _ _, Below.refl _ _⟩
      · have h2 : 5 < o := by omega
        have hw := Lib.hid (show without zs o = [] from if_neg (by simp; omega))
        go_enter Try.func18, Try.ntmps18
        go_wp2_with ((go_at_call 15; refine (implPlanOk A n c zs _ ha hn).mono ?_; rintro e w' ⟨rfl, rfl⟩))
        go_ret
        exact ⟨_, _, _, rfl, by rw [hw.out]; exact Own.nil_ _ _ _, Below.refl _ _⟩
  · have hp' : planOk zs = false := by simpa using hp
    have hw := Lib.hid (show without zs o = [] from if_neg (by simp [hp']))
    clear hp
    go_enter Try.func18, Try.ntmps18
    go_wp2_with ((go_at_call 15; refine (implPlanOk A n c zs _ ha hn).mono ?_; rintro e w' ⟨rfl, rfl⟩))
    go_ret
    exact ⟨_, _, _, rfl, by rw [hw.out]; exact Own.nil_ _ _ _, Below.refl _ _⟩

end Go.Proofs.Ythaggobbcgjfkaa
