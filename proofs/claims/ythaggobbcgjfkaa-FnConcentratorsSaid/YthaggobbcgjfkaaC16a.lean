/- Chapter 16 (concentrators): PlanOk of the reference and of the program answer 'planOk'. -/
import Derived.Test.YthaggobbcgjfkaaIntS
namespace Go.Proofs.Ythaggobbcgjfkaa
open Go.RowKit Go.Deep
set_option linter.unusedVariables false

theorem l01In_yes (n lo hi : Int) (w : World) (h : lo ≤ n ∧ n ≤ hi) : Calls Try.prog 40 #[.int .i64 n, .int .i64 lo, .int .i64 hi] w fun e w' => e = .returned (.bool true) ∧ w = w' := by
  have h1 := h.1
  have h2 := h.2
  go_enter Try.func40, Try.ntmps40
  go_wp2
  go_ret
  exact ⟨rfl, rfl⟩
theorem l01In_no (n lo hi : Int) (w : World) (h : ¬ (lo ≤ n ∧ n ≤ hi)) : Calls Try.prog 40 #[.int .i64 n, .int .i64 lo, .int .i64 hi] w fun e w' => e = .returned (.bool false) ∧ w = w' := by
  by_cases h1 : lo ≤ n
  · have h2 : hi < n := by omega
    clear h
    have h3 : decide (n ≤ hi) = false := by simp; omega
    go_enter Try.func40, Try.ntmps40
    go_wp2
    go_ret
    exact ⟨rfl, rfl⟩
  · have h2 : n < lo := by omega
    clear h h1
    go_enter Try.func40, Try.ntmps40
    go_wp2
    go_ret
    exact ⟨rfl, rfl⟩

def okSet (z : Int) : Bool := decide (0 ≤ z ∧ z ≤ 63)
def planOk (zs : List Int) : Bool := decide (1 ≤ zs.length ∧ zs.length ≤ 6) && zs.all okSet
def PfxOk (zs : List Int) (k : Nat) : Prop := ∀ j, j < k → okSet (nth zs j) = true
theorem PfxOk.zero (zs : List Int) : PfxOk zs 0 := fun j h => absurd h (by omega)
theorem PfxOk.succ {zs : List Int} {k : Nat} (h : PfxOk zs k) (h1 : okSet (nth zs k) = true) : PfxOk zs (k + 1) := fun j hj => by
  by_cases e : j = k
  · subst e; exact h1
  · exact h j (by omega)
theorem planOk_len {zs : List Int} (h : ¬ (1 ≤ zs.length ∧ zs.length ≤ 6)) : planOk zs = false := by simp [planOk, h]
theorem planOk_bad {zs : List Int} {k : Nat} (hk : k < zs.length) (h : okSet (nth zs k) = false) : planOk zs = false := by
  cases hp : planOk zs with
  | false => rfl
  | true =>
    simp only [planOk, Bool.and_eq_true, List.all_eq_true] at hp
    have := hp.2 _ (nth_mem hk)
    rw [h] at this
    exact absurd this (by simp)
theorem planOk_yes {zs : List Int} (h : 1 ≤ zs.length ∧ zs.length ≤ 6) (hp : PfxOk zs zs.length) : planOk zs = true := by
  simp only [planOk, Bool.and_eq_true, List.all_eq_true, decide_eq_true_eq]
  refine ⟨h, fun z hz => ?_⟩
  obtain ⟨j, hj, rfl⟩ := List.getElem_of_mem hz
  rw [← nth_eq hj]
  exact hp j hj
theorem planOk_out {zs : List Int} (h : planOk zs = true) : 1 ≤ zs.length ∧ zs.length ≤ 6 ∧ ∀ j, j < zs.length → 0 ≤ nth zs j ∧ nth zs j ≤ 63 := by
  simp only [planOk, Bool.and_eq_true, List.all_eq_true, decide_eq_true_eq] at h
  refine ⟨h.1.1, h.1.2, fun j hj => ?_⟩
  simpa [okSet] using h.2 _ (nth_mem hj)

set_option maxHeartbeats 1000000 in
theorem specPlanOk (A : Option Addr) (n c : Nat) (zs : List Int) (w : World) (ha : RdI w A n zs) (hn : n ≤ 1048576) :
    Calls Try.prog 13 #[.slice A n c] w fun e w' => e = .returned (.bool (planOk zs)) ∧ w = w' := by
  have hl := Lib.hid ha.lenI
  by_cases hlen : 1 ≤ n ∧ n ≤ 6
  · go_enter Try.func13, Try.ntmps13
    go_wp2_with (go_at_call 40; refine (l01In_yes _ _ _ _ (by omega)).mono ?_; rintro e w' ⟨rfl, rfl⟩)
    go_loop [11] (fun i => ∃ k : Nat, k ≤ n ∧ i = .int .i64 k ∧ PfxOk zs k) (fun i => n - (intOf i).toNat)
    case atStart => exact ⟨0, Nat.zero_le _, rfl, PfxOk.zero _⟩
    case round =>
      obtain ⟨k, hk, rfl, hpf⟩ := hrel
      by_cases hlt : k < n
      · obtain ⟨a1, rfl, _, h1⟩ := ha.at_ hlt
        by_cases hz : 0 ≤ nth zs k ∧ nth zs k ≤ 63
        · have H := Lib.hid (PfxOk.succ hpf (by simp [okSet, hz]))
          clear hpf
          go_wp2_with (go_at_call 40; refine (l01In_yes _ _ _ _ hz).mono ?_; rintro e w' ⟨rfl, rfl⟩)
          go_round
          case rel => exact ⟨k + 1, by omega, by go_num, H.out⟩
          case measure => simp [intOf]; omega
        · have H := Lib.hid (planOk_bad (zs := zs) (k := k) (by have := hl.out; omega) (by simpa [okSet] using hz))
          clear hpf
          go_wp2_with (go_at_call 40; refine (l01In_no _ _ _ _ hz).mono ?_; rintro e w' ⟨rfl, rfl⟩)
          go_ret
          exact ⟨ret_bool H.out.symm, rfl⟩
      · have H := Lib.hid (planOk_yes (zs := zs) (by rw [hl.out]; exact hlen) (by rw [hl.out, show n = k by omega]; exact hpf))
        clear hpf
        go_wp2
        go_ret
        exact ⟨ret_bool H.out.symm, rfl⟩
  · have H := Lib.hid (planOk_len (zs := zs) (by rw [hl.out]; exact hlen))
    go_enter Try.func13, Try.ntmps13
    go_wp2_with (go_at_call 40; refine (l01In_no _ _ _ _ (by omega)).mono ?_; rintro e w' ⟨rfl, rfl⟩)
    go_ret
    exact ⟨ret_bool H.out.symm, rfl⟩

set_option maxHeartbeats 1000000 in
theorem implPlanOk (A : Option Addr) (n c : Nat) (zs : List Int) (w : World) (ha : RdI w A n zs) (hn : n ≤ 1048576) :
    Calls Try.prog 15 #[.slice A n c] w fun e w' => e = .returned (.bool (planOk zs)) ∧ w = w' := by
  have hl := Lib.hid ha.lenI
  by_cases hlen : 1 ≤ n ∧ n ≤ 6
  · go_enter Try.func15, Try.ntmps15
    have hl1 := hlen.1
    have hl2 := hlen.2
    go_wp2
    go_loop [15] (fun i => ∃ k : Nat, k ≤ n ∧ i = .int .i64 k ∧ PfxOk zs k) (fun i => n - (intOf i).toNat)
    case atStart => exact ⟨0, Nat.zero_le _, rfl, PfxOk.zero _⟩
    case round =>
      obtain ⟨k, hk, rfl, hpf⟩ := hrel
      by_cases hlt : k < n
      · obtain ⟨a1, rfl, _, h1⟩ := ha.at_ hlt
        by_cases hz : 0 ≤ nth zs k
        · by_cases hz2 : nth zs k ≤ 63
          · have H := Lib.hid (PfxOk.succ hpf (by simp [okSet, hz, hz2]))
            clear hpf
            go_wp2
            go_round
            case rel => exact ⟨k + 1, by omega, by go_num, H.out⟩
            case measure => simp [intOf]; omega
          · have H := Lib.hid (planOk_bad (zs := zs) (k := k) (by have := hl.out; omega) (by simp [okSet]; omega))
            clear hpf
            go_wp2
            go_ret
            exact ⟨ret_bool H.out.symm, rfl⟩
        · have H := Lib.hid (planOk_bad (zs := zs) (k := k) (by have := hl.out; omega) (by simp [okSet]; omega))
          clear hpf
          go_wp2
          go_ret
          exact ⟨ret_bool H.out.symm, rfl⟩
      · have H := Lib.hid (planOk_yes (zs := zs) (by rw [hl.out]; exact hlen) (by rw [hl.out, show n = k by omega]; exact hpf))
        clear hpf
        go_wp2
        go_ret
        exact ⟨ret_bool H.out.symm, rfl⟩
  · have H := Lib.hid (planOk_len (zs := zs) (by rw [hl.out]; exact hlen))
    by_cases h1 : n < 1
    · go_enter Try.func15, Try.ntmps15
      go_wp2
      go_ret
      exact ⟨ret_bool H.out.symm, rfl⟩
    · have h2 : 6 < n := by omega
      go_enter Try.func15, Try.ntmps15
      go_wp2
      go_ret
      exact ⟨ret_bool H.out.symm, rfl⟩

/-- A law of one slice that compares two bools: the shape is the same for each. -/
theorem lawPlanOk (w : World) (A : Option Addr) (n c : Nat) (zs : List Int) (hA : RdArg w A n c zs) :
    Calls Try.prog 3 #[.slice A n c] w fun e w' => e = .returned (.bool true) ∧ Below w.heap.size w w' := by
  have ha := hA.1
  clear hA
  by_cases hn : 1048576 < n
  · go_enter Try.func3, Try.ntmps3
    go_wp2
    go_ret
    exact ⟨rfl, Below.refl _ _⟩
  · have hn' : n ≤ 1048576 := by omega
    go_enter Try.func3, Try.ntmps3
    go_wp2_with fail
    refine (toIntS_any A n c zs w ha hn').mono ?_
    rintro e w1 ⟨A1, c1, rfl, ho1, hb1⟩
    go_wp2_with fail
    refine (specPlanOk A1 n c1 zs w1 ho1.rd hn').mono ?_
    rintro e w' ⟨rfl, rfl⟩
    go_wp2_with fail
    refine (toIntS_any A n c zs w1 (ha.below hb1) hn').mono ?_
    rintro e w2 ⟨A2, c2, rfl, ho2, hb2⟩
    go_wp2_with fail
    refine (implPlanOk A2 n c2 zs w2 ho2.rd hn').mono ?_
    rintro e w' ⟨rfl, rfl⟩
    go_wp2_with fail
    refine (toIntS_any A n c zs w2 ((ha.below hb1).below hb2) hn').mono ?_
    rintro e w3 ⟨A3, c3, rfl, ho3, hb3⟩
    go_wp2_with fail
    refine (eqIntS_yes A2 A3 n c2 c3 zs w3 (ho2.rd.below hb3) ho3.rd (by unfold maxLen; omega)).mono ?_
    rintro e w4 ⟨rfl, hb4⟩
    go_wp2_with fail
    go_ret
    exact ⟨rfl, hb1.trans ((hb2.mono hb1.size).trans ((hb3.mono (Nat.le_trans hb1.size hb2.size)).trans (hb4.mono (Nat.le_trans hb1.size (Nat.le_trans hb2.size hb3.size)))))⟩

end Go.Proofs.Ythaggobbcgjfkaa
