/- Chapter 14: short orders and their inverses. -/
import Derived.Test.YtchmmaokommnaaaOrd
namespace Go.Proofs.Ytchmmaokommnaaa
open Go.RowKit Go.Deep
set_option linter.unusedVariables false

def smallO (zs : List Int) : Bool := decide (zs.length ≤ 8) && isOrd zs
theorem small_no {zs : List Int} {n : Nat} (hl : zs.length = n) (h : ¬ n ≤ 8) : smallO zs = false := by rw [smallO, hl, decide_eq_false h]; rfl
theorem small_yes {zs : List Int} {n : Nat} (hl : zs.length = n) (h : n ≤ 8) : smallO zs = isOrd zs := by rw [smallO, hl, decide_eq_true h]; rfl
theorem small_out {zs : List Int} (h : smallO zs = true) : zs.length ≤ 8 ∧ isOrd zs = true := by
  simpa [smallO] using h

set_option maxHeartbeats 1000000 in
theorem specSmall (A : Option Addr) (n c : Nat) (zs : List Int) (w : World) (ha : RdI w A n zs) (hn : n ≤ 1048576) :
    Calls Try.prog 40 #[.slice A n c] w fun e w' => e = .returned (.bool (smallO zs)) ∧ Below w.heap.size w w' := by
  have hl := Lib.hid ha.lenI
  by_cases h : n ≤ 8
  · have H := Lib.hid (small_yes hl.out h)
    go_enter Try.func40, Try.ntmps40
    go_wp2_with (go_at_call 60; refine (specPerm A n c zs _ ha hn).mono ?_; rintro e w1 ⟨rfl, hb⟩)
    go_ret
    exact ⟨ret_bool H.out.symm, hb⟩
  · have H := Lib.hid (small_no hl.out h)
    go_enter Try.func40, Try.ntmps40
    go_wp2
    go_ret
    exact ⟨ret_bool H.out.symm, Below.refl _ _⟩

set_option maxHeartbeats 1000000 in
theorem implShort (A : Option Addr) (n c : Nat) (zs : List Int) (w : World) (ha : RdI w A n zs) (hn : n ≤ 1048576) :
    Calls Try.prog 41 #[.slice A n c] w fun e w' => e = .returned (.bool (smallO zs)) ∧ Below w.heap.size w w' := by
  have hl := Lib.hid ha.lenI
  by_cases h : n ≤ 8
  · have H := Lib.hid (small_yes hl.out h)
    go_enter Try.func41, Try.ntmps41
    go_wp2_with (go_at_call 51; refine (implIsOrder A n c zs _ ha hn).mono ?_; rintro e w1 ⟨rfl, hb⟩)
    go_ret
    exact ⟨ret_bool H.out.symm, hb⟩
  · have H := Lib.hid (small_no hl.out h)
    go_enter Try.func41, Try.ntmps41
    go_wp2
    go_ret
    exact ⟨ret_bool H.out.symm, Below.refl _ _⟩

def invTo (zs : List Int) : Nat → List Int
  | 0 => List.replicate zs.length 0
  | k + 1 => (invTo zs k).set (nth zs k).toNat k
theorem inv_zero {zs : List Int} {n : Nat} (hl : zs.length = n) : List.replicate n (Value.int .i64 0) = (invTo zs 0).map (Value.int .i64) := by simp [invTo, hl]
theorem inv_succ {zs : List Int} {k z : Nat} (h : nth zs k = z) : invTo zs (k + 1) = (invTo zs k).set z k := by rw [invTo, h, Int.toNat_natCast]
theorem inv_len (zs : List Int) (k : Nat) : (invTo zs k).length = zs.length := by
  induction k with
  | zero => simp [invTo]
  | succ k ih => rw [invTo, List.length_set, ih]
def invV (zs : List Int) : List Int := if smallO zs = true then invTo zs zs.length else []
theorem invV_len (zs : List Int) : (invV zs).length ≤ 1048576 := by
  unfold invV
  split
  · rename_i h
    have := small_out h
    rw [inv_len]; omega
  · simp
theorem invV_no {zs : List Int} (h : smallO zs = false) : invV zs = [] := by rw [invV, h]; rfl
theorem invV_yes {zs : List Int} {n : Nat} (hl : zs.length = n) (h : smallO zs = true) : invV zs = invTo zs n := by rw [invV, h, hl]; rfl
attribute [irreducible] invTo smallO

set_option maxHeartbeats 2000000 in
theorem specInvRow (A : Option Addr) (n c : Nat) (zs : List Int) (w : World) (ha : RdI w A n zs) (hn : n ≤ 1048576) (ho : Hid (isOrd zs = true)) :
    Calls Try.prog 43 #[.slice A n c] w fun e w' => ∃ A' n' c', e = .returned (.slice A' n' c') ∧ OwnI w' w.heap.size 3 A' n' c' (invTo zs n) ∧ Below w.heap.size w w' := by
  have hl := Lib.hid ha.lenI
  go_enter Try.func43, Try.ntmps43
  go_wp2_with (at_make; refine wpL_make _ rfl _ _ 24 rfl 3 (.int .i64 0) 8 Try.underlying24 intInfo rfl _ _ _ _ n rfl rfl rfl rfl (by omega) (by unfold maxLen; omega) ?_)
  intro w1 hown hbl0 hsz0
  rw [inv_zero hl.out] at hown
  go_wp2
  go_loopw [11] (fun i wr => ∃ k : Nat, k ≤ n ∧ i = .int .i64 k ∧ OwnI wr w.heap.size 3 (some ⟨w.heap.size, 0, none⟩) n n (invTo zs k) ∧ Below w.heap.size w wr) (fun i _ => n - (intOf i).toNat)
  case atStart => exact ⟨0, Nat.zero_le _, rfl, hown, hbl0⟩
  case round =>
    clear hown hbl0 hsz0
    obtain ⟨k, hk, rfl, hown, hbl⟩ := hrel
    by_cases hlt : k < n
    · obtain ⟨a1, rfl, _, h1⟩ := (ha.below hbl).at_ hlt
      obtain ⟨z, hz, hzn⟩ := ord_get ho.out (show k < zs.length by rw [hl.out]; exact hlt)
      rw [hl.out] at hzn
      rw [hz] at h1
      have HZ := Lib.hid (inv_succ hz)
      clear hz
      have hown2 := hown.setI (x := k) hzn
      rw [← HZ.out] at hown2
      obtain ⟨g, u, hgA, _, _, _, h2, h3⟩ := hown.at_ hzn
      injection hgA with hgA
      injection hgA with hgA
      subst hgA
      have hb2 := hbl.setCell (p := ⟨w.heap.size, z, none⟩) (Nat.le_refl _) (.int .i64 k)
      clear hown hbl
      go_wp2
      go_roundw
      case rel => exact ⟨k + 1, by omega, by go_num, hown2, hb2⟩
      case measure => (simp [intOf] <;> omega)
    · obtain rfl : k = n := by omega
      go_wp2
      go_ret
      exact ⟨_, _, _, rfl, hown, hbl⟩

set_option maxHeartbeats 2000000 in
theorem implInvRow (A : Option Addr) (n c : Nat) (zs : List Int) (w : World) (ha : RdI w A n zs) (hn : n ≤ 1048576) (ho : Hid (isOrd zs = true)) :
    Calls Try.prog 44 #[.slice A n c] w fun e w' => ∃ A' n' c', e = .returned (.slice A' n' c') ∧ OwnI w' w.heap.size 3 A' n' c' (invTo zs n) ∧ Below w.heap.size w w' := by
  have hl := Lib.hid ha.lenI
  go_enter Try.func44, Try.ntmps44
  go_wp2_with (at_make; refine wpL_make _ rfl _ _ 24 rfl 3 (.int .i64 0) 8 Try.underlying24 intInfo rfl _ _ _ _ n rfl rfl rfl rfl (by omega) (by unfold maxLen; omega) ?_)
  intro w1 hown hbl0 hsz0
  rw [inv_zero hl.out] at hown
  go_wp2
  go_loopw [11] (fun i wr => ∃ k : Nat, k ≤ n ∧ i = .int .i64 k ∧ OwnI wr w.heap.size 3 (some ⟨w.heap.size, 0, none⟩) n n (invTo zs k) ∧ Below w.heap.size w wr) (fun i _ => n - (intOf i).toNat)
  case atStart => exact ⟨0, Nat.zero_le _, rfl, hown, hbl0⟩
  case round =>
    clear hown hbl0 hsz0
    obtain ⟨k, hk, rfl, hown, hbl⟩ := hrel
    by_cases hlt : k < n
    · obtain ⟨a1, rfl, _, h1⟩ := (ha.below hbl).at_ hlt
      obtain ⟨z, hz, hzn⟩ := ord_get ho.out (show k < zs.length by rw [hl.out]; exact hlt)
      rw [hl.out] at hzn
      rw [hz] at h1
      have HZ := Lib.hid (inv_succ hz)
      clear hz
      have hown2 := hown.setI (x := k) hzn
      rw [← HZ.out] at hown2
      obtain ⟨g, u, hgA, _, _, _, h2, h3⟩ := hown.at_ hzn
      injection hgA with hgA
      injection hgA with hgA
      subst hgA
      have hb2 := hbl.setCell (p := ⟨w.heap.size, z, none⟩) (Nat.le_refl _) (.int .i64 k)
      clear hown hbl
      go_wp2
      go_roundw
      case rel => exact ⟨k + 1, by omega, by go_num, hown2, hb2⟩
      case measure => (simp [intOf] <;> omega)
    · obtain rfl : k = n := by omega
      go_wp2
      go_ret
      exact ⟨_, _, _, rfl, hown, hbl⟩

set_option maxHeartbeats 1000000 in
theorem specInverse (A : Option Addr) (n c : Nat) (zs : List Int) (w : World) (ha : RdI w A n zs) (hn : n ≤ 1048576) :
    Calls Try.prog 20 #[.slice A n c] w fun e w' => ∃ A' n' c', e = .returned (.slice A' n' c') ∧ OwnI w' w.heap.size 3 A' n' c' (invV zs) ∧ Below w.heap.size w w' := by
  have C := specSmall A n c zs w ha hn
  have hl := ha.lenI
  cases hg : smallO zs with
  | false =>
    have H := Lib.hid (invV_no hg)
    rw [hg] at C
    have CC := Lib.hid C
    clear C hg hl
    go_enter Try.func20, Try.ntmps20
    go_wp2_with fail
    refine CC.out.mono ?_
    rintro e w1 ⟨rfl, hb⟩
    go_wp2_with fail
    go_ret
    exact ⟨_, _, _, rfl, by rw [H.out]; exact Own.nil_ _ _ _, hb⟩
  | true =>
    have H := Lib.hid (invV_yes hl hg)
    have ho := Lib.hid (small_out hg).2
    rw [hg] at C
    have CC := Lib.hid C
    clear C hg hl
    go_enter Try.func20, Try.ntmps20
    go_wp2_with fail
    refine CC.out.mono ?_
    rintro e w1 ⟨rfl, hb⟩
    go_wp2_with fail
    refine (specInvRow A n c zs w1 (ha.below hb) hn ho).mono ?_
    rintro e w2 ⟨A', n', c', rfl, own, hb2⟩
    have hs := hb.size
    go_wp2_with fail
    go_ret
    exact ⟨_, _, _, rfl, by rw [H.out]; exact own.more hs, hb.trans (hb2.mono hs)⟩

set_option maxHeartbeats 1000000 in
theorem implInverse (A : Option Addr) (n c : Nat) (zs : List Int) (w : World) (ha : RdI w A n zs) (hn : n ≤ 1048576) :
    Calls Try.prog 21 #[.slice A n c] w fun e w' => ∃ A' n' c', e = .returned (.slice A' n' c') ∧ OwnI w' w.heap.size 3 A' n' c' (invV zs) ∧ Below w.heap.size w w' := by
  have C := implShort A n c zs w ha hn
  have hl := ha.lenI
  cases hg : smallO zs with
  | false =>
    have H := Lib.hid (invV_no hg)
    rw [hg] at C
    have CC := Lib.hid C
    clear C hg hl
    go_enter Try.func21, Try.ntmps21
    go_wp2_with fail
    refine CC.out.mono ?_
    rintro e w1 ⟨rfl, hb⟩
    go_wp2_with fail
    go_ret
    exact ⟨_, _, _, rfl, by rw [H.out]; exact Own.nil_ _ _ _, hb⟩
  | true =>
    have H := Lib.hid (invV_yes hl hg)
    have ho := Lib.hid (small_out hg).2
    rw [hg] at C
    have CC := Lib.hid C
    clear C hg hl
    go_enter Try.func21, Try.ntmps21
    go_wp2_with fail
    refine CC.out.mono ?_
    rintro e w1 ⟨rfl, hb⟩
    go_wp2_with fail
    refine (implInvRow A n c zs w1 (ha.below hb) hn ho).mono ?_
    rintro e w2 ⟨A', n', c', rfl, own, hb2⟩
    have hs := hb.size
    go_wp2_with fail
    go_ret
    exact ⟨_, _, _, rfl, by rw [H.out]; exact own.more hs, hb.trans (hb2.mono hs)⟩

end Go.Proofs.Ytchmmaokommnaaa
