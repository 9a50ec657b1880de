/- Chapter 16: LeastCover of the reference: its rounds draw their order. -/
import Derived.Test.YthaggobbcgjfkaaC16l
namespace Go.Proofs.Ythaggobbcgjfkaa
open Go.RowKit Go.Deep
set_option linter.unusedVariables false
attribute [local go_sem] bits_and_one

set_option maxHeartbeats 1000000 in
theorem specCover (A : Option Addr) (n c : Nat) (zs : List Int) (w : World) (ha : RdI w A n zs) (hn : n ≤ 1048576) :
    Calls Try.prog 23 #[.slice A n c] w fun e w' => e = .returned (.int .i64 (coverV zs)) ∧ Below w.heap.size w w' := by
  cases hp : planOk zs with
  | false =>
    have H := Lib.hid (show coverV zs = -1 by rw [coverV, if_neg (by simp [hp])])
    go_enter Try.func23, Try.ntmps23
    go_wp2_with (go_at_call 13; refine (specPlanOk A n c zs _ ha hn).mono ?_; rintro e w' ⟨rfl, rfl⟩)
    go_ret
    exact ⟨ret_int H.out.symm, Below.refl _ _⟩
  | true =>
    have hl := Lib.hid ha.lenI
    have h6 : n ≤ 6 := by have := (planOk_out hp).2.1; have := hl.out; omega
    obtain ⟨N, hN⟩ : ∃ N, 2 ^ n = N := ⟨_, rfl⟩
    have hw := wrap_pow n (by omega)
    have h64 := (pow6 h6)
    rw [hN] at hw h64
    have hN64 : N ≤ 64 := by omega
    have hN1 : 1 ≤ N := by omega
    have H := Lib.hid (show coverV zs = (leastTo (coverOf zs N) n N : Int) by rw [coverV, if_pos hp, ← cover_least hp, hl.out, hN])
    have HP := Lib.hid hp
    have HA := Lib.hid ha
    clear hN h64
    go_enter Try.func23, Try.ntmps23
    go_wp2_with (go_at_call 13; refine (specPlanOk A n c zs _ ha hn).mono ?_; rintro e w' ⟨rfl, rfl⟩)
    clear ha hp
    go_loopw [3, 4] (fun v i wr => ∃ s : Nat, s ≤ N ∧ i = .int .i64 s ∧ v = .int .i64 (leastTo (coverOf zs N) n s) ∧ Below w.heap.size w wr) (fun _ i _ => N - (intOf i).toNat)
    case atStart => exact ⟨0, Nat.zero_le _, rfl, int_eq (by rw [leastTo_zero]), Below.refl _ _⟩
    case round =>
      obtain ⟨s, hs, rfl, rfl, hbl⟩ := hrel
      by_cases hlt : s < N
      · have hle := leastTo_le (coverOf zs N) n s
        have hp1 := pop_le s
        have hp2 := pop_le (joined zs (N - 1 - s))
        have hj := joined_lt HP.out (N - 1 - s)
        obtain ⟨r, hr⟩ : ∃ r, N - 1 - s = r := ⟨_, rfl⟩
        rw [hr] at hp2 hj
        have e1 : IntKind.i64.wrap (N - 1 : Int) = N - 1 := IntWalk.i64_in _ (by omega)
        have e2 : IntKind.i64.wrap (N - 1 - s : Int) = r := by rw [IntWalk.i64_in _ (by omega)]; omega
        have e3 : IntKind.i64.wrap ((pop s : Int) + pop (joined zs r)) = ((pop s + pop (joined zs r) : Nat) : Int) := by rw [IntWalk.i64_in _ (by omega)]; omega
        obtain ⟨q, hq⟩ : ∃ q, pop s + pop (joined zs r) = q := ⟨_, rfl⟩
        rw [hq] at e3
        have H2 := Lib.hid (show leastTo (coverOf zs N) n (s + 1) = min (leastTo (coverOf zs N) n s) q by rw [leastTo_succ, ← hq, coverOf, hr])
        have hr64 : r < 64 := by omega
        have hsl : s < 256 := by omega
        clear hr hq
        go_wp2_with fail
        go_quiet ((first | (go_at_call 42; exact quiet_left (specJoined A n c zs r _ ((HA.out.below hbl).drewN _) HP.out hr64)) | (go_at_call 45; exact quiet_left (specOnes _ _ (by omega)))))
        go_wp2
        go_roundw
        case rel => exact ⟨s + 1, by omega, by go_num, int_eq (by rw [H2.out]; split <;> omega), below_drewN hbl _⟩
        case measure => simp [intOf]; omega
      · obtain rfl : s = N := by omega
        go_wp2
        go_ret
        exact ⟨ret_int (by rw [H.out]), hbl⟩

set_option maxHeartbeats 2000000 in
theorem lawLeastCover (w : World) (A0 : Option Addr) (n0 c0 : Nat) (z0 : List Int) (g0 : RdArg w A0 n0 c0 z0) :
    Calls Try.prog 6 #[.slice A0 n0 c0] w fun e w' => e = .returned (.bool true) ∧ Below w.heap.size w w' := by
  have ha0 := g0.1
  by_cases hn0 : 1048576 < n0
  · go_enter Try.func6, Try.ntmps6
    go_wp2
    go_ret
    exact ⟨rfl, Below.refl _ _⟩
  replace hn0 : n0 ≤ 1048576 := by omega
  clear g0
  have hB0 : Below w.heap.size w w := Below.refl _ _
  go_enter Try.func6, Try.ntmps6
  go_wp2_with fail
  refine (toIntS_any A0 n0 c0 z0 w (ha0.below hB0) hn0).mono ?_
  rintro e w1 ⟨AP0, cP0, rfl, oP0, hb1⟩
  have hs1 := hb1.size
  have hB1 := hB0.trans (hb1.mono hB0.size)
  have iP0 := oP0.blk_
  go_wp2_with fail
  refine (specCover AP0 n0 cP0 z0 w1 oP0.rd hn0 ).mono ?_
  rintro e w2 ⟨rfl, hb2⟩
  have hs2 := hb2.size
  have hB2 := hB1.trans (hb2.mono hB1.size)
  replace oP0 := oP0.below hb2
  go_wp2_with fail
  refine (toIntS_any A0 n0 c0 z0 w2 (ha0.below hB2) hn0).mono ?_
  rintro e w3 ⟨AX0, cX0, rfl, oX0, hb3⟩
  have hs3 := hb3.size
  have hB3 := hB2.trans (hb3.mono hB2.size)
  replace oP0 := oP0.below hb3
  have iX0 := oX0.blk_
  go_wp2_with fail
  refine (implCover AX0 n0 cX0 z0 w3 oX0.rd hn0 ).mono ?_
  rintro e w4 ⟨rfl, hb4⟩
  have hs4 := hb4.size
  have hB4 := hB3.trans (hb4.mono hB3.size)
  replace oP0 := oP0.below hb4
  replace oX0 := oX0.below hb4
  go_wp2_with fail
  refine (toIntS_any A0 n0 c0 z0 w4 (ha0.below hB4) hn0).mono ?_
  rintro e w5 ⟨AT0, cT0, rfl, oT0, hb5⟩
  have hs5 := hb5.size
  have hB5 := hB4.trans (hb5.mono hB4.size)
  replace oP0 := oP0.below hb5
  replace oX0 := oX0.below hb5
  have iT0 := oT0.blk_
  go_wp2_with fail
  refine (eqIntS_yes AX0 AT0 n0 cX0 cT0 z0 w5 oX0.rd oT0.rd (by unfold maxLen; omega)).mono ?_
  rintro e w6 ⟨rfl, hb6⟩
  have hs6 := hb6.size
  have hB6 := hB5.trans (hb6.mono hB5.size)
  replace oP0 := oP0.below hb6
  replace oX0 := oX0.below hb6
  replace oT0 := oT0.below hb6
  go_wp2_with fail
  go_ret
  exact ⟨rfl, hB6⟩

end Go.Proofs.Ythaggobbcgjfkaa
