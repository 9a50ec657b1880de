/- Chapter 16: GreatestConcentration of the reference (upwards) and of the program (downwards). -/
import Derived.Test.YthaggobbcgjfkaaC16i
namespace Go.Proofs.Ythaggobbcgjfkaa
open Go.RowKit Go.Deep
set_option linter.unusedVariables false
attribute [local go_sem] bits_and_one

open Classical in
theorem conc_of {zs : List Int} {k : Nat} : concB zs k = true ↔ Conc zs k := by unfold concB; exact decide_eq_true_iff
open Classical in
theorem conc_of_not {zs : List Int} {k : Nat} : concB zs k = false ↔ ¬ Conc zs k := by unfold concB; exact decide_eq_false_iff_not
def NoMore (zs : List Int) (k : Nat) : Prop := ∀ j, k < j → j ≤ zs.length → ¬ Conc zs j

set_option maxHeartbeats 1000000 in
theorem specGreat (A : Option Addr) (n c : Nat) (zs : List Int) (w : World) (ha : RdI w A n zs) (hn : n ≤ 1048576) :
    Calls Try.prog 33 #[.slice A n c] w fun e w' => e = .returned (.int .i64 (greatV zs)) ∧ Below w.heap.size w w' := by
  cases hp : planOk zs with
  | false =>
    have H := Lib.hid (show greatV zs = -1 by rw [greatV, if_neg (by simp [hp])])
    go_enter Try.func33, Try.ntmps33
    go_wp2_with (go_at_call 13; refine (specPlanOk A n c zs _ ha hn).mono ?_; rintro e w' ⟨rfl, rfl⟩)
    go_ret
    exact ⟨ret_int H.out.symm, Below.refl _ _⟩
  | true =>
    have hl := Lib.hid ha.lenI
    have h6 : n ≤ 6 := by have := (planOk_out hp).2.1; have := hl.out; omega
    have HP := Lib.hid hp
    have HA := Lib.hid ha
    have H := Lib.hid (show greatV zs = (great zs : Int) by rw [greatV, if_pos hp])
    go_enter Try.func33, Try.ntmps33
    go_wp2_with (go_at_call 13; refine (specPlanOk A n c zs _ ha hn).mono ?_; rintro e w' ⟨rfl, rfl⟩)
    clear ha hp
    go_loopw [3] (fun i wr => ∃ k : Nat, k ≤ n ∧ i = .int .i64 k ∧ Below w.heap.size w wr ∧ Conc zs k) (fun i _ => n - (intOf i).toNat)
    case atStart => exact ⟨0, Nat.zero_le _, rfl, Below.refl _ _, Conc.zero _⟩
    case round =>
      obtain ⟨k, hk, rfl, hbl, hc⟩ := hrel
      have HC := Lib.hid hc
      clear hc
      have hsz := hbl.size
      by_cases hlt : k < n
      · have C := specConc A n c zs (k + 1) wr (HA.out.below hbl) HP.out (by omega)
        rw [show ((k + 1 : Nat) : Int) = (k : Int) + 1 by omega] at C
        cases hb : concB zs (k + 1) with
        | true =>
          have H2 := Lib.hid (conc_of.1 hb)
          rw [hb] at C
          have CC := Lib.hid C
          clear C hb
          go_wp2_with (go_at_call 51; refine CC.out.mono ?_; rintro e w2 ⟨rfl, hb2⟩)
          go_roundw
          case rel => exact ⟨k + 1, by omega, by go_num, hbl.trans (hb2.mono hsz), H2.out⟩
          case measure => simp [intOf]; omega
        | false =>
          have H2 := Lib.hid (great_up HP.out (k := k) (by rw [hl.out]; omega) HC.out (.inr (conc_of_not.1 hb)))
          rw [hb] at C
          have CC := Lib.hid C
          clear C hb
          go_wp2_with (go_at_call 51; refine CC.out.mono ?_; rintro e w2 ⟨rfl, hb2⟩)
          go_ret
          exact ⟨ret_int (by rw [H.out, H2.out]), hbl.trans (hb2.mono hsz)⟩
      · have H2 := Lib.hid (great_up HP.out (k := k) (by rw [hl.out]; omega) HC.out (.inl (by rw [hl.out]; omega)))
        go_wp2
        go_ret
        exact ⟨ret_int (by rw [H.out, H2.out]), hbl⟩

set_option maxHeartbeats 1000000 in
theorem implGreat (A : Option Addr) (n c : Nat) (zs : List Int) (w : World) (ha : RdI w A n zs) (hn : n ≤ 1048576) :
    Calls Try.prog 34 #[.slice A n c] w fun e w' => e = .returned (.int .i64 (greatV zs)) ∧ Below w.heap.size w w' := by
  cases hp : planOk zs with
  | false =>
    have H := Lib.hid (show greatV zs = -1 by rw [greatV, if_neg (by simp [hp])])
    go_enter Try.func34, Try.ntmps34
    go_wp2_with (go_at_call 15; refine (implPlanOk A n c zs _ ha hn).mono ?_; rintro e w' ⟨rfl, rfl⟩)
    go_ret
    exact ⟨ret_int H.out.symm, Below.refl _ _⟩
  | true =>
    have hl := Lib.hid ha.lenI
    have h6 : n ≤ 6 := by have := (planOk_out hp).2.1; have := hl.out; omega
    have HP := Lib.hid hp
    have HA := Lib.hid ha
    have H := Lib.hid (show greatV zs = (great zs : Int) by rw [greatV, if_pos hp])
    go_enter Try.func34, Try.ntmps34
    go_wp2_with (go_at_call 15; refine (implPlanOk A n c zs _ ha hn).mono ?_; rintro e w' ⟨rfl, rfl⟩)
    clear ha hp
    go_loop [3] (fun i => ∃ k : Nat, k ≤ n ∧ i = .int .i64 k ∧ NoMore zs k) (fun i => (intOf i).toNat)
    case atStart => exact ⟨n, Nat.le_refl _, rfl, fun j h1 h2 => by have := hl.out; omega⟩
    case round =>
      obtain ⟨k, hk, rfl, hno⟩ := hrel
      have HN := Lib.hid hno
      clear hno
      have C := implConc A n c zs k w HA.out HP.out (by omega)
      cases hb : concB zs k with
      | true =>
        have H2 := Lib.hid (great_down (by rw [hl.out]; omega) (conc_of.1 hb) HN.out)
        rw [hb] at C
        have CC := Lib.hid C
        clear C hb
        go_wp2_with (go_at_call 52; refine CC.out.mono ?_; rintro e w2 ⟨rfl, rfl⟩)
        go_ret
        exact ⟨ret_int (by rw [H.out, H2.out]), Below.refl _ _⟩
      | false =>
        have hk0 : 1 ≤ k := by
          rcases Nat.eq_zero_or_pos k with h | h
          · subst h; exact absurd (Conc.zero zs) (conc_of_not.1 hb)
          · exact h
        have H2 := Lib.hid (show NoMore zs (k - 1) from fun j h1 h2 h3 => by
          by_cases e : j = k
          · subst e; exact conc_of_not.1 hb h3
          · exact HN.out j (by omega) h2 h3)
        rw [hb] at C
        have CC := Lib.hid C
        clear C hb
        go_wp2_with (go_at_call 52; refine CC.out.mono ?_; rintro e w2 ⟨rfl, rfl⟩)
        go_round
        case rel => exact ⟨k - 1, by omega, by go_num, H2.out⟩
        case measure => simp [intOf]; omega

set_option maxHeartbeats 2000000 in
theorem lawGreatestConcentration (w : World) (A0 : Option Addr) (n0 c0 : Nat) (z0 : List Int) (g0 : RdArg w A0 n0 c0 z0) :
    Calls Try.prog 11 #[.slice A0 n0 c0] w fun e w' => e = .returned (.bool true) ∧ Below w.heap.size w w' := by
  have ha0 := g0.1
  by_cases hn0 : 1048576 < n0
  · go_enter Try.func11, Try.ntmps11
    go_wp2
    go_ret
    exact ⟨rfl, Below.refl _ _⟩
  replace hn0 : n0 ≤ 1048576 := by omega
  clear g0
  have hB0 : Below w.heap.size w w := Below.refl _ _
  go_enter Try.func11, Try.ntmps11
  go_wp2_with fail
  refine (toIntS_any A0 n0 c0 z0 w (ha0.below hB0) hn0).mono ?_
  rintro e w1 ⟨AP0, cP0, rfl, oP0, hb1⟩
  have hs1 := hb1.size
  have hB1 := hB0.trans (hb1.mono hB0.size)
  have iP0 := oP0.blk_
  go_wp2_with fail
  refine (specGreat AP0 n0 cP0 z0 w1 oP0.rd hn0 ).mono ?_
  rintro e w2 ⟨rfl, hb2⟩
  have hs2 := hb2.size
  have hB2 := hB1.trans (hb2.mono hB1.size)
  replace oP0 := oP0.below hb2
  go_wp2_with fail
  refine (toIntS_any A0 n0 c0 z0 w2 (ha0.below hB2) hn0).mono ?_
  rintro e w3 ⟨AX0, cX0, rfl, oX0, hb3⟩
  have hs3 := hb3.size
  have hB3 := hB2.trans (hb3.mono hB2.size)
  replace oP0 := oP0.below hb3
  have iX0 := oX0.blk_
  go_wp2_with fail
  refine (implGreat AX0 n0 cX0 z0 w3 oX0.rd hn0 ).mono ?_
  rintro e w4 ⟨rfl, hb4⟩
  have hs4 := hb4.size
  have hB4 := hB3.trans (hb4.mono hB3.size)
  replace oP0 := oP0.below hb4
  replace oX0 := oX0.below hb4
  go_wp2_with fail
  refine (toIntS_any A0 n0 c0 z0 w4 (ha0.below hB4) hn0).mono ?_
  rintro e w5 ⟨AT0, cT0, rfl, oT0, hb5⟩
  have hs5 := hb5.size
  have hB5 := hB4.trans (hb5.mono hB4.size)
  replace oP0 := oP0.below hb5
  replace oX0 := oX0.below hb5
  have iT0 := oT0.blk_
  go_wp2_with fail
  refine (eqIntS_yes AX0 AT0 n0 cX0 cT0 z0 w5 oX0.rd oT0.rd (by unfold maxLen; omega)).mono ?_
  rintro e w6 ⟨rfl, hb6⟩
  have hs6 := hb6.size
  have hB6 := hB5.trans (hb6.mono hB5.size)
  replace oP0 := oP0.below hb6
  replace oX0 := oX0.below hb6
  replace oT0 := oT0.below hb6
  go_wp2_with fail
  go_ret
  exact ⟨rfl, hB6⟩

end Go.Proofs.Ythaggobbcgjfkaa
