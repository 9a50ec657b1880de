/- Chapter 14: settings of a fabric. -/
import Derived.Test.YtchmmaokommnaaaC14a
import Derived.Test.YtchmmaokommnaaaBits
namespace Go.Proofs.Ytchmmaokommnaaa
open Go.RowKit Go.Deep
set_option linter.unusedVariables false

def setV (x : Int) (zs : List Int) : Bool := decide (IsP x) && bitRow zs.length zs (swN x)
theorem sw_nat {n : Int} (h : IsP n) : ∃ m : Nat, swN n = m ∧ m ≤ 20 := by
  rcases h with rfl | rfl | rfl | rfl
  · exact ⟨0, rfl, by omega⟩
  · exact ⟨1, rfl, by omega⟩
  · exact ⟨6, rfl, by omega⟩
  · exact ⟨20, rfl, by omega⟩
set_option maxHeartbeats 1000000 in
theorem implSettings (x : Int) (A : Option Addr) (n c : Nat) (zs : List Int) (w : World) (ha : RdI w A n zs) (hn : n ≤ 1048576) :
    Calls Try.prog 16 #[.int .i64 x, .slice A n c] w fun e w' => e = .returned (.bool (setV x zs)) ∧ Below w.heap.size w w' := by
  have hl := Lib.hid ha.lenI
  by_cases h : IsP x
  · obtain ⟨m, hm, hm20⟩ := sw_nat h
    have H := Lib.hid (show setV x zs = bitRow n zs m by rw [setV, decide_eq_true h, hl.out, hm]; rfl)
    have C := implCnt x w h
    rw [hm] at C
    have CC := Lib.hid C
    have P := Lib.hid (implP_yes x w h)
    clear C hm h
    go_enter Try.func16, Try.ntmps16
    go_wp2_with fail
    refine P.out.mono ?_
    rintro e w' ⟨rfl, rfl⟩
    go_wp2_with fail
    refine CC.out.mono ?_
    rintro e w1 ⟨rfl, hb⟩
    go_wp2_with fail
    refine (implAreBits A n c zs m w1 (ha.below hb) hn).mono ?_
    rintro e w' ⟨rfl, rfl⟩
    go_wp2_with fail
    go_ret
    exact ⟨ret_bool (by rw [H.out]), hb⟩
  · have H := Lib.hid (show setV x zs = false by rw [setV, decide_eq_false h]; rfl)
    have P := Lib.hid (implP_no x w h)
    clear h
    go_enter Try.func16, Try.ntmps16
    go_wp2_with fail
    refine P.out.mono ?_
    rintro e w' ⟨rfl, rfl⟩
    go_wp2_with fail
    go_ret
    exact ⟨ret_bool H.out.symm, Below.refl _ _⟩

set_option maxHeartbeats 1000000 in
theorem specSettings (x : Int) (A : Option Addr) (n c : Nat) (zs : List Int) (w : World) (ha : RdI w A n zs) (hn : n ≤ 1048576) :
    Calls Try.prog 14 #[.int .i64 x, .slice A n c] w fun e w' => e = .returned (.bool (setV x zs)) ∧ Below w.heap.size w w' := by
  have hl := Lib.hid ha.lenI
  by_cases h : IsP x
  · obtain ⟨m, hm, hm20⟩ := sw_nat h
    have H := Lib.hid (show setV x zs = bitRow n zs m by rw [setV, decide_eq_true h, hl.out, hm]; rfl)
    have C := specCnt x w h
    rw [hm] at C
    have CC := Lib.hid C
    have P := Lib.hid (specP_yes x w h)
    clear C hm h
    by_cases hnm : n = m
    · subst hnm
      have H2 := Lib.hid (show bitRow n zs n = bitsTo zs n by rw [bitRow, decide_eq_true rfl]; rfl)
      go_enter Try.func14, Try.ntmps14
      go_wp2_with fail
      refine P.out.mono ?_
      rintro e w' ⟨rfl, rfl⟩
      go_wp2_with fail
      refine CC.out.mono ?_
      rintro e w' ⟨rfl, rfl⟩
      go_wp2
      go_loop [19] (fun i => ∃ k : Nat, k ≤ n ∧ i = .int .i64 k ∧ Hid (bitsTo zs k = true)) (fun i => n - (intOf i).toNat)
      case atStart => exact ⟨0, Nat.zero_le _, rfl, Lib.hid (bitsTo_zero _)⟩
      case round =>
        obtain ⟨k, hk, rfl, HK⟩ := hrel
        by_cases hlt : k < n
        · obtain ⟨a1, rfl, _, h1⟩ := ha.at_ hlt
          cases hb : isBit (nth zs k) with
          | true =>
            have H3 := Lib.hid (bits_on HK.out hb)
            have HB := Lib.hid (isBit_yes hb)
            clear hb
            go_wp2_with (go_at_call 38; refine (l01In_yes _ _ _ _ HB.out).mono ?_; rintro e w' ⟨rfl, rfl⟩)
            go_round
            case rel => exact ⟨k + 1, by omega, by go_num, H3⟩
            case measure => (simp [intOf] <;> omega)
          | false =>
            have H3 := Lib.hid (bits_bad hb n hlt)
            have HB := Lib.hid (isBit_no hb)
            clear hb
            go_wp2_with (go_at_call 38; refine (l01In_no _ _ _ _ HB.out).mono ?_; rintro e w' ⟨rfl, rfl⟩)
            go_ret
            exact ⟨ret_bool (by rw [H.out, H2.out, H3.out]), Below.refl _ _⟩
        · obtain rfl : k = n := by omega
          go_wp2
          go_ret
          exact ⟨ret_bool (by rw [H.out, H2.out, HK.out]), Below.refl _ _⟩
    · have H2 := Lib.hid (show bitRow n zs m = false by rw [bitRow, decide_eq_false (by omega)]; rfl)
      have h2 : ((n : Int) != (m : Int)) = true := by simp; omega
      clear hnm
      go_enter Try.func14, Try.ntmps14
      go_wp2_with fail
      refine P.out.mono ?_
      rintro e w' ⟨rfl, rfl⟩
      go_wp2_with fail
      refine CC.out.mono ?_
      rintro e w' ⟨rfl, rfl⟩
      go_wp2_with fail
      go_ret
      exact ⟨ret_bool (by rw [H.out, H2.out]), Below.refl _ _⟩
  · have H := Lib.hid (show setV x zs = false by rw [setV, decide_eq_false h]; rfl)
    have P := Lib.hid (specP_no x w h)
    clear h
    go_enter Try.func14, Try.ntmps14
    go_wp2_with fail
    refine P.out.mono ?_
    rintro e w' ⟨rfl, rfl⟩
    go_wp2_with fail
    go_ret
    exact ⟨ret_bool H.out.symm, Below.refl _ _⟩

end Go.Proofs.Ytchmmaokommnaaa
