/- Chapter 13: HasStep at short lists of small numbers, and IsCounting. -/
import Derived.Test.YtcijnmooifcicaaC13h
import Derived.Deep.LoopGhost
namespace Go.Proofs.Ytcijnmooifcicaa
open Go.RowKit Go.Deep
set_option linter.unusedVariables false

theorem add_lit (a : Addr) (k : Nat) : a.add (k + 1) = ⟨a.block, a.off + (k + 1), none⟩ := by unfold Addr.add; rw [if_neg (by omega)]
theorem rd_from {w : World} {a : Addr} {n k : Nat} {zs : List Int} (h : RdI w (some a) n zs) (hk : k < n) : RdI w (some ⟨a.block, a.off + (k + 1), none⟩) (n - (k + 1)) (zs.drop (k + 1)) := by
  obtain ⟨hl, hc⟩ := h
  obtain ⟨ad, had, hb, hcell⟩ := hc (by omega)
  injection had with had
  subst had
  refine ⟨by simp at hl ⊢; omega, fun _ => ⟨_, rfl, hb, fun j u hu => ?_⟩⟩
  rw [← add_lit, add_of_add]
  apply hcell
  rw [List.map_drop, List.getElem?_drop] at hu
  exact hu
theorem rd_end {w : World} {a : Addr} {n k : Nat} {zs : List Int} (h : RdI w (some a) n zs) (hk : n = k + 1) : RdI w (some a) (n - (k + 1)) (zs.drop (k + 1)) := by
  have hl := h.lenI
  refine ⟨by simp; omega, fun h => by omega⟩
theorem bdT_drop {zs : List Int} (h : BdT zs) (k : Nat) : BdT (zs.drop k) := fun y hy => h y (List.mem_of_mem_drop hy)

set_option maxHeartbeats 4000000 in
theorem specHasStep (A : Option Addr) (n c : Nat) (zs : List Int) (w : World) (ha : RdI w A n zs) (hn8 : n ≤ 8) (hc1 : n ≤ c) (hc2 : c ≤ maxLen) (hb : BdT zs) :
    Calls Try.prog 12 #[.slice A n c] w fun e w' => e = .returned (.bool (stepB zs)) ∧ w = w' := by
  have hl := Lib.hid ha.lenI
  have HB := Lib.hid hb
  unfold maxLen at hc2
  clear hb
  go_enter Try.func12, Try.ntmps12
  go_wp2
  go_loop [9] (fun i => ∃ k : Nat, k ≤ n ∧ i = .int .i64 k ∧ Hid (stTo zs k = true)) (fun i => n - (intOf i).toNat)
  case atStart => exact ⟨0, Nat.zero_le _, rfl, Lib.hid (stTo_zero _)⟩
  case round =>
    obtain ⟨k, hk, rfl, HK⟩ := hrel
    by_cases hlt : k < n
    · obtain ⟨a1, rfl, _, h1⟩ := ha.at_ hlt
      have RR := Lib.hid ha
      have b1 := bdT_nth HB.out (p := k) (by rw [hl.out]; exact hlt)
      obtain ⟨b1a, b1b⟩ := b1
      by_cases hck : c = k + 1
      · have R := rd_end RR.out (show n = k + 1 by omega)
        go_wp2_with fail
        obtain ⟨r, hr⟩ : ∃ r, r = n - (k + 1) := ⟨_, rfl⟩
        have HR := Lib.hid hr
        have hr8 : r ≤ 8 := by omega
        rw [← hr] at R ⊢
        clear hr
        go_loop [19] (fun i => ∃ j : Nat, j ≤ r ∧ i = .int .i64 j ∧ Hid (stRow (nth zs k) (zs.drop (k + 1)) j = true)) (fun i => r - (intOf i).toNat)
        case atStart => exact ⟨0, Nat.zero_le _, rfl, Lib.hid (stRow_zero _ _)⟩
        case round =>
          obtain ⟨j, hj, rfl, HJ⟩ := hrel
          by_cases hjr : j < r
          · obtain ⟨a3, ha3, _, h2⟩ := R.at_ hjr
            injection ha3 with ha3
            subst ha3
            have b2 := bdT_nth (bdT_drop HB.out (k + 1)) (p := j) (by rw [R.lenI]; exact hjr)
            obtain ⟨b2a, b2b⟩ := b2
            by_cases c1 : nth zs k < nth (zs.drop (k + 1)) j
            · skip
              have H := Lib.hid (step_bad hl.out hlt (by rw [← HR.out]; exact hjr) (show ¬ (nth zs k = nth (zs.drop (k + 1)) j ∨ nth zs k = nth (zs.drop (k + 1)) j + 1) by omega))
              go_wp2
              go_ret
              exact ⟨ret_bool H.out.symm, rfl⟩
            · by_cases c2 : nth zs k = nth (zs.drop (k + 1)) j
              · skip
                have H := Lib.hid (stRow_on HJ.out (show nth zs k = nth (zs.drop (k + 1)) j ∨ nth zs k = nth (zs.drop (k + 1)) j + 1 by omega))
                have c3 : nth (zs.drop (k + 1)) j ≤ nth zs k := by omega
                have c4 : nth zs k ≤ nth (zs.drop (k + 1)) j := by omega
                clear c1 c2
                go_wp2
                go_round
                case rel => exact ⟨j + 1, by omega, by go_num, H⟩
                case measure => (simp [intOf] <;> omega)
              · by_cases c5 : nth zs k = nth (zs.drop (k + 1)) j + 1
                · skip
                  have H := Lib.hid (stRow_on HJ.out (show nth zs k = nth (zs.drop (k + 1)) j ∨ nth zs k = nth (zs.drop (k + 1)) j + 1 by omega))
                  have c3 : nth (zs.drop (k + 1)) j ≤ nth zs k := by omega
                  have c4 : nth (zs.drop (k + 1)) j < nth zs k := by omega
                  have c6 : (nth zs k - 1 != nth (zs.drop (k + 1)) j) = false := by rw [bne_eq_false_iff_eq]; omega
                  clear c1 c2 c5
                  go_wp2
                  go_round
                  case rel => exact ⟨j + 1, by omega, by go_num, H⟩
                  case measure => (simp [intOf] <;> omega)
                · skip
                  have H := Lib.hid (step_bad hl.out hlt (by rw [← HR.out]; exact hjr) (show ¬ (nth zs k = nth (zs.drop (k + 1)) j ∨ nth zs k = nth (zs.drop (k + 1)) j + 1) by omega))
                  have c3 : nth (zs.drop (k + 1)) j ≤ nth zs k := by omega
                  have c4 : nth (zs.drop (k + 1)) j < nth zs k := by omega
                  have c6 : (nth zs k - 1 != nth (zs.drop (k + 1)) j) = true := by rw [bne_iff_ne]; omega
                  have c7 : ¬ nth zs k - 1 = nth (zs.drop (k + 1)) j := by omega
                  clear c1 c2 c5
                  go_wp2
                  go_ret
                  exact ⟨ret_bool H.out.symm, rfl⟩
          · obtain rfl : j = r := by omega
            have H := Lib.hid (stTo_on hl.out HK.out (by rw [← HR.out]; exact HJ.out))
            go_wp2
            go_round
            case rel => first | exact ⟨k + 1, by omega, by go_num, H⟩ | exact ⟨_, _, _, _, _, ⟨k + 1, by omega, by go_num, H⟩, rfl, rfl, rfl, rfl, rfl⟩ | exact ⟨_, _, _, _, ⟨k + 1, by omega, by go_num, H⟩, rfl, rfl, rfl, rfl⟩ | exact ⟨_, _, _, _, _, _, ⟨k + 1, by omega, by go_num, H⟩, rfl, rfl, rfl, rfl, rfl, rfl⟩ | trace_state
            case measure => (simp [intOf] <;> omega)

      · have R := rd_from RR.out hlt
        go_wp2_with fail
        obtain ⟨a2, ha2⟩ : ∃ a2 : Addr, a2 = ⟨a1.block, a1.off + (k + 1), none⟩ := ⟨_, rfl⟩
        rw [← ha2] at R ⊢
        clear ha2
        obtain ⟨r, hr⟩ : ∃ r, r = n - (k + 1) := ⟨_, rfl⟩
        have HR := Lib.hid hr
        have hr8 : r ≤ 8 := by omega
        rw [← hr] at R ⊢
        clear hr
        go_loop [19] (fun i => ∃ j : Nat, j ≤ r ∧ i = .int .i64 j ∧ Hid (stRow (nth zs k) (zs.drop (k + 1)) j = true)) (fun i => r - (intOf i).toNat)
        case atStart => exact ⟨0, Nat.zero_le _, rfl, Lib.hid (stRow_zero _ _)⟩
        case round =>
          obtain ⟨j, hj, rfl, HJ⟩ := hrel
          by_cases hjr : j < r
          · obtain ⟨a3, ha3, _, h2⟩ := R.at_ hjr
            injection ha3 with ha3
            subst ha3
            have b2 := bdT_nth (bdT_drop HB.out (k + 1)) (p := j) (by rw [R.lenI]; exact hjr)
            obtain ⟨b2a, b2b⟩ := b2
            by_cases c1 : nth zs k < nth (zs.drop (k + 1)) j
            · skip
              have H := Lib.hid (step_bad hl.out hlt (by rw [← HR.out]; exact hjr) (show ¬ (nth zs k = nth (zs.drop (k + 1)) j ∨ nth zs k = nth (zs.drop (k + 1)) j + 1) by omega))
              go_wp2
              go_ret
              exact ⟨ret_bool H.out.symm, rfl⟩
            · by_cases c2 : nth zs k = nth (zs.drop (k + 1)) j
              · skip
                have H := Lib.hid (stRow_on HJ.out (show nth zs k = nth (zs.drop (k + 1)) j ∨ nth zs k = nth (zs.drop (k + 1)) j + 1 by omega))
                have c3 : nth (zs.drop (k + 1)) j ≤ nth zs k := by omega
                have c4 : nth zs k ≤ nth (zs.drop (k + 1)) j := by omega
                clear c1 c2
                go_wp2
                go_round
                case rel => exact ⟨j + 1, by omega, by go_num, H⟩
                case measure => (simp [intOf] <;> omega)
              · by_cases c5 : nth zs k = nth (zs.drop (k + 1)) j + 1
                · skip
                  have H := Lib.hid (stRow_on HJ.out (show nth zs k = nth (zs.drop (k + 1)) j ∨ nth zs k = nth (zs.drop (k + 1)) j + 1 by omega))
                  have c3 : nth (zs.drop (k + 1)) j ≤ nth zs k := by omega
                  have c4 : nth (zs.drop (k + 1)) j < nth zs k := by omega
                  have c6 : (nth zs k - 1 != nth (zs.drop (k + 1)) j) = false := by rw [bne_eq_false_iff_eq]; omega
                  clear c1 c2 c5
                  go_wp2
                  go_round
                  case rel => exact ⟨j + 1, by omega, by go_num, H⟩
                  case measure => (simp [intOf] <;> omega)
                · skip
                  have H := Lib.hid (step_bad hl.out hlt (by rw [← HR.out]; exact hjr) (show ¬ (nth zs k = nth (zs.drop (k + 1)) j ∨ nth zs k = nth (zs.drop (k + 1)) j + 1) by omega))
                  have c3 : nth (zs.drop (k + 1)) j ≤ nth zs k := by omega
                  have c4 : nth (zs.drop (k + 1)) j < nth zs k := by omega
                  have c6 : (nth zs k - 1 != nth (zs.drop (k + 1)) j) = true := by rw [bne_iff_ne]; omega
                  have c7 : ¬ nth zs k - 1 = nth (zs.drop (k + 1)) j := by omega
                  clear c1 c2 c5
                  go_wp2
                  go_ret
                  exact ⟨ret_bool H.out.symm, rfl⟩
          · obtain rfl : j = r := by omega
            have H := Lib.hid (stTo_on hl.out HK.out (by rw [← HR.out]; exact HJ.out))
            go_wp2
            go_round
            case rel => first | exact ⟨k + 1, by omega, by go_num, H⟩ | exact ⟨_, _, _, _, _, ⟨k + 1, by omega, by go_num, H⟩, rfl, rfl, rfl, rfl, rfl⟩ | exact ⟨_, _, _, _, ⟨k + 1, by omega, by go_num, H⟩, rfl, rfl, rfl, rfl⟩ | exact ⟨_, _, _, _, _, _, ⟨k + 1, by omega, by go_num, H⟩, rfl, rfl, rfl, rfl, rfl, rfl⟩ | trace_state
            case measure => (simp [intOf] <;> omega)

    · obtain rfl : k = n := by omega
      have H := Lib.hid (step_yes hl.out HK.out)
      go_wp2
      go_ret
      exact ⟨ret_bool H.out.symm, rfl⟩

set_option maxHeartbeats 4000000 in
theorem implHasStep (A : Option Addr) (n c : Nat) (zs : List Int) (w : World) (ha : RdI w A n zs) (hn8 : n ≤ 8) (hc1 : n ≤ c) (hc2 : c ≤ maxLen) (hb : BdT zs) :
    Calls Try.prog 14 #[.slice A n c] w fun e w' => e = .returned (.bool (stepB zs)) ∧ w = w' := by
  have hl := Lib.hid ha.lenI
  have HB := Lib.hid hb
  unfold maxLen at hc2
  clear hb
  go_enter Try.func14, Try.ntmps14
  go_wp2
  go_loop [10] (fun i => ∃ k : Nat, k ≤ n ∧ i = .int .i64 k ∧ Hid (stTo zs k = true)) (fun i => n - (intOf i).toNat)
  case atStart => exact ⟨0, Nat.zero_le _, rfl, Lib.hid (stTo_zero _)⟩
  case round =>
    obtain ⟨k, hk, rfl, HK⟩ := hrel
    by_cases hlt : k < n
    · obtain ⟨a1, rfl, _, h1⟩ := ha.at_ hlt
      have RR := Lib.hid ha
      have b1 := bdT_nth HB.out (p := k) (by rw [hl.out]; exact hlt)
      obtain ⟨b1a, b1b⟩ := b1
      by_cases hck : c = k + 1
      · have R := rd_end RR.out (show n = k + 1 by omega)
        go_wp2_with fail
        obtain ⟨r, hr⟩ : ∃ r, r = n - (k + 1) := ⟨_, rfl⟩
        have HR := Lib.hid hr
        have hr8 : r ≤ 8 := by omega
        rw [← hr] at R ⊢
        clear hr
        go_loop [20] (fun i => ∃ j : Nat, j ≤ r ∧ i = .int .i64 j ∧ Hid (stRow (nth zs k) (zs.drop (k + 1)) j = true)) (fun i => r - (intOf i).toNat)
        case atStart => exact ⟨0, Nat.zero_le _, rfl, Lib.hid (stRow_zero _ _)⟩
        case round =>
          obtain ⟨j, hj, rfl, HJ⟩ := hrel
          by_cases hjr : j < r
          · obtain ⟨a3, ha3, _, h2⟩ := R.at_ hjr
            injection ha3 with ha3
            subst ha3
            have b2 := bdT_nth (bdT_drop HB.out (k + 1)) (p := j) (by rw [R.lenI]; exact hjr)
            obtain ⟨b2a, b2b⟩ := b2
            obtain ⟨d, hd⟩ : ∃ d, nth zs k = nth (zs.drop (k + 1)) j + d := ⟨nth zs k - nth (zs.drop (k + 1)) j, by omega⟩
            obtain ⟨d', hd'⟩ : ∃ d', nth zs k - nth (zs.drop (k + 1)) j = d' := ⟨_, rfl⟩
            obtain rfl : d = d' := by omega
            have HD := Lib.hid hd
            by_cases c0 : d = 0
            · have H := Lib.hid (stRow_on HJ.out (show nth zs k = nth (zs.drop (k + 1)) j ∨ nth zs k = nth (zs.drop (k + 1)) j + 1 by omega))
              subst c0
              clear hd
              go_wp2
              go_round
              case rel => exact ⟨j + 1, by omega, by go_num, H⟩
              case measure => (simp [intOf] <;> omega)
            · by_cases c1 : d = 1
              · have H := Lib.hid (stRow_on HJ.out (show nth zs k = nth (zs.drop (k + 1)) j ∨ nth zs k = nth (zs.drop (k + 1)) j + 1 by omega))
                subst c1
                clear hd c0
                go_wp2
                go_round
                case rel => exact ⟨j + 1, by omega, by go_num, H⟩
                case measure => (simp [intOf] <;> omega)
              · have H := Lib.hid (step_bad hl.out hlt (by rw [← HR.out]; exact hjr) (show ¬ (nth zs k = nth (zs.drop (k + 1)) j ∨ nth zs k = nth (zs.drop (k + 1)) j + 1) by omega))
                have c2 : (d != 0) = true := by rw [bne_iff_ne]; exact c0
                have c3 : (d != 1) = true := by rw [bne_iff_ne]; exact c1
                clear hd
                go_wp2
                go_ret
                exact ⟨ret_bool H.out.symm, rfl⟩
          · obtain rfl : j = r := by omega
            have H := Lib.hid (stTo_on hl.out HK.out (by rw [← HR.out]; exact HJ.out))
            go_wp2
            go_round
            case rel => first | exact ⟨k + 1, by omega, by go_num, H⟩ | exact ⟨_, _, _, _, _, ⟨k + 1, by omega, by go_num, H⟩, rfl, rfl, rfl, rfl, rfl⟩ | exact ⟨_, _, _, _, ⟨k + 1, by omega, by go_num, H⟩, rfl, rfl, rfl, rfl⟩ | exact ⟨_, _, _, _, _, _, ⟨k + 1, by omega, by go_num, H⟩, rfl, rfl, rfl, rfl, rfl, rfl⟩ | trace_state
            case measure => (simp [intOf] <;> omega)

      · have R := rd_from RR.out hlt
        go_wp2_with fail
        obtain ⟨a2, ha2⟩ : ∃ a2 : Addr, a2 = ⟨a1.block, a1.off + (k + 1), none⟩ := ⟨_, rfl⟩
        rw [← ha2] at R ⊢
        clear ha2
        obtain ⟨r, hr⟩ : ∃ r, r = n - (k + 1) := ⟨_, rfl⟩
        have HR := Lib.hid hr
        have hr8 : r ≤ 8 := by omega
        rw [← hr] at R ⊢
        clear hr
        go_loop [20] (fun i => ∃ j : Nat, j ≤ r ∧ i = .int .i64 j ∧ Hid (stRow (nth zs k) (zs.drop (k + 1)) j = true)) (fun i => r - (intOf i).toNat)
        case atStart => exact ⟨0, Nat.zero_le _, rfl, Lib.hid (stRow_zero _ _)⟩
        case round =>
          obtain ⟨j, hj, rfl, HJ⟩ := hrel
          by_cases hjr : j < r
          · obtain ⟨a3, ha3, _, h2⟩ := R.at_ hjr
            injection ha3 with ha3
            subst ha3
            have b2 := bdT_nth (bdT_drop HB.out (k + 1)) (p := j) (by rw [R.lenI]; exact hjr)
            obtain ⟨b2a, b2b⟩ := b2
            obtain ⟨d, hd⟩ : ∃ d, nth zs k = nth (zs.drop (k + 1)) j + d := ⟨nth zs k - nth (zs.drop (k + 1)) j, by omega⟩
            obtain ⟨d', hd'⟩ : ∃ d', nth zs k - nth (zs.drop (k + 1)) j = d' := ⟨_, rfl⟩
            obtain rfl : d = d' := by omega
            have HD := Lib.hid hd
            by_cases c0 : d = 0
            · have H := Lib.hid (stRow_on HJ.out (show nth zs k = nth (zs.drop (k + 1)) j ∨ nth zs k = nth (zs.drop (k + 1)) j + 1 by omega))
              subst c0
              clear hd
              go_wp2
              go_round
              case rel => exact ⟨j + 1, by omega, by go_num, H⟩
              case measure => (simp [intOf] <;> omega)
            · by_cases c1 : d = 1
              · have H := Lib.hid (stRow_on HJ.out (show nth zs k = nth (zs.drop (k + 1)) j ∨ nth zs k = nth (zs.drop (k + 1)) j + 1 by omega))
                subst c1
                clear hd c0
                go_wp2
                go_round
                case rel => exact ⟨j + 1, by omega, by go_num, H⟩
                case measure => (simp [intOf] <;> omega)
              · have H := Lib.hid (step_bad hl.out hlt (by rw [← HR.out]; exact hjr) (show ¬ (nth zs k = nth (zs.drop (k + 1)) j ∨ nth zs k = nth (zs.drop (k + 1)) j + 1) by omega))
                have c2 : (d != 0) = true := by rw [bne_iff_ne]; exact c0
                have c3 : (d != 1) = true := by rw [bne_iff_ne]; exact c1
                clear hd
                go_wp2
                go_ret
                exact ⟨ret_bool H.out.symm, rfl⟩
          · obtain rfl : j = r := by omega
            have H := Lib.hid (stTo_on hl.out HK.out (by rw [← HR.out]; exact HJ.out))
            go_wp2
            go_round
            case rel => first | exact ⟨k + 1, by omega, by go_num, H⟩ | exact ⟨_, _, _, _, _, ⟨k + 1, by omega, by go_num, H⟩, rfl, rfl, rfl, rfl, rfl⟩ | exact ⟨_, _, _, _, ⟨k + 1, by omega, by go_num, H⟩, rfl, rfl, rfl, rfl⟩ | exact ⟨_, _, _, _, _, _, ⟨k + 1, by omega, by go_num, H⟩, rfl, rfl, rfl, rfl, rfl, rfl⟩ | trace_state
            case measure => (simp [intOf] <;> omega)

    · obtain rfl : k = n := by omega
      have H := Lib.hid (step_yes hl.out HK.out)
      go_wp2
      go_ret
      exact ⟨ret_bool H.out.symm, rfl⟩

set_option maxHeartbeats 4000000 in
theorem specIsCounting (x : Int) (A : Option Addr) (n c : Nat) (zss : List (List Int)) (mo : Int) (w : World) (ha : RdM w A n zss) (hn : n ≤ 1048576) :
    Calls Try.prog 30 #[.agg #[.int .i64 x, .slice A n c], .int .i64 mo] w fun e w' => e = .returned (.bool (icV x zss mo)) ∧ Below w.heap.size w w' := by
  have C := fun w' (h1 : RdM w' A n zss) => specNetOk x A n c zss w' h1 hn
  have hal := (below_alloc w (.cells #[.int .i64 x, .slice A n c] 35))
  cases hg : netV x zss with
  | false =>
    have H := Lib.hid (icV_net (mo := mo) hg)
    rw [hg] at C
    have CC := Lib.hid C
    clear C hg
    go_enter Try.func30, Try.ntmps30
    go_wp2_with fail
    refine (CC.out _ (ha.below hal)).mono ?_
    rintro e w1 ⟨rfl, hb1⟩
    go_wp2_with fail
    go_ret
    exact ⟨ret_bool H.out.symm, hal.trans (hb1.mono (by simp))⟩
  | true =>
    have HG := Lib.hid hg
    rw [hg] at C
    have CC := Lib.hid C
    clear C hg
    by_cases hx4 : x ≤ 4
    · by_cases hmo : 1 ≤ mo ∧ mo ≤ 4
      · skip
        obtain ⟨W, rfl, hW1, hW8, hn60, hrow⟩ := net_out ha.1 HG.out
        obtain ⟨t, rfl⟩ := Int.eq_ofNat_of_zero_le (show 0 ≤ mo by omega)
        have ht1 : 1 ≤ t := by omega
        have ht4 : t ≤ 4 := by omega
        have hW4 : W ≤ 4 := by omega
        have HRW := Lib.hid (show ∀ k, k < n → ∃ p q : Nat, nth (row zss k) 0 = p ∧ nth (row zss k) 1 = q ∧ p < W ∧ q < W from fun k hk => by obtain ⟨_, p, q, a, b, c, d, _⟩ := hrow k hk; exact ⟨p, q, a, b, c, d⟩)
        have HZ := Lib.hid ha.1
        have HIS := Lib.hid (icV_is HG.out hW4 ht1 ht4)
        have HA := Lib.hid ha
        have CR := Lib.hid (fun (w' : World) (S : Option Addr) (d : Nat) (ts : List Int) (h1 : RdM w' A n zss) (h2 : RdI w' S W ts) (hb : BdT ts) => specRun (W : Int) A n c zss S W d ts w' HG.out h1 h2 rfl hb)
        obtain ⟨M, hM⟩ : ∃ M, M = (t + 1) ^ W := ⟨_, rfl⟩
        have HM := Lib.hid hM
        have hM1 : 0 < M := by rw [hM]; exact Nat.pow_pos (by omega)
        clear hM hrow hmo hx4
        go_enter Try.func30, Try.ntmps30
        go_wp2_with fail
        refine (CC.out _ (ha.below hal)).mono ?_
        rintro e w1 ⟨rfl, hb1⟩
        have hsz1 : w.heap.size + 1 ≤ w1.heap.size := by have := hb1.size; simpa using this
        have hc0 : w1.cell? ⟨w.heap.size, 0, none⟩ = some (.int .i64 (W : Int)) := by rw [hb1.cell (p := ⟨w.heap.size, 0, none⟩) (by simp)]; simp
        have hc1 : w1.cell? ⟨w.heap.size, 1, none⟩ = some (.slice A n c) := by rw [hb1.cell (p := ⟨w.heap.size, 1, none⟩) (by simp)]; simp
        have hB1 := Lib.hid (hal.trans (hb1.mono (by simp)))
        have HC := Lib.hid (show ∀ wz : World, Below w1.heap.size w1 wz → wz.cell? ⟨w.heap.size, 0, none⟩ = some (.int .i64 (W : Int)) ∧ wz.cell? ⟨w.heap.size, 1, none⟩ = some (.slice A n c) from fun wz hz => ⟨(hz.cell (p := ⟨w.heap.size, 0, none⟩) (by show w.heap.size < _; omega)).trans hc0, (hz.cell (p := ⟨w.heap.size, 1, none⟩) (by show w.heap.size < _; omega)).trans hc1⟩)
        have HA1 := Lib.hid (HA.out.below hB1.out)
        clear hb1 CC hal ha
        go_wp2_with fail
        refine (l01In_yes (t : Int) 1 4 _ (by omega)).mono ?_
        rintro e w' ⟨rfl, rfl⟩
        go_wp2_with (at_make; refine wpL_make _ rfl _ _ 22 rfl 3 (.int .i64 0) 8 Try.underlying22 intInfo rfl _ _ _ _ W rfl rfl rfl rfl (by omega) (by unfold maxLen; omega) ?_)
        intro w2 hF2 hbl2 hsz2
        have HF2 := Lib.hid (show OwnI w2 w1.heap.size 3 (some ⟨w1.heap.size, 0, none⟩) W W (digs (t + 1) W 0) by rw [digs_zero, OwnI, List.map_replicate]; exact hF2)
        clear hF2 hc0 hc1
        go_wp2_with fail
        go_loopg [6] M (fun gk _ wr => ∃ s : Nat, s + gk = M ∧ s < M ∧ OwnI wr w1.heap.size 3 (some ⟨w1.heap.size, 0, none⟩) W W (digs (t + 1) W s) ∧ Hid (icTo zss (t + 1) W s = true) ∧ Below w1.heap.size w1 wr)
        case atStart => exact ⟨0, by omega, hM1, HF2.out, Lib.hid (icTo_zero _ _ _), hbl2⟩
        case round =>
          clear hsz2 HF2 hbl2
          obtain ⟨s, hsg, hsM, hF, HI, hbl⟩ := hrel
          obtain ⟨hc0, hc1⟩ := HC.out _ hbl
          have hszr := hbl.size
          have HBT := Lib.hid (show BdT (digs (t + 1) W s) from fun y hy => by obtain ⟨z, hz, hz2⟩ := digs_lt (show 0 < t + 1 by omega) W s y hy; omega)
          have HBT2 := Lib.hid (bdT_ct (digs_len (t + 1) W s) HBT.out HRW.out n (Nat.le_refl _))
          go_wp2_with fail
          refine (CR.out _ _ _ _ (HA1.out.below hbl) hF.rd HBT.out).mono ?_
          rintro e w3 ⟨A3, c3, rfl, o3, hb3⟩
          have hbl3 := hbl.trans (hb3.mono hszr)
          have hF3 := hF.below hb3
          have hs3 := hb3.size
          clear hF hbl hb3 hc0 hc1
          cases hst : icOk zss (t + 1) W s with
          | false =>
            have H := Lib.hid (show icV (W : Int) zss (t : Int) = false by rw [HIS.out]; exact icTo_bad hst _ (by rw [← HM.out]; exact hsM))
            have HST := Lib.hid (show stepB (ctTo (digs (t + 1) W s) zss n) = false by rw [← hst, icOk, HZ.out])
            clear hst
            go_wp2_with fail
            refine (specHasStep A3 W c3 _ w3 o3.rd (by omega) o3.cap.1 o3.cap.2 HBT2.out).mono ?_
            rw [HST.out]
            rintro e w4 ⟨rfl, rfl⟩
            go_wp2_with fail
            go_ret
            exact ⟨ret_bool H.out.symm, hB1.out.trans (hbl3.mono hB1.out.size)⟩
          | true =>
            have HI2 := Lib.hid (icTo_on HI.out hst)
            have HST := Lib.hid (show stepB (ctTo (digs (t + 1) W s) zss n) = true by rw [← hst, icOk, HZ.out])
            clear hst
            go_wp2_with fail
            refine (specHasStep A3 W c3 _ w3 o3.rd (by omega) o3.cap.1 o3.cap.2 HBT2.out).mono ?_
            rw [HST.out]
            rintro e w4 ⟨rfl, rfl⟩
            clear o3
            obtain ⟨hd0, hd1⟩ := HC.out _ hbl3
            have HD := Lib.hid (inc_digs (show 2 ≤ t + 1 by omega) W s (by rw [← HM.out]; exact hsM))
            go_wp2_with fail
            go_loopw [6] (fun i wr => ∃ k : Nat, ∃ z : List Int, k ≤ W ∧ i = .int .i64 k ∧ OwnI wr w1.heap.size 3 (some ⟨w1.heap.size, 0, none⟩) W W z ∧ Hid (IcK (t + 1) (digs (t + 1) W s) z k) ∧ Below w1.heap.size w1 wr) (fun i _ => W - (intOf i).toNat)
            case atStart => exact ⟨0, _, Nat.zero_le _, rfl, hF3, Lib.hid (icK_zero _ _), hbl3⟩
            case round =>
              clear hF3 hbl3 hd0 hd1
              obtain ⟨k, z, hk, rfl, hF, HK, hbl⟩ := hrel
              obtain ⟨hc0, hc1⟩ := HC.out _ hbl
              by_cases hlt : k < W
              · obtain ⟨gF, uF, eF, _, _, hu, cF, fF⟩ := hF.at_ hlt
                injection eF with eF
                injection eF with eF
                subst eF
                have hzl := hF.lenI
                obtain ⟨y, hy, hyt⟩ := digs_lt (show 0 < t + 1 by omega) W s (nth (digs (t + 1) W s) k) (nth_mem (by rw [digs_len]; exact hlt))
                have hzy : nth z k = (y : Int) := by rw [icK_nth HK.out, hy]
                have huv : uF = .int .i64 (y : Int) := by
                  rw [List.getElem?_map, List.getElem?_eq_getElem (show k < z.length by omega)] at hu
                  rw [← hzy, nth_eq (show k < z.length by omega)]
                  simpa using hu.symm
                subst huv
                have HY := Lib.hid hy
                clear hu hzy hzl hy
                by_cases hyt2 : y = t
                · subst hyt2
                  have HN := Lib.hid (icK_next HK.out (by rw [digs_len]; exact hlt) (by rw [HY.out]; rfl))
                  have oF := hF.setI (x := 0) hlt
                  have hb7 := hbl.setCell (p := ⟨w1.heap.size, k, none⟩) (Nat.le_refl _) (.int .i64 0)
                  clear hF hbl
                  go_wp2
                  go_roundw
                  case rel => exact ⟨k + 1, _, by omega, by go_num, oF, HN, hb7⟩
                  case measure => (simp [intOf] <;> omega)
                · have HE := Lib.hid (icK_end HK.out (by rw [digs_len]; exact hlt) (by rw [HY.out]; omega))
                  have HN := Lib.hid (show s + 1 < M ∧ digs (t + 1) W (s + 1) = z.set k ((y : Int) + 1) by
                    have h := HD.out
                    rw [HE.out, HY.out, ← HM.out] at h
                    by_cases hh : s + 1 < M
                    · rw [if_pos hh] at h
                      injection h with h
                      exact ⟨hh, h.symm⟩
                    · rw [if_neg hh] at h; cases h)
                  have oF := hF.setI (x := (y : Int) + 1) hlt
                  rw [← HN.out.2] at oF
                  have hb7 := hbl.setCell (p := ⟨w1.heap.size, k, none⟩) (Nat.le_refl _) (.int .i64 ((y : Int) + 1))
                  have e1 : ((y : Int) == (t : Int)) = false := by rw [beq_eq_false_iff_ne]; omega
                  have e2 : ¬ (y : Int) = (t : Int) := by omega
                  have e3 : ((k : Int) == (W : Int)) = false := by rw [beq_eq_false_iff_ne]; omega
                  have e4 : ¬ (k : Int) = (W : Int) := by omega
                  clear hF hbl hyt2
                  go_wp2
                  go_roundg (gk - 1)
                  case measure => omega
                  case rel => exact ⟨s + 1, by have := HN.out.1; omega, HN.out.1, oF, HI2, hb7⟩
              · obtain rfl : k = W := by omega
                have H := Lib.hid (show icV (k : Int) zss (t : Int) = true by
                  have h := HD.out
                  rw [icK_full HK.out (digs_len _ _ _)] at h
                  have h2 : ¬ s + 1 < M := by
                    intro hh
                    rw [← HM.out, if_pos hh] at h
                    cases h
                  have h3 : s + 1 = M := by omega
                  rw [HIS.out, ← HM.out, ← h3]
                  exact HI2.out)
                go_wp2
                go_ret
                exact ⟨ret_bool H.out.symm, hB1.out.trans (hbl.mono hB1.out.size)⟩
      · have H := Lib.hid (icV_most (x := x) (zss := zss) hmo)
        go_enter Try.func30, Try.ntmps30
        go_wp2_with fail
        refine (CC.out _ (ha.below hal)).mono ?_
        rintro e w1 ⟨rfl, hb1⟩
        have hc0 : w1.cell? ⟨w.heap.size, 0, none⟩ = some (.int .i64 x) := by rw [hb1.cell (p := ⟨w.heap.size, 0, none⟩) (by simp)]; simp
        go_wp2_with fail
        refine (l01In_no mo 1 4 _ hmo).mono ?_
        rintro e w' ⟨rfl, rfl⟩
        go_wp2_with fail
        go_ret
        exact ⟨ret_bool H.out.symm, hal.trans (hb1.mono (by simp))⟩
    · have H := Lib.hid (icV_four (zss := zss) (mo := mo) hx4)
      have hx5 : 4 < x := by omega
      clear hx4
      go_enter Try.func30, Try.ntmps30
      go_wp2_with fail
      refine (CC.out _ (ha.below hal)).mono ?_
      rintro e w1 ⟨rfl, hb1⟩
      have hc0 : w1.cell? ⟨w.heap.size, 0, none⟩ = some (.int .i64 x) := by rw [hb1.cell (p := ⟨w.heap.size, 0, none⟩) (by simp)]; simp
      go_wp2_with fail
      go_ret
      exact ⟨ret_bool H.out.symm, hal.trans (hb1.mono (by simp))⟩

set_option maxHeartbeats 4000000 in
theorem implIsCounting (x : Int) (A : Option Addr) (n c : Nat) (zss : List (List Int)) (mo : Int) (w : World) (ha : RdM w A n zss) (hn : n ≤ 1048576) :
    Calls Try.prog 31 #[.agg #[.int .i64 x, .slice A n c], .int .i64 mo] w fun e w' => e = .returned (.bool (icV x zss mo)) ∧ Below w.heap.size w w' := by
  have C := fun w' (h1 : RdM w' A n zss) => implNetOk x A n c zss w' h1 hn
  have hal := (below_alloc w (.cells #[.int .i64 x, .slice A n c] 35))
  cases hg : netV x zss with
  | false =>
    have H := Lib.hid (icV_net (mo := mo) hg)
    rw [hg] at C
    have CC := Lib.hid C
    clear C hg
    go_enter Try.func31, Try.ntmps31
    go_wp2_with fail
    refine (CC.out _ (ha.below hal)).mono ?_
    rintro e w1 ⟨rfl, hb1⟩
    go_wp2_with fail
    go_ret
    exact ⟨ret_bool H.out.symm, hal.trans (hb1.mono (by simp))⟩
  | true =>
    have HG := Lib.hid hg
    rw [hg] at C
    have CC := Lib.hid C
    clear C hg
    by_cases hx4 : x ≤ 4
    · by_cases hmo : 1 ≤ mo ∧ mo ≤ 4
      · skip
        obtain ⟨W, rfl, hW1, hW8, hn60, hrow⟩ := net_out ha.1 HG.out
        obtain ⟨t, rfl⟩ := Int.eq_ofNat_of_zero_le (show 0 ≤ mo by omega)
        have ht1 : 1 ≤ t := by omega
        have ht4 : t ≤ 4 := by omega
        have hW4 : W ≤ 4 := by omega
        have HRW := Lib.hid (show ∀ k, k < n → ∃ p q : Nat, nth (row zss k) 0 = p ∧ nth (row zss k) 1 = q ∧ p < W ∧ q < W from fun k hk => by obtain ⟨_, p, q, a, b, c, d, _⟩ := hrow k hk; exact ⟨p, q, a, b, c, d⟩)
        have HZ := Lib.hid ha.1
        have HIS := Lib.hid (icV_is HG.out hW4 ht1 ht4)
        have HA := Lib.hid ha
        have CR := Lib.hid (fun (w' : World) (S : Option Addr) (d : Nat) (ts : List Int) (h1 : RdM w' A n zss) (h2 : RdI w' S W ts) (hb : BdT ts) => implCount (W : Int) A n c zss S W d ts w' HG.out h1 h2 rfl hb)
        obtain ⟨M, hM⟩ : ∃ M, M = (t + 1) ^ W := ⟨_, rfl⟩
        have HM := Lib.hid hM
        have hM1 : 0 < M := by rw [hM]; exact Nat.pow_pos (by omega)
        clear hM hrow hmo hx4
        go_enter Try.func31, Try.ntmps31
        go_wp2_with fail
        refine (CC.out _ (ha.below hal)).mono ?_
        rintro e w1 ⟨rfl, hb1⟩
        have hsz1 : w.heap.size + 1 ≤ w1.heap.size := by have := hb1.size; simpa using this
        have hc0 : w1.cell? ⟨w.heap.size, 0, none⟩ = some (.int .i64 (W : Int)) := by rw [hb1.cell (p := ⟨w.heap.size, 0, none⟩) (by simp)]; simp
        have hc1 : w1.cell? ⟨w.heap.size, 1, none⟩ = some (.slice A n c) := by rw [hb1.cell (p := ⟨w.heap.size, 1, none⟩) (by simp)]; simp
        have hB1 := Lib.hid (hal.trans (hb1.mono (by simp)))
        have HC := Lib.hid (show ∀ wz : World, Below w1.heap.size w1 wz → wz.cell? ⟨w.heap.size, 0, none⟩ = some (.int .i64 (W : Int)) ∧ wz.cell? ⟨w.heap.size, 1, none⟩ = some (.slice A n c) from fun wz hz => ⟨(hz.cell (p := ⟨w.heap.size, 0, none⟩) (by show w.heap.size < _; omega)).trans hc0, (hz.cell (p := ⟨w.heap.size, 1, none⟩) (by show w.heap.size < _; omega)).trans hc1⟩)
        have HA1 := Lib.hid (HA.out.below hB1.out)
        clear hb1 CC hal ha
        go_wp2_with (at_make; refine wpL_make _ rfl _ _ 22 rfl 3 (.int .i64 0) 8 Try.underlying22 intInfo rfl _ _ _ _ W rfl rfl rfl rfl (by omega) (by unfold maxLen; omega) ?_)
        intro w2 hF2 hbl2 hsz2
        have HF2 := Lib.hid (show OwnI w2 w1.heap.size 3 (some ⟨w1.heap.size, 0, none⟩) W W (digs (t + 1) W 0) by rw [digs_zero, OwnI, List.map_replicate]; exact hF2)
        clear hF2 hc0 hc1
        go_wp2_with fail
        go_loopg [6] M (fun gk _ wr => ∃ s : Nat, s + gk = M ∧ s < M ∧ OwnI wr w1.heap.size 3 (some ⟨w1.heap.size, 0, none⟩) W W (digs (t + 1) W s) ∧ Hid (icTo zss (t + 1) W s = true) ∧ Below w1.heap.size w1 wr)
        case atStart => exact ⟨0, by omega, hM1, HF2.out, Lib.hid (icTo_zero _ _ _), hbl2⟩
        case round =>
          clear hsz2 HF2 hbl2
          obtain ⟨s, hsg, hsM, hF, HI, hbl⟩ := hrel
          obtain ⟨hc0, hc1⟩ := HC.out _ hbl
          have hszr := hbl.size
          have HBT := Lib.hid (show BdT (digs (t + 1) W s) from fun y hy => by obtain ⟨z, hz, hz2⟩ := digs_lt (show 0 < t + 1 by omega) W s y hy; omega)
          have HBT2 := Lib.hid (bdT_ct (digs_len (t + 1) W s) HBT.out HRW.out n (Nat.le_refl _))
          go_wp2_with fail
          refine (CR.out _ _ _ _ (HA1.out.below hbl) hF.rd HBT.out).mono ?_
          rintro e w3 ⟨A3, c3, rfl, o3, hb3⟩
          have hbl3 := hbl.trans (hb3.mono hszr)
          have hF3 := hF.below hb3
          have hs3 := hb3.size
          clear hF hbl hb3 hc0 hc1
          cases hst : icOk zss (t + 1) W s with
          | false =>
            have H := Lib.hid (show icV (W : Int) zss (t : Int) = false by rw [HIS.out]; exact icTo_bad hst _ (by rw [← HM.out]; exact hsM))
            have HST := Lib.hid (show stepB (ctTo (digs (t + 1) W s) zss n) = false by rw [← hst, icOk, HZ.out])
            clear hst
            go_wp2_with fail
            refine (implHasStep A3 W c3 _ w3 o3.rd (by omega) o3.cap.1 o3.cap.2 HBT2.out).mono ?_
            rw [HST.out]
            rintro e w4 ⟨rfl, rfl⟩
            go_wp2_with fail
            go_ret
            exact ⟨ret_bool H.out.symm, hB1.out.trans (hbl3.mono hB1.out.size)⟩
          | true =>
            have HI2 := Lib.hid (icTo_on HI.out hst)
            have HST := Lib.hid (show stepB (ctTo (digs (t + 1) W s) zss n) = true by rw [← hst, icOk, HZ.out])
            clear hst
            go_wp2_with fail
            refine (implHasStep A3 W c3 _ w3 o3.rd (by omega) o3.cap.1 o3.cap.2 HBT2.out).mono ?_
            rw [HST.out]
            rintro e w4 ⟨rfl, rfl⟩
            clear o3
            obtain ⟨hd0, hd1⟩ := HC.out _ hbl3
            have HD := Lib.hid (inc_digs (show 2 ≤ t + 1 by omega) W s (by rw [← HM.out]; exact hsM))
            go_wp2_with fail
            go_loopw [6] (fun i wr => ∃ k : Nat, ∃ z : List Int, k ≤ W ∧ i = .int .i64 k ∧ OwnI wr w1.heap.size 3 (some ⟨w1.heap.size, 0, none⟩) W W z ∧ Hid (IcK (t + 1) (digs (t + 1) W s) z k) ∧ Below w1.heap.size w1 wr) (fun i _ => W - (intOf i).toNat)
            case atStart => exact ⟨0, _, Nat.zero_le _, rfl, hF3, Lib.hid (icK_zero _ _), hbl3⟩
            case round =>
              clear hF3 hbl3 hd0 hd1
              obtain ⟨k, z, hk, rfl, hF, HK, hbl⟩ := hrel
              obtain ⟨hc0, hc1⟩ := HC.out _ hbl
              by_cases hlt : k < W
              · obtain ⟨gF, uF, eF, _, _, hu, cF, fF⟩ := hF.at_ hlt
                injection eF with eF
                injection eF with eF
                subst eF
                have hzl := hF.lenI
                obtain ⟨y, hy, hyt⟩ := digs_lt (show 0 < t + 1 by omega) W s (nth (digs (t + 1) W s) k) (nth_mem (by rw [digs_len]; exact hlt))
                have hzy : nth z k = (y : Int) := by rw [icK_nth HK.out, hy]
                have huv : uF = .int .i64 (y : Int) := by
                  rw [List.getElem?_map, List.getElem?_eq_getElem (show k < z.length by omega)] at hu
                  rw [← hzy, nth_eq (show k < z.length by omega)]
                  simpa using hu.symm
                subst huv
                have HY := Lib.hid hy
                clear hu hzy hzl hy
                by_cases hyt2 : y = t
                · subst hyt2
                  have HN := Lib.hid (icK_next HK.out (by rw [digs_len]; exact hlt) (by rw [HY.out]; rfl))
                  have oF := hF.setI (x := 0) hlt
                  have hb7 := hbl.setCell (p := ⟨w1.heap.size, k, none⟩) (Nat.le_refl _) (.int .i64 0)
                  clear hF hbl
                  go_wp2
                  go_roundw
                  case rel => exact ⟨k + 1, _, by omega, by go_num, oF, HN, hb7⟩
                  case measure => (simp [intOf] <;> omega)
                · have HE := Lib.hid (icK_end HK.out (by rw [digs_len]; exact hlt) (by rw [HY.out]; omega))
                  have HN := Lib.hid (show s + 1 < M ∧ digs (t + 1) W (s + 1) = z.set k ((y : Int) + 1) by
                    have h := HD.out
                    rw [HE.out, HY.out, ← HM.out] at h
                    by_cases hh : s + 1 < M
                    · rw [if_pos hh] at h
                      injection h with h
                      exact ⟨hh, h.symm⟩
                    · rw [if_neg hh] at h; cases h)
                  have oF := hF.setI (x := (y : Int) + 1) hlt
                  rw [← HN.out.2] at oF
                  have hb7 := hbl.setCell (p := ⟨w1.heap.size, k, none⟩) (Nat.le_refl _) (.int .i64 ((y : Int) + 1))
                  have e1 : ((y : Int) == (t : Int)) = false := by rw [beq_eq_false_iff_ne]; omega
                  have e2 : ¬ (y : Int) = (t : Int) := by omega
                  have e3 : ((k : Int) == (W : Int)) = false := by rw [beq_eq_false_iff_ne]; omega
                  have e4 : ¬ (k : Int) = (W : Int) := by omega
                  clear hF hbl hyt2
                  go_wp2
                  go_roundg (gk - 1)
                  case measure => omega
                  case rel => exact ⟨s + 1, by have := HN.out.1; omega, HN.out.1, oF, HI2, hb7⟩
              · obtain rfl : k = W := by omega
                have H := Lib.hid (show icV (k : Int) zss (t : Int) = true by
                  have h := HD.out
                  rw [icK_full HK.out (digs_len _ _ _)] at h
                  have h2 : ¬ s + 1 < M := by
                    intro hh
                    rw [← HM.out, if_pos hh] at h
                    cases h
                  have h3 : s + 1 = M := by omega
                  rw [HIS.out, ← HM.out, ← h3]
                  exact HI2.out)
                go_wp2
                go_ret
                exact ⟨ret_bool H.out.symm, hB1.out.trans (hbl.mono hB1.out.size)⟩
      · have H := Lib.hid (icV_most (x := x) (zss := zss) hmo)
        by_cases hm1 : mo < 1
        · skip
          go_enter Try.func31, Try.ntmps31
          go_wp2_with fail
          refine (CC.out _ (ha.below hal)).mono ?_
          rintro e w1 ⟨rfl, hb1⟩
          have hc0 : w1.cell? ⟨w.heap.size, 0, none⟩ = some (.int .i64 x) := by rw [hb1.cell (p := ⟨w.heap.size, 0, none⟩) (by simp)]; simp
          go_wp2_with fail
          go_ret
          exact ⟨ret_bool H.out.symm, hal.trans (hb1.mono (by simp))⟩
        · have hm2 : 1 ≤ mo := by omega
          have hm4 : 4 < mo := by omega
          have dm : decide (mo < 1) = false := by simp; omega
          clear hm1 hmo
          go_enter Try.func31, Try.ntmps31
          go_wp2_with fail
          refine (CC.out _ (ha.below hal)).mono ?_
          rintro e w1 ⟨rfl, hb1⟩
          have hc0 : w1.cell? ⟨w.heap.size, 0, none⟩ = some (.int .i64 x) := by rw [hb1.cell (p := ⟨w.heap.size, 0, none⟩) (by simp)]; simp
          go_wp2_with fail
          go_ret
          exact ⟨ret_bool H.out.symm, hal.trans (hb1.mono (by simp))⟩
    · have H := Lib.hid (icV_four (zss := zss) (mo := mo) hx4)
      have hx5 : 4 < x := by omega
      clear hx4
      go_enter Try.func31, Try.ntmps31
      go_wp2_with fail
      refine (CC.out _ (ha.below hal)).mono ?_
      rintro e w1 ⟨rfl, hb1⟩
      have hc0 : w1.cell? ⟨w.heap.size, 0, none⟩ = some (.int .i64 x) := by rw [hb1.cell (p := ⟨w.heap.size, 0, none⟩) (by simp)]; simp
      go_wp2_with fail
      go_ret
      exact ⟨ret_bool H.out.symm, hal.trans (hb1.mono (by simp))⟩

end Go.Proofs.Ytcijnmooifcicaa
