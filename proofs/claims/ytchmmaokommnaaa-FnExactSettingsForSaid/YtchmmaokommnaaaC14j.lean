/- Chapter 14: the program's list of all settings. -/
import Derived.Test.YtchmmaokommnaaaC14i
namespace Go.Proofs.Ytchmmaokommnaaa
open Go.RowKit Go.Deep
set_option linter.unusedVariables false
attribute [local go_sem] bits_and_one

set_option maxHeartbeats 8000000 in
theorem implAll1 (A : Option Addr) (c : Nat) (zs : List Int) (w : World) (ha : RdI w A 1 zs) :
    Calls Try.prog 55 #[.slice A 1 c] w fun e w' => ∃ A' n' c' vs, e = .returned (.slice A' n' c') ∧ n' = cntG (good 1 0 zs) 1 ∧ Own w' w.heap.size 24 A' n' c' vs ∧ RowsIn w' w.heap.size w'.heap.size A' n' (row (allL 0 (good 1 0 zs) 1)) vs ∧ Below w.heap.size w w' := by
  have HL := Lib.hid ha.lenI
  have CF := Lib.hid (show ∀ w, Calls Try.prog 48 #[.int .i64 0, .int .i64 1] w fun e w' => ∃ A' c', e = .returned (.slice A' 1 c') ∧ OwnI w' w.heap.size 3 A' 1 c' (marks 0 1) ∧ Below w.heap.size w w' from fun w => implFirst 1 w (by omega))
  have CA := Lib.hid implFab1
  have CN := Lib.hid (implCnt 1)
  go_enter Try.func55, Try.ntmps55
  go_wp2_with fail
  refine (CN.out _ (by unfold IsP; omega)).mono ?_
  rintro e w0 ⟨rfl, hb0⟩
  rw [show swN 1 = 0 from rfl]
  have hs0 := hb0.size
  have o0 := (own_empty w 24).below hb0
  have hbl0 : Below w.heap.size w w0 := (below_alloc w (.cells #[] 24)).trans (hb0.mono (by simp))
  go_wp2_with fail
  go_loopw [3, 14] (fun v i wr => ∃ m : Nat, ∃ A' c' vs, m ≤ 1 ∧ i = .int .i64 m ∧ v = .slice A' (cntG (good 1 0 zs) m) c' ∧ Own wr w.heap.size 24 A' (cntG (good 1 0 zs) m) c' vs ∧ RowsIn wr w.heap.size wr.heap.size A' (cntG (good 1 0 zs) m) (row (allL 0 (good 1 0 zs) m)) vs ∧ Below w.heap.size w wr) (fun _ i _ => 1 - (intOf i).toNat)
  case atStart => exact ⟨0, _, _, [], Nat.zero_le _, rfl, by rw [cntG_zero], by rw [cntG_zero]; simpa using o0, fun j hj => by rw [cntG_zero] at hj; omega, hbl0⟩
  case round =>
    clear hb0 hs0 o0 hbl0
    obtain ⟨m, A', c', vs, hm, rfl, rfl, hown, hrs, hbl⟩ := hrel
    have hsz := hbl.size
    have hcm := cntG_le (good 1 0 zs) m
    obtain ⟨C, hC⟩ : ∃ C, cntG (good 1 0 zs) m = C := ⟨_, rfl⟩
    rw [hC] at hown hrs hcm
    rw [hC]
    have HC := Lib.hid hC
    clear hC
    by_cases hlt : m < 1
    · have dm : decide ((m : Int) < 1) = true := by simp; omega
      go_wp2_with fail
      go_loopw [6, 19] (fun v' i w3 => ∃ q : Nat, ∃ A' c', q ≤ 0 ∧ i = .int .i64 q ∧ v' = .slice A' q c' ∧ OwnI w3 wr.heap.size 3 A' q c' (bitTo m q) ∧ Below wr.heap.size wr w3) (fun _ i _ => 0 - (intOf i).toNat)
      case atStart => exact ⟨0, _, _, Nat.zero_le _, rfl, rfl, by simpa [OwnI, bitTo_zero] using own_empty wr 3, below_alloc wr _⟩
      case round =>
        obtain ⟨q, A1, c1, hq, rfl, rfl, o1, hb1⟩ := hrel
        have hs1 := hb1.size
        by_cases hqk : q < 0
        · exact absurd hqk (by omega)
        · obtain rfl : q = 0 := by omega
          have hbl1 := hbl.trans (hb1.mono hsz)
          have hs2 := hbl1.size
          go_wp2_with fail
          refine (CF.out _).mono ?_
          rintro e w4 ⟨A4, c4, rfl, o4, hb4⟩
          have hs4 := hb4.size
          have hb14 := hb1.trans (hb4.mono hs1)
          go_wp2_with fail
          refine (CA.out A1 c1 (bitTo m 0) A4 c4 _ w4 (o1.rd.below hb4) o1.cap.1 o1.cap.2 (bitTo_bits m 0) o4.rd).mono ?_
          rintro e w5 ⟨A5, c5, rfl, o5, hb5⟩
          have hb15 := hb14.trans (hb5.mono hb14.size)
          have hbl5 := hbl.trans (hb15.mono hsz)
          obtain ⟨X, hX⟩ : ∃ X, fab1 (bitTo m 0) (marks 0 1) = X := ⟨_, rfl⟩
          rw [hX] at o5
          have HX := Lib.hid (show good 1 0 zs m = decide (X = zs) by
            rw [← hX]
            unfold good
            rfl)
          have CE := implEqual A5 A 1 c5 c X zs w5 o5.rd (ha.below hbl5) (by omega)
          have o1c := (o1.below hb4).below hb5
          clear hX o1 o4 o5 hb1 hb4 hb5 hbl1 hb14
          cases he : decide (X = zs) with
          | true =>
            rw [he] at CE
            have CCE := Lib.hid CE
            have HG := Lib.hid (show good 1 0 zs m = true by rw [HX.out, he])
            have H := Lib.hid (show cntG (good 1 0 zs) (m + 1) = C + 1 by rw [cntG_on HG.out, HC.out])
            clear CE he
            go_wp2_with fail
            refine CCE.out.mono ?_
            rintro e w6 ⟨rfl, hb6⟩
            have hb16 := hb15.trans (hb6.mono hb15.size)
            have hown2 := hown.below hb16
            have hbl2 := hbl.trans (hb16.mono hsz)
            have hsz2 := hbl2.size
            have hs16 := hb16.size
            have o1d := o1c.below hb6
            have hrs2 := RowsIn.keep hrs (fun g h1 h2 h3 => hb16.block g h3)
            have hrs3 : RowsIn w6 w.heap.size _ A' C (row (allL 0 (good 1 0 zs) (m + 1))) vs := fun j hj => by
              have := hrs2 j hj
              rw [allL_old HG.out (by rw [HC.out]; exact hj)]
              exact this
            have hAA := hown.blk_
            have hRR := o1d.blk_
            have hnew := allL_new (k := 0) HG.out
            rw [HC.out] at hnew
            have o1e : OwnI w6 w.heap.size 3 A1 0 c1 (row (allL 0 (good 1 0 zs) (m + 1)) C) := by rw [hnew]; exact o1d.more hsz
            clear hnew hrs hrs2
            go_wp2_with (at_builtin; refine wpL_append1 _ rfl _ _ _ rfl w.heap.size 24 (.slice none 0 0) 24 Try.underlying44 sliceInfo rfl _ C _ _ rfl hown2 (.slice A1 0 c1) rfl rfl (by unfold maxLen; omega) (by omega) hsz2 ?_)
            intro A9 c9 w9 ho9 hg9 hat9
            have hb9 := own_below hown2 hbl2 hsz2 hg9
            have hrs9 := rowsIn_push (cR := c1) hown2 hrs3 (fun g hg => (hAA g hg).2) hs16 o1e (fun g hg => (hRR g hg).1) hg9 hat9
            go_wp2
            go_roundw
            case rel => exact ⟨m + 1, A9, c9, _, by omega, by go_num, by rw [H.out], by rw [H.out]; exact ho9, by rw [H.out]; exact hrs9, hb9⟩
            case measure => (simp [intOf] <;> omega)
          | false =>
            rw [he] at CE
            have CCE := Lib.hid CE
            have HG := Lib.hid (show good 1 0 zs m = false by rw [HX.out, he])
            have H := Lib.hid (show cntG (good 1 0 zs) (m + 1) = C by rw [cntG_off HG.out, HC.out])
            have H2 := Lib.hid (allL_off (k := 0) HG.out)
            clear CE he
            go_wp2_with fail
            refine CCE.out.mono ?_
            rintro e w6 ⟨rfl, hb6⟩
            have hb16 := hb15.trans (hb6.mono hb15.size)
            have hown2 := hown.below hb16
            have hbl2 := hbl.trans (hb16.mono hsz)
            have hs16 := hb16.size
            have hrs2 := RowsIn.keep hrs (fun g h1 h2 h3 => hb16.block g h3)
            have hrs3 : RowsIn w6 w.heap.size w6.heap.size A' C (row (allL 0 (good 1 0 zs) (m + 1))) vs := fun j hj => by
              obtain ⟨B, m', d, hv, hB, hd⟩ := hrs2 j hj
              rw [H2.out]
              exact ⟨B, m', d, hv, hB, fun g hg => ⟨Nat.lt_of_lt_of_le (hd g hg).1 hs16, (hd g hg).2⟩⟩
            clear hrs hrs2
            go_wp2_with fail
            go_roundw
            case rel => exact ⟨m + 1, A', c', vs, by omega, by go_num, by rw [H.out], by rw [H.out]; exact hown2, by rw [H.out]; exact hrs3, hbl2⟩
            case measure => (simp [intOf] <;> omega)
    · obtain rfl : m = 1 := by omega
      go_wp2_with fail
      go_ret
      exact ⟨_, _, _, vs, rfl, HC.out.symm, hown, hrs, hbl⟩

set_option maxHeartbeats 8000000 in
theorem implAll2 (A : Option Addr) (c : Nat) (zs : List Int) (w : World) (ha : RdI w A 2 zs) :
    Calls Try.prog 55 #[.slice A 2 c] w fun e w' => ∃ A' n' c' vs, e = .returned (.slice A' n' c') ∧ n' = cntG (good 2 1 zs) 2 ∧ Own w' w.heap.size 24 A' n' c' vs ∧ RowsIn w' w.heap.size w'.heap.size A' n' (row (allL 1 (good 2 1 zs) 2)) vs ∧ Below w.heap.size w w' := by
  have HL := Lib.hid ha.lenI
  have CF := Lib.hid (show ∀ w, Calls Try.prog 48 #[.int .i64 0, .int .i64 2] w fun e w' => ∃ A' c', e = .returned (.slice A' 2 c') ∧ OwnI w' w.heap.size 3 A' 2 c' (marks 0 2) ∧ Below w.heap.size w w' from fun w => implFirst 2 w (by omega))
  have CA := Lib.hid implFab2
  have CN := Lib.hid (implCnt 2)
  go_enter Try.func55, Try.ntmps55
  go_wp2_with fail
  refine (CN.out _ (by unfold IsP; omega)).mono ?_
  rintro e w0 ⟨rfl, hb0⟩
  rw [show swN 2 = 1 from rfl]
  have hs0 := hb0.size
  have o0 := (own_empty w 24).below hb0
  have hbl0 : Below w.heap.size w w0 := (below_alloc w (.cells #[] 24)).trans (hb0.mono (by simp))
  go_wp2_with fail
  go_loopw [3, 14] (fun v i wr => ∃ m : Nat, ∃ A' c' vs, m ≤ 2 ∧ i = .int .i64 m ∧ v = .slice A' (cntG (good 2 1 zs) m) c' ∧ Own wr w.heap.size 24 A' (cntG (good 2 1 zs) m) c' vs ∧ RowsIn wr w.heap.size wr.heap.size A' (cntG (good 2 1 zs) m) (row (allL 1 (good 2 1 zs) m)) vs ∧ Below w.heap.size w wr) (fun _ i _ => 2 - (intOf i).toNat)
  case atStart => exact ⟨0, _, _, [], Nat.zero_le _, rfl, by rw [cntG_zero], by rw [cntG_zero]; simpa using o0, fun j hj => by rw [cntG_zero] at hj; omega, hbl0⟩
  case round =>
    clear hb0 hs0 o0 hbl0
    obtain ⟨m, A', c', vs, hm, rfl, rfl, hown, hrs, hbl⟩ := hrel
    have hsz := hbl.size
    have hcm := cntG_le (good 2 1 zs) m
    obtain ⟨C, hC⟩ : ∃ C, cntG (good 2 1 zs) m = C := ⟨_, rfl⟩
    rw [hC] at hown hrs hcm
    rw [hC]
    have HC := Lib.hid hC
    clear hC
    by_cases hlt : m < 2
    · have dm : decide ((m : Int) < 2) = true := by simp; omega
      go_wp2_with fail
      go_loopw [6, 19] (fun v' i w3 => ∃ q : Nat, ∃ A' c', q ≤ 1 ∧ i = .int .i64 q ∧ v' = .slice A' q c' ∧ OwnI w3 wr.heap.size 3 A' q c' (bitTo m q) ∧ Below wr.heap.size wr w3) (fun _ i _ => 1 - (intOf i).toNat)
      case atStart => exact ⟨0, _, _, Nat.zero_le _, rfl, rfl, by simpa [OwnI, bitTo_zero] using own_empty wr 3, below_alloc wr _⟩
      case round =>
        obtain ⟨q, A1, c1, hq, rfl, rfl, o1, hb1⟩ := hrel
        have hs1 := hb1.size
        by_cases hqk : q < 1
        · have HQ := Lib.hid (bitTo_succ m q)
          have hbit : (m : Int) / 2 ^ q % 2 < 2 := Int.emod_lt_of_pos _ (by omega)
          have hbit0 : 0 ≤ (m : Int) / 2 ^ q % 2 := Int.emod_nonneg _ (by omega)
          go_wp2_with (at_builtin; refine wpL_append1 _ rfl _ _ _ rfl _ 3 (.int .i64 0) 8 Try.underlying24 intInfo rfl _ q _ _ rfl o1 _ rfl rfl (by unfold maxLen; omega) (by omega) hs1 ?_)
          intro A2 c2 w2 ho2 hg2 hat2
          have hb2 := own_below o1 hb1 hs1 hg2
          go_wp2
          go_roundw
          case rel => exact ⟨q + 1, A2, c2, by omega, by go_num, rfl, by rw [OwnI, HQ.out, List.map_append]; simpa using ho2, hb2⟩
          case measure => (simp [intOf] <;> omega)
        · obtain rfl : q = 1 := by omega
          have hbl1 := hbl.trans (hb1.mono hsz)
          have hs2 := hbl1.size
          go_wp2_with fail
          refine (CF.out _).mono ?_
          rintro e w4 ⟨A4, c4, rfl, o4, hb4⟩
          have hs4 := hb4.size
          have hb14 := hb1.trans (hb4.mono hs1)
          go_wp2_with fail
          refine (CA.out A1 c1 (bitTo m 1) A4 c4 _ w4 (o1.rd.below hb4) o1.cap.1 o1.cap.2 (bitTo_bits m 1) o4.rd).mono ?_
          rintro e w5 ⟨A5, c5, rfl, o5, hb5⟩
          have hb15 := hb14.trans (hb5.mono hb14.size)
          have hbl5 := hbl.trans (hb15.mono hsz)
          obtain ⟨X, hX⟩ : ∃ X, fab2 (bitTo m 1) (marks 0 2) = X := ⟨_, rfl⟩
          rw [hX] at o5
          have HX := Lib.hid (show good 2 1 zs m = decide (X = zs) by
            rw [← hX]
            unfold good
            rfl)
          have CE := implEqual A5 A 2 c5 c X zs w5 o5.rd (ha.below hbl5) (by omega)
          have o1c := (o1.below hb4).below hb5
          clear hX o1 o4 o5 hb1 hb4 hb5 hbl1 hb14
          cases he : decide (X = zs) with
          | true =>
            rw [he] at CE
            have CCE := Lib.hid CE
            have HG := Lib.hid (show good 2 1 zs m = true by rw [HX.out, he])
            have H := Lib.hid (show cntG (good 2 1 zs) (m + 1) = C + 1 by rw [cntG_on HG.out, HC.out])
            clear CE he
            go_wp2_with fail
            refine CCE.out.mono ?_
            rintro e w6 ⟨rfl, hb6⟩
            have hb16 := hb15.trans (hb6.mono hb15.size)
            have hown2 := hown.below hb16
            have hbl2 := hbl.trans (hb16.mono hsz)
            have hsz2 := hbl2.size
            have hs16 := hb16.size
            have o1d := o1c.below hb6
            have hrs2 := RowsIn.keep hrs (fun g h1 h2 h3 => hb16.block g h3)
            have hrs3 : RowsIn w6 w.heap.size _ A' C (row (allL 1 (good 2 1 zs) (m + 1))) vs := fun j hj => by
              have := hrs2 j hj
              rw [allL_old HG.out (by rw [HC.out]; exact hj)]
              exact this
            have hAA := hown.blk_
            have hRR := o1d.blk_
            have hnew := allL_new (k := 1) HG.out
            rw [HC.out] at hnew
            have o1e : OwnI w6 w.heap.size 3 A1 1 c1 (row (allL 1 (good 2 1 zs) (m + 1)) C) := by rw [hnew]; exact o1d.more hsz
            clear hnew hrs hrs2
            go_wp2_with (at_builtin; refine wpL_append1 _ rfl _ _ _ rfl w.heap.size 24 (.slice none 0 0) 24 Try.underlying44 sliceInfo rfl _ C _ _ rfl hown2 (.slice A1 1 c1) rfl rfl (by unfold maxLen; omega) (by omega) hsz2 ?_)
            intro A9 c9 w9 ho9 hg9 hat9
            have hb9 := own_below hown2 hbl2 hsz2 hg9
            have hrs9 := rowsIn_push (cR := c1) hown2 hrs3 (fun g hg => (hAA g hg).2) hs16 o1e (fun g hg => (hRR g hg).1) hg9 hat9
            go_wp2
            go_roundw
            case rel => exact ⟨m + 1, A9, c9, _, by omega, by go_num, by rw [H.out], by rw [H.out]; exact ho9, by rw [H.out]; exact hrs9, hb9⟩
            case measure => (simp [intOf] <;> omega)
          | false =>
            rw [he] at CE
            have CCE := Lib.hid CE
            have HG := Lib.hid (show good 2 1 zs m = false by rw [HX.out, he])
            have H := Lib.hid (show cntG (good 2 1 zs) (m + 1) = C by rw [cntG_off HG.out, HC.out])
            have H2 := Lib.hid (allL_off (k := 1) HG.out)
            clear CE he
            go_wp2_with fail
            refine CCE.out.mono ?_
            rintro e w6 ⟨rfl, hb6⟩
            have hb16 := hb15.trans (hb6.mono hb15.size)
            have hown2 := hown.below hb16
            have hbl2 := hbl.trans (hb16.mono hsz)
            have hs16 := hb16.size
            have hrs2 := RowsIn.keep hrs (fun g h1 h2 h3 => hb16.block g h3)
            have hrs3 : RowsIn w6 w.heap.size w6.heap.size A' C (row (allL 1 (good 2 1 zs) (m + 1))) vs := fun j hj => by
              obtain ⟨B, m', d, hv, hB, hd⟩ := hrs2 j hj
              rw [H2.out]
              exact ⟨B, m', d, hv, hB, fun g hg => ⟨Nat.lt_of_lt_of_le (hd g hg).1 hs16, (hd g hg).2⟩⟩
            clear hrs hrs2
            go_wp2_with fail
            go_roundw
            case rel => exact ⟨m + 1, A', c', vs, by omega, by go_num, by rw [H.out], by rw [H.out]; exact hown2, by rw [H.out]; exact hrs3, hbl2⟩
            case measure => (simp [intOf] <;> omega)
    · obtain rfl : m = 2 := by omega
      go_wp2_with fail
      go_ret
      exact ⟨_, _, _, vs, rfl, HC.out.symm, hown, hrs, hbl⟩

set_option maxHeartbeats 8000000 in
theorem implAll4 (A : Option Addr) (c : Nat) (zs : List Int) (w : World) (ha : RdI w A 4 zs) :
    Calls Try.prog 55 #[.slice A 4 c] w fun e w' => ∃ A' n' c' vs, e = .returned (.slice A' n' c') ∧ n' = cntG (good 4 6 zs) 64 ∧ Own w' w.heap.size 24 A' n' c' vs ∧ RowsIn w' w.heap.size w'.heap.size A' n' (row (allL 6 (good 4 6 zs) 64)) vs ∧ Below w.heap.size w w' := by
  have HL := Lib.hid ha.lenI
  have CF := Lib.hid (show ∀ w, Calls Try.prog 48 #[.int .i64 0, .int .i64 4] w fun e w' => ∃ A' c', e = .returned (.slice A' 4 c') ∧ OwnI w' w.heap.size 3 A' 4 c' (marks 0 4) ∧ Below w.heap.size w w' from fun w => implFirst 4 w (by omega))
  have CA := Lib.hid implFab4
  have CN := Lib.hid (implCnt 4)
  go_enter Try.func55, Try.ntmps55
  go_wp2_with fail
  refine (CN.out _ (by unfold IsP; omega)).mono ?_
  rintro e w0 ⟨rfl, hb0⟩
  rw [show swN 4 = 6 from rfl]
  have hs0 := hb0.size
  have o0 := (own_empty w 24).below hb0
  have hbl0 : Below w.heap.size w w0 := (below_alloc w (.cells #[] 24)).trans (hb0.mono (by simp))
  go_wp2_with fail
  go_loopw [3, 14] (fun v i wr => ∃ m : Nat, ∃ A' c' vs, m ≤ 64 ∧ i = .int .i64 m ∧ v = .slice A' (cntG (good 4 6 zs) m) c' ∧ Own wr w.heap.size 24 A' (cntG (good 4 6 zs) m) c' vs ∧ RowsIn wr w.heap.size wr.heap.size A' (cntG (good 4 6 zs) m) (row (allL 6 (good 4 6 zs) m)) vs ∧ Below w.heap.size w wr) (fun _ i _ => 64 - (intOf i).toNat)
  case atStart => exact ⟨0, _, _, [], Nat.zero_le _, rfl, by rw [cntG_zero], by rw [cntG_zero]; simpa using o0, fun j hj => by rw [cntG_zero] at hj; omega, hbl0⟩
  case round =>
    clear hb0 hs0 o0 hbl0
    obtain ⟨m, A', c', vs, hm, rfl, rfl, hown, hrs, hbl⟩ := hrel
    have hsz := hbl.size
    have hcm := cntG_le (good 4 6 zs) m
    obtain ⟨C, hC⟩ : ∃ C, cntG (good 4 6 zs) m = C := ⟨_, rfl⟩
    rw [hC] at hown hrs hcm
    rw [hC]
    have HC := Lib.hid hC
    clear hC
    by_cases hlt : m < 64
    · have dm : decide ((m : Int) < 64) = true := by simp; omega
      go_wp2_with fail
      go_loopw [6, 19] (fun v' i w3 => ∃ q : Nat, ∃ A' c', q ≤ 6 ∧ i = .int .i64 q ∧ v' = .slice A' q c' ∧ OwnI w3 wr.heap.size 3 A' q c' (bitTo m q) ∧ Below wr.heap.size wr w3) (fun _ i _ => 6 - (intOf i).toNat)
      case atStart => exact ⟨0, _, _, Nat.zero_le _, rfl, rfl, by simpa [OwnI, bitTo_zero] using own_empty wr 3, below_alloc wr _⟩
      case round =>
        obtain ⟨q, A1, c1, hq, rfl, rfl, o1, hb1⟩ := hrel
        have hs1 := hb1.size
        by_cases hqk : q < 6
        · have HQ := Lib.hid (bitTo_succ m q)
          have hbit : (m : Int) / 2 ^ q % 2 < 2 := Int.emod_lt_of_pos _ (by omega)
          have hbit0 : 0 ≤ (m : Int) / 2 ^ q % 2 := Int.emod_nonneg _ (by omega)
          go_wp2_with (at_builtin; refine wpL_append1 _ rfl _ _ _ rfl _ 3 (.int .i64 0) 8 Try.underlying24 intInfo rfl _ q _ _ rfl o1 _ rfl rfl (by unfold maxLen; omega) (by omega) hs1 ?_)
          intro A2 c2 w2 ho2 hg2 hat2
          have hb2 := own_below o1 hb1 hs1 hg2
          go_wp2
          go_roundw
          case rel => exact ⟨q + 1, A2, c2, by omega, by go_num, rfl, by rw [OwnI, HQ.out, List.map_append]; simpa using ho2, hb2⟩
          case measure => (simp [intOf] <;> omega)
        · obtain rfl : q = 6 := by omega
          have hbl1 := hbl.trans (hb1.mono hsz)
          have hs2 := hbl1.size
          go_wp2_with fail
          refine (CF.out _).mono ?_
          rintro e w4 ⟨A4, c4, rfl, o4, hb4⟩
          have hs4 := hb4.size
          have hb14 := hb1.trans (hb4.mono hs1)
          go_wp2_with fail
          refine (CA.out A1 c1 (bitTo m 6) A4 c4 _ w4 (o1.rd.below hb4) o1.cap.1 o1.cap.2 (bitTo_bits m 6) o4.rd).mono ?_
          rintro e w5 ⟨A5, c5, rfl, o5, hb5⟩
          have hb15 := hb14.trans (hb5.mono hb14.size)
          have hbl5 := hbl.trans (hb15.mono hsz)
          obtain ⟨X, hX⟩ : ∃ X, fab4 (bitTo m 6) (marks 0 4) = X := ⟨_, rfl⟩
          rw [hX] at o5
          have HX := Lib.hid (show good 4 6 zs m = decide (X = zs) by
            rw [← hX]
            unfold good
            rfl)
          have CE := implEqual A5 A 4 c5 c X zs w5 o5.rd (ha.below hbl5) (by omega)
          have o1c := (o1.below hb4).below hb5
          clear hX o1 o4 o5 hb1 hb4 hb5 hbl1 hb14
          cases he : decide (X = zs) with
          | true =>
            rw [he] at CE
            have CCE := Lib.hid CE
            have HG := Lib.hid (show good 4 6 zs m = true by rw [HX.out, he])
            have H := Lib.hid (show cntG (good 4 6 zs) (m + 1) = C + 1 by rw [cntG_on HG.out, HC.out])
            clear CE he
            go_wp2_with fail
            refine CCE.out.mono ?_
            rintro e w6 ⟨rfl, hb6⟩
            have hb16 := hb15.trans (hb6.mono hb15.size)
            have hown2 := hown.below hb16
            have hbl2 := hbl.trans (hb16.mono hsz)
            have hsz2 := hbl2.size
            have hs16 := hb16.size
            have o1d := o1c.below hb6
            have hrs2 := RowsIn.keep hrs (fun g h1 h2 h3 => hb16.block g h3)
            have hrs3 : RowsIn w6 w.heap.size _ A' C (row (allL 6 (good 4 6 zs) (m + 1))) vs := fun j hj => by
              have := hrs2 j hj
              rw [allL_old HG.out (by rw [HC.out]; exact hj)]
              exact this
            have hAA := hown.blk_
            have hRR := o1d.blk_
            have hnew := allL_new (k := 6) HG.out
            rw [HC.out] at hnew
            have o1e : OwnI w6 w.heap.size 3 A1 6 c1 (row (allL 6 (good 4 6 zs) (m + 1)) C) := by rw [hnew]; exact o1d.more hsz
            clear hnew hrs hrs2
            go_wp2_with (at_builtin; refine wpL_append1 _ rfl _ _ _ rfl w.heap.size 24 (.slice none 0 0) 24 Try.underlying44 sliceInfo rfl _ C _ _ rfl hown2 (.slice A1 6 c1) rfl rfl (by unfold maxLen; omega) (by omega) hsz2 ?_)
            intro A9 c9 w9 ho9 hg9 hat9
            have hb9 := own_below hown2 hbl2 hsz2 hg9
            have hrs9 := rowsIn_push (cR := c1) hown2 hrs3 (fun g hg => (hAA g hg).2) hs16 o1e (fun g hg => (hRR g hg).1) hg9 hat9
            go_wp2
            go_roundw
            case rel => exact ⟨m + 1, A9, c9, _, by omega, by go_num, by rw [H.out], by rw [H.out]; exact ho9, by rw [H.out]; exact hrs9, hb9⟩
            case measure => (simp [intOf] <;> omega)
          | false =>
            rw [he] at CE
            have CCE := Lib.hid CE
            have HG := Lib.hid (show good 4 6 zs m = false by rw [HX.out, he])
            have H := Lib.hid (show cntG (good 4 6 zs) (m + 1) = C by rw [cntG_off HG.out, HC.out])
            have H2 := Lib.hid (allL_off (k := 6) HG.out)
            clear CE he
            go_wp2_with fail
            refine CCE.out.mono ?_
            rintro e w6 ⟨rfl, hb6⟩
            have hb16 := hb15.trans (hb6.mono hb15.size)
            have hown2 := hown.below hb16
            have hbl2 := hbl.trans (hb16.mono hsz)
            have hs16 := hb16.size
            have hrs2 := RowsIn.keep hrs (fun g h1 h2 h3 => hb16.block g h3)
            have hrs3 : RowsIn w6 w.heap.size w6.heap.size A' C (row (allL 6 (good 4 6 zs) (m + 1))) vs := fun j hj => by
              obtain ⟨B, m', d, hv, hB, hd⟩ := hrs2 j hj
              rw [H2.out]
              exact ⟨B, m', d, hv, hB, fun g hg => ⟨Nat.lt_of_lt_of_le (hd g hg).1 hs16, (hd g hg).2⟩⟩
            clear hrs hrs2
            go_wp2_with fail
            go_roundw
            case rel => exact ⟨m + 1, A', c', vs, by omega, by go_num, by rw [H.out], by rw [H.out]; exact hown2, by rw [H.out]; exact hrs3, hbl2⟩
            case measure => (simp [intOf] <;> omega)
    · obtain rfl : m = 64 := by omega
      go_wp2_with fail
      go_ret
      exact ⟨_, _, _, vs, rfl, HC.out.symm, hown, hrs, hbl⟩

end Go.Proofs.Ytchmmaokommnaaa
