/- Chapter 15: DoMeet and CanPass. -/
import Derived.Test.YtaeabpmpfadkjaaC15e
import Derived.Deep.RegionHeld3
namespace Go.Proofs.Ytaeabpmpfadkjaa
open Go.RowKit Go.Deep
set_option linter.unusedVariables false
attribute [local go_sem] bits_and_one

def doMeetV (n a b c d : Int) : Bool := decide (okPos n a b ∧ okPos n c d ∧ a ≠ c ∧ b ≠ d) && pathsMeet n.toNat a.toNat b.toNat c.toNat d.toNat

theorem own_nil_len {w : World} {B : Nat} {e : TypeId} {A : Option Addr} {n c : Nat} {zs : List Int} (h : OwnI w B e A n c zs) (hz : zs = []) : n = 0 := by
  have := h.lenI; rw [hz] at this; exact this.symm

set_option maxHeartbeats 2000000 in
theorem implDoMeet (n a b c d : Int) (w : World) :
    Calls Try.prog 23 #[.int .i64 n, .int .i64 a, .int .i64 b, .int .i64 c, .int .i64 d] w fun e w' => e = .returned (.bool (doMeetV n a b c d)) ∧ Below w.heap.size w w' := by
  have C1 := implPositions n a b w
  have C2 := implPositions n c d w
  by_cases h1 : okPos n a b
  · rw [decide_eq_true h1] at C1
    have CC1 := Lib.hid C1
    clear C1
    by_cases h2 : okPos n c d
    · rw [decide_eq_true h2] at C2
      have CC2 := Lib.hid C2
      clear C2
      obtain ⟨m, i, k, rfl, rfl, rfl, hm, hi, hk⟩ := okPos_nat h1
      obtain ⟨m2, i2, k2, hm2, rfl, rfl, _, hi2, hk2⟩ := okPos_nat h2
      obtain rfl : m = m2 := by omega
      clear hm2
      by_cases h3 : i = i2
      · have H := Lib.hid (show doMeetV m i k i2 k2 = false by rw [doMeetV, decide_eq_false (fun x => x.2.2.1 (by rw [h3])), Bool.false_and])
        have e1 : ((i : Int) != (i2 : Int)) = false := by simp [h3]
        clear h1 h2 h3 hm
        go_enter Try.func23, Try.ntmps23
        go_wp2_with fail
        refine CC1.out.mono ?_
        rintro e w' ⟨rfl, rfl⟩
        go_wp2_with fail
        refine CC2.out.mono ?_
        rintro e w' ⟨rfl, rfl⟩
        go_wp2_with fail
        go_ret
        exact ⟨ret_bool H.out.symm, Below.refl _ _⟩
      · have e1 : ((i : Int) != (i2 : Int)) = true := by simp [bne]; omega
        by_cases h4 : k = k2
        · have H := Lib.hid (show doMeetV m i k i2 k2 = false by rw [doMeetV, decide_eq_false (fun x => x.2.2.2 (by rw [h4])), Bool.false_and])
          have e2 : ((k : Int) != (k2 : Int)) = false := by simp [h4]
          clear h1 h2 h3 h4 hm
          go_enter Try.func23, Try.ntmps23
          go_wp2_with fail
          refine CC1.out.mono ?_
          rintro e w' ⟨rfl, rfl⟩
          go_wp2_with fail
          refine CC2.out.mono ?_
          rintro e w' ⟨rfl, rfl⟩
          go_wp2_with fail
          go_ret
          exact ⟨ret_bool H.out.symm, Below.refl _ _⟩
        · have e2 : ((k : Int) != (k2 : Int)) = true := by simp [bne]; omega
          have H := Lib.hid (show doMeetV m i k i2 k2 = pathsMeet m i k i2 k2 by rw [doMeetV, decide_eq_true ⟨h1, h2, by omega, by omega⟩, Bool.true_and]; simp only [Int.toNat_natCast])
          have C3 := Lib.hid (implMeet m i k i2 k2 w hm hi hk hi2 hk2)
          clear h1 h2 h3 h4 hm
          go_enter Try.func23, Try.ntmps23
          go_wp2_with fail
          refine CC1.out.mono ?_
          rintro e w' ⟨rfl, rfl⟩
          go_wp2_with fail
          refine CC2.out.mono ?_
          rintro e w' ⟨rfl, rfl⟩
          go_wp2_with fail
          refine C3.out.mono ?_
          rintro e w2 ⟨rfl, hb2⟩
          go_wp2_with fail
          go_ret
          exact ⟨ret_bool H.out.symm, hb2⟩
    · have H := Lib.hid (show doMeetV n a b c d = false by rw [doMeetV, decide_eq_false (fun x => h2 x.2.1), Bool.false_and])
      rw [decide_eq_false h2] at C2
      have CC2 := Lib.hid C2
      clear C2 h1 h2
      go_enter Try.func23, Try.ntmps23
      go_wp2_with fail
      refine CC1.out.mono ?_
      rintro e w' ⟨rfl, rfl⟩
      go_wp2_with fail
      refine CC2.out.mono ?_
      rintro e w' ⟨rfl, rfl⟩
      go_wp2_with fail
      go_ret
      exact ⟨ret_bool H.out.symm, Below.refl _ _⟩
  · have H := Lib.hid (show doMeetV n a b c d = false by rw [doMeetV, decide_eq_false (fun x => h1 x.1), Bool.false_and])
    rw [decide_eq_false h1] at C1
    have CC1 := Lib.hid C1
    clear C1 C2 h1
    go_enter Try.func23, Try.ntmps23
    go_wp2_with fail
    refine CC1.out.mono ?_
    rintro e w' ⟨rfl, rfl⟩
    go_wp2_with fail
    go_ret
    exact ⟨ret_bool H.out.symm, Below.refl _ _⟩

set_option maxHeartbeats 2000000 in
theorem specDoMeet (n a b c d : Int) (w : World) :
    Calls Try.prog 22 #[.int .i64 n, .int .i64 a, .int .i64 b, .int .i64 c, .int .i64 d] w fun e w' => e = .returned (.bool (doMeetV n a b c d)) ∧ Below w.heap.size w w' := by
  have C1 := Lib.hid (specPathOf n a b w)
  go_enter Try.func22, Try.ntmps22
  go_wp2_with fail
  refine C1.out.mono ?_
  rintro e w1 ⟨A1, n1, c1, rfl, ho1, hb1⟩
  go_wp2_with fail
  refine (specPathOf n c d w1).mono ?_
  rintro e w2 ⟨A2, n2, c2, rfl, ho2, hb2⟩
  have hB := hb1.trans (hb2.mono hb1.size)
  replace ho1 := ho1.below hb2
  by_cases h1 : okPos n a b
  · by_cases h2 : okPos n c d
    · obtain ⟨m, i, k, rfl, rfl, rfl, hm, hi, hk⟩ := okPos_nat h1
      obtain ⟨m2, i2, k2, hm2, rfl, rfl, _, hi2, hk2⟩ := okPos_nat h2
      obtain rfl : m = m2 := by omega
      clear hm2
      have p1 : pathV (m : Int) (i : Int) (k : Int) = pathL m i k := by rw [pathV, if_pos h1]; simp only [Int.toNat_natCast]
      have p2 : pathV (m : Int) (i2 : Int) (k2 : Int) = pathL m i2 k2 := by rw [pathV, if_pos h2]; simp only [Int.toNat_natCast]
      rw [p1] at ho1
      rw [p2] at ho2
      obtain ⟨K, hK⟩ : ∃ K, stgN m = K := ⟨_, rfl⟩
      have hKs := stg_le hm
      rw [hK] at hKs
      obtain rfl : n1 = K := by rw [← ho1.lenI, pathL_len, hK]
      obtain rfl : n2 = n1 := by rw [← ho2.lenI, pathL_len, hK]
      have hK1 := hKs.1
      have hK3 := hKs.2
      clear p1 p2 hK hKs C1
      by_cases h3 : i = i2
      · have H := Lib.hid (show doMeetV m i k i2 k2 = false by rw [doMeetV, decide_eq_false (fun x => x.2.2.1 (by rw [h3])), Bool.false_and])
        have e1 : ((i : Int) != (i2 : Int)) = false := by simp [h3]
        clear h1 h2 h3 hm
        go_wp2_with fail
        go_ret
        exact ⟨ret_bool H.out.symm, hB⟩
      · have e1 : ((i : Int) != (i2 : Int)) = true := by simp [bne]; omega
        by_cases h4 : k = k2
        · have H := Lib.hid (show doMeetV m i k i2 k2 = false by rw [doMeetV, decide_eq_false (fun x => x.2.2.2 (by rw [h4])), Bool.false_and])
          have e2 : ((k : Int) != (k2 : Int)) = false := by simp [h4]
          clear h1 h2 h3 h4 hm
          go_wp2_with fail
          go_ret
          exact ⟨ret_bool H.out.symm, hB⟩
        · have e2 : ((k : Int) != (k2 : Int)) = true := by simp [bne]; omega
          have H := Lib.hid (show doMeetV m i k i2 k2 = pathsMeet m i k i2 k2 by rw [doMeetV, decide_eq_true ⟨h1, h2, by omega, by omega⟩, Bool.true_and]; simp only [Int.toNat_natCast])
          clear h1 h2 h3 h4 hm
          go_wp2_with fail
          refine (specMeet A1 A2 n2 c1 c2 _ _ w2 ho1.rd ho2.rd (by omega)).mono ?_
          rintro e w' ⟨rfl, rfl⟩
          go_wp2_with fail
          go_ret
          exact ⟨ret_bool H.out.symm, hB⟩
    · have H := Lib.hid (show doMeetV n a b c d = false by rw [doMeetV, decide_eq_false (fun x => h2 x.2.1), Bool.false_and])
      obtain rfl : n2 = 0 := own_nil_len ho2 (pathV_no h2)
      have hn1 : n1 ≤ 1048576 := by rw [← ho1.lenI]; exact pathV_len _ _ _
      by_cases hn0 : 0 < n1
      · clear h1 h2 C1
        go_wp2_with fail
        go_ret
        exact ⟨ret_bool H.out.symm, hB⟩
      · clear h1 h2 C1
        go_wp2_with fail
        go_ret
        exact ⟨ret_bool H.out.symm, hB⟩
  · have H := Lib.hid (show doMeetV n a b c d = false by rw [doMeetV, decide_eq_false (fun x => h1 x.1), Bool.false_and])
    obtain rfl : n1 = 0 := own_nil_len ho1 (pathV_no h1)
    clear h1 C1
    go_wp2_with fail
    go_ret
    exact ⟨ret_bool H.out.symm, hB⟩

set_option maxHeartbeats 2000000 in
theorem lawDoMeet (w : World) (x0 : Int) (x1 : Int) (x2 : Int) (x3 : Int) (x4 : Int) (_g0 : In64 x0) (_g1 : In64 x1) (_g2 : In64 x2) (_g3 : In64 x3) (_g4 : In64 x4) :
    Calls Try.prog 6 #[.int .i64 x0, .int .i64 x1, .int .i64 x2, .int .i64 x3, .int .i64 x4] w fun e w' => e = .returned (.bool true) ∧ Below w.heap.size w w' := by
  have hB0 : Below w.heap.size w w := Below.refl _ _
  go_enter Try.func6, Try.ntmps6
  go_wp2_with fail
  refine (specDoMeet x0 x1 x2 x3 x4 w  ).mono ?_
  rintro e w1 ⟨rfl, hb1⟩
  have hs1 := hb1.size
  have hB1 := hB0.trans (hb1.mono hB0.size)
  go_wp2_with fail
  refine (implDoMeet x0 x1 x2 x3 x4 w1  ).mono ?_
  rintro e w2 ⟨rfl, hb2⟩
  have hs2 := hb2.size
  have hB2 := hB1.trans (hb2.mono hB1.size)
  go_wp2_with fail
  go_ret
  exact ⟨rfl, hB2⟩

end Go.Proofs.Ytaeabpmpfadkjaa
