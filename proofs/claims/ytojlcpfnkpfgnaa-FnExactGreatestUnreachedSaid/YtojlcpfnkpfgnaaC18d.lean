/- Chapter 18: GreatestUnreached. -/
import Derived.Test.YtojlcpfnkpfgnaaC18c
namespace Go.Proofs.Ytojlcpfnkpfgnaa
open Go.RowKit Go.Deep
set_option linter.unusedVariables false

def lastV (a b : Int) : Int := if (unrV a b).length = 0 then -1 else nth (unrV a b) ((unrV a b).length - 1)

set_option maxHeartbeats 1000000 in
theorem specLast (a b : Int) (w : World) : Calls Try.prog 15 #[.int .i64 a, .int .i64 b] w fun e w' => e = .returned (.int .i64 (lastV a b)) ∧ Below w.heap.size w w' := by
  have hlen := unrV_len a b
  go_enter Try.func15, Try.ntmps15
  go_wp2_with fail
  refine (specUnr a b w).mono ?_
  rintro e w1 ⟨A1, n1, c1, rfl, ho1, hb1⟩
  have hl := ho1.lenI
  rw [hl] at hlen
  by_cases h0 : n1 = 0
  · have H := Lib.hid (show lastV a b = -1 by rw [lastV, if_pos (by omega)])
    have e1 : ((n1 : Int) == 0) = true := by simp [h0]
    clear hl h0
    go_wp2_with fail
    go_ret
    exact ⟨ret_int H.out.symm, hb1⟩
  · have H := Lib.hid (show lastV a b = nth (unrV a b) (n1 - 1) by rw [lastV, if_neg (by omega), hl])
    have e1 : ((n1 : Int) == 0) = false := by simp [h0]
    obtain ⟨a1, hA1, _, h1⟩ := ho1.rd.at_ (show n1 - 1 < n1 by omega)
    subst hA1
    have hn1 : 1 ≤ n1 := by omega
    clear hl h0
    go_wp2_with fail
    go_ret
    exact ⟨ret_int H.out.symm, hb1⟩

set_option maxHeartbeats 1000000 in
theorem implLast (a b : Int) (w : World) : Calls Try.prog 16 #[.int .i64 a, .int .i64 b] w fun e w' => e = .returned (.int .i64 (lastV a b)) ∧ Below w.heap.size w w' := by
  have hlen := unrV_len a b
  go_enter Try.func16, Try.ntmps16
  go_wp2_with fail
  refine (implUnr a b w).mono ?_
  rintro e w1 ⟨A1, n1, c1, rfl, ho1, hb1⟩
  have hl := ho1.lenI
  rw [hl] at hlen
  by_cases h0 : n1 = 0
  · have H := Lib.hid (show lastV a b = -1 by rw [lastV, if_pos (by omega)])
    have e1 : ((n1 : Int) == 0) = true := by simp [h0]
    clear hl h0
    go_wp2_with fail
    go_ret
    exact ⟨ret_int H.out.symm, hb1⟩
  · have H := Lib.hid (show lastV a b = nth (unrV a b) (n1 - 1) by rw [lastV, if_neg (by omega), hl])
    have e1 : ((n1 : Int) == 0) = false := by simp [h0]
    obtain ⟨a1, hA1, _, h1⟩ := ho1.rd.at_ (show n1 - 1 < n1 by omega)
    subst hA1
    have hn1 : 1 ≤ n1 := by omega
    clear hl h0
    go_wp2_with fail
    go_ret
    exact ⟨ret_int H.out.symm, hb1⟩

set_option maxHeartbeats 2000000 in
theorem lawGreatestUnreached (w : World) (x0 : Int) (x1 : Int) (_g0 : In64 x0) (_g1 : In64 x1) :
    Calls Try.prog 5 #[.int .i64 x0, .int .i64 x1] w fun e w' => e = .returned (.bool true) ∧ Below w.heap.size w w' := by
  have hB0 : Below w.heap.size w w := Below.refl _ _
  go_enter Try.func5, Try.ntmps5
  go_wp2_with fail
  refine (specLast x0 x1 w  ).mono ?_
  rintro e w1 ⟨rfl, hb1⟩
  have hs1 := hb1.size
  have hB1 := hB0.trans (hb1.mono hB0.size)
  go_wp2_with fail
  refine (implLast x0 x1 w1  ).mono ?_
  rintro e w2 ⟨rfl, hb2⟩
  have hs2 := hb2.size
  have hB2 := hB1.trans (hb2.mono hB1.size)
  go_wp2_with fail
  go_ret
  exact ⟨rfl, hB2⟩

end Go.Proofs.Ytojlcpfnkpfgnaa
