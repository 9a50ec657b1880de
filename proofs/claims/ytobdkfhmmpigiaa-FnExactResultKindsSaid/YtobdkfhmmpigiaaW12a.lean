/- FnExactResultKinds: the walk of the law. -/
import Derived.Test.YtobdkfhmmpigiaaC12v3
namespace Go.Proofs.Ytobdkfhmmpigiaa
open Go.RowKit Go.Deep
set_option linter.unusedVariables false

set_option maxHeartbeats 2000000 in
theorem lawResultKinds (w : World) (x0 : Int) (x1 : Int) (_g0 : In64 x0) (_g1 : In64 x1) :
    Calls Try.prog 3 #[.int .i64 x0, .int .i64 x1] w fun e w' => e = .returned (.bool true) ∧ Below w.heap.size w w' := by
  by_cases h : (1 ≤ x0 ∧ x0 ≤ 4) ∧ 0 ≤ x1 ∧ x1 ≤ 5
  · obtain ⟨n, rfl⟩ : ∃ n : Nat, x0 = n := ⟨x0.toNat, by omega⟩
    obtain ⟨K, rfl⟩ : ∃ K : Nat, x1 = K := ⟨x1.toNat, by omega⟩
    have h1 : 1 ≤ n := by omega
    have h4 : n ≤ 4 := by omega
    have hK : K ≤ 5 := by omega
    have CS := Lib.hid (specKinds n K w h1 h4 hK)
    have CI := Lib.hid (fun wx => implKinds n K wx h1 h4 hK)
    have HL := Lib.hid (fun L => @kinds_law n K h1 h4 hK L)
    obtain ⟨z, hz⟩ : ∃ z, kindsS n K = z := ⟨_, rfl⟩
    rw [hz] at CS HL
    clear h _g0 _g1 hz
    go_enter Try.func3, Try.ntmps3
    go_wp2_with fail
    refine CS.out.mono ?_
    rintro e w1 ⟨rfl, hb1⟩
    have HB1 := Lib.hid hb1
    clear hb1 CS
    go_wp2_with fail
    refine (CI.out w1).mono ?_
    rintro e w2 ⟨L, rfl, hp, hs, hb2⟩
    have hk := HL.out L hp hs
    rw [hk]
    have HB2 := Lib.hid (HB1.out.trans (hb2.mono HB1.out.size))
    clear hp hs hk hb2 CI HL
    go_wp2_with fail
    go_ret
    exact ⟨rfl, HB2.out⟩
  · have CS := Lib.hid (specKindsBad x0 x1 w h)
    have CI := Lib.hid (fun wx => implKindsBad x0 x1 wx h)
    clear h _g0 _g1
    go_enter Try.func3, Try.ntmps3
    go_wp2_with fail
    refine CS.out.mono ?_
    rintro e w1 ⟨rfl, hb1⟩
    have HB1 := Lib.hid hb1
    clear hb1 CS
    go_wp2_with fail
    refine (CI.out w1).mono ?_
    rintro e w2 ⟨rfl, hb2⟩
    have HB2 := Lib.hid (HB1.out.trans (hb2.mono HB1.out.size))
    clear hb2 CI
    go_wp2_with fail
    go_ret
    exact ⟨rfl, HB2.out⟩
end Go.Proofs.Ytobdkfhmmpigiaa
