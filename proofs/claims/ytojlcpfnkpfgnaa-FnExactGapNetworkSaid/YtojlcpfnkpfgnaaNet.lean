/- Networks: what the statements' own helpers do with them, and which are valid. -/
import Derived.Test.YtojlcpfnkpfgnaaMat3
import Derived.Test.YtojlcpfnkpfgnaaIn
import Derived.Deep.RegionHeld3
namespace Go.Proofs.Ytojlcpfnkpfgnaa
open Go.RowKit Go.Deep
set_option linter.unusedVariables false


theorem bcell {W w1 : World} (hb : Below W.heap.size W w1) : (∀ b o, b < W.heap.size → w1.cell? ⟨b, o, none⟩ = W.cell? ⟨b, o, none⟩) ∧ (∀ b o, b < W.heap.size → w1.frozen? ⟨b, o, none⟩ = W.frozen? ⟨b, o, none⟩) :=
  ⟨fun b o h => hb.cell (p := ⟨b, o, none⟩) h, fun b o h => hb.frozen (p := ⟨b, o, none⟩) h⟩


set_option maxHeartbeats 1000000 in
theorem eqNetwork_yes (x : Int) (A B : Option Addr) (n c d : Nat) (zss : List (List Int)) (w : World) (ha : RdM w A n zss) (hb : RdM w B n zss) (hn : n ≤ 1048576) :
    Calls Try.prog 23 #[.agg #[.int .i64 x, .slice A n c], .agg #[.int .i64 x, .slice B n d]] w fun e w' => e = .returned (.bool true) ∧ Below w.heap.size w w' := by
  have b2 : ∀ o1 o2, Below w.heap.size w ((w.alloc o1).alloc o2) := fun o1 o2 => (below_alloc w o1).alloc (by simp) o2
  have CS := Lib.hid (fun w' h1 h2 => eqIntSS_yes A B n c d zss w' h1 h2 hn)
  have B2 := Lib.hid b2
  have HA := Lib.hid ha
  have HB := Lib.hid hb
  clear b2 ha hb
  go_enter Try.func23, Try.ntmps23
  go_wp2_with fail
  refine (CS.out _ (HA.out.below (B2.out _ _)) (HB.out.below (B2.out _ _))).mono ?_
  rintro e w1 ⟨rfl, hb1⟩
  go_wp2_with fail
  go_ret
  exact ⟨rfl, (B2.out _ _).trans (hb1.mono (by simp; omega))⟩

set_option maxHeartbeats 1000000 in
theorem markNetwork_r (x : Int) (A : Option Addr) (n c lo hi : Nat) (zss : List (List Int)) (m0 : Int) (w : World) (ha : OwnR w lo hi A n c zss) (hn : n + tot zss n ≤ 1048576) (hm0 : 0 ≤ m0) (hm1 : m0 ≤ 2305843009213693952) (hhi : hi ≤ w.heap.size) :
    Calls Try.prog 24 #[.agg #[.int .i64 x, .slice A n c], .int .i64 m0] w fun e w' => e = .returned (.int .i64 (m0 + tot zss n)) ∧ OwnR w' lo hi A n c (marksM m0 zss) ∧ Chg lo hi w w' := by
  have CS := Lib.hid (fun w' h => markIntSS_r A n c lo hi zss m0 w' h hn hm0 hm1)
  have HA := Lib.hid ha
  clear ha
  go_enter Try.func24, Try.ntmps24
  go_wp2_with fail
  refine (CS.out _ (HA.out.below (below_alloc w _))).mono ?_
  rintro e w1 ⟨rfl, o1, hc1⟩
  go_wp2_with fail
  go_ret
  exact ⟨rfl, o1, ⟨hc1.os, hc1.tape, hc1.output, by have := hc1.size; simp at this; omega, fun g hg hd => (hc1.block g (by simp; omega) hd).trans (Below.heap_alloc w _ g hg)⟩⟩

set_option maxHeartbeats 1000000 in
theorem heldNetwork_any (x : Int) (A : Option Addr) (n c : Nat) (zss : List (List Int)) (m0 : Int) (w : World) (hl : zss.length = n) (ha : RdM w A n (marksM m0 zss)) (hn : n + tot zss n ≤ 1048576) (hm0 : 0 ≤ m0) (hm1 : m0 ≤ 2305843009213693952) :
    Calls Try.prog 25 #[.agg #[.int .i64 x, .slice A n c], .int .i64 m0] w fun e w' => e = .returned (.int .i64 (m0 + tot zss n)) ∧ Below w.heap.size w w' := by
  have CS := Lib.hid (fun w' h => heldIntSS_any A n c zss m0 w' hl h hn hm0 hm1)
  have HA := Lib.hid ha
  clear ha hl
  go_enter Try.func25, Try.ntmps25
  go_wp2_with fail
  refine (CS.out _ (HA.out.below (below_alloc w _))).mono ?_
  rintro e w1 ⟨rfl, hb1⟩
  go_wp2_with fail
  go_ret
  exact ⟨rfl, (below_alloc w _).trans (hb1.mono (by simp))⟩

end Go.Proofs.Ytojlcpfnkpfgnaa
