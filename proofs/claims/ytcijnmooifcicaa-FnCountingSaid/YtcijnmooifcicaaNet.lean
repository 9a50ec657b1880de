/- Networks: what the statements' own helpers do with them, and which are valid. -/
import Derived.Test.YtcijnmooifcicaaMat3
import Derived.Test.YtcijnmooifcicaaIn
import Derived.Deep.RegionHeld3
namespace Go.Proofs.Ytcijnmooifcicaa
open Go.RowKit Go.Deep
set_option linter.unusedVariables false

theorem szNetwork_any (x : Int) (A : Option Addr) (n c : Nat) (zss : List (List Int)) (w : World) (ha : RdM w A n zss) (hn : n ≤ maxLen) :
    Calls Try.prog 22 #[.agg #[.int .i64 x, .slice A n c], .int .i64 1048576] w fun e w' => ∃ r : Int, e = .returned (.int .i64 r) ∧ (r = -1 ∨ (0 ≤ r ∧ n + tot zss n ≤ 1048576)) ∧ Below w.heap.size w w' := by
  have CS := Lib.hid (fun w' h => szIntSS_any A n c zss w' h hn)
  go_enter Try.func22, Try.ntmps22
  go_wp2_with fail
  refine (CS.out _ (ha.below (below_alloc w _))).mono ?_
  rintro e w' ⟨r, rfl, hr, rfl⟩
  rcases hr with rfl | ⟨h0, h1⟩
  · go_wp2
    go_ret
    exact ⟨_, rfl, .inl rfl, below_alloc w _⟩
  · have h2 := Lib.hid h1
    clear h1
    go_wp2
    go_ret
    exact ⟨_, rfl, .inr ⟨h0, h2.out⟩, below_alloc w _⟩

theorem bcell {W w1 : World} (hb : Below W.heap.size W w1) : (∀ b o, b < W.heap.size → w1.cell? ⟨b, o, none⟩ = W.cell? ⟨b, o, none⟩) ∧ (∀ b o, b < W.heap.size → w1.frozen? ⟨b, o, none⟩ = W.frozen? ⟨b, o, none⟩) :=
  ⟨fun b o h => hb.cell (p := ⟨b, o, none⟩) h, fun b o h => hb.frozen (p := ⟨b, o, none⟩) h⟩

set_option maxHeartbeats 1000000 in
theorem toNetwork_r (x : Int) (A : Option Addr) (n c : Nat) (zss : List (List Int)) (w : World) (ha : RdM w A n zss) (hn : n + tot zss n ≤ 1048576) :
    Calls Try.prog 24 #[.agg #[.int .i64 x, .slice A n c]] w fun e w' => ∃ A' c', e = .returned (.agg #[.int .i64 x, .slice A' n c']) ∧ OwnR w' w.heap.size w'.heap.size A' n c' zss ∧ Below w.heap.size w w' := by
  have CS := Lib.hid (fun w' h => toIntSS_r A n c zss w' h hn)
  go_enter Try.func24, Try.ntmps24
  go_wp2_with fail
  refine (CS.out _ (ha.below ((((below_alloc w _).alloc (by simp) _).alloc (by simp; omega) _)))).mono ?_
  rintro e w1 ⟨A1, c1, rfl, o1, hb1⟩
  have hz := hb1.size
  simp at hz
  obtain ⟨hc, hf⟩ := bcell hb1
  have hbB : Below w.heap.size w w1 := ((((below_alloc w _).alloc (by simp) _).alloc (by simp; omega) _)).trans (hb1.mono (by simp; omega))
  have HB := Lib.hid hbB
  have HO := Lib.hid o1
  clear hb1 hbB o1
  go_wp2
  refine bodyPost_ret (v := .agg #[.int .i64 x, .slice A1 n c1]) ?_ rfl ⟨A1, c1, rfl, ?_, ?_⟩
  · simp [results, Try.results24, go_sem, hc]
  · refine ((HO.out.keep (fun g h1 h2 h3 => ?_)).more (lo2 := w.heap.size) (by simp; omega)).keepHi (by simp [World.setCell])
    have h4 : w.heap.size + 1 + 1 + 1 ≤ g := by simpa using h1
    exact (Below.heap_setCell _ _ _ g (by show g ≠ w.heap.size + 1; omega)).trans ((Below.heap_setCell _ _ _ g (by show g ≠ w.heap.size + 1; omega)).trans (Below.heap_setCell _ _ _ g (by show g ≠ w.heap.size + 1 + 1; omega)))
  · exact ((HB.out.setCell (by simp; omega) _).setCell (by simp) _).setCell (by simp) _

set_option maxHeartbeats 1000000 in
theorem eqNetwork_yes (x : Int) (A B : Option Addr) (n c d : Nat) (zss : List (List Int)) (w : World) (ha : RdM w A n zss) (hb : RdM w B n zss) (hn : n ≤ 1048576) :
    Calls Try.prog 26 #[.agg #[.int .i64 x, .slice A n c], .agg #[.int .i64 x, .slice B n d]] w fun e w' => e = .returned (.bool true) ∧ Below w.heap.size w w' := by
  have b2 : ∀ o1 o2, Below w.heap.size w ((w.alloc o1).alloc o2) := fun o1 o2 => (below_alloc w o1).alloc (by simp) o2
  have CS := Lib.hid (fun w' h1 h2 => eqIntSS_yes A B n c d zss w' h1 h2 hn)
  have B2 := Lib.hid b2
  have HA := Lib.hid ha
  have HB := Lib.hid hb
  clear b2 ha hb
  go_enter Try.func26, Try.ntmps26
  go_wp2_with fail
  refine (CS.out _ (HA.out.below (B2.out _ _)) (HB.out.below (B2.out _ _))).mono ?_
  rintro e w1 ⟨rfl, hb1⟩
  go_wp2_with fail
  go_ret
  exact ⟨rfl, (B2.out _ _).trans (hb1.mono (by simp; omega))⟩

set_option maxHeartbeats 1000000 in
theorem markNetwork_r (x : Int) (A : Option Addr) (n c lo hi : Nat) (zss : List (List Int)) (m0 : Int) (w : World) (ha : OwnR w lo hi A n c zss) (hn : n + tot zss n ≤ 1048576) (hm0 : 0 ≤ m0) (hm1 : m0 ≤ 2305843009213693952) (hhi : hi ≤ w.heap.size) :
    Calls Try.prog 29 #[.agg #[.int .i64 x, .slice A n c], .int .i64 m0] w fun e w' => e = .returned (.int .i64 (m0 + tot zss n)) ∧ OwnR w' lo hi A n c (marksM m0 zss) ∧ Chg lo hi w w' := by
  have CS := Lib.hid (fun w' h => markIntSS_r A n c lo hi zss m0 w' h hn hm0 hm1)
  have HA := Lib.hid ha
  clear ha
  go_enter Try.func29, Try.ntmps29
  go_wp2_with fail
  refine (CS.out _ (HA.out.below (below_alloc w _))).mono ?_
  rintro e w1 ⟨rfl, o1, hc1⟩
  go_wp2_with fail
  go_ret
  exact ⟨rfl, o1, ⟨hc1.os, hc1.tape, hc1.output, by have := hc1.size; simp at this; omega, fun g hg hd => (hc1.block g (by simp; omega) hd).trans (Below.heap_alloc w _ g hg)⟩⟩


end Go.Proofs.Ytcijnmooifcicaa
