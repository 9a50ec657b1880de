/- Chapter 13: CountTokens. -/
import Derived.Test.YtcijnmooifcicaaC13d
namespace Go.Proofs.Ytcijnmooifcicaa
open Go.RowKit Go.Deep
set_option linter.unusedVariables false

def ctOut (x : Int) (zss : List (List Int)) (ts : List Int) : List Int := if tokB x zss ts then ctTo ts zss zss.length else []
theorem ctOut_le {x : Int} {zss : List (List Int)} {ts : List Int} (h : ts.length ≤ 1048576) : (ctOut x zss ts).length ≤ 1048576 := by
  unfold ctOut
  split
  · rw [ct_len]; exact h
  · simp
theorem tok_out {x : Int} {zss : List (List Int)} {ts : List Int} {m : Nat} (hl : ts.length = m) (h : tokB x zss ts = true) : netV x zss = true ∧ (m : Int) = x ∧ BdT ts := by
  rw [tokB, Bool.and_eq_true, Bool.and_eq_true, decide_eq_true_eq] at h
  exact ⟨h.1, by rw [← hl]; exact h.2.1, bdT_of rfl h.2.2⟩

set_option maxHeartbeats 2000000 in
theorem specCountTokens (x : Int) (A : Option Addr) (n c : Nat) (zss : List (List Int)) (S : Option Addr) (m d : Nat) (ts : List Int) (w : World) (ha : RdM w A n zss) (hn : n ≤ 1048576) (hs : RdI w S m ts) (hm : m ≤ 1048576) :
    Calls Try.prog 32 #[.agg #[.int .i64 x, .slice A n c], .slice S m d] w fun e w' => ∃ A' n' c', e = .returned (.tuple #[.slice A' n' c', .bool (tokB x zss ts)]) ∧ OwnI w' w.heap.size 3 A' n' c' (ctOut x zss ts) ∧ Below w.heap.size w w' := by
  have C := fun w' (h1 : RdM w' A n zss) (h2 : RdI w' S m ts) => specTokensOk x A n c zss S m d ts w' h1 hn h2 hm
  have hal := (below_alloc w (.cells #[.int .i64 x, .slice A n c] 35))
  cases hg : tokB x zss ts with
  | false =>
    have H := Lib.hid (show ctOut x zss ts = [] by rw [ctOut, hg]; rfl)
    rw [hg] at C
    have CC := Lib.hid C
    clear C hg
    go_enter Try.func32, Try.ntmps32
    go_wp2_with fail
    refine (CC.out _ (ha.below hal) (hs.below hal)).mono ?_
    rintro e w1 ⟨rfl, hb1⟩
    go_wp2_with fail
    go_ret2
    exact ⟨none, 0, 0, rfl, by rw [H.out]; exact Own.nil_ _ _ _, hal.trans (hb1.mono (by simp))⟩
  | true =>
    have H := Lib.hid (show ctOut x zss ts = ctTo ts zss n by rw [ctOut, hg, ha.1]; rfl)
    have HQ := tok_out hs.lenI hg
    have CR := Lib.hid (fun w' (h1 : RdM w' A n zss) (h2 : RdI w' S m ts) => specRun x A n c zss S m d ts w' HQ.1 h1 h2 HQ.2.1 HQ.2.2)
    rw [hg] at C
    have CC := Lib.hid C
    clear C hg HQ
    go_enter Try.func32, Try.ntmps32
    go_wp2_with fail
    refine (CC.out _ (ha.below hal) (hs.below hal)).mono ?_
    rintro e w1 ⟨rfl, hb1⟩
    have hc0 : w1.cell? ⟨w.heap.size, 0, none⟩ = some (.int .i64 x) := by rw [hb1.cell (p := ⟨w.heap.size, 0, none⟩) (by simp)]; simp
    have hc1 : w1.cell? ⟨w.heap.size, 1, none⟩ = some (.slice A n c) := by rw [hb1.cell (p := ⟨w.heap.size, 1, none⟩) (by simp)]; simp
    have hB1 := hal.trans (hb1.mono (by simp))
    have ha1 := ha.below hB1
    have hs1 := hs.below hB1
    clear hb1 CC hal
    go_wp2_with fail
    refine (CR.out _ ha1 hs1).mono ?_
    rintro e w2 ⟨A', c', rfl, o2, hb2⟩
    go_wp2_with fail
    go_ret2
    exact ⟨_, _, _, rfl, by rw [H.out]; exact o2.more hB1.size, hB1.trans (hb2.mono hB1.size)⟩

set_option maxHeartbeats 2000000 in
theorem implCountTokens (x : Int) (A : Option Addr) (n c : Nat) (zss : List (List Int)) (S : Option Addr) (m d : Nat) (ts : List Int) (w : World) (ha : RdM w A n zss) (hn : n ≤ 1048576) (hs : RdI w S m ts) (hm : m ≤ 1048576) :
    Calls Try.prog 33 #[.agg #[.int .i64 x, .slice A n c], .slice S m d] w fun e w' => ∃ A' n' c', e = .returned (.tuple #[.slice A' n' c', .bool (tokB x zss ts)]) ∧ OwnI w' w.heap.size 3 A' n' c' (ctOut x zss ts) ∧ Below w.heap.size w w' := by
  have C := fun w' (h1 : RdM w' A n zss) (h2 : RdI w' S m ts) => implTokensOk x A n c zss S m d ts w' h1 hn h2 hm
  have hal := (below_alloc w (.cells #[.int .i64 x, .slice A n c] 35))
  cases hg : tokB x zss ts with
  | false =>
    have H := Lib.hid (show ctOut x zss ts = [] by rw [ctOut, hg]; rfl)
    rw [hg] at C
    have CC := Lib.hid C
    clear C hg
    go_enter Try.func33, Try.ntmps33
    go_wp2_with fail
    refine (CC.out _ (ha.below hal) (hs.below hal)).mono ?_
    rintro e w1 ⟨rfl, hb1⟩
    go_wp2_with fail
    go_ret2
    exact ⟨none, 0, 0, rfl, by rw [H.out]; exact Own.nil_ _ _ _, hal.trans (hb1.mono (by simp))⟩
  | true =>
    have H := Lib.hid (show ctOut x zss ts = ctTo ts zss n by rw [ctOut, hg, ha.1]; rfl)
    have HQ := tok_out hs.lenI hg
    have CR := Lib.hid (fun w' (h1 : RdM w' A n zss) (h2 : RdI w' S m ts) => implCount x A n c zss S m d ts w' HQ.1 h1 h2 HQ.2.1 HQ.2.2)
    rw [hg] at C
    have CC := Lib.hid C
    clear C hg HQ
    go_enter Try.func33, Try.ntmps33
    go_wp2_with fail
    refine (CC.out _ (ha.below hal) (hs.below hal)).mono ?_
    rintro e w1 ⟨rfl, hb1⟩
    have hc0 : w1.cell? ⟨w.heap.size, 0, none⟩ = some (.int .i64 x) := by rw [hb1.cell (p := ⟨w.heap.size, 0, none⟩) (by simp)]; simp
    have hc1 : w1.cell? ⟨w.heap.size, 1, none⟩ = some (.slice A n c) := by rw [hb1.cell (p := ⟨w.heap.size, 1, none⟩) (by simp)]; simp
    have hB1 := hal.trans (hb1.mono (by simp))
    have ha1 := ha.below hB1
    have hs1 := hs.below hB1
    clear hb1 CC hal
    go_wp2_with fail
    refine (CR.out _ ha1 hs1).mono ?_
    rintro e w2 ⟨A', c', rfl, o2, hb2⟩
    go_wp2_with fail
    go_ret2
    exact ⟨_, _, _, rfl, by rw [H.out]; exact o2.more hB1.size, hB1.trans (hb2.mono hB1.size)⟩

end Go.Proofs.Ytcijnmooifcicaa
