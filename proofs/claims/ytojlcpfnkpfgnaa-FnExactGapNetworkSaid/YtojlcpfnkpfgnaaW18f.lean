/- Chapter 18: the walk of GapNetwork. -/
import Derived.Test.YtojlcpfnkpfgnaaC18f
namespace Go.Proofs.Ytojlcpfnkpfgnaa
open Go.RowKit Go.Deep
set_option linter.unusedVariables false

/-- A box's cells. -/
def Box (w : World) (b : Nat) (u v : Value) : Prop := w.cell? ⟨b, 0, none⟩ = some u ∧ w.cell? ⟨b, 1, none⟩ = some v
theorem Box.below {w w' : World} {b B : Nat} {u v : Value} (h : Box w b u v) (hb : Below B w w') (hB : b < B) : Box w' b u v :=
  ⟨(hb.cell (p := ⟨b, 0, none⟩) hB).trans h.1, (hb.cell (p := ⟨b, 1, none⟩) hB).trans h.2⟩
theorem Box.chg {w w' : World} {b lo hi : Nat} {u v : Value} (h : Box w b u v) (hc : Chg lo hi w w') (hB : b < w.heap.size) (hd : b < lo ∨ hi ≤ b) : Box w' b u v :=
  ⟨(World.cell?_of_block (w := w) (hc.block b hB hd)).trans h.1, (World.cell?_of_block (w := w) (hc.block b hB hd)).trans h.2⟩
theorem Box.new (w : World) (u v : Value) (e : TypeId) : Box (w.alloc (.cells #[u, v] e)) w.heap.size u v := ⟨by simp, by simp⟩

set_option maxHeartbeats 4000000 in
theorem lawGapNetwork (w : World) (x0 x1 : Int) (_g0 : In64 x0) (_g1 : In64 x1) :
    Calls Try.prog 7 #[.int .i64 x0, .int .i64 x1] w fun e w' => e = .returned (.bool true) ∧ Below w.heap.size w w' := by
  have CS := fun w' => specGapNetwork x0 x1 w'
  have CI := fun w' => implGapNetwork x0 x1 w'
  have HT := gnL_tot x0 x1
  obtain ⟨X, hX⟩ : ∃ X, gnX x0 x1 = X := ⟨_, rfl⟩
  obtain ⟨B, hB⟩ : ∃ B, gnB x0 x1 = B := ⟨_, rfl⟩
  obtain ⟨M, hM⟩ : ∃ M, gnL x0 x1 = M := ⟨_, rfl⟩
  rw [hX, hB, hM] at CS CI
  rw [hM] at HT
  replace CS := Lib.hid CS
  replace CI := Lib.hid CI
  replace HT := Lib.hid HT
  clear hX hB hM
  go_enter Try.func7, Try.ntmps7
  go_wp2_with fail
  refine (CS.out _).mono ?_
  rintro e w1 ⟨AW, nW, cW, rfl, oW, hb1⟩
  have hB1 := Lib.hid hb1
  have hs1 := hb1.size
  clear hb1
  go_wp2_with fail
  refine (CI.out _).mono ?_
  rintro e w2 ⟨AG, nG, cG, rfl, oG, hb2⟩
  have hs2 := hb2.size
  simp at hs2
  obtain rfl : nW = nG := by rw [← oW.1, ← oG.1]
  have HTn := Lib.hid (show nW + tot M nW ≤ 1048576 by have := HT.out; rw [oW.1] at this; exact this)
  have hl : nW ≤ 1048576 := by have := HTn.out; omega
  have htw : tot M nW ≤ 1048576 := by have := HTn.out; omega
  have x0 := (Box.new w1 (.int .i64 X) (.slice AW nW cW) 32).below hb2 (by simp)
  obtain ⟨p0, p1⟩ := x0
  have oW2 := (oW.below (below_alloc w1 (.cells #[.int .i64 X, .slice AW nW cW] 32))).below hb2
  have oG2 : OwnR w2 (w1.heap.size + 1) w2.heap.size AG nW cG M := oG.more (by simp)
  have hB2 := Lib.hid (hB1.out.trans (((below_alloc w1 _).trans (hb2.mono (by simp))).mono hs1))
  have lt2 : w1.heap.size < w2.heap.size := by omega
  clear hb2 oW oG
  go_wp2_with fail
  refine (eqNetwork_yes X AG AW nW cG cW M _ (oG2.rd.below (below_alloc _ _)) (oW2.rd.below (below_alloc _ _)) hl).mono ?_
  rintro e w3 ⟨rfl, hb3⟩
  have hs3 := hb3.size
  simp at hs3
  have q := (Box.new w2 (.int .i64 X) (.slice AG nW cG) 32).below hb3 (by simp)
  have hb3' := Lib.hid ((below_alloc w2 (.cells #[.int .i64 X, .slice AG nW cG] 32)).trans (hb3.mono (by simp)))
  obtain ⟨p0, p1⟩ := (Box.below ⟨p0, p1⟩ hb3'.out (by omega) : Box w3 w1.heap.size (.int .i64 X) (.slice AW nW cW))
  obtain ⟨q0, q1⟩ := q
  have oW3 := oW2.below hb3'.out
  have oG3 := oG2.below hb3'.out
  have hB3 := Lib.hid (hB2.out.trans (hb3'.out.mono (by omega)))
  clear hb3 oW2 oG2
  go_wp2_with fail
  refine (markNetwork_r X AG nW cG (w1.heap.size + 1) w2.heap.size M 1 _ oG3 HTn.out (by omega) (by omega) (by omega)).mono ?_
  rintro e w4 ⟨rfl, oG4, hc4⟩
  have hs4 := hc4.size
  obtain ⟨p0, p1⟩ := (Box.chg ⟨p0, p1⟩ hc4 (by omega) (.inl (by omega)) : Box w4 w1.heap.size (.int .i64 X) (.slice AW nW cW))
  obtain ⟨q0, q1⟩ := (Box.chg ⟨q0, q1⟩ hc4 (by omega) (.inr (by omega)) : Box w4 w2.heap.size (.int .i64 X) (.slice AG nW cG))
  have oW4 := oW3.chg hc4 (.inl (by omega))
  have hB4 := Lib.hid (hB3.out.trans ((hc4.below (Nat.le_refl _) (by omega)).mono (by omega)))
  have HLG := Lib.hid oW4.1
  clear hc4 oG3 oW3
  go_wp2_with fail
  refine (heldNetwork_any X AG nW cG M 1 _ HLG.out oG4.rd HTn.out (by omega) (by omega)).mono ?_
  rintro e w5 ⟨rfl, hb5⟩
  have hs5 := hb5.size
  obtain ⟨p0, p1⟩ := (Box.below ⟨p0, p1⟩ hb5 (by omega) : Box w5 w1.heap.size (.int .i64 X) (.slice AW nW cW))
  obtain ⟨q0, q1⟩ := (Box.below ⟨q0, q1⟩ hb5 (by omega) : Box w5 w2.heap.size (.int .i64 X) (.slice AG nW cG))
  have oW5 := oW4.below hb5
  have oG5 := oG4.below hb5
  have hB5 := Lib.hid (hB4.out.trans (hb5.mono (by omega)))
  clear hb5 oW4 oG4
  go_wp2_with fail
  refine (CI.out _).mono ?_
  rintro e w6 ⟨AH, nH, cH, rfl, oH, hb6⟩
  have hs6 := hb6.size
  obtain rfl : nH = nW := by rw [← oH.1, ← oW5.1]
  obtain ⟨p0, p1⟩ := (Box.below ⟨p0, p1⟩ hb6 (by omega) : Box w6 w1.heap.size (.int .i64 X) (.slice AW nH cW))
  obtain ⟨q0, q1⟩ := (Box.below ⟨q0, q1⟩ hb6 (by omega) : Box w6 w2.heap.size (.int .i64 X) (.slice AG nH cG))
  have oW6 := oW5.below hb6
  have oG6 := oG5.below hb6
  have hB6 := Lib.hid (hB5.out.trans (hb6.mono (by omega)))
  have lt6 : w1.heap.size < w6.heap.size := by omega
  have lt62 : w2.heap.size < w6.heap.size := by omega
  clear hb6 oW5 oG5
  go_wp2_with fail
  refine (eqNetwork_yes X AH AW nH cH cW M _ (oH.rd.below (below_alloc _ _)) (oW6.rd.below (below_alloc _ _)) hl).mono ?_
  rintro e w7 ⟨rfl, hb7⟩
  have hs7 := hb7.size
  simp at hs7
  have hb7' := Lib.hid ((below_alloc w6 (.cells #[.int .i64 X, .slice AH nH cH] 32)).trans (hb7.mono (by simp)))
  obtain ⟨q0, q1⟩ := (Box.below ⟨q0, q1⟩ hb7'.out (by omega) : Box w7 w2.heap.size (.int .i64 X) (.slice AG nH cG))
  have oG7 := oG6.below hb7'.out
  have hB7 := Lib.hid (hB6.out.trans (hb7'.out.mono (by omega)))
  clear hb7 oW6 oG6 oH p0 p1
  go_wp2_with fail
  refine (heldNetwork_any X AG nH cG M 1 _ HLG.out oG7.rd HTn.out (by omega) (by omega)).mono ?_
  rintro e w8 ⟨rfl, hb8⟩
  have hB8 := Lib.hid (hB7.out.trans (hb8.mono (by omega)))
  clear hb8
  go_wp2_with fail
  go_ret
  exact ⟨rfl, hB8.out⟩

end Go.Proofs.Ytojlcpfnkpfgnaa
