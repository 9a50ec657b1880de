/- Chapter 14: slices.Concat. -/
import Derived.Test.YtchmmaokommnaaaC14m
import Derived.Lib.AppendZerosOnto
import Derived.Lib.Walk
import Derived.Lib.SliceRun
namespace Go.Proofs.Ytchmmaokommnaaa
open Go.RowKit Go.Deep
set_option linter.unusedVariables false

set_option maxHeartbeats 2000000 in
set_option maxRecDepth 100000 in
theorem implGrow0 (N : Nat) (w : World) (hN : N ≤ 1000) :
    Calls Try.prog 66 #[.slice none 0 0, .int .i64 N] w fun e w' => ∃ A c, e = .returned (.slice A 0 c) ∧ OwnI w' w.heap.size 3 A 0 c [] ∧ Below w.heap.size w w' := by
  by_cases h0 : N = 0
  · subst h0
    go_enter Try.func66, Try.ntmps66
    go_wp2
    go_ret
    exact ⟨none, 0, rfl, Own.nil_ _ _ _, Below.refl _ _⟩
  · have h1 : 0 < N := by omega
    obtain ⟨i0, hi0, hz0, hs0, hb0⟩ := info_parts intInfo
    have hold : (Builtin.firstCells i0.size 0 (.slice none 0 0)).run Try.prog w.drew = .ok ([] : List Value).toArray w.drew := run_firstCells_none w.drew i0.size 0 0 0
    have hrz : ∀ ty, (Builtin.append_ #[24, 3] ty #[.slice none 0 0, .int .i64 (N : Int)]).run Try.prog w =
        .ok (.slice (some ⟨w.heap.size, 0, none⟩) N (grownCap w N 0 3)) (w.drew.alloc (.cells (([] : List Value).toArray ++ Builtin.zeroCells (Value.int .i64 0).cells N ++ Builtin.zeroCells (Value.int .i64 0).cells (grownCap w N 0 3 - N)) 3)) := fun ty => by
      have h := Lib.run_append_grow_zeros w 24 3 ty 3 i0 (.int .i64 0) .i64 .i64 Try.underlying24 Try.underlying3 hi0 hz0 none 0 0 [] hold N h1 (by omega) (by omega) (by omega) (by rw [hb0]; omega)
        (growslice_fits (by omega) (by rw [hb0]; omega))
      rw [Nat.zero_add] at h
      exact h
    obtain ⟨G, hG⟩ : ∃ G, grownCap w N 0 3 = G := ⟨_, rfl⟩
    have hG1 : N ≤ G := by rw [← hG]; exact grownCap_ge w _ _ _
    have hG2 : G ≤ maxLen := by rw [← hG]; exact grownCap_le_maxLen w _ _ _ (by unfold maxLen; omega)
    rw [hG] at hrz
    obtain ⟨C, hC⟩ : ∃ C, ([] : List Value).toArray ++ Builtin.zeroCells (Value.int .i64 0).cells N ++ Builtin.zeroCells (Value.int .i64 0).cells (G - N) = C := ⟨_, rfl⟩
    have hCs : C.size = G := by
      rw [← hC]
      rw [Array.size_append, Array.size_append, size_zeroCells, size_zeroCells]
      simp [Value.cells]
      omega
    rw [hC] at hrz
    have hG3 : (0 : Int) ≤ (G : Int) := by omega
    have hG4 : G ≤ 9223372036854775807 := by unfold maxLen at hG2; omega
    have HC := Lib.hid hCs
    have HG2 := Lib.hid hG2
    clear hold hG hC hCs hG2
    go_enter Try.func66, Try.ntmps66
    go_wp2_with (at_builtin; refine Lib.wpList_append_run _ rfl _ _ _ _ rfl _ _ rfl rfl _ _ (hrz _) ?_)
    all_goals
      go_ret
      exact ⟨some ⟨w.heap.size, 0, none⟩, G, rfl, ⟨by simp, .inr ⟨w.heap.size, G, C, rfl, Nat.le_refl _, heap_alloc_new w.drew _, Nat.zero_le _, HG2.out, by rw [HC.out]; omega, by simp⟩⟩, ((Below.refl _ _).drew).alloc (Nat.le_refl _) _⟩

/-- The first k rows, one behind the other. -/
def catTo (zss : List (List Int)) : Nat → List Int
  | 0 => []
  | k + 1 => catTo zss k ++ row zss k
theorem catTo_zero (zss : List (List Int)) : catTo zss 0 = [] := rfl
theorem catTo_succ (zss : List (List Int)) (k : Nat) : catTo zss (k + 1) = catTo zss k ++ row zss k := rfl
theorem catTo_len (zss : List (List Int)) (k : Nat) : (catTo zss k).length = tot zss k := by
  induction k with
  | zero => rw [tot_zero]; rfl
  | succ k ih => rw [catTo, tot_succ, List.length_append, ih]
attribute [irreducible] catTo
theorem tot_mono {zss : List (List Int)} {k n : Nat} (h : k ≤ n) : tot zss k ≤ tot zss n := by
  induction n with
  | zero => have : k = 0 := by omega
            subst this; exact Nat.le_refl _
  | succ n ih =>
    by_cases e : k = n + 1
    · subst e; exact Nat.le_refl _
    · have := ih (by omega); rw [tot_succ]; omega

set_option maxHeartbeats 2000000 in
theorem implConcat (A : Option Addr) (n c : Nat) (zss : List (List Int)) (w : World) (ha : RdM w A n zss) (hn : n ≤ 100) (ht : tot zss n ≤ 1000) :
    Calls Try.prog 62 #[.slice A n c] w fun e w' => ∃ A' c', e = .returned (.slice A' (tot zss n) c') ∧ OwnI w' w.heap.size 3 A' (tot zss n) c' (catTo zss n) ∧ Below w.heap.size w w' := by
  have HA := Lib.hid ha
  obtain ⟨N, hN⟩ : ∃ N, tot zss n = N := ⟨_, rfl⟩
  have HN := Lib.hid hN
  rw [hN] at ht ⊢
  have HM := Lib.hid (fun k (h : k ≤ n) => tot_mono (zss := zss) h)
  clear ha hN
  go_enter Try.func62, Try.ntmps62
  go_wp2
  go_loop [3, 11] (fun v i => ∃ k : Nat, k ≤ n ∧ i = .int .i64 k ∧ v = .int .i64 (tot zss k)) (fun _ i => n - (intOf i).toNat)
  case atStart => exact ⟨0, Nat.zero_le _, rfl, by rw [tot_zero]; rfl⟩
  case round =>
    obtain ⟨k, hk, rfl, rfl⟩ := hrel
    have hkN : tot zss k ≤ N := by rw [← HN.out]; exact HM.out k hk
    by_cases hlt : k < n
    · obtain ⟨a1, B, m, d, rfl, _, h1, hB, hmd, hd⟩ := HA.out.2 k hlt
      have hm := hB.lenI
      have HS := Lib.hid (show tot zss (k + 1) = tot zss k + m by rw [tot_succ, hm])
      have hmN : tot zss k + m ≤ N := by rw [← HS.out, ← HN.out]; exact HM.out _ hlt
      obtain ⟨q, hq⟩ : ∃ q, tot zss k = q := ⟨_, rfl⟩
      rw [hq] at HS hkN hmN ⊢
      clear hm hq
      go_wp2
      go_round
      case rel => exact ⟨k + 1, by omega, by go_num, int_eq (by rw [HS.out]; omega)⟩
      case measure => (simp [intOf] <;> omega)
    · obtain rfl : k = n := by omega
      rw [HN.out]
      go_wp2_with fail
      refine (implGrow0 N _ (by omega)).mono ?_
      rintro e w1 ⟨A1, c1, rfl, o1, hb1⟩
      go_wp2_with fail
      go_loopw [6, 27] (fun v i wr => ∃ j : Nat, ∃ A2 t c2, j ≤ k ∧ i = .int .i64 j ∧ v = .slice A2 t c2 ∧ Hid (t = tot zss j) ∧ OwnI wr w.heap.size 3 A2 t c2 (catTo zss j) ∧ Below w.heap.size w wr) (fun _ i _ => k - (intOf i).toNat)
      case atStart => exact ⟨0, A1, 0, c1, Nat.zero_le _, rfl, rfl, Lib.hid (by rw [tot_zero]), by rw [catTo_zero]; exact o1, hb1⟩
      case round =>
        clear o1 hb1
        obtain ⟨j, A2, t, c2, hj, rfl, rfl, HT, ho, hbl⟩ := hrel
        have hsz := hbl.size
        have htN : t ≤ N := by rw [HT.out, ← HN.out]; exact HM.out j hj
        by_cases hjk : j < k
        · obtain ⟨a1, B, m, d, rfl, _, h1, hB, hmd, hd⟩ := (HA.out.below hbl).2 j hjk
          have hm := hB.lenI
          have HS := Lib.hid (show t + m = tot zss (j + 1) by rw [tot_succ, hm, HT.out])
          have hmN : t + m ≤ N := by rw [HS.out, ← HN.out]; exact HM.out _ hjk
          have HC := Lib.hid (catTo_succ zss j)
          clear hm
          go_wp2_with (at_builtin; refine wpL_append _ rfl _ _ _ rfl w.heap.size 3 (.int .i64 0) 8 Try.underlying24 intInfo rfl _ t _ _ rfl ho B m d ((row zss j).map (Value.int .i64)) rfl hB (ints_one _) (by unfold maxLen; omega) (by omega) hsz ?_)
          intro A4 c4 w4 ho4 hg4 hat4
          have hb4 := own_below ho hbl hsz hg4
          clear ho hbl hg4 hat4
          go_wp2
          go_roundw
          case rel => exact ⟨j + 1, A4, t + m, c4, by omega, by go_num, rfl, HS, by rw [OwnI, HC.out, List.map_append]; exact ho4, hb4⟩
          case measure => (simp [intOf] <;> omega)
        · obtain rfl : j = k := by omega
          obtain rfl : t = N := by rw [HT.out, HN.out]
          go_wp2_with fail
          go_ret
          exact ⟨A2, c2, rfl, ho, hbl⟩

end Go.Proofs.Ytchmmaokommnaaa
