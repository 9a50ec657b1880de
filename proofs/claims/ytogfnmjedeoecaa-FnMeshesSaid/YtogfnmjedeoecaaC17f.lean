/- Chapter 17: meshes with rows and columns exchanged. -/
import Derived.Test.YtogfnmjedeoecaaC17b
import Derived.Test.YtogfnmjedeoecaaMat3
namespace Go.Proofs.Ytogfnmjedeoecaa
open Go.RowKit Go.Deep
set_option linter.unusedVariables false

/-- The first i numbers of column j. -/
def colTo (zss : List (List Int)) (j : Nat) : Nat → List Int
  | 0 => []
  | i + 1 => colTo zss j i ++ [nth (row zss i) j]
theorem colTo_zero (zss : List (List Int)) (j : Nat) : colTo zss j 0 = [] := rfl
theorem colTo_succ (zss : List (List Int)) (j i : Nat) : colTo zss j (i + 1) = colTo zss j i ++ [nth (row zss i) j] := rfl
theorem colTo_len (zss : List (List Int)) (j i : Nat) : (colTo zss j i).length = i := by
  induction i with
  | zero => rfl
  | succ i ih => rw [colTo, List.length_append, ih]; rfl
def flip (zss : List (List Int)) (n m : Nat) : List (List Int) := (List.range m).map fun j => colTo zss j n
theorem flip_len (zss : List (List Int)) (n m : Nat) : (flip zss n m).length = m := by simp [flip]
theorem flip_row {zss : List (List Int)} {n m j : Nat} (h : j < m) : row (flip zss n m) j = colTo zss j n := by
  unfold row flip
  simp [List.getD, h]
def flipV (zss : List (List Int)) : List (List Int) := if meshV zss = true then flip zss zss.length (row zss 0).length else []
theorem flipV_no {zss : List (List Int)} (h : meshV zss = false) : flipV zss = [] := by rw [flipV, h]; rfl
theorem flipV_yes {zss : List (List Int)} {n m : Nat} (hl : zss.length = n) (hm : (row zss 0).length = m) (h : meshV zss = true) : flipV zss = flip zss n m := by rw [flipV, h, hl, hm]; rfl
theorem tot_le {zss : List (List Int)} {b : Nat} : ∀ n, (∀ k, k < n → (row zss k).length ≤ b) → tot zss n ≤ n * b := by
  intro n
  induction n with
  | zero => intro _; rw [tot_zero]; omega
  | succ n ih => intro h; rw [tot_succ, Nat.succ_mul]; have := ih (fun k hk => h k (by omega)); have := h n (by omega); omega
theorem flipV_tot (zss : List (List Int)) : (flipV zss).length + tot (flipV zss) (flipV zss).length ≤ 1048576 := by
  cases h : meshV zss with
  | false => rw [flipV_no h]; simp [tot_zero]
  | true =>
    obtain ⟨h1, h2, m, h3, h4, h5⟩ := mesh_out h rfl
    rw [flipV_yes rfl (h5 0 (by omega)) h, flip_len]
    have := tot_le (zss := flip zss zss.length m) (b := 4) m (fun k hk => by rw [flip_row hk, colTo_len]; exact h2)
    omega
attribute [irreducible] colTo flip

set_option maxHeartbeats 4000000 in
theorem specFlip (A : Option Addr) (n c M : Nat) (zss : List (List Int)) (w : World) (ha : RdM w A n zss) (hn1 : 1 ≤ n) (hn : n ≤ 4) (hM : M ≤ 4) (hrows : ∀ k, k < n → (row zss k).length = M) :
    Calls Try.prog 52 #[.slice A n c] w fun e w' => ∃ A' n' c', e = .returned (.slice A' n' c') ∧ OwnR w' w.heap.size w'.heap.size A' n' c' (flip zss n M) ∧ Below w.heap.size w w' := by
  have HR := Lib.hid hrows
  obtain ⟨a0, B0, m0, d0, rfl, _, h0, hB0, hmd0, hd0⟩ := ha.2 0 (by omega)
  obtain rfl : m0 = M := by rw [← hB0.lenI]; exact hrows 0 (by omega)
  replace h0 : w.cell? a0 = some (.slice B0 m0 d0) := h0
  clear hrows hB0
  go_enter Try.func52, Try.ntmps52
  go_wp2
  go_loopw [3, 13] (fun v i wr => ∃ k : Nat, ∃ A' c' vs, k ≤ m0 ∧ i = .int .i64 k ∧ v = .slice A' k c' ∧ Own wr w.heap.size 29 A' k c' vs ∧ RowsIn wr w.heap.size wr.heap.size A' k (fun j => colTo zss j n) vs ∧ Below w.heap.size w wr) (fun _ i _ => m0 - (intOf i).toNat)
  case atStart => exact ⟨0, _, _, [], Nat.zero_le _, rfl, rfl, by simpa using own_empty w 29, fun j hj => by omega, below_alloc w _⟩
  case round =>
    obtain ⟨k, A', c', vs, hk, rfl, rfl, hown, hrs, hbl⟩ := hrel
    have hsz := hbl.size
    by_cases hlt : k < m0
    · go_wp2
      go_loopw [5, 19] (fun v i w2 => ∃ q : Nat, ∃ R cR, q ≤ n ∧ i = .int .i64 q ∧ v = .slice R q cR ∧ OwnI w2 wr.heap.size 3 R q cR (colTo zss k q) ∧ Below wr.heap.size wr w2) (fun _ i _ => n - (intOf i).toNat)
      case atStart => exact ⟨0, _, _, Nat.zero_le _, rfl, rfl, by simpa [OwnI, colTo_zero] using own_empty wr 3, below_alloc wr _⟩
      case round =>
        obtain ⟨q, R, cR, hq, rfl, rfl, hR, hb2⟩ := hrel
        have hs2 := hb2.size
        by_cases hqn : q < n
        · obtain ⟨a1, B, m, d, ha1, _, h1, hB, hmd, hd⟩ := (ha.below (hbl.trans (hb2.mono hsz))).2 q hqn
          injection ha1 with ha1
          subst ha1
          unfold maxLen at hd
          obtain rfl : m = m0 := by rw [← hB.lenI]; exact HR.out q hqn
          obtain ⟨a3, rfl, _, h3⟩ := hB.at_ hlt
          have H := Lib.hid (colTo_succ zss k q)
          go_wp2_with (at_builtin; refine wpL_append1 _ rfl _ _ _ rfl _ 3 (.int .i64 0) 8 Try.underlying29 intInfo rfl _ q _ _ rfl hR _ rfl rfl (by unfold maxLen; omega) (by omega) hs2 ?_)
          intro A2 c2 w3 ho3 hg3 hat3
          have hb3 := own_below hR hb2 hs2 hg3
          go_wp2
          go_roundw
          case rel => exact ⟨q + 1, A2, c2, by omega, by go_num, rfl, by rw [OwnI, H.out, List.map_append]; simpa using ho3, hb3⟩
          case measure => (simp [intOf] <;> omega)
        · obtain rfl : q = n := by omega
          have hown2 := hown.below hb2
          have hbl2 := hbl.trans (hb2.mono hsz)
          have hsz2 := hbl2.size
          have hrs2 := RowsIn.keep hrs (fun g h1 h2 h3 => hb2.block g h3)
          have hAA := hown.blk_
          have hRR := hR.blk_
          go_wp2_with (at_builtin; refine wpL_append1 _ rfl _ _ _ rfl w.heap.size 29 (.slice none 0 0) 24 Try.underlying24 sliceInfo rfl _ k _ _ rfl hown2 (.slice R q cR) rfl rfl (by unfold maxLen; omega) (by omega) hsz2 ?_)
          intro A2 c2 w4 ho4 hg4 hat4
          have hb4 := own_below hown2 hbl2 hsz2 hg4
          have hrs4 := rowsIn_push (cR := cR) hown2 hrs2 (fun g hg => (hAA g hg).2) hs2 (hR.more hsz) (fun g hg => (hRR g hg).1) hg4 hat4
          go_wp2
          go_roundw
          case rel => exact ⟨k + 1, A2, c2, _, by omega, by go_num, rfl, ho4, hrs4, hb4⟩
          case measure => (simp [intOf] <;> omega)
    · obtain rfl : k = m0 := by omega
      have HL := Lib.hid (flip_len zss n k)
      have hrs5 : RowsIn wr w.heap.size wr.heap.size A' k (row (flip zss n k)) vs := by
        intro j hj
        have := hrs j hj
        rw [flip_row hj]
        exact this
      go_wp2
      go_ret
      exact ⟨_, _, _, rfl, ⟨HL.out, vs, hown, fun g hg => (hown.blk_ g hg).2, hrs5⟩, hbl⟩

set_option maxHeartbeats 4000000 in
theorem implTurned (A : Option Addr) (n c M : Nat) (zss : List (List Int)) (w : World) (ha : RdM w A n zss) (hn1 : 1 ≤ n) (hn : n ≤ 4) (hM : M ≤ 4) (hrows : ∀ k, k < n → (row zss k).length = M) :
    Calls Try.prog 53 #[.slice A n c] w fun e w' => ∃ A' n' c', e = .returned (.slice A' n' c') ∧ OwnR w' w.heap.size w'.heap.size A' n' c' (flip zss n M) ∧ Below w.heap.size w w' := by
  have HR := Lib.hid hrows
  obtain ⟨a0, B0, m0, d0, rfl, _, h0, hB0, hmd0, hd0⟩ := ha.2 0 (by omega)
  obtain rfl : m0 = M := by rw [← hB0.lenI]; exact hrows 0 (by omega)
  replace h0 : w.cell? a0 = some (.slice B0 m0 d0) := h0
  clear hrows hB0
  go_enter Try.func53, Try.ntmps53
  go_wp2
  go_loopw [3, 12] (fun v i wr => ∃ k : Nat, ∃ A' c' vs, k ≤ m0 ∧ i = .int .i64 k ∧ v = .slice A' k c' ∧ Own wr w.heap.size 29 A' k c' vs ∧ RowsIn wr w.heap.size wr.heap.size A' k (fun j => colTo zss j n) vs ∧ Below w.heap.size w wr) (fun _ i _ => m0 - (intOf i).toNat)
  case atStart => exact ⟨0, _, _, [], Nat.zero_le _, rfl, rfl, by simpa using own_empty w 29, fun j hj => by omega, below_alloc w _⟩
  case round =>
    obtain ⟨k, A', c', vs, hk, rfl, rfl, hown, hrs, hbl⟩ := hrel
    have hsz := hbl.size
    by_cases hlt : k < m0
    · go_wp2
      go_loopw [5, 18] (fun v i w2 => ∃ q : Nat, ∃ R cR, q ≤ n ∧ i = .int .i64 q ∧ v = .slice R q cR ∧ OwnI w2 wr.heap.size 3 R q cR (colTo zss k q) ∧ Below wr.heap.size wr w2) (fun _ i _ => n - (intOf i).toNat)
      case atStart => exact ⟨0, _, _, Nat.zero_le _, rfl, rfl, by simpa [OwnI, colTo_zero] using own_empty wr 3, below_alloc wr _⟩
      case round =>
        obtain ⟨q, R, cR, hq, rfl, rfl, hR, hb2⟩ := hrel
        have hs2 := hb2.size
        by_cases hqn : q < n
        · obtain ⟨a1, B, m, d, ha1, _, h1, hB, hmd, hd⟩ := (ha.below (hbl.trans (hb2.mono hsz))).2 q hqn
          injection ha1 with ha1
          subst ha1
          unfold maxLen at hd
          obtain rfl : m = m0 := by rw [← hB.lenI]; exact HR.out q hqn
          obtain ⟨a3, rfl, _, h3⟩ := hB.at_ hlt
          have H := Lib.hid (colTo_succ zss k q)
          go_wp2_with (at_builtin; refine wpL_append1 _ rfl _ _ _ rfl _ 3 (.int .i64 0) 8 Try.underlying29 intInfo rfl _ q _ _ rfl hR _ rfl rfl (by unfold maxLen; omega) (by omega) hs2 ?_)
          intro A2 c2 w3 ho3 hg3 hat3
          have hb3 := own_below hR hb2 hs2 hg3
          go_wp2
          go_roundw
          case rel => exact ⟨q + 1, A2, c2, by omega, by go_num, rfl, by rw [OwnI, H.out, List.map_append]; simpa using ho3, hb3⟩
          case measure => (simp [intOf] <;> omega)
        · obtain rfl : q = n := by omega
          have hown2 := hown.below hb2
          have hbl2 := hbl.trans (hb2.mono hsz)
          have hsz2 := hbl2.size
          have hrs2 := RowsIn.keep hrs (fun g h1 h2 h3 => hb2.block g h3)
          have hAA := hown.blk_
          have hRR := hR.blk_
          go_wp2_with (at_builtin; refine wpL_append1 _ rfl _ _ _ rfl w.heap.size 29 (.slice none 0 0) 24 Try.underlying24 sliceInfo rfl _ k _ _ rfl hown2 (.slice R q cR) rfl rfl (by unfold maxLen; omega) (by omega) hsz2 ?_)
          intro A2 c2 w4 ho4 hg4 hat4
          have hb4 := own_below hown2 hbl2 hsz2 hg4
          have hrs4 := rowsIn_push (cR := cR) hown2 hrs2 (fun g hg => (hAA g hg).2) hs2 (hR.more hsz) (fun g hg => (hRR g hg).1) hg4 hat4
          go_wp2
          go_roundw
          case rel => exact ⟨k + 1, A2, c2, _, by omega, by go_num, rfl, ho4, hrs4, hb4⟩
          case measure => (simp [intOf] <;> omega)
    · obtain rfl : k = m0 := by omega
      have HL := Lib.hid (flip_len zss n k)
      have hrs5 : RowsIn wr w.heap.size wr.heap.size A' k (row (flip zss n k)) vs := by
        intro j hj
        have := hrs j hj
        rw [flip_row hj]
        exact this
      go_wp2
      go_ret
      exact ⟨_, _, _, rfl, ⟨HL.out, vs, hown, fun g hg => (hown.blk_ g hg).2, hrs5⟩, hbl⟩

set_option maxHeartbeats 1000000 in
theorem specTurned (A : Option Addr) (n c : Nat) (zss : List (List Int)) (w : World) (ha : RdM w A n zss) (hn : n ≤ 1048576) :
    Calls Try.prog 29 #[.slice A n c] w fun e w' => ∃ A' n' c', e = .returned (.slice A' n' c') ∧ OwnR w' w.heap.size w'.heap.size A' n' c' (flipV zss) ∧ Below w.heap.size w w' := by
  have hl := ha.1
  have C := specMesh A n c zss w ha hn
  cases hg : meshV zss with
  | false =>
    have H := Lib.hid (flipV_no hg)
    rw [hg] at C
    have CC := Lib.hid C
    clear C hg hl
    go_enter Try.func29, Try.ntmps29
    go_wp2_with fail
    refine CC.out.mono ?_
    rintro e w' ⟨rfl, rfl⟩
    go_wp2_with fail
    go_ret
    exact ⟨_, _, _, rfl, by rw [H.out]; exact OwnR.nil_ _ _ _, Below.refl _ _⟩
  | true =>
    obtain ⟨hn1, hn4, M, hM1, hM4, hrows⟩ := mesh_out hg hl
    have H := Lib.hid (flipV_yes hl (hrows 0 (by omega)) hg)
    have HR := Lib.hid hrows
    rw [hg] at C
    have CC := Lib.hid C
    have D := Lib.hid (specFlip A n c M zss w ha hn1 hn4 hM4 HR.out)
    clear C hg hl hrows
    go_enter Try.func29, Try.ntmps29
    go_wp2_with fail
    refine CC.out.mono ?_
    rintro e w' ⟨rfl, rfl⟩
    go_wp2_with fail
    refine D.out.mono ?_
    rintro e w2 ⟨A', n', c', rfl, own, hb2⟩
    go_wp2_with fail
    go_ret
    exact ⟨_, _, _, rfl, by rw [H.out]; exact own, hb2⟩

set_option maxHeartbeats 1000000 in
theorem implTurnedMesh (A : Option Addr) (n c : Nat) (zss : List (List Int)) (w : World) (ha : RdM w A n zss) (hn : n ≤ 1048576) :
    Calls Try.prog 30 #[.slice A n c] w fun e w' => ∃ A' n' c', e = .returned (.slice A' n' c') ∧ OwnR w' w.heap.size w'.heap.size A' n' c' (flipV zss) ∧ Below w.heap.size w w' := by
  have hl := ha.1
  have C := implMesh A n c zss w ha hn
  cases hg : meshV zss with
  | false =>
    have H := Lib.hid (flipV_no hg)
    rw [hg] at C
    have CC := Lib.hid C
    clear C hg hl
    go_enter Try.func30, Try.ntmps30
    go_wp2_with fail
    refine CC.out.mono ?_
    rintro e w' ⟨rfl, rfl⟩
    go_wp2_with fail
    go_ret
    exact ⟨_, _, _, rfl, by rw [H.out]; exact OwnR.nil_ _ _ _, Below.refl _ _⟩
  | true =>
    obtain ⟨hn1, hn4, M, hM1, hM4, hrows⟩ := mesh_out hg hl
    have H := Lib.hid (flipV_yes hl (hrows 0 (by omega)) hg)
    have HR := Lib.hid hrows
    rw [hg] at C
    have CC := Lib.hid C
    have D := Lib.hid (implTurned A n c M zss w ha hn1 hn4 hM4 HR.out)
    clear C hg hl hrows
    go_enter Try.func30, Try.ntmps30
    go_wp2_with fail
    refine CC.out.mono ?_
    rintro e w' ⟨rfl, rfl⟩
    go_wp2_with fail
    refine D.out.mono ?_
    rintro e w2 ⟨A', n', c', rfl, own, hb2⟩
    go_wp2_with fail
    go_ret
    exact ⟨_, _, _, rfl, by rw [H.out]; exact own, hb2⟩

end Go.Proofs.Ytogfnmjedeoecaa
