/- Chapter 17: rows that are sorted along the snake. -/
import Derived.Test.YtogfnmjedeoecaaC17i
import Derived.Test.YtogfnmjedeoecaaC17f
import Derived.Test.YtogfnmjedeoecaaC17g
namespace Go.Proofs.Ytogfnmjedeoecaa
open Go.RowKit Go.Deep
set_option linter.unusedVariables false

def sortL (zss : List (List Int)) (n : Nat) : List (List Int) := (List.range n).map fun k => snakeRow (srt (row zss k)) k
theorem sortL_len (zss : List (List Int)) (n : Nat) : (sortL zss n).length = n := by simp [sortL]
theorem sortL_row {zss : List (List Int)} {n k : Nat} (h : k < n) : row (sortL zss n) k = snakeRow (srt (row zss k)) k := by
  have : ∀ f : Nat → List Int, ((List.range n).map f).getD k [] = f k := fun f => by simp [List.getD, h]
  rw [row, sortL]
  exact this _
theorem sortL_rows {zss : List (List Int)} {n M : Nat} (h : ∀ k, k < n → (row zss k).length = M) : ∀ k, k < n → (row (sortL zss n) k).length = M := by
  intro k hk
  rw [sortL_row hk, snakeRow_len, srt_len, h k hk]
attribute [irreducible] sortL

set_option maxHeartbeats 2000000 in
theorem specRows (A : Option Addr) (n c M : Nat) (zss : List (List Int)) (w : World) (ha : RdM w A n zss) (hn : n ≤ 4) (hM : M ≤ 4) (hrows : ∀ k, k < n → (row zss k).length = M) :
    Calls Try.prog 58 #[.slice A n c] w fun e w' => ∃ A' n' c', e = .returned (.slice A' n' c') ∧ OwnR w' w.heap.size w'.heap.size A' n' c' (sortL zss n) ∧ Below w.heap.size w w' := by
  have HR := Lib.hid hrows
  clear hrows
  go_enter Try.func58, Try.ntmps58
  go_wp2
  go_loopw [3, 9] (fun v i wr => ∃ k : Nat, ∃ A' c' vs, k ≤ n ∧ i = .int .i64 k ∧ v = .slice A' k c' ∧ Own wr w.heap.size 29 A' k c' vs ∧ RowsIn wr w.heap.size wr.heap.size A' k (fun k => snakeRow (srt (row zss k)) k) vs ∧ Below w.heap.size w wr) (fun _ i _ => n - (intOf i).toNat)
  case atStart => exact ⟨0, _, _, [], Nat.zero_le _, rfl, rfl, by simpa using own_empty w 29, fun j hj => by omega, below_alloc w _⟩
  case round =>
    obtain ⟨k, A', c', vs, hk, rfl, rfl, hown, hrs, hbl⟩ := hrel
    have hsz := hbl.size
    by_cases hlt : k < n
    · obtain ⟨a1, B, m, d, rfl, _, h1, hB, hmd, hd⟩ := (ha.below hbl).2 k hlt
      unfold maxLen at hd
      obtain rfl : m = M := by rw [← hB.lenI]; exact HR.out k hlt
      have HI := Lib.hid (srt_of hB.lenI)
      go_wp2_with fail
      refine (specSort B m d (row zss k) wr hB (by omega)).mono ?_
      rintro e w1 ⟨A1, c1, rfl, o1, hb1⟩
      rw [HI.out] at o1
      have hs1 := hb1.size
      go_wp2_with fail
      refine (specRow A1 m c1 k (srt (row zss k)) w1 o1.rd (by omega) (by omega)).mono ?_
      rintro e w2 ⟨A3, c3, rfl, o3, hb2⟩
      replace hb2 := hb1.trans (hb2.mono hs1)
      replace o3 := o3.more hs1
      have hown2 := hown.below hb2
      have hbl2 := hbl.trans (hb2.mono hsz)
      have hsz2 := hbl2.size
      have hs2 := hb2.size
      have hrs2 := RowsIn.keep hrs (fun g h1 h2 h3 => hb2.block g h3)
      have hAA := hown.blk_
      have hRR := o3.blk_
      clear hb1 o1
      go_wp2_with (at_builtin; refine wpL_append1 _ rfl _ _ _ rfl w.heap.size 29 (.slice none 0 0) 24 Try.underlying24 sliceInfo rfl _ k _ _ rfl hown2 (.slice A3 m c3) rfl rfl (by unfold maxLen; omega) (by omega) hsz2 ?_)
      intro A4 c4 w4 ho4 hg4 hat4
      have hb4 := own_below hown2 hbl2 hsz2 hg4
      have hrs4 := rowsIn_push (cR := c3) hown2 hrs2 (fun g hg => (hAA g hg).2) (by omega) ((o3).more hsz) (fun g hg => (hRR g hg).1) hg4 hat4
      go_wp2
      go_roundw
      case rel => exact ⟨k + 1, A4, c4, _, by omega, by go_num, rfl, ho4, hrs4, hb4⟩
      case measure => (simp [intOf] <;> omega)
    · obtain rfl : k = n := by omega
      have HL := Lib.hid (sortL_len zss k)
      have hrs5 : RowsIn wr w.heap.size wr.heap.size A' k (row (sortL zss k)) vs := by
        intro j hj
        have := hrs j hj
        rw [sortL_row hj]
        exact this
      go_wp2
      go_ret
      exact ⟨_, _, _, rfl, ⟨HL.out, vs, hown, fun g hg => (hown.blk_ g hg).2, hrs5⟩, hbl⟩

set_option maxHeartbeats 4000000 in
theorem implRows (A : Option Addr) (n c M : Nat) (zss : List (List Int)) (w : World) (ha : RdM w A n zss) (hn : n ≤ 4) (hM1 : 1 ≤ M) (hM : M ≤ 4) (hrows : ∀ k, k < n → (row zss k).length = M) :
    Calls Try.prog 59 #[.slice A n c] w fun e w' => ∃ A' n' c', e = .returned (.slice A' n' c') ∧ OwnR w' w.heap.size w'.heap.size A' n' c' (sortL zss n) ∧ Below w.heap.size w w' := by
  have HR := Lib.hid hrows
  clear hrows
  go_enter Try.func59, Try.ntmps59
  go_wp2
  go_loopw [3, 10] (fun v i wr => ∃ k : Nat, ∃ A' c' vs, k ≤ n ∧ i = .int .i64 k ∧ v = .slice A' k c' ∧ Own wr w.heap.size 29 A' k c' vs ∧ RowsIn wr w.heap.size wr.heap.size A' k (fun k => snakeRow (srt (row zss k)) k) vs ∧ Below w.heap.size w wr) (fun _ i _ => n - (intOf i).toNat)
  case atStart => exact ⟨0, _, _, [], Nat.zero_le _, rfl, rfl, by simpa using own_empty w 29, fun j hj => by omega, below_alloc w _⟩
  case round =>
    obtain ⟨k, A', c', vs, hk, rfl, rfl, hown, hrs, hbl⟩ := hrel
    have hsz := hbl.size
    by_cases hlt : k < n
    · obtain ⟨a1, B, m, d, rfl, _, h1, hB, hmd, hd⟩ := (ha.below hbl).2 k hlt
      unfold maxLen at hd
      obtain rfl : m = M := by rw [← hB.lenI]; exact HR.out k hlt
      obtain ⟨ad, rfl, _, _⟩ := hB.at_ (show 0 < m by omega)
      have HL2 := Lib.hid (show (srt (row zss k)).length = m by rw [srt_len]; exact hB.lenI)
      go_wp2_with fail
      refine (implClone ad m d (row zss k) wr hB (by omega)).mono ?_
      rintro e w1 ⟨A1, c1, rfl, o1, hb1⟩
      have hs1 := hb1.size
      obtain ⟨g1, u1, rfl, hg1, _⟩ := o1.at_ (show 0 < m by omega)
      go_wp2_with fail
      refine (implSort g1 m c1 wr.heap.size (row zss k) w1 o1 (by omega)).mono ?_
      rintro e w2 ⟨rfl, o3, hg2⟩
      have hb2 := below_of_grown hb1 hg2 hs1 (fun g e => by injection e with e; omega)
      have hown2 := hown.below hb2
      have hbl2 := hbl.trans (hb2.mono hsz)
      have hsz2 := hbl2.size
      have hs2 := hb2.size
      have hrs2 := RowsIn.keep hrs (fun g h1 h2 h3 => hb2.block g h3)
      have hAA := hown.blk_
      have hRR := o3.blk_
      clear hb1 o1 hg2
      by_cases hodd : k % 2 = 1
      · have H2 := Lib.hid (snakeRow_odd (r := k) HL2.out hodd)
        have e3 : ((k : Int) % 2 == 1) = true := by simp; omega
        clear hodd
        go_wp2_with fail
        refine (implReverse (some ⟨g1, 0, none⟩) m c1 wr.heap.size (srt (row zss k)) w2 o3 (by omega) (by omega)).mono ?_
        rintro e w3 ⟨rfl, o5, hg3⟩
        have hs3 := hg3.size
        have hown3 := hown2.kept hg3 (fun g e1 e2 => by have := hAA g e1; have := hRR g e2.symm; omega)
        have hbl3 := below_of_grown hbl2 hg3 hsz2 (fun g e => by have := hRR g e; omega)
        have hsz3 := hbl3.size
        have hrs3 := RowsIn.keep hrs2 (fun g h1 h2 h3 => hg3.block g h3 (fun he => by have := hRR g he.symm; omega))
        rw [← H2.out] at o5
        go_wp2_with (at_builtin; refine wpL_append1 _ rfl _ _ _ rfl w.heap.size 29 (.slice none 0 0) 24 Try.underlying24 sliceInfo rfl _ k _ _ rfl hown3 (.slice (some ⟨g1, 0, none⟩) m c1) rfl rfl (by unfold maxLen; omega) (by omega) hsz3 ?_)
        intro A4 c4 w4 ho4 hg4 hat4
        have hb4 := own_below hown3 hbl3 hsz3 hg4
        have hrs4 := rowsIn_push (cR := c1) hown3 hrs3 (fun g hg => (hAA g hg).2) (by omega) ((o5).more hsz) (fun g hg => (hRR g hg).1) hg4 hat4
        go_wp2
        go_roundw
        case rel => exact ⟨k + 1, A4, c4, _, by omega, by go_num, rfl, ho4, hrs4, hb4⟩
        case measure => (simp [intOf] <;> omega)
      · have H2 := Lib.hid (snakeRow_even (zs := srt (row zss k)) hodd)
        have e3 : ((k : Int) % 2 == 1) = false := by simp; omega
        clear hodd
        rw [← H2.out] at o3
        go_wp2_with (at_builtin; refine wpL_append1 _ rfl _ _ _ rfl w.heap.size 29 (.slice none 0 0) 24 Try.underlying24 sliceInfo rfl _ k _ _ rfl hown2 (.slice (some ⟨g1, 0, none⟩) m c1) rfl rfl (by unfold maxLen; omega) (by omega) hsz2 ?_)
        intro A4 c4 w4 ho4 hg4 hat4
        have hb4 := own_below hown2 hbl2 hsz2 hg4
        have hrs4 := rowsIn_push (cR := c1) hown2 hrs2 (fun g hg => (hAA g hg).2) (by omega) ((o3).more hsz) (fun g hg => (hRR g hg).1) hg4 hat4
        go_wp2
        go_roundw
        case rel => exact ⟨k + 1, A4, c4, _, by omega, by go_num, rfl, ho4, hrs4, hb4⟩
        case measure => (simp [intOf] <;> omega)
    · obtain rfl : k = n := by omega
      have HL := Lib.hid (sortL_len zss k)
      have hrs5 : RowsIn wr w.heap.size wr.heap.size A' k (row (sortL zss k)) vs := by
        intro j hj
        have := hrs j hj
        rw [sortL_row hj]
        exact this
      go_wp2
      go_ret
      exact ⟨_, _, _, rfl, ⟨HL.out, vs, hown, fun g hg => (hown.blk_ g hg).2, hrs5⟩, hbl⟩

def sortV (zss : List (List Int)) : List (List Int) := if meshV zss = true then sortL zss zss.length else []
theorem sortV_no {zss : List (List Int)} (h : meshV zss = false) : sortV zss = [] := by rw [sortV, h]; rfl
theorem sortV_yes {zss : List (List Int)} {n : Nat} (hl : zss.length = n) (h : meshV zss = true) : sortV zss = sortL zss n := by rw [sortV, h, hl]; rfl
theorem sortV_tot (zss : List (List Int)) : (sortV zss).length + tot (sortV zss) (sortV zss).length ≤ 1048576 := by
  cases h : meshV zss with
  | false => rw [sortV_no h]; simp [tot_zero]
  | true =>
    obtain ⟨h1, h2, m, h3, h4, h5⟩ := mesh_out h rfl
    rw [sortV_yes rfl h, sortL_len]
    have := tot_le (zss := sortL zss zss.length) (b := 4) zss.length (fun k hk => by rw [sortL_rows h5 k hk]; exact h4)
    omega

set_option maxHeartbeats 1000000 in
theorem specSortRows (A : Option Addr) (n c : Nat) (zss : List (List Int)) (w : World) (ha : RdM w A n zss) (hn : n ≤ 1048576) :
    Calls Try.prog 36 #[.slice A n c] w fun e w' => ∃ A' n' c', e = .returned (.slice A' n' c') ∧ OwnR w' w.heap.size w'.heap.size A' n' c' (sortV zss) ∧ Below w.heap.size w w' := by
  have hl := ha.1
  have C := specMesh A n c zss w ha hn
  cases hg : meshV zss with
  | false =>
    have H := Lib.hid (sortV_no hg)
    rw [hg] at C
    have CC := Lib.hid C
    clear C hg hl
    go_enter Try.func36, Try.ntmps36
    go_wp2_with fail
    refine CC.out.mono ?_
    rintro e w' ⟨rfl, rfl⟩
    go_wp2_with fail
    go_ret
    exact ⟨_, _, _, rfl, by rw [H.out]; exact OwnR.nil_ _ _ _, Below.refl _ _⟩
  | true =>
    obtain ⟨hn1, hn4, M, hM1, hM4, hrows⟩ := mesh_out hg hl
    have H := Lib.hid (sortV_yes hl hg)
    have HR := Lib.hid hrows
    rw [hg] at C
    have CC := Lib.hid C
    have D := Lib.hid (specRows A n c M zss w ha hn4 hM4 HR.out)
    clear C hg hl hrows
    go_enter Try.func36, Try.ntmps36
    go_wp2_with fail
    refine CC.out.mono ?_
    rintro e w' ⟨rfl, rfl⟩
    go_wp2_with fail
    refine D.out.mono ?_
    rintro e w2 ⟨A', n', c', rfl, own, hb2⟩
    go_wp2_with fail
    go_ret
    exact ⟨_, _, _, rfl, by rw [H.out]; exact own, hb2⟩

set_option maxHeartbeats 1000000 in
theorem implSortRows (A : Option Addr) (n c : Nat) (zss : List (List Int)) (w : World) (ha : RdM w A n zss) (hn : n ≤ 1048576) :
    Calls Try.prog 37 #[.slice A n c] w fun e w' => ∃ A' n' c', e = .returned (.slice A' n' c') ∧ OwnR w' w.heap.size w'.heap.size A' n' c' (sortV zss) ∧ Below w.heap.size w w' := by
  have hl := ha.1
  have C := implMesh A n c zss w ha hn
  cases hg : meshV zss with
  | false =>
    have H := Lib.hid (sortV_no hg)
    rw [hg] at C
    have CC := Lib.hid C
    clear C hg hl
    go_enter Try.func37, Try.ntmps37
    go_wp2_with fail
    refine CC.out.mono ?_
    rintro e w' ⟨rfl, rfl⟩
    go_wp2_with fail
    go_ret
    exact ⟨_, _, _, rfl, by rw [H.out]; exact OwnR.nil_ _ _ _, Below.refl _ _⟩
  | true =>
    obtain ⟨hn1, hn4, M, hM1, hM4, hrows⟩ := mesh_out hg hl
    have H := Lib.hid (sortV_yes hl hg)
    have HR := Lib.hid hrows
    rw [hg] at C
    have CC := Lib.hid C
    have D := Lib.hid (implRows A n c M zss w ha hn4 hM1 hM4 HR.out)
    clear C hg hl hrows
    go_enter Try.func37, Try.ntmps37
    go_wp2_with fail
    refine CC.out.mono ?_
    rintro e w' ⟨rfl, rfl⟩
    go_wp2_with fail
    refine D.out.mono ?_
    rintro e w2 ⟨A', n', c', rfl, own, hb2⟩
    go_wp2_with fail
    go_ret
    exact ⟨_, _, _, rfl, by rw [H.out]; exact own, hb2⟩

end Go.Proofs.Ytogfnmjedeoecaa
