/- Chapter 17: the snake of a mesh. -/
import Derived.Test.YtogfnmjedeoecaaC17d
namespace Go.Proofs.Ytogfnmjedeoecaa
open Go.RowKit Go.Deep
set_option linter.unusedVariables false

set_option maxHeartbeats 1000000 in
theorem specRow (A : Option Addr) (n c r : Nat) (zs : List Int) (w : World) (ha : RdI w A n zs) (hn : n ≤ 1048576) (hr : r < 4) :
    Calls Try.prog 47 #[.slice A n c, .int .i64 r] w fun e w' => ∃ A' c', e = .returned (.slice A' n c') ∧ OwnI w' w.heap.size 3 A' n c' (snakeRow zs r) ∧ Below w.heap.size w w' := by
  have hl := Lib.hid ha.lenI
  have hh : (r = 0 ∨ r = 2) ∨ (r = 1 ∨ r = 3) := by omega
  rcases hh with hh | hh
  · have H := Lib.hid (snakeRow_even (zs := zs) (r := r) (by omega))
    rcases hh with rfl | rfl
    all_goals
      go_enter Try.func47, Try.ntmps47
      go_wp2_with (at_builtin; refine wpL_append _ rfl _ _ _ rfl w.heap.size 3 (.int .i64 0) 8 Try.underlying29 intInfo rfl _ 0 _ [] rfl (own_empty _ _) A n c (zs.map (Value.int .i64)) rfl (ha.alloc _) (ints_one _) (by unfold maxLen; omega) (by omega) (by simp) ?_)
      intro A2 c2 w2 ho2 hg2 hat2
      have hb2 := own_below (own_empty w 3) (below_alloc w _) (by simp) hg2
      try simp only [Nat.zero_add] at ho2 ⊢
      go_wp2
      go_ret
      exact ⟨_, _, rfl, by rw [H.out]; simpa using ho2, hb2⟩
  · have H := Lib.hid (snakeRow_odd (r := r) hl.out (by omega))
    have C := Lib.hid (specTurn A n c zs w ha hn)
    rcases hh with rfl | rfl
    all_goals
      go_enter Try.func47, Try.ntmps47
      go_wp2_with fail
      refine C.out.mono ?_
      rintro e w2 ⟨A2, c2, rfl, o2, hb2⟩
      go_wp2_with fail
      go_ret
      exact ⟨_, _, rfl, by rw [H.out]; exact o2, hb2⟩

set_option maxHeartbeats 1000000 in
theorem specSnake (A : Option Addr) (n c M : Nat) (zss : List (List Int)) (w : World) (ha : RdM w A n zss) (hn : n ≤ 4) (hM : M ≤ 4) (hrows : ∀ k, k < n → (row zss k).length = M) :
    Calls Try.prog 54 #[.slice A n c] w fun e w' => ∃ A' n' c', e = .returned (.slice A' n' c') ∧ OwnI w' w.heap.size 3 A' n' c' (snakeTo zss n) ∧ Below w.heap.size w w' := by
  have HR := Lib.hid hrows
  clear hrows
  go_enter Try.func54, Try.ntmps54
  go_wp2
  go_loopw [3, 9] (fun v i wr => ∃ k q : Nat, ∃ A' c', k ≤ n ∧ q ≤ 4 * k ∧ i = .int .i64 k ∧ v = .slice A' q c' ∧ OwnI wr w.heap.size 3 A' q c' (snakeTo zss k) ∧ Below w.heap.size w wr) (fun _ i _ => n - (intOf i).toNat)
  case atStart => exact ⟨0, 0, _, _, Nat.zero_le _, Nat.le_refl _, rfl, rfl, by simpa [OwnI, snakeTo_zero] using own_empty w 3, below_alloc w _⟩
  case round =>
    obtain ⟨k, q, A', c', hk, hq, rfl, rfl, hown, hbl⟩ := hrel
    have hsz := hbl.size
    by_cases hlt : k < n
    · obtain ⟨a1, B, m, d, rfl, _, h1, hB, hmd, hd⟩ := (ha.below hbl).2 k hlt
      unfold maxLen at hd
      obtain rfl : m = M := by rw [← hB.lenI]; exact HR.out k hlt
      have H := Lib.hid (snakeTo_succ zss k)
      go_wp2_with fail
      refine (specRow B m d k (row zss k) wr hB (by omega) (by omega)).mono ?_
      rintro e w2 ⟨A3, c3, rfl, o3, hb2⟩
      have hown2 := hown.below hb2
      have hbl2 := hbl.trans (hb2.mono hsz)
      have hsz2 := hbl2.size
      go_wp2_with (at_builtin; refine wpL_append _ rfl _ _ _ rfl w.heap.size 3 (.int .i64 0) 8 Try.underlying29 intInfo rfl _ q _ _ rfl hown2 A3 m c3 ((snakeRow (row zss k) k).map (Value.int .i64)) rfl o3.rd (ints_one _) (by unfold maxLen; omega) (by omega) hsz2 ?_)
      intro A4 c4 w4 ho4 hg4 hat4
      have hb4 := own_below hown2 hbl2 hsz2 hg4
      go_wp2
      go_roundw
      case rel => exact ⟨k + 1, q + m, A4, c4, by omega, by omega, by go_num, rfl, by rw [OwnI, H.out, List.map_append]; exact ho4, hb4⟩
      case measure => (simp [intOf] <;> omega)
    · obtain rfl : k = n := by omega
      go_wp2
      go_ret
      exact ⟨_, _, _, rfl, hown, hbl⟩

set_option maxHeartbeats 2000000 in
theorem implSnake (A : Option Addr) (n c M : Nat) (zss : List (List Int)) (w : World) (ha : RdM w A n zss) (hn : n ≤ 4) (hM1 : 1 ≤ M) (hM : M ≤ 4) (hrows : ∀ k, k < n → (row zss k).length = M) :
    Calls Try.prog 55 #[.slice A n c] w fun e w' => ∃ A' n' c', e = .returned (.slice A' n' c') ∧ OwnI w' w.heap.size 3 A' n' c' (snakeTo zss n) ∧ Below w.heap.size w w' := by
  have HR := Lib.hid hrows
  clear hrows
  go_enter Try.func55, Try.ntmps55
  go_wp2
  go_loopw [3, 10] (fun v i wr => ∃ k q : Nat, ∃ A' c', k ≤ n ∧ q ≤ 4 * k ∧ i = .int .i64 k ∧ v = .slice A' q c' ∧ OwnI wr w.heap.size 3 A' q c' (snakeTo zss k) ∧ Below w.heap.size w wr) (fun _ i _ => n - (intOf i).toNat)
  case atStart => exact ⟨0, 0, _, _, Nat.zero_le _, Nat.le_refl _, rfl, rfl, by simpa [OwnI, snakeTo_zero] using own_empty w 3, below_alloc w _⟩
  case round =>
    obtain ⟨k, q, A', c', hk, hq, rfl, rfl, hown, hbl⟩ := hrel
    have hsz := hbl.size
    by_cases hlt : k < n
    · obtain ⟨a1, B, m, d, rfl, _, h1, hB, hmd, hd⟩ := (ha.below hbl).2 k hlt
      unfold maxLen at hd
      obtain rfl : m = M := by rw [← hB.lenI]; exact HR.out k hlt
      have H := Lib.hid (snakeTo_succ zss k)
      obtain ⟨ad, rfl, _, _⟩ := hB.at_ (show 0 < m by omega)
      have HL := Lib.hid hB.lenI
      go_wp2_with fail
      refine (implClone ad m d (row zss k) wr hB (by omega)).mono ?_
      rintro e w2 ⟨A3, c3, rfl, o3, hb2⟩
      have hown2 := hown.below hb2
      have hbl2 := hbl.trans (hb2.mono hsz)
      have hsz2 := hbl2.size
      have hi1 := hown.blk_
      by_cases hodd : k % 2 = 1
      · have H2 := Lib.hid (snakeRow_odd (r := k) HL.out hodd)
        have e1 : ((k : Int) % 2 == 1) = true := by simp; omega
        clear hodd
        go_wp2_with fail
        refine (implReverse A3 m c3 wr.heap.size (row zss k) w2 o3 (by omega) (by omega)).mono ?_
        rintro e w3 ⟨rfl, o5, hg3⟩
        have hown3 := hown2.kept hg3 (fun g e1 e2 => by have := hi1 g e1; have := o3.blk_ g e2.symm; omega)
        have hbl3 := below_of_grown hbl2 hg3 hsz2 (fun g e => by have := o3.blk_ g e; omega)
        have hsz3 := hbl3.size
        rw [← H2.out] at o5
        go_wp2_with (at_builtin; refine wpL_append _ rfl _ _ _ rfl w.heap.size 3 (.int .i64 0) 8 Try.underlying29 intInfo rfl _ q _ _ rfl hown3 A3 m c3 ((snakeRow (row zss k) k).map (Value.int .i64)) rfl o5.rd (ints_one _) (by unfold maxLen; omega) (by omega) hsz3 ?_)
        intro A4 c4 w4 ho4 hg4 hat4
        have hb4 := own_below hown3 hbl3 hsz3 hg4
        go_wp2
        go_roundw
        case rel => exact ⟨k + 1, q + m, A4, c4, by omega, by omega, by go_num, rfl, by rw [OwnI, H.out, List.map_append]; exact ho4, hb4⟩
        case measure => (simp [intOf] <;> omega)
      · have H2 := Lib.hid (snakeRow_even (zs := row zss k) hodd)
        have e1 : ((k : Int) % 2 == 1) = false := by simp; omega
        clear hodd
        rw [← H2.out] at o3
        go_wp2_with (at_builtin; refine wpL_append _ rfl _ _ _ rfl w.heap.size 3 (.int .i64 0) 8 Try.underlying29 intInfo rfl _ q _ _ rfl hown2 A3 m c3 ((snakeRow (row zss k) k).map (Value.int .i64)) rfl o3.rd (ints_one _) (by unfold maxLen; omega) (by omega) hsz2 ?_)
        intro A4 c4 w4 ho4 hg4 hat4
        have hb4 := own_below hown2 hbl2 hsz2 hg4
        go_wp2
        go_roundw
        case rel => exact ⟨k + 1, q + m, A4, c4, by omega, by omega, by go_num, rfl, by rw [OwnI, H.out, List.map_append]; exact ho4, hb4⟩
        case measure => (simp [intOf] <;> omega)
    · obtain rfl : k = n := by omega
      go_wp2
      go_ret
      exact ⟨_, _, _, rfl, hown, hbl⟩

set_option maxHeartbeats 1000000 in
theorem specSnakeOf (A : Option Addr) (n c : Nat) (zss : List (List Int)) (w : World) (ha : RdM w A n zss) (hn : n ≤ 1048576) :
    Calls Try.prog 31 #[.slice A n c] w fun e w' => ∃ A' n' c', e = .returned (.slice A' n' c') ∧ OwnI w' w.heap.size 3 A' n' c' (snakeV zss) ∧ Below w.heap.size w w' := by
  have hl := ha.1
  have C := specMesh A n c zss w ha hn
  cases hg : meshV zss with
  | false =>
    have H := Lib.hid (snakeV_no hg)
    rw [hg] at C
    have CC := Lib.hid C
    clear C hg hl
    go_enter Try.func31, Try.ntmps31
    go_wp2_with fail
    refine CC.out.mono ?_
    rintro e w' ⟨rfl, rfl⟩
    go_wp2_with fail
    go_ret
    exact ⟨_, _, _, rfl, by rw [H.out]; exact Own.nil_ _ _ _, Below.refl _ _⟩
  | true =>
    have H := Lib.hid (snakeV_yes hl hg)
    obtain ⟨hn1, hn4, M, hM1, hM4, hrows⟩ := mesh_out hg hl
    have HR := Lib.hid hrows
    rw [hg] at C
    have CC := Lib.hid C
    have D := Lib.hid (specSnake A n c M zss w ha hn4 hM4 HR.out)
    clear C hg hl hrows
    go_enter Try.func31, Try.ntmps31
    go_wp2_with fail
    refine CC.out.mono ?_
    rintro e w' ⟨rfl, rfl⟩
    go_wp2_with fail
    refine D.out.mono ?_
    rintro e w2 ⟨A', n', c', rfl, own, hb2⟩
    go_wp2_with fail
    go_ret
    exact ⟨_, _, _, rfl, by rw [H.out]; exact own, hb2⟩

set_option maxHeartbeats 1000000 in
theorem implSnakeOf (A : Option Addr) (n c : Nat) (zss : List (List Int)) (w : World) (ha : RdM w A n zss) (hn : n ≤ 1048576) :
    Calls Try.prog 32 #[.slice A n c] w fun e w' => ∃ A' n' c', e = .returned (.slice A' n' c') ∧ OwnI w' w.heap.size 3 A' n' c' (snakeV zss) ∧ Below w.heap.size w w' := by
  have hl := ha.1
  have C := implMesh A n c zss w ha hn
  cases hg : meshV zss with
  | false =>
    have H := Lib.hid (snakeV_no hg)
    rw [hg] at C
    have CC := Lib.hid C
    clear C hg hl
    go_enter Try.func32, Try.ntmps32
    go_wp2_with fail
    refine CC.out.mono ?_
    rintro e w' ⟨rfl, rfl⟩
    go_wp2_with fail
    go_ret
    exact ⟨_, _, _, rfl, by rw [H.out]; exact Own.nil_ _ _ _, Below.refl _ _⟩
  | true =>
    have H := Lib.hid (snakeV_yes hl hg)
    obtain ⟨hn1, hn4, M, hM1, hM4, hrows⟩ := mesh_out hg hl
    have HR := Lib.hid hrows
    rw [hg] at C
    have CC := Lib.hid C
    have D := Lib.hid (implSnake A n c M zss w ha hn4 hM1 hM4 HR.out)
    clear C hg hl hrows
    go_enter Try.func32, Try.ntmps32
    go_wp2_with fail
    refine CC.out.mono ?_
    rintro e w' ⟨rfl, rfl⟩
    go_wp2_with fail
    refine D.out.mono ?_
    rintro e w2 ⟨A', n', c', rfl, own, hb2⟩
    go_wp2_with fail
    go_ret
    exact ⟨_, _, _, rfl, by rw [H.out]; exact own, hb2⟩

end Go.Proofs.Ytogfnmjedeoecaa
