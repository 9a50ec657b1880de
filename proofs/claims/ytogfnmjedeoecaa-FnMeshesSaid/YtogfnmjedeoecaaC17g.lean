/- Chapter 17: the mesh with a snake. -/
import Derived.Test.YtogfnmjedeoecaaC17e
import Derived.Test.YtogfnmjedeoecaaMat3
namespace Go.Proofs.Ytogfnmjedeoecaa
open Go.RowKit Go.Deep
set_option linter.unusedVariables false

/-- The k-th of the parts of m numbers. -/
def part (zs : List Int) (m k : Nat) : List Int := (zs.drop (k * m)).take m
theorem rd_part {w : World} {a : Addr} {n p m : Nat} {zs : List Int} (h : RdI w (some a) n zs) (hp : p + m ≤ n) : RdI w (some (a.add p)) m ((zs.drop p).take m) := by
  have hl := h.lenI
  refine ⟨by simp; omega, fun hm => ?_⟩
  obtain ⟨ad, had, hb, hcell⟩ := h.2 (by omega)
  injection had with had
  subst had
  refine ⟨_, rfl, by rw [block_of_add]; exact hb, fun j u hu => ?_⟩
  rw [add_of_add]
  apply hcell
  rw [List.map_take, List.map_drop, List.getElem?_take] at hu
  split at hu
  · rw [List.getElem?_drop] at hu; exact hu
  · cases hu
def meshL (zs : List Int) (r m : Nat) : List (List Int) := (List.range r).map fun k => snakeRow (part zs m k) k
theorem meshL_len (zs : List Int) (r m : Nat) : (meshL zs r m).length = r := by simp [meshL]
theorem meshL_row {zs : List Int} {r m k : Nat} (h : k < r) : row (meshL zs r m) k = snakeRow (part zs m k) k := by
  unfold row meshL
  simp [List.getD, h]
attribute [irreducible] meshL

set_option maxHeartbeats 2000000 in
theorem specMeshOf_yes (A : Option Addr) (n c r m : Nat) (zs : List Int) (w : World) (ha : RdI w A n zs) (hc : n ≤ c) (hc2 : c ≤ maxLen) (hr : 1 ≤ r ∧ r ≤ 4) (hm : 1 ≤ m ∧ m ≤ 4) (hn : n = r * m) :
    Calls Try.prog 20 #[.slice A n c, .int .i64 r, .int .i64 m] w fun e w' => ∃ A' n' c', e = .returned (.tuple #[.slice A' n' c', .bool true]) ∧ OwnR w' w.heap.size w'.heap.size A' n' c' (meshL zs r m) ∧ Below w.heap.size w w' := by
  obtain ⟨hr1, hr4⟩ := hr
  obtain ⟨hm1, hm4⟩ := hm
  unfold maxLen at hc2
  have hn16 : n ≤ 16 := by have := Nat.mul_le_mul hr4 hm4; omega
  have hn0 : 0 < n := by have := Nat.mul_le_mul hr1 hm1; omega
  obtain ⟨ad, rfl, _, _⟩ := ha.at_ hn0
  have HN := Lib.hid hn
  have hrm : (r : Int) * (m : Int) = (n : Int) := by rw [hn]; simp
  clear hn
  go_enter Try.func20, Try.ntmps20
  go_wp2_with (go_at_call 45; refine (l01In_yes _ _ _ _ (by omega)).mono ?_; rintro e w' ⟨rfl, rfl⟩)
  go_loopw [8, 9] (fun v i wr => ∃ k : Nat, ∃ A' c' vs, k ≤ r ∧ i = .int .i64 k ∧ v = .slice A' k c' ∧ Own wr w.heap.size 29 A' k c' vs ∧ RowsIn wr w.heap.size wr.heap.size A' k (fun k => snakeRow (part zs m k) k) vs ∧ Below w.heap.size w wr) (fun _ i _ => r - (intOf i).toNat)
  case atStart => exact ⟨0, _, _, [], Nat.zero_le _, rfl, rfl, by simpa using own_empty w 29, fun j hj => by omega, below_alloc w _⟩
  case round =>
    obtain ⟨k, A', c', vs, hk, rfl, rfl, hown, hrs, hbl⟩ := hrel
    have hsz := hbl.size
    by_cases hlt : k < r
    · obtain ⟨p, hp⟩ : ∃ p, k * m = p := ⟨_, rfl⟩
      have e1 : (k : Int) * (m : Int) = (p : Int) := by rw [← hp]; simp
      have e2 : ((k : Int) + 1) * (m : Int) = ((p + m : Nat) : Int) := by rw [Int.add_mul, e1]; simp
      have hpn : p + m ≤ n := by
        have : (k + 1) * m ≤ r * m := Nat.mul_le_mul_right m hlt
        rw [Nat.succ_mul, hp, ← HN.out] at this
        exact this
      have hpc : p < c := by omega
      have hpart : RdI wr (some (ad.add p)) m (part zs m k) := by
        have := rd_part (ha.below hbl) hpn
        rw [part, hp]
        exact this
      have HP := Lib.hid hpart
      have HPP := Lib.hid hp
      clear hp hpart
      go_wp2_with fail
      refine (specRow _ m (c - p) k (part zs m k) wr HP.out (by omega) (by omega)).mono ?_
      rintro e w2 ⟨A3, c3, rfl, o3, hb2⟩
      have hown2 := hown.below hb2
      have hbl2 := hbl.trans (hb2.mono hsz)
      have hsz2 := hbl2.size
      have hs2 := hb2.size
      have hrs2 := RowsIn.keep hrs (fun g h1 h2 h3 => hb2.block g h3)
      have hAA := hown.blk_
      have hRR := o3.blk_
      go_wp2_with (at_builtin; refine wpL_append1 _ rfl _ _ _ rfl w.heap.size 29 (.slice none 0 0) 24 Try.underlying24 sliceInfo rfl _ k _ _ rfl hown2 (.slice A3 m c3) rfl rfl (by unfold maxLen; omega) (by omega) hsz2 ?_)
      intro A4 c4 w4 ho4 hg4 hat4
      have hb4 := own_below hown2 hbl2 hsz2 hg4
      have hrs4 := rowsIn_push (cR := c3) hown2 hrs2 (fun g hg => (hAA g hg).2) (by omega) ((o3).more hsz) (fun g hg => (hRR g hg).1) hg4 hat4
      go_wp2
      go_roundw
      case rel => exact ⟨k + 1, A4, c4, _, by omega, by go_num, rfl, ho4, hrs4, hb4⟩
      case measure => (simp [intOf] <;> omega)
    · obtain rfl : k = r := by omega
      have HL := Lib.hid (meshL_len zs k m)
      have hrs5 : RowsIn wr w.heap.size wr.heap.size A' k (row (meshL zs k m)) vs := by
        intro j hj
        have := hrs j hj
        rw [meshL_row hj]
        exact this
      go_wp2
      go_ret2
      exact ⟨_, _, _, rfl, ⟨HL.out, vs, hown, fun g hg => (hown.blk_ g hg).2, hrs5⟩, hbl⟩

set_option maxHeartbeats 2000000 in
theorem implMeshOf_yes (A : Option Addr) (n c r m : Nat) (zs : List Int) (w : World) (ha : RdI w A n zs) (hc : n ≤ c) (hc2 : c ≤ maxLen) (hr : 1 ≤ r ∧ r ≤ 4) (hm : 1 ≤ m ∧ m ≤ 4) (hn : n = r * m) :
    Calls Try.prog 22 #[.slice A n c, .int .i64 r, .int .i64 m] w fun e w' => ∃ A' n' c', e = .returned (.tuple #[.slice A' n' c', .bool true]) ∧ OwnR w' w.heap.size w'.heap.size A' n' c' (meshL zs r m) ∧ Below w.heap.size w w' := by
  obtain ⟨hr1, hr4⟩ := hr
  obtain ⟨hm1, hm4⟩ := hm
  unfold maxLen at hc2
  have hn16 : n ≤ 16 := by have := Nat.mul_le_mul hr4 hm4; omega
  have hn0 : 0 < n := by have := Nat.mul_le_mul hr1 hm1; omega
  obtain ⟨ad, rfl, _, _⟩ := ha.at_ hn0
  have HN := Lib.hid hn
  have hrm : (r : Int) * (m : Int) = (n : Int) := by rw [hn]; simp
  clear hn
  have d1 : decide ((r : Int) < 1) = false := by simp; omega
  have d2 : decide (4 < (r : Int)) = false := by simp; omega
  have d3 : decide ((m : Int) < 1) = false := by simp; omega
  have d4 : decide (4 < (m : Int)) = false := by simp; omega
  go_enter Try.func22, Try.ntmps22
  go_wp2
  go_loopw [8, 35] (fun v i wr => ∃ k : Nat, ∃ A' c' vs, k ≤ r ∧ i = .int .i64 k ∧ v = .slice A' k c' ∧ Own wr w.heap.size 29 A' k c' vs ∧ RowsIn wr w.heap.size wr.heap.size A' k (fun k => snakeRow (part zs m k) k) vs ∧ Below w.heap.size w wr) (fun _ i _ => r - (intOf i).toNat)
  case atStart => exact ⟨0, _, _, [], Nat.zero_le _, rfl, rfl, by simpa using own_empty w 29, fun j hj => by omega, below_alloc w _⟩
  case round =>
    obtain ⟨k, A', c', vs, hk, rfl, rfl, hown, hrs, hbl⟩ := hrel
    have hsz := hbl.size
    by_cases hlt : k < r
    · obtain ⟨p, hp⟩ : ∃ p, k * m = p := ⟨_, rfl⟩
      have e1 : (k : Int) * (m : Int) = (p : Int) := by rw [← hp]; simp
      have e2 : ((k : Int) + 1) * (m : Int) = ((p + m : Nat) : Int) := by rw [Int.add_mul, e1]; simp
      have hpn : p + m ≤ n := by
        have : (k + 1) * m ≤ r * m := Nat.mul_le_mul_right m hlt
        rw [Nat.succ_mul, hp, ← HN.out] at this
        exact this
      have hpc : p < c := by omega
      have hpart : RdI wr (some (ad.add p)) m (part zs m k) := by
        have := rd_part (ha.below hbl) hpn
        rw [part, hp]
        exact this
      have HP := Lib.hid hpart
      have HPP := Lib.hid hp
      clear hp hpart
      go_wp2_with fail
      refine (implClone (ad.add p) m (c - p) (part zs m k) wr HP.out (by omega)).mono ?_
      rintro e w2 ⟨A3, c3, rfl, o3, hb2⟩
      have hown2 := hown.below hb2
      have hbl2 := hbl.trans (hb2.mono hsz)
      have hsz2 := hbl2.size
      have hs2 := hb2.size
      have hrs2 := RowsIn.keep hrs (fun g h1 h2 h3 => hb2.block g h3)
      have hAA := hown.blk_
      have hRR := o3.blk_
      have HL2 := Lib.hid HP.out.lenI
      by_cases hodd : k % 2 = 1
      · have H2 := Lib.hid (snakeRow_odd (r := k) HL2.out hodd)
        have e3 : ((k : Int) % 2 == 1) = true := by simp; omega
        clear hodd
        go_wp2_with fail
        refine (implReverse A3 m c3 wr.heap.size (part zs m k) w2 o3 (by omega) (by omega)).mono ?_
        rintro e w3 ⟨rfl, o5, hg3⟩
        have hs3 := hg3.size
        have hown3 := hown2.kept hg3 (fun g e1 e2 => by have := hAA g e1; have := hRR g e2.symm; omega)
        have hbl3 := below_of_grown hbl2 hg3 hsz2 (fun g e => by have := hRR g e; omega)
        have hsz3 := hbl3.size
        have hrs3 := RowsIn.keep hrs2 (fun g h1 h2 h3 => hg3.block g h3 (fun he => by have := hRR g he.symm; omega))
        rw [← H2.out] at o5
        go_wp2_with (at_builtin; refine wpL_append1 _ rfl _ _ _ rfl w.heap.size 29 (.slice none 0 0) 24 Try.underlying24 sliceInfo rfl _ k _ _ rfl hown3 (.slice A3 m c3) rfl rfl (by unfold maxLen; omega) (by omega) hsz3 ?_)
        intro A4 c4 w4 ho4 hg4 hat4
        have hb4 := own_below hown3 hbl3 hsz3 hg4
        have hrs4 := rowsIn_push (cR := c3) hown3 hrs3 (fun g hg => (hAA g hg).2) (by omega) ((o5).more hsz) (fun g hg => (hRR g hg).1) hg4 hat4
        go_wp2
        go_roundw
        case rel => exact ⟨k + 1, A4, c4, _, by omega, by go_num, rfl, ho4, hrs4, hb4⟩
        case measure => (simp [intOf] <;> omega)
      · have H2 := Lib.hid (snakeRow_even (zs := part zs m k) hodd)
        have e3 : ((k : Int) % 2 == 1) = false := by simp; omega
        clear hodd
        rw [← H2.out] at o3
        go_wp2_with (at_builtin; refine wpL_append1 _ rfl _ _ _ rfl w.heap.size 29 (.slice none 0 0) 24 Try.underlying24 sliceInfo rfl _ k _ _ rfl hown2 (.slice A3 m c3) rfl rfl (by unfold maxLen; omega) (by omega) hsz2 ?_)
        intro A4 c4 w4 ho4 hg4 hat4
        have hb4 := own_below hown2 hbl2 hsz2 hg4
        have hrs4 := rowsIn_push (cR := c3) hown2 hrs2 (fun g hg => (hAA g hg).2) (by omega) ((o3).more hsz) (fun g hg => (hRR g hg).1) hg4 hat4
        go_wp2
        go_roundw
        case rel => exact ⟨k + 1, A4, c4, _, by omega, by go_num, rfl, ho4, hrs4, hb4⟩
        case measure => (simp [intOf] <;> omega)
    · obtain rfl : k = r := by omega
      have HL := Lib.hid (meshL_len zs k m)
      have hrs5 : RowsIn wr w.heap.size wr.heap.size A' k (row (meshL zs k m)) vs := by
        intro j hj
        have := hrs j hj
        rw [meshL_row hj]
        exact this
      go_wp2
      go_ret2
      exact ⟨_, _, _, rfl, ⟨HL.out, vs, hown, fun g hg => (hown.blk_ g hg).2, hrs5⟩, hbl⟩

def okMesh (n : Nat) (x y : Int) : Bool := decide ((1 ≤ x ∧ x ≤ 4) ∧ (1 ≤ y ∧ y ≤ 4) ∧ (n : Int) = x * y)
def mofL (n : Nat) (zs : List Int) (x y : Int) : List (List Int) := if okMesh n x y = true then meshL zs x.toNat y.toNat else []
theorem mofL_no {n : Nat} {zs : List Int} {x y : Int} (h : okMesh n x y = false) : mofL n zs x y = [] := by rw [mofL, h]; rfl
theorem mofL_yes {n r m : Nat} {zs : List Int} (h : okMesh n r m = true) : mofL n zs r m = meshL zs r m := by rw [mofL, h, Int.toNat_natCast, Int.toNat_natCast]; rfl
theorem mofL_tot {n : Nat} (zs : List Int) (x y : Int) : (mofL n zs x y).length + tot (mofL n zs x y) (mofL n zs x y).length ≤ 1048576 := by
  cases h : okMesh n x y with
  | false => rw [mofL_no h]; simp [tot_zero]
  | true =>
    have h' := h
    simp only [okMesh, decide_eq_true_eq] at h'
    obtain ⟨h1, h2, h3⟩ := h'
    obtain ⟨r, rfl⟩ := Int.eq_ofNat_of_zero_le (show 0 ≤ x by omega)
    obtain ⟨m, rfl⟩ := Int.eq_ofNat_of_zero_le (show 0 ≤ y by omega)
    rw [mofL_yes h, meshL_len]
    have t : ∀ k, k ≤ r → tot (meshL zs r m) k ≤ k * 4 := by
      intro k
      induction k with
      | zero => intro _; rw [tot_zero]; omega
      | succ k ih =>
        intro hk
        rw [tot_succ, meshL_row (by omega), snakeRow_len, Nat.succ_mul]
        have := ih (by omega)
        have : (part zs m k).length ≤ m := by simp [part]; omega
        omega
    have := t r (Nat.le_refl _)
    omega
theorem okMesh_out {n : Nat} {x y : Int} (h : okMesh n x y = true) : ∃ r m : Nat, x = r ∧ y = m ∧ (1 ≤ r ∧ r ≤ 4) ∧ (1 ≤ m ∧ m ≤ 4) ∧ n = r * m := by
  simp only [okMesh, decide_eq_true_eq] at h
  obtain ⟨h1, h2, h3⟩ := h
  obtain ⟨r, rfl⟩ := Int.eq_ofNat_of_zero_le (show 0 ≤ x by omega)
  obtain ⟨m, rfl⟩ := Int.eq_ofNat_of_zero_le (show 0 ≤ y by omega)
  exact ⟨r, m, rfl, rfl, by omega, by omega, by rw [← Int.natCast_mul] at h3; omega⟩

set_option maxHeartbeats 2000000 in
theorem specMeshOf (A : Option Addr) (n c : Nat) (zs : List Int) (x y : Int) (w : World) (ha : RdI w A n zs) (hn : n ≤ 1048576) (hc : n ≤ c ∧ c ≤ maxLen) :
    Calls Try.prog 20 #[.slice A n c, .int .i64 x, .int .i64 y] w fun e w' => ∃ A' n' c', e = .returned (.tuple #[.slice A' n' c', .bool (okMesh n x y)]) ∧ OwnR w' w.heap.size w'.heap.size A' n' c' (mofL n zs x y) ∧ Below w.heap.size w w' := by
  cases hg : okMesh n x y with
  | true =>
    obtain ⟨r, m, rfl, rfl, hr, hm, hnn⟩ := okMesh_out hg
    rw [mofL_yes hg]
    exact specMeshOf_yes A n c r m zs w ha hc.1 hc.2 hr hm hnn
  | false =>
    have H := Lib.hid (mofL_no (zs := zs) hg)
    simp only [okMesh, decide_eq_false_iff_not] at hg
    by_cases hx : 1 ≤ x ∧ x ≤ 4
    · by_cases hy : 1 ≤ y ∧ y ≤ 4
      · obtain ⟨r, rfl⟩ := Int.eq_ofNat_of_zero_le (show 0 ≤ x by omega)
        obtain ⟨m, rfl⟩ := Int.eq_ofNat_of_zero_le (show 0 ≤ y by omega)
        obtain ⟨p, hp⟩ : ∃ p, r * m = p := ⟨_, rfl⟩
        have e1 : (r : Int) * (m : Int) = (p : Int) := by rw [← hp]; simp
        have hp16 : p ≤ 16 := by have := Nat.mul_le_mul (show r ≤ 4 by omega) (show m ≤ 4 by omega); omega
        have hne : n ≠ p := fun h => hg ⟨hx, hy, by rw [e1, h]⟩
        have e2 : ((n : Int) != (p : Int)) = true := by simp; omega
        have d1 : decide ((r : Int) < 1) = false := by simp; omega
        have d2 : decide (4 < (r : Int)) = false := by simp; omega
        have d3 : decide ((m : Int) < 1) = false := by simp; omega
        have d4 : decide (4 < (m : Int)) = false := by simp; omega
        clear hg hp hne
        go_enter Try.func20, Try.ntmps20
        go_wp2_with (go_at_call 45; refine (l01In_yes _ _ _ _ (by omega)).mono ?_; rintro e w' ⟨rfl, rfl⟩)
        go_ret2
        exact ⟨_, _, _, rfl, by rw [H.out]; exact OwnR.nil_ _ _ _, Below.refl _ _⟩
      · clear hg
        have d1 : decide (x < 1) = false := by simp; omega
        have d2 : decide (4 < x) = false := by simp; omega
        by_cases hy1 : y < 1
        · go_enter Try.func20, Try.ntmps20
          go_wp2_with (go_at_call 45; first | (refine (l01In_yes _ _ _ _ (by omega)).mono ?_; rintro e w' ⟨rfl, rfl⟩) | (refine (l01In_no _ _ _ _ (by omega)).mono ?_; rintro e w' ⟨rfl, rfl⟩))
          go_ret2
          exact ⟨_, _, _, rfl, by rw [H.out]; exact OwnR.nil_ _ _ _, Below.refl _ _⟩
        · have d3 : decide (y < 1) = false := by simp; omega
          have d4 : decide (4 < y) = true := by simp; omega
          go_enter Try.func20, Try.ntmps20
          go_wp2_with (go_at_call 45; first | (refine (l01In_yes _ _ _ _ (by omega)).mono ?_; rintro e w' ⟨rfl, rfl⟩) | (refine (l01In_no _ _ _ _ (by omega)).mono ?_; rintro e w' ⟨rfl, rfl⟩))
          go_ret2
          exact ⟨_, _, _, rfl, by rw [H.out]; exact OwnR.nil_ _ _ _, Below.refl _ _⟩
    · clear hg
      by_cases hx1 : x < 1
      · go_enter Try.func20, Try.ntmps20
        go_wp2_with (go_at_call 45; refine (l01In_no _ _ _ _ (by omega)).mono ?_; rintro e w' ⟨rfl, rfl⟩)
        go_ret2
        exact ⟨_, _, _, rfl, by rw [H.out]; exact OwnR.nil_ _ _ _, Below.refl _ _⟩
      · have d1 : decide (x < 1) = false := by simp; omega
        have d2 : decide (4 < x) = true := by simp; omega
        go_enter Try.func20, Try.ntmps20
        go_wp2_with (go_at_call 45; refine (l01In_no _ _ _ _ (by omega)).mono ?_; rintro e w' ⟨rfl, rfl⟩)
        go_ret2
        exact ⟨_, _, _, rfl, by rw [H.out]; exact OwnR.nil_ _ _ _, Below.refl _ _⟩

set_option maxHeartbeats 2000000 in
theorem implMeshOf (A : Option Addr) (n c : Nat) (zs : List Int) (x y : Int) (w : World) (ha : RdI w A n zs) (hn : n ≤ 1048576) (hc : n ≤ c ∧ c ≤ maxLen) :
    Calls Try.prog 22 #[.slice A n c, .int .i64 x, .int .i64 y] w fun e w' => ∃ A' n' c', e = .returned (.tuple #[.slice A' n' c', .bool (okMesh n x y)]) ∧ OwnR w' w.heap.size w'.heap.size A' n' c' (mofL n zs x y) ∧ Below w.heap.size w w' := by
  cases hg : okMesh n x y with
  | true =>
    obtain ⟨r, m, rfl, rfl, hr, hm, hnn⟩ := okMesh_out hg
    rw [mofL_yes hg]
    exact implMeshOf_yes A n c r m zs w ha hc.1 hc.2 hr hm hnn
  | false =>
    have H := Lib.hid (mofL_no (zs := zs) hg)
    simp only [okMesh, decide_eq_false_iff_not] at hg
    by_cases hx : 1 ≤ x ∧ x ≤ 4
    · by_cases hy : 1 ≤ y ∧ y ≤ 4
      · obtain ⟨r, rfl⟩ := Int.eq_ofNat_of_zero_le (show 0 ≤ x by omega)
        obtain ⟨m, rfl⟩ := Int.eq_ofNat_of_zero_le (show 0 ≤ y by omega)
        obtain ⟨p, hp⟩ : ∃ p, r * m = p := ⟨_, rfl⟩
        have e1 : (r : Int) * (m : Int) = (p : Int) := by rw [← hp]; simp
        have hp16 : p ≤ 16 := by have := Nat.mul_le_mul (show r ≤ 4 by omega) (show m ≤ 4 by omega); omega
        have hne : n ≠ p := fun h => hg ⟨hx, hy, by rw [e1, h]⟩
        have e2 : ((n : Int) != (p : Int)) = true := by simp; omega
        have d1 : decide ((r : Int) < 1) = false := by simp; omega
        have d2 : decide (4 < (r : Int)) = false := by simp; omega
        have d3 : decide ((m : Int) < 1) = false := by simp; omega
        have d4 : decide (4 < (m : Int)) = false := by simp; omega
        clear hg hp hne
        go_enter Try.func22, Try.ntmps22
        go_wp2
        go_ret2
        exact ⟨_, _, _, rfl, by rw [H.out]; exact OwnR.nil_ _ _ _, Below.refl _ _⟩
      · clear hg
        have d1 : decide (x < 1) = false := by simp; omega
        have d2 : decide (4 < x) = false := by simp; omega
        by_cases hy1 : y < 1
        · go_enter Try.func22, Try.ntmps22
          go_wp2
          go_ret2
          exact ⟨_, _, _, rfl, by rw [H.out]; exact OwnR.nil_ _ _ _, Below.refl _ _⟩
        · have d3 : decide (y < 1) = false := by simp; omega
          have d4 : decide (4 < y) = true := by simp; omega
          go_enter Try.func22, Try.ntmps22
          go_wp2
          go_ret2
          exact ⟨_, _, _, rfl, by rw [H.out]; exact OwnR.nil_ _ _ _, Below.refl _ _⟩
    · clear hg
      by_cases hx1 : x < 1
      · go_enter Try.func22, Try.ntmps22
        go_wp2
        go_ret2
        exact ⟨_, _, _, rfl, by rw [H.out]; exact OwnR.nil_ _ _ _, Below.refl _ _⟩
      · have d1 : decide (x < 1) = false := by simp; omega
        have d2 : decide (4 < x) = true := by simp; omega
        go_enter Try.func22, Try.ntmps22
        go_wp2
        go_ret2
        exact ⟨_, _, _, rfl, by rw [H.out]; exact OwnR.nil_ _ _ _, Below.refl _ _⟩

end Go.Proofs.Ytogfnmjedeoecaa
