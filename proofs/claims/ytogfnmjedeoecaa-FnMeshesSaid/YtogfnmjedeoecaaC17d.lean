/- Chapter 17: rows in the other direction. -/
import Derived.Test.YtogfnmjedeoecaaC17b
import Derived.Test.YtogfnmjedeoecaaMat2
namespace Go.Proofs.Ytogfnmjedeoecaa
open Go.RowKit Go.Deep
set_option linter.unusedVariables false

def revTo (zs : List Int) (q : Nat) : List Int := (List.range q).map fun j => nth zs (zs.length - 1 - j)
theorem revTo_zero (zs : List Int) : revTo zs 0 = [] := rfl
theorem revTo_succ (zs : List Int) (q : Nat) : revTo zs (q + 1) = revTo zs q ++ [nth zs (zs.length - 1 - q)] := by simp [revTo, List.range_succ]
theorem revTo_len (zs : List Int) (q : Nat) : (revTo zs q).length = q := by simp [revTo]
def swTo (zs : List Int) (k : Nat) : List Int := (List.range zs.length).map fun j => if j < k ∨ zs.length ≤ j + k then nth zs (zs.length - 1 - j) else nth zs j
theorem sw_zero (zs : List Int) : swTo zs 0 = zs := by
  apply List.ext_getElem
  · simp [swTo]
  · intro i h1 h2
    simp only [swTo, List.getElem_map, List.getElem_range]
    rw [if_neg (by omega), nth_eq h2]
theorem sw_len (zs : List Int) (k : Nat) : (swTo zs k).length = zs.length := by simp [swTo]
theorem sw_nth {zs : List Int} {k j : Nat} (h : k ≤ j) (h2 : j + k < zs.length) : nth (swTo zs k) j = nth zs j := by
  rw [nth_eq (by rw [sw_len]; omega)]
  simp only [swTo, List.getElem_map, List.getElem_range]
  rw [if_neg (by omega)]
theorem sw_succ {zs : List Int} {k l : Nat} (h : k + l + 1 = zs.length) (hkl : k < l) : ((swTo zs k).set k (nth zs l)).set l (nth zs k) = swTo zs (k + 1) := by
  apply List.ext_getElem
  · simp [swTo]
  · intro i h1 h2
    simp only [List.getElem_set]
    simp only [swTo, List.getElem_map, List.getElem_range]
    by_cases e1 : l = i
    · subst e1
      rw [if_pos rfl, if_pos (by omega), show zs.length - 1 - l = k by omega]
    · rw [if_neg e1]
      by_cases e2 : k = i
      · subst e2
        rw [if_pos rfl, if_pos (by omega), show zs.length - 1 - k = l by omega]
      · rw [if_neg e2]
        by_cases e3 : i < k ∨ zs.length ≤ i + k
        · rw [if_pos e3, if_pos (by omega)]
        · rw [if_neg e3, if_neg (by omega)]
theorem sw_end {zs : List Int} {k l : Nat} (h : k + l + 1 = zs.length) (hkl : ¬ k < l) (h2 : k ≤ l + 1) : swTo zs k = revTo zs zs.length := by
  apply List.ext_getElem
  · simp [swTo, revTo]
  · intro i h1 h2
    simp only [swTo, revTo, List.getElem_map, List.getElem_range]
    simp [swTo] at h1
    by_cases e3 : i < k ∨ zs.length ≤ i + k
    · rw [if_pos e3]
    · rw [if_neg e3, show zs.length - 1 - i = i by omega]
attribute [irreducible] revTo swTo

set_option maxHeartbeats 1000000 in
theorem specTurn (A : Option Addr) (n c : Nat) (zs : List Int) (w : World) (ha : RdI w A n zs) (hn : n ≤ 1048576) :
    Calls Try.prog 66 #[.slice A n c] w fun e w' => ∃ A' c', e = .returned (.slice A' n c') ∧ OwnI w' w.heap.size 3 A' n c' (revTo zs n) ∧ Below w.heap.size w w' := by
  have hl := Lib.hid ha.lenI
  go_enter Try.func66, Try.ntmps66
  go_wp2
  go_loopw [3, 4] (fun v i wr => ∃ q : Nat, ∃ z : Int, ∃ A' c', q ≤ n ∧ i = .int .i64 z ∧ v = .slice A' q c' ∧ OwnI wr w.heap.size 3 A' q c' (revTo zs q) ∧ Below w.heap.size w wr ∧ z + q + 1 = n) (fun _ i _ => (intOf i + 1).toNat)
  case atStart => exact ⟨0, _, _, _, Nat.zero_le _, rfl, rfl, by simpa [OwnI, revTo_zero] using own_empty w 3, below_alloc w _, by omega⟩
  case round =>
    obtain ⟨q, z, A', c', hq, rfl, rfl, hown, hbl, hz⟩ := hrel
    have hsz := hbl.size
    by_cases hlt : q < n
    · obtain ⟨l, rfl⟩ := Int.eq_ofNat_of_zero_le (show 0 ≤ z by omega)
      obtain ⟨a1, rfl, _, h1⟩ := (ha.below hbl).at_ (show l < n by omega)
      have H := Lib.hid (show revTo zs (q + 1) = revTo zs q ++ [nth zs l] by rw [revTo_succ, hl.out, show n - 1 - q = l by omega])
      have hz2 : l + q + 1 = n := by omega
      clear hz
      go_wp2_with (at_builtin; refine wpL_append1 _ rfl _ _ _ rfl w.heap.size 3 (.int .i64 0) 8 Try.underlying29 intInfo rfl _ q _ _ rfl hown _ rfl rfl (by unfold maxLen; omega) (by omega) hsz ?_)
      intro A2 c2 w2 ho2 hg2 hat2
      have hb2 := own_below hown hbl hsz hg2
      go_wp2
      go_roundw
      case rel => exact ⟨q + 1, _, A2, c2, by omega, rfl, rfl, by rw [OwnI, H.out, List.map_append]; simpa using ho2, hb2, by omega⟩
      case measure => (simp [intOf] <;> omega)
    · obtain rfl : q = n := by omega
      obtain rfl : z = -1 := by omega
      clear hz
      go_wp2
      go_ret
      exact ⟨_, _, rfl, hown, hbl⟩

def snakeRow (zs : List Int) (r : Nat) : List Int := if r % 2 = 1 then revTo zs zs.length else zs
theorem snakeRow_odd {zs : List Int} {r n : Nat} (hl : zs.length = n) (h : r % 2 = 1) : snakeRow zs r = revTo zs n := by rw [snakeRow, if_pos h, hl]
theorem snakeRow_even {zs : List Int} {r : Nat} (h : ¬ r % 2 = 1) : snakeRow zs r = zs := by rw [snakeRow, if_neg h]
theorem snakeRow_len (zs : List Int) (r : Nat) : (snakeRow zs r).length = zs.length := by
  unfold snakeRow
  split
  · rw [revTo_len]
  · rfl
def snakeTo (zss : List (List Int)) : Nat → List Int
  | 0 => []
  | k + 1 => snakeTo zss k ++ snakeRow (row zss k) k
theorem snakeTo_zero (zss : List (List Int)) : snakeTo zss 0 = [] := rfl
theorem snakeTo_succ (zss : List (List Int)) (k : Nat) : snakeTo zss (k + 1) = snakeTo zss k ++ snakeRow (row zss k) k := rfl
theorem snakeTo_len {zss : List (List Int)} {n m : Nat} (h : ∀ k, k < n → (row zss k).length = m) : ∀ k, k ≤ n → (snakeTo zss k).length = k * m := by
  intro k
  induction k with
  | zero => intro _; simp [snakeTo]
  | succ k ih => intro hk; rw [snakeTo, List.length_append, ih (by omega), snakeRow_len, h k (by omega), Nat.succ_mul]
def snakeV (zss : List (List Int)) : List Int := if meshV zss = true then snakeTo zss zss.length else []
theorem snakeV_no {zss : List (List Int)} (h : meshV zss = false) : snakeV zss = [] := by rw [snakeV, h]; rfl
theorem snakeV_yes {zss : List (List Int)} {n : Nat} (hl : zss.length = n) (h : meshV zss = true) : snakeV zss = snakeTo zss n := by rw [snakeV, h, hl]; rfl
theorem snakeV_len (zss : List (List Int)) : (snakeV zss).length ≤ 1048576 := by
  cases h : meshV zss with
  | false => rw [snakeV_no h]; simp
  | true =>
    obtain ⟨h1, h2, m, h3, h4, h5⟩ := mesh_out h rfl
    rw [snakeV_yes rfl h, snakeTo_len h5 _ (Nat.le_refl _)]
    have : zss.length * m ≤ 4 * 4 := Nat.mul_le_mul h2 h4
    omega
attribute [irreducible] snakeRow snakeTo

set_option maxHeartbeats 1000000 in
theorem implReverse (A : Option Addr) (n c base : Nat) (zs : List Int) (w : World) (ha : OwnI w base 3 A n c zs) (hn1 : 1 ≤ n) (hn : n ≤ 1048576) :
    Calls Try.prog 49 #[.slice A n c] w fun e w' => e = .returned (.tuple #[]) ∧ OwnI w' base 3 A n c (revTo zs n) ∧ w.grownBy w' (blk A) := by
  have hl := Lib.hid ha.lenI
  obtain ⟨g, u, rfl, _, _, _, _, _⟩ := ha.at_ (show 0 < n by omega)
  go_enter Try.func49, Try.ntmps49
  go_wp2
  go_loopw [2, 3] (fun i j wr => ∃ k l : Nat, i = .int .i64 k ∧ j = .int .i64 l ∧ k + l + 1 = n ∧ k ≤ l + 1 ∧ OwnI wr base 3 (some ⟨g, 0, none⟩) n c (swTo zs k) ∧ w.grownBy wr (some g)) (fun i _ _ => n - (intOf i).toNat)
  case atStart => exact ⟨0, n - 1, rfl, int_eq (by omega), by omega, by omega, by rw [sw_zero]; exact ha, World.grownBy.refl _ _⟩
  case round =>
    obtain ⟨k, l, rfl, rfl, hkl, hle, ho, hg⟩ := hrel
    by_cases hlt : k < l
    · obtain ⟨g1, u1, e1, _, _, hu1, h1, f1⟩ := ho.at_ (show k < n by omega)
      obtain ⟨g2, u2, e2, _, _, hu2, h2, f2⟩ := ho.at_ (show l < n by omega)
      injection e1 with e1
      injection e1 with e1
      subst e1
      injection e2 with e2
      injection e2 with e2
      subst e2
      have r1 := (ho.rd.at_ (show k < n by omega))
      have r2 := (ho.rd.at_ (show l < n by omega))
      rw [sw_nth (by omega) (by rw [hl.out]; omega)] at r1 r2
      obtain ⟨b1, eb1, _, r1⟩ := r1
      obtain ⟨b2, eb2, _, r2⟩ := r2
      injection eb1 with eb1
      injection eb2 with eb2
      subst eb1
      subst eb2
      have q1 : u1 = .int .i64 (nth zs k) := by
        have : wr.cell? ((⟨g, 0, none⟩ : Addr).add k) = wr.cell? ⟨g, k, none⟩ := World.cell?_of_block rfl |>.trans (by unfold Addr.add; split <;> simp_all)
        rw [this, h1] at r1
        injection r1
      have q2 : u2 = .int .i64 (nth zs l) := by
        have : wr.cell? ((⟨g, 0, none⟩ : Addr).add l) = wr.cell? ⟨g, l, none⟩ := World.cell?_of_block rfl |>.trans (by unfold Addr.add; split <;> simp_all)
        rw [this, h2] at r2
        injection r2
      subst q1
      subst q2
      clear r1 r2 hu1 hu2
      have ho2 := (ho.setI (x := nth zs l) (show k < n by omega)).setI (x := nth zs k) (show l < n by omega)
      rw [sw_succ (by rw [hl.out]; exact hkl) hlt] at ho2
      have hg2 := grownBy_set (grownBy_set hg (p := ⟨g, k, none⟩) rfl (.int .i64 (nth zs l))) (p := ⟨g, l, none⟩) rfl (.int .i64 (nth zs k))
      have HK := Lib.hid hkl
      have hkn : k < n := by omega
      have hln : l < n := by omega
      clear ho hg hkl
      go_wp2
      go_region
      all_goals
        go_wp2
        go_roundw
        case rel => exact ⟨k + 1, l - 1, by go_num, int_eq (by omega), by have := HK.out; omega, by omega, ho2, grownBy_drew hg2⟩
        case measure => (simp [intOf] <;> omega)
    · have H := Lib.hid (show swTo zs k = revTo zs n by rw [sw_end (by rw [hl.out]; exact hkl) hlt hle, hl.out])
      go_wp2
      go_end0
      exact ⟨rfl, by rw [← H.out]; exact ho, hg⟩

theorem implClone (ad : Addr) (n c : Nat) (zs : List Int) (w : World) (ha : RdI w (some ad) n zs) (hn : n ≤ 1048576) :
    Calls Try.prog 48 #[.slice (some ad) n c] w fun e w' => ∃ A' c', e = .returned (.slice A' n c') ∧ OwnI w' w.heap.size 3 A' n c' zs ∧ Below w.heap.size w w' := by
  have q : ∀ w : World, (binOp .eql 29 (.slice (some ad) n c) (.slice none 0 0)).run Try.prog w = .ok (.bool false) w := fun w => Lib.run_eql_slice_nil w _ _ _ _ _ _ _ Try.underlying29
  go_enter Try.func48, Try.ntmps48
  go_wp2_with (at_builtin; refine wpL_append _ rfl _ _ _ rfl w.heap.size 3 (.int .i64 0) 8 Try.underlying29 intInfo rfl _ 0 _ [] rfl (own_empty _ _) (some ad) n c (zs.map (Value.int .i64)) rfl (ha.alloc _) (ints_one _) (by unfold maxLen; omega) (by omega) (by simp) ?_)
  intro A2 c2 w2 ho2 hg2 hat2
  have hb2 := own_below (own_empty w 3) (below_alloc w _) (by simp) hg2
  try simp only [Nat.zero_add] at ho2 ⊢
  go_wp2
  go_ret
  exact ⟨_, _, rfl, by simpa using ho2, hb2⟩

end Go.Proofs.Ytogfnmjedeoecaa
