/- Chapter 12: spec.l12All, the standard comparators. -/
import Derived.Test.YtobdkfhmmpigiaaC12e
import Derived.Test.YtobdkfhmmpigiaaApp1
namespace Go.Proofs.Ytobdkfhmmpigiaa
open Go.RowKit Go.Deep
set_option linter.unusedVariables false

theorem row_snoc_lt {zss : List (List Int)} {r : List Int} {j : Nat} (h : j < zss.length) : row zss j = row (zss ++ [r]) j := by
  unfold row; rw [List.getD_eq_getElem?_getD, List.getD_eq_getElem?_getD, List.getElem?_append_left h]
theorem row_snoc_eq {zss : List (List Int)} {r : List Int} {j : Nat} (h : zss.length = j) : row (zss ++ [r]) j = r := by
  subst h; unfold row; rw [List.getD_eq_getElem?_getD, List.getElem?_append_right (Nat.le_refl _)]; simp
theorem RowsIn.congr {w : World} {lo hi n : Nat} {A : Option Addr} {f f' : Nat → List Int} {vs : List Value} (h : RowsIn w lo hi A n f vs) (hf : ∀ j, j < n → f j = f' j) : RowsIn w lo hi A n f' vs := by
  intro j hj
  rw [← hf j hj]
  exact h j hj
abbrev pr (a b : Nat) : List Int := [(a : Int), (b : Int)]
theorem own_pair2 (w : World) (x y : Int) : OwnI (w.alloc (.cells #[.int .i64 x, .int .i64 y] 3)) w.heap.size 3 (some ⟨w.heap.size, 0, none⟩) 2 2 [x, y] :=
  World.ownsRow_lit (base := w.heap.size) (e := 3) (size := 1) w #[.int .i64 x, .int .i64 y] 2 (Nat.le_refl _) (by unfold maxLen; omega) rfl

/-- The comparators of wire i with the d wires behind it. -/
def inL (i : Nat) : Nat → List (List Int)
  | 0 => []
  | d + 1 => inL i d ++ [pr i (i + 1 + d)]
/-- The standard comparators whose first wire is below i. -/
def stdTo (n : Nat) : Nat → List (List Int)
  | 0 => []
  | i + 1 => stdTo n i ++ inL i (n - 1 - i)
def stdL (n : Nat) : List (List Int) := stdTo n n
theorem in_step (z : List (List Int)) (i d k : Nat) (h : i + 1 + d = k) : (z ++ inL i d) ++ [pr i k] = z ++ inL i (d + 1) := by
  subst h; rw [inL, List.append_assoc]
theorem in_start (z : List (List Int)) (i : Nat) : z ++ inL i 0 = z := by rw [inL, List.append_nil]
theorem std_step (n i : Nat) : stdTo n i ++ inL i (n - 1 - i) = stdTo n (i + 1) := rfl

set_option maxHeartbeats 4000000 in
theorem specStd (n : Nat) (w : World) (hn : n ≤ 4) : Calls Try.prog 16 #[.int .i64 n] w fun e w' => ∃ A m c, e = .returned (.slice A m c) ∧ m ≤ 16 ∧ OwnR w' w.heap.size w'.heap.size A m c (stdL n) ∧ Below w.heap.size w w' := by
  obtain ⟨B, hB⟩ : ∃ B, w.heap.size = B := ⟨_, rfl⟩
  have HB := Lib.hid hB
  have HO0 := Lib.hid (show Own (w.alloc (.cells #[] 28)) B 28 (some ⟨w.heap.size, 0, none⟩) 0 0 [] from hB ▸ own_empty w _)
  have HL0 := Lib.hid (show Below B w (w.alloc (.cells #[] 28)) from hB ▸ below_alloc w _)
  rw [hB]
  clear hB
  go_enter Try.func16, Try.ntmps16
  go_wp2_with fail
  go_loopw [3, 4, 5] (fun mv iv _ wr => ∃ i k : Nat, ∃ A c vs zss, mv = .slice A k c ∧ iv = .int .i64 (i : Nat) ∧ i ≤ n ∧ k ≤ 4 * i ∧ Hid (stdTo n i = zss) ∧ Hid (zss.length = k) ∧ Own wr B 28 A k c vs ∧ RowsIn wr B wr.heap.size A k (row zss) vs ∧ Below B w wr) (fun _ iv _ _ => n - (intOf iv).toNat)
  case atStart => exact ⟨0, 0, _, _, [], [], rfl, rfl, by omega, by omega, Lib.hid rfl, Lib.hid rfl, HO0.out, fun j hj => by omega, HL0.out⟩
  case round =>
    obtain ⟨i, k, A, c, vs, zss, rfl, rfl, hin, hk4, HZ, HL, hown, hrs, hbl⟩ := hrel
    by_cases hlt : i < n
    · go_wp2_with fail
      go_loopw [3, 5] (fun mv jv wr => ∃ d j k : Nat, ∃ A c vs zss2, mv = .slice A k c ∧ jv = .int .i64 (j : Nat) ∧ j = i + 1 + d ∧ j ≤ n ∧ k ≤ 4 * i + d ∧ Hid (zss ++ inL i d = zss2) ∧ Hid (zss2.length = k) ∧ Own wr B 28 A k c vs ∧ RowsIn wr B wr.heap.size A k (row zss2) vs ∧ Below B w wr) (fun _ jv _ => n - (intOf jv).toNat)
      case atStart => exact ⟨0, i + 1, k, A, c, vs, zss, rfl, by go_num, by omega, by omega, by omega, Lib.hid (in_start _ _), HL, hown, hrs, hbl⟩
      case round =>
        clear hown hrs hbl HL hk4
        obtain ⟨d, j, k, A, c, vs, zss2, rfl, rfl, hj, hjn, hk4, HZ2, HL2, hown, hrs, hbl⟩ := hrel
        have HJ := Lib.hid hj
        have hd : d ≤ 3 := by omega
        have hszr : B ≤ wr.heap.size := by have := hbl.size; rw [HB.out] at this; exact this
        clear hj
        by_cases hlt2 : j < n
        · have hAA := hown.blk_
          have HRW := Lib.hid ((own_pair2 wr (i : Int) (j : Int)).more hszr)
          have HOW := Lib.hid (hown.alloc (.cells #[.int .i64 (i : Int), .int .i64 (j : Int)] 3))
          have HRS := Lib.hid (RowsIn.keep (w' := wr.alloc (.cells #[.int .i64 (i : Int), .int .i64 (j : Int)] 3)) hrs (fun q h1 h2 h3 => Below.heap_alloc wr _ q h3))
          have HBL := Lib.hid (hbl.trans ((below_alloc wr (.cells #[.int .i64 (i : Int), .int .i64 (j : Int)] 3)).mono hszr))
          clear hown hrs hbl
          go_wp2_with (at_builtin; refine wpL_append1_at _ rfl _ _ _ rfl B 28 (.slice none 0 0) 24 Try.underlying26 sliceInfo rfl _ k _ _ rfl HOW.out (.slice (some ⟨wr.heap.size, 0, none⟩) 2 2) (wr.heap.size + 1) (by simp) rfl rfl (by unfold maxLen; omega) (by omega) (by simp; omega) ?_)
          intro A6 c6 w6 ho6 hg6 hat6
          have hb6 := own_below HOW.out HBL.out (by simp; omega) hg6
          have hrs6 := rowsIn_push (f := row (zss2 ++ [pr i j])) (cR := 2) HOW.out (HRS.out.congr fun q hq => row_snoc_lt (by rw [HL2.out]; exact hq)) (fun q hq => (hAA q hq).2) (by simp) (by rw [row_snoc_eq HL2.out]; exact HRW.out) (fun q hq => by have h3 : wr.heap.size = q := (by simpa [blk] using hq); omega) hg6 (by simpa using hat6)
          go_wp2_with fail
          go_roundw
          case rel => exact ⟨d + 1, j + 1, k + 1, A6, c6, _, zss2 ++ [pr i j], rfl, by go_num, by have := HJ.out; omega, by omega, by omega, Lib.hid (by rw [← HZ2.out]; exact (in_step _ _ _ _ HJ.out.symm).symm), Lib.hid (by rw [List.length_append, HL2.out]; rfl), ho6, hrs6, hb6⟩
          case measure => (simp [intOf] <;> omega)
        · have HN := Lib.hid (show stdTo n (i + 1) = zss2 by rw [← HZ2.out, ← HZ.out, ← std_step, show n - 1 - i = d by have := HJ.out; omega])
          go_wp2_with fail
          go_roundw
          case rel => exact ⟨i + 1, k, A, c, vs, zss2, rfl, by go_num, by omega, by omega, HN, HL2, hown, hrs, hbl⟩
          case measure => (simp [intOf] <;> omega)
    · obtain rfl : i = n := by omega
      go_wp2_with fail
      go_ret
      exact ⟨A, k, c, rfl, by omega, ⟨by rw [stdL, HZ.out]; exact HL.out, vs, hown, fun q hq => (hown.blk_ q hq).2, by rw [stdL, HZ.out]; exact hrs⟩, hbl⟩
end Go.Proofs.Ytobdkfhmmpigiaa
