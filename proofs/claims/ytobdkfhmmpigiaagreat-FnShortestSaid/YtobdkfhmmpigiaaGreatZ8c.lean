/- FnShortest: spec.l01Once, l02Pairs, InsertionNetwork. -/
import Derived.Test.YtobdkfhmmpigiaaGreatZ8b
namespace Go.Proofs.YtobdkfhmmpigiaaGreat
open Go.RowKit Go.Deep
set_option linter.unusedVariables false

theorem own_pair (w : World) (x y : Int) : OwnI (w.alloc (.cells #[.int .i64 x, .int .i64 y] 3)) w.heap.size 3 (some ⟨w.heap.size, 0, none⟩) 2 2 [x, y] := own_pairI w x y
theorem specOnce (g n : Nat) (w : World) (hc : Cur w g) (h1 : 1 ≤ n) (h2 : n ≤ 256) : Calls Tryz.prog 35 #[.pointer (some ⟨g, 0, none⟩), .int .i64 n] w fun e w' => ∃ b : Bool, e = .returned (.bool b) ∧ Cur w' g ∧ w.grownBy w' (some g) := by
  go_enter Tryz.func35, Tryz.ntmps35
  go_wp2_with fail
  refine (specBelow g n w hc h1 h2).mono ?_
  rintro e w1 ⟨x, hx, rfl, hc1, hg1⟩
  go_wp2_with fail
  go_ret
  exact ⟨_, rfl, hc1, hg1⟩
set_option maxHeartbeats 8000000 in
theorem specPairs4 (g n : Nat) (up : Bool) (w : World) (hc : Cur w g) (hn1 : 1 ≤ n) (hn : n ≤ 6) : Calls Tryz.prog 32 #[.pointer (some ⟨g, 0, none⟩), .int .i64 n, .int .i64 4, .bool up] w fun e w' => ∃ A m c zss, e = .returned (.slice A m c) ∧ m ≤ 4 ∧ NetR n m zss ∧ OwnR w' w.heap.size w'.heap.size A m c zss ∧ Cur w' g ∧ w.grownBy w' (some g) := by
  have hgw := hc.lt
  obtain ⟨B, hB⟩ : ∃ B, w.heap.size = B := ⟨_, rfl⟩
  have HB := Lib.hid hB
  have HC0 := Lib.hid (hc.below (below_alloc w (.cells #[] 30)))
  have HO0 := Lib.hid (show Own (w.alloc (.cells #[] 30)) B 30 (some ⟨w.heap.size, 0, none⟩) 0 0 [] from hB ▸ own_empty w _)
  have HG0 := Lib.hid (grown_alloc w g (.cells #[] 30))
  rw [hB] at hgw ⊢
  clear hB hc
  go_enter Tryz.func32, Tryz.ntmps32
  go_wp2_with fail
  refine (specBelow g 5 _ HC0.out (by omega) (by omega)).mono ?_
  rintro e w1 ⟨x0, hx0, rfl, hc1, hg1⟩
  have HO1 := Lib.hid (own_cur HO0.out hg1 hgw)
  have HG1 := Lib.hid (HG0.out.trans hg1)
  have HC1 := Lib.hid hc1
  obtain ⟨n1, hn1e⟩ : ∃ n1, n - 1 = n1 := ⟨_, rfl⟩
  have en1 : (n : Int) - 1 = (n1 : Int) := by omega
  have hn1a : n1 + 1 ≤ n := by omega
  have hn1b : n ≤ n1 + 1 := by omega
  clear hn1e hg1 hc1
  go_wp2_with fail
  go_loopw [9, 10] (fun mv rv wr => ∃ k r : Nat, ∃ A c vs zss, mv = .slice A k c ∧ rv = .int .i64 (r : Nat) ∧ k + r ≤ 4 ∧ Hid (NetR n k zss) ∧ Own wr B 30 A k c vs ∧ RowsIn wr B wr.heap.size A k (row zss) vs ∧ Cur wr g ∧ w.grownBy wr (some g)) (fun _ rv _ => (intOf rv).toNat)
  case atStart => exact ⟨0, x0, _, _, [], [], rfl, rfl, by omega, Lib.hid (netR_nil n), HO1.out, fun j hj => by omega, HC1.out, HG1.out⟩
  case round =>
    obtain ⟨k, r, A, c, vs, zss, rfl, rfl, hkr, HR, hown, hrs, hc, hg⟩ := hrel
    by_cases hr0 : 0 < r
    · by_cases hn2 : 1 < n
      · go_wp2_with fail
        refine (specBelow g n _ hc (by omega) (by omega)).mono ?_
        rintro e w2 ⟨a, ha, rfl, hc2, hg2⟩
        go_wp2_with fail
        refine (specBelow g n1 _ hc2 (by omega) (by omega)).mono ?_
        rintro e w3 ⟨x, hx, rfl, hc3, hg3⟩
        have hg23 := hg2.trans hg3
        have hgg := hg.trans hg23
        have hown3 := own_cur hown hg23 hgw
        have hAA := hown.blk_
        have hrs3 := RowsIn.keep hrs (fun q h1 h2 h3 => hg23.block q h3 (fun he => by injection he with he; omega))
        obtain ⟨hb1, hb2⟩ := pick_ne ha (show x + 1 < n by omega)
        obtain ⟨b, hb⟩ : ∃ b, (a + 1 + x) % n = b := ⟨_, rfl⟩
        rw [hb] at hb1 hb2
        have eb : ((a : Int) + 1 + (x : Int)) % (n : Int) = (b : Int) := by rw [← hb]; simp
        have hszr : B ≤ wr.heap.size := by have := hg.size; rw [HB.out] at this; exact this
        have hs23 := hg23.size
        clear hb hc hc2 hg2 hg3 hg hown hrs
        have step : ∀ p q : Nat, p < n → q < n → p ≠ q → True := fun _ _ _ _ _ => trivial
        clear step
        have hsz3 : B ≤ w3.heap.size := Nat.le_trans hszr hs23
        cases up with
        | true =>
          by_cases hab : b < a
          · have hab2 : (b : Int) < (a : Int) := by omega
            have HRW := Lib.hid ((own_pair w3 (b : Int) (a : Int)).more hsz3)
            have HOW := Lib.hid (hown3.alloc (.cells #[.int .i64 (b : Int), .int .i64 (a : Int)] 3))
            have HRS := Lib.hid (RowsIn.keep (w' := w3.alloc (.cells #[.int .i64 (b : Int), .int .i64 (a : Int)] 3)) hrs3 (fun q h1 h2 h3 => Below.heap_alloc w3 _ q h3))
            have HGG := Lib.hid (hgg.trans (grown_alloc w3 g (.cells #[.int .i64 (b : Int), .int .i64 (a : Int)] 3)))
            have HCC := Lib.hid (hc3.below (below_alloc w3 (.cells #[.int .i64 (b : Int), .int .i64 (a : Int)] 3)))
            clear hown3 hrs3 hgg hc3
            go_wp2_with (at_builtin; refine wpL_append1_at _ rfl _ _ _ rfl B 30 (.slice none 0 0) 24 Tryz.underlying25 sliceInfo rfl _ k _ _ rfl HOW.out (.slice (some ⟨w3.heap.size, 0, none⟩) 2 2) (w3.heap.size + 1) (by simp) rfl rfl (by unfold maxLen; omega) (by omega) (by simp; omega) ?_)
            intro A6 c6 w6 ho6 hg6 hat6
            have hc6 : Cur w6 g := HCC.out.grown hg6 (fun q hq => by have := (HOW.out.blk_ q hq).1; omega)
            have hg7 := grown_own HGG.out HB.out hg6 (fun q hq => (HOW.out.blk_ q hq).1)
            have hrs6 := rowsIn_push (f := row (zss ++ [pr b a])) (cR := 2) HOW.out (HRS.out.congr fun j hj => row_snoc_lt (by rw [HR.out.1]; exact hj)) (fun q hq => (hAA q hq).2) (by simp; omega) (by rw [row_snoc_eq HR.out.1]; exact HRW.out) (fun q hq => by have h3 : w3.heap.size = q := (by simpa [blk] using hq); omega) hg6 (by simpa using hat6)
            go_wp2_with fail
            go_roundw
            case rel => exact ⟨k + 1, r - 1, A6, c6, _, zss ++ [pr b a], rfl, by go_num, by omega, Lib.hid (netR_snoc HR.out hb1 ha hb2), ho6, hrs6, hc6, hg7⟩
            case measure => (simp [intOf] <;> omega)
          · have hab2 : decide ((b : Int) < (a : Int)) = false := decide_eq_false (by omega)
            have HRW := Lib.hid ((own_pair w3 (a : Int) (b : Int)).more hsz3)
            have HOW := Lib.hid (hown3.alloc (.cells #[.int .i64 (a : Int), .int .i64 (b : Int)] 3))
            have HRS := Lib.hid (RowsIn.keep (w' := w3.alloc (.cells #[.int .i64 (a : Int), .int .i64 (b : Int)] 3)) hrs3 (fun q h1 h2 h3 => Below.heap_alloc w3 _ q h3))
            have HGG := Lib.hid (hgg.trans (grown_alloc w3 g (.cells #[.int .i64 (a : Int), .int .i64 (b : Int)] 3)))
            have HCC := Lib.hid (hc3.below (below_alloc w3 (.cells #[.int .i64 (a : Int), .int .i64 (b : Int)] 3)))
            clear hown3 hrs3 hgg hc3
            go_wp2_with (at_builtin; refine wpL_append1_at _ rfl _ _ _ rfl B 30 (.slice none 0 0) 24 Tryz.underlying25 sliceInfo rfl _ k _ _ rfl HOW.out (.slice (some ⟨w3.heap.size, 0, none⟩) 2 2) (w3.heap.size + 1) (by simp) rfl rfl (by unfold maxLen; omega) (by omega) (by simp; omega) ?_)
            intro A6 c6 w6 ho6 hg6 hat6
            have hc6 : Cur w6 g := HCC.out.grown hg6 (fun q hq => by have := (HOW.out.blk_ q hq).1; omega)
            have hg7 := grown_own HGG.out HB.out hg6 (fun q hq => (HOW.out.blk_ q hq).1)
            have hrs6 := rowsIn_push (f := row (zss ++ [pr a b])) (cR := 2) HOW.out (HRS.out.congr fun j hj => row_snoc_lt (by rw [HR.out.1]; exact hj)) (fun q hq => (hAA q hq).2) (by simp; omega) (by rw [row_snoc_eq HR.out.1]; exact HRW.out) (fun q hq => by have h3 : w3.heap.size = q := (by simpa [blk] using hq); omega) hg6 (by simpa using hat6)
            go_wp2_with fail
            go_roundw
            case rel => exact ⟨k + 1, r - 1, A6, c6, _, zss ++ [pr a b], rfl, by go_num, by omega, Lib.hid (netR_snoc HR.out ha hb1 (fun e => hb2 e.symm)), ho6, hrs6, hc6, hg7⟩
            case measure => (simp [intOf] <;> omega)
        | false =>
          have HRW := Lib.hid ((own_pair w3 (a : Int) (b : Int)).more hsz3)
          have HOW := Lib.hid (hown3.alloc (.cells #[.int .i64 (a : Int), .int .i64 (b : Int)] 3))
          have HRS := Lib.hid (RowsIn.keep (w' := w3.alloc (.cells #[.int .i64 (a : Int), .int .i64 (b : Int)] 3)) hrs3 (fun q h1 h2 h3 => Below.heap_alloc w3 _ q h3))
          have HGG := Lib.hid (hgg.trans (grown_alloc w3 g (.cells #[.int .i64 (a : Int), .int .i64 (b : Int)] 3)))
          have HCC := Lib.hid (hc3.below (below_alloc w3 (.cells #[.int .i64 (a : Int), .int .i64 (b : Int)] 3)))
          clear hown3 hrs3 hgg hc3
          go_wp2_with (at_builtin; refine wpL_append1_at _ rfl _ _ _ rfl B 30 (.slice none 0 0) 24 Tryz.underlying25 sliceInfo rfl _ k _ _ rfl HOW.out (.slice (some ⟨w3.heap.size, 0, none⟩) 2 2) (w3.heap.size + 1) (by simp) rfl rfl (by unfold maxLen; omega) (by omega) (by simp; omega) ?_)
          intro A6 c6 w6 ho6 hg6 hat6
          have hc6 : Cur w6 g := HCC.out.grown hg6 (fun q hq => by have := (HOW.out.blk_ q hq).1; omega)
          have hg7 := grown_own HGG.out HB.out hg6 (fun q hq => (HOW.out.blk_ q hq).1)
          have hrs6 := rowsIn_push (f := row (zss ++ [pr a b])) (cR := 2) HOW.out (HRS.out.congr fun j hj => row_snoc_lt (by rw [HR.out.1]; exact hj)) (fun q hq => (hAA q hq).2) (by simp; omega) (by rw [row_snoc_eq HR.out.1]; exact HRW.out) (fun q hq => by have h3 : w3.heap.size = q := (by simpa [blk] using hq); omega) hg6 (by simpa using hat6)
          go_wp2_with fail
          go_roundw
          case rel => exact ⟨k + 1, r - 1, A6, c6, _, zss ++ [pr a b], rfl, by go_num, by omega, Lib.hid (netR_snoc HR.out ha hb1 (fun e => hb2 e.symm)), ho6, hrs6, hc6, hg7⟩
          case measure => (simp [intOf] <;> omega)
      · go_wp2_with fail
        go_ret
        exact ⟨A, k, c, zss, rfl, by omega, HR.out, ⟨HR.out.1, vs, hown, fun q hq => (hown.blk_ q hq).2, hrs⟩, hc, hg⟩
    · go_wp2_with fail
      go_ret
      exact ⟨A, k, c, zss, rfl, by omega, HR.out, ⟨HR.out.1, vs, hown, fun q hq => (hown.blk_ q hq).2, hrs⟩, hc, hg⟩

set_option maxHeartbeats 8000000 in
theorem specPairs3 (g n : Nat) (up : Bool) (w : World) (hc : Cur w g) (hn1 : 1 ≤ n) (hn : n ≤ 6) : Calls Tryz.prog 32 #[.pointer (some ⟨g, 0, none⟩), .int .i64 n, .int .i64 3, .bool up] w fun e w' => ∃ A m c zss, e = .returned (.slice A m c) ∧ m ≤ 3 ∧ NetR n m zss ∧ OwnR w' w.heap.size w'.heap.size A m c zss ∧ Cur w' g ∧ w.grownBy w' (some g) := by
  have hgw := hc.lt
  obtain ⟨B, hB⟩ : ∃ B, w.heap.size = B := ⟨_, rfl⟩
  have HB := Lib.hid hB
  have HC0 := Lib.hid (hc.below (below_alloc w (.cells #[] 30)))
  have HO0 := Lib.hid (show Own (w.alloc (.cells #[] 30)) B 30 (some ⟨w.heap.size, 0, none⟩) 0 0 [] from hB ▸ own_empty w _)
  have HG0 := Lib.hid (grown_alloc w g (.cells #[] 30))
  rw [hB] at hgw ⊢
  clear hB hc
  go_enter Tryz.func32, Tryz.ntmps32
  go_wp2_with fail
  refine (specBelow g 4 _ HC0.out (by omega) (by omega)).mono ?_
  rintro e w1 ⟨x0, hx0, rfl, hc1, hg1⟩
  have HO1 := Lib.hid (own_cur HO0.out hg1 hgw)
  have HG1 := Lib.hid (HG0.out.trans hg1)
  have HC1 := Lib.hid hc1
  obtain ⟨n1, hn1e⟩ : ∃ n1, n - 1 = n1 := ⟨_, rfl⟩
  have en1 : (n : Int) - 1 = (n1 : Int) := by omega
  have hn1a : n1 + 1 ≤ n := by omega
  have hn1b : n ≤ n1 + 1 := by omega
  clear hn1e hg1 hc1
  go_wp2_with fail
  go_loopw [9, 10] (fun mv rv wr => ∃ k r : Nat, ∃ A c vs zss, mv = .slice A k c ∧ rv = .int .i64 (r : Nat) ∧ k + r ≤ 3 ∧ Hid (NetR n k zss) ∧ Own wr B 30 A k c vs ∧ RowsIn wr B wr.heap.size A k (row zss) vs ∧ Cur wr g ∧ w.grownBy wr (some g)) (fun _ rv _ => (intOf rv).toNat)
  case atStart => exact ⟨0, x0, _, _, [], [], rfl, rfl, by omega, Lib.hid (netR_nil n), HO1.out, fun j hj => by omega, HC1.out, HG1.out⟩
  case round =>
    obtain ⟨k, r, A, c, vs, zss, rfl, rfl, hkr, HR, hown, hrs, hc, hg⟩ := hrel
    by_cases hr0 : 0 < r
    · by_cases hn2 : 1 < n
      · go_wp2_with fail
        refine (specBelow g n _ hc (by omega) (by omega)).mono ?_
        rintro e w2 ⟨a, ha, rfl, hc2, hg2⟩
        go_wp2_with fail
        refine (specBelow g n1 _ hc2 (by omega) (by omega)).mono ?_
        rintro e w3 ⟨x, hx, rfl, hc3, hg3⟩
        have hg23 := hg2.trans hg3
        have hgg := hg.trans hg23
        have hown3 := own_cur hown hg23 hgw
        have hAA := hown.blk_
        have hrs3 := RowsIn.keep hrs (fun q h1 h2 h3 => hg23.block q h3 (fun he => by injection he with he; omega))
        obtain ⟨hb1, hb2⟩ := pick_ne ha (show x + 1 < n by omega)
        obtain ⟨b, hb⟩ : ∃ b, (a + 1 + x) % n = b := ⟨_, rfl⟩
        rw [hb] at hb1 hb2
        have eb : ((a : Int) + 1 + (x : Int)) % (n : Int) = (b : Int) := by rw [← hb]; simp
        have hszr : B ≤ wr.heap.size := by have := hg.size; rw [HB.out] at this; exact this
        have hs23 := hg23.size
        clear hb hc hc2 hg2 hg3 hg hown hrs
        have step : ∀ p q : Nat, p < n → q < n → p ≠ q → True := fun _ _ _ _ _ => trivial
        clear step
        have hsz3 : B ≤ w3.heap.size := Nat.le_trans hszr hs23
        cases up with
        | true =>
          by_cases hab : b < a
          · have hab2 : (b : Int) < (a : Int) := by omega
            have HRW := Lib.hid ((own_pair w3 (b : Int) (a : Int)).more hsz3)
            have HOW := Lib.hid (hown3.alloc (.cells #[.int .i64 (b : Int), .int .i64 (a : Int)] 3))
            have HRS := Lib.hid (RowsIn.keep (w' := w3.alloc (.cells #[.int .i64 (b : Int), .int .i64 (a : Int)] 3)) hrs3 (fun q h1 h2 h3 => Below.heap_alloc w3 _ q h3))
            have HGG := Lib.hid (hgg.trans (grown_alloc w3 g (.cells #[.int .i64 (b : Int), .int .i64 (a : Int)] 3)))
            have HCC := Lib.hid (hc3.below (below_alloc w3 (.cells #[.int .i64 (b : Int), .int .i64 (a : Int)] 3)))
            clear hown3 hrs3 hgg hc3
            go_wp2_with (at_builtin; refine wpL_append1_at _ rfl _ _ _ rfl B 30 (.slice none 0 0) 24 Tryz.underlying25 sliceInfo rfl _ k _ _ rfl HOW.out (.slice (some ⟨w3.heap.size, 0, none⟩) 2 2) (w3.heap.size + 1) (by simp) rfl rfl (by unfold maxLen; omega) (by omega) (by simp; omega) ?_)
            intro A6 c6 w6 ho6 hg6 hat6
            have hc6 : Cur w6 g := HCC.out.grown hg6 (fun q hq => by have := (HOW.out.blk_ q hq).1; omega)
            have hg7 := grown_own HGG.out HB.out hg6 (fun q hq => (HOW.out.blk_ q hq).1)
            have hrs6 := rowsIn_push (f := row (zss ++ [pr b a])) (cR := 2) HOW.out (HRS.out.congr fun j hj => row_snoc_lt (by rw [HR.out.1]; exact hj)) (fun q hq => (hAA q hq).2) (by simp; omega) (by rw [row_snoc_eq HR.out.1]; exact HRW.out) (fun q hq => by have h3 : w3.heap.size = q := (by simpa [blk] using hq); omega) hg6 (by simpa using hat6)
            go_wp2_with fail
            go_roundw
            case rel => exact ⟨k + 1, r - 1, A6, c6, _, zss ++ [pr b a], rfl, by go_num, by omega, Lib.hid (netR_snoc HR.out hb1 ha hb2), ho6, hrs6, hc6, hg7⟩
            case measure => (simp [intOf] <;> omega)
          · have hab2 : decide ((b : Int) < (a : Int)) = false := decide_eq_false (by omega)
            have HRW := Lib.hid ((own_pair w3 (a : Int) (b : Int)).more hsz3)
            have HOW := Lib.hid (hown3.alloc (.cells #[.int .i64 (a : Int), .int .i64 (b : Int)] 3))
            have HRS := Lib.hid (RowsIn.keep (w' := w3.alloc (.cells #[.int .i64 (a : Int), .int .i64 (b : Int)] 3)) hrs3 (fun q h1 h2 h3 => Below.heap_alloc w3 _ q h3))
            have HGG := Lib.hid (hgg.trans (grown_alloc w3 g (.cells #[.int .i64 (a : Int), .int .i64 (b : Int)] 3)))
            have HCC := Lib.hid (hc3.below (below_alloc w3 (.cells #[.int .i64 (a : Int), .int .i64 (b : Int)] 3)))
            clear hown3 hrs3 hgg hc3
            go_wp2_with (at_builtin; refine wpL_append1_at _ rfl _ _ _ rfl B 30 (.slice none 0 0) 24 Tryz.underlying25 sliceInfo rfl _ k _ _ rfl HOW.out (.slice (some ⟨w3.heap.size, 0, none⟩) 2 2) (w3.heap.size + 1) (by simp) rfl rfl (by unfold maxLen; omega) (by omega) (by simp; omega) ?_)
            intro A6 c6 w6 ho6 hg6 hat6
            have hc6 : Cur w6 g := HCC.out.grown hg6 (fun q hq => by have := (HOW.out.blk_ q hq).1; omega)
            have hg7 := grown_own HGG.out HB.out hg6 (fun q hq => (HOW.out.blk_ q hq).1)
            have hrs6 := rowsIn_push (f := row (zss ++ [pr a b])) (cR := 2) HOW.out (HRS.out.congr fun j hj => row_snoc_lt (by rw [HR.out.1]; exact hj)) (fun q hq => (hAA q hq).2) (by simp; omega) (by rw [row_snoc_eq HR.out.1]; exact HRW.out) (fun q hq => by have h3 : w3.heap.size = q := (by simpa [blk] using hq); omega) hg6 (by simpa using hat6)
            go_wp2_with fail
            go_roundw
            case rel => exact ⟨k + 1, r - 1, A6, c6, _, zss ++ [pr a b], rfl, by go_num, by omega, Lib.hid (netR_snoc HR.out ha hb1 (fun e => hb2 e.symm)), ho6, hrs6, hc6, hg7⟩
            case measure => (simp [intOf] <;> omega)
        | false =>
          have HRW := Lib.hid ((own_pair w3 (a : Int) (b : Int)).more hsz3)
          have HOW := Lib.hid (hown3.alloc (.cells #[.int .i64 (a : Int), .int .i64 (b : Int)] 3))
          have HRS := Lib.hid (RowsIn.keep (w' := w3.alloc (.cells #[.int .i64 (a : Int), .int .i64 (b : Int)] 3)) hrs3 (fun q h1 h2 h3 => Below.heap_alloc w3 _ q h3))
          have HGG := Lib.hid (hgg.trans (grown_alloc w3 g (.cells #[.int .i64 (a : Int), .int .i64 (b : Int)] 3)))
          have HCC := Lib.hid (hc3.below (below_alloc w3 (.cells #[.int .i64 (a : Int), .int .i64 (b : Int)] 3)))
          clear hown3 hrs3 hgg hc3
          go_wp2_with (at_builtin; refine wpL_append1_at _ rfl _ _ _ rfl B 30 (.slice none 0 0) 24 Tryz.underlying25 sliceInfo rfl _ k _ _ rfl HOW.out (.slice (some ⟨w3.heap.size, 0, none⟩) 2 2) (w3.heap.size + 1) (by simp) rfl rfl (by unfold maxLen; omega) (by omega) (by simp; omega) ?_)
          intro A6 c6 w6 ho6 hg6 hat6
          have hc6 : Cur w6 g := HCC.out.grown hg6 (fun q hq => by have := (HOW.out.blk_ q hq).1; omega)
          have hg7 := grown_own HGG.out HB.out hg6 (fun q hq => (HOW.out.blk_ q hq).1)
          have hrs6 := rowsIn_push (f := row (zss ++ [pr a b])) (cR := 2) HOW.out (HRS.out.congr fun j hj => row_snoc_lt (by rw [HR.out.1]; exact hj)) (fun q hq => (hAA q hq).2) (by simp; omega) (by rw [row_snoc_eq HR.out.1]; exact HRW.out) (fun q hq => by have h3 : w3.heap.size = q := (by simpa [blk] using hq); omega) hg6 (by simpa using hat6)
          go_wp2_with fail
          go_roundw
          case rel => exact ⟨k + 1, r - 1, A6, c6, _, zss ++ [pr a b], rfl, by go_num, by omega, Lib.hid (netR_snoc HR.out ha hb1 (fun e => hb2 e.symm)), ho6, hrs6, hc6, hg7⟩
          case measure => (simp [intOf] <;> omega)
      · go_wp2_with fail
        go_ret
        exact ⟨A, k, c, zss, rfl, by omega, HR.out, ⟨HR.out.1, vs, hown, fun q hq => (hown.blk_ q hq).2, hrs⟩, hc, hg⟩
    · go_wp2_with fail
      go_ret
      exact ⟨A, k, c, zss, rfl, by omega, HR.out, ⟨HR.out.1, vs, hown, fun q hq => (hown.blk_ q hq).2, hrs⟩, hc, hg⟩

theorem specN_yes (x : Int) (w : World) (h : 1 ≤ x ∧ x ≤ 8) : Calls Tryz.prog 52 #[.int .i64 x] w fun e w' => e = .returned (.bool true) ∧ w = w' := by
  go_enter Tryz.func52, Tryz.ntmps52
  go_wp2_with (go_at_call 67; refine (l01In_yes _ _ _ _ h).mono ?_; rintro e w' ⟨rfl, rfl⟩)
  go_ret
  exact ⟨rfl, rfl⟩
/-- The comparators that bring the value of the wire j down, t of them. -/
def insI (j t : Nat) : List (List Int) := (List.range t).map fun i => pr (j - 1 - i) (j - i)
theorem insI_succ (j t : Nat) : insI j (t + 1) = insI j t ++ [pr (j - 1 - t) (j - t)] := by simp [insI, List.range_succ]
def insJ : Nat → List (List Int)
  | 0 => []
  | j + 1 => insJ j ++ insI j j
set_option maxHeartbeats 4000000 in
theorem specInsertion (n : Nat) (w : World) (h1 : 1 ≤ n) (h4 : n ≤ 4) : Calls Tryz.prog 36 #[.int .i64 n] w fun e w' => ∃ A m c, e = .returned (.tuple #[.agg #[.int .i64 n, .slice A m c], .bool true]) ∧ m ≤ 20 ∧ OwnS w' w.heap.size A m c (insJ n) ∧ Below w.heap.size w w' := by
  have CN := Lib.hid (fun wx => specN_yes (n : Int) wx (by omega))
  obtain ⟨b, hb⟩ : ∃ b, w.heap.size = b := ⟨_, rfl⟩
  obtain ⟨W1, hW1⟩ : ∃ X, w.alloc (.cells #[.int .i64 0, .slice none 0 0] 27) = X := ⟨_, rfl⟩
  have z1 : W1.heap.size = b + 1 := by rw [← hW1]; simp [hb]
  have b1 : Below b w W1 := hW1 ▸ (hb ▸ below_alloc w _)
  have k1 : Own W1 b 27 (some ⟨b, 0, none⟩) 2 2 [.int .i64 0, .slice none 0 0] := by have h := own_netbox w 0 none 0 0; rw [hb, hW1] at h; exact h
  obtain ⟨W2, hW2⟩ : ∃ X, W1.alloc (.cells #[.int .i64 (n : Int), .slice none 0 0] 27) = X := ⟨_, rfl⟩
  have z2 : W2.heap.size = b + 2 := by rw [← hW2]; simp [z1]
  have b2 : Below (b + 1) W1 W2 := by have h := below_alloc W1 (.cells #[.int .i64 (n : Int), .slice none 0 0] 27); rw [z1, hW2] at h; exact h
  have o2 : Own W2 (b + 1) 27 (some ⟨b + 1, 0, none⟩) 2 2 [.int .i64 (n : Int), .slice none 0 0] := by have h := own_netbox W1 (n : Int) none 0 0; rw [z1, hW2] at h; exact h
  have HB1 := Lib.hid b1
  have HK1 := Lib.hid k1
  have HO2 := Lib.hid o2
  have HB2 := Lib.hid b2
  have HW1 := Lib.hid hW1
  have HW2 := Lib.hid hW2
  clear hW1 hW2 b1 b2 k1 o2
  go_enter Tryz.func36, Tryz.ntmps36
  go_wp2_with fail
  rw [HW1.out]
  refine (CN.out _).mono ?_
  rintro e w' ⟨rfl, hww⟩
  obtain rfl := hww
  go_wp2_with fail
  rw [HW2.out]
  go_wp2_with fail
  go_loopw [5] (fun jv wr => ∃ j m : Nat, ∃ A c, jv = .int .i64 (j : Nat) ∧ 1 ≤ j ∧ j ≤ n ∧ m ≤ 4 * j ∧ Own wr (b + 1) 27 (some ⟨b + 1, 0, none⟩) 2 2 [.int .i64 (n : Int), .slice A m c] ∧ OwnS wr (b + 2) A m c (insJ j) ∧ Below (b + 1) W1 wr) (fun jv _ => n - (intOf jv).toNat)
  case atStart => exact ⟨1, 0, none, 0, rfl, by omega, h1, by omega, HO2.out, OwnS.nil_ _ _, HB2.out⟩
  case round =>
    obtain ⟨j, m, A, c, rfl, hj1, hj, hm, hbox, hS, hbl⟩ := hrel
    have hszr : b + 2 ≤ wr.heap.size := by have h := (hbox.blk_ _ rfl).2; simp at h; omega
    by_cases hlt : j < n
    · have HX := Lib.hid hbox
      have HS := Lib.hid hS
      have HL := Lib.hid hbl
      clear hbox hS hbl
      go_wp2_with fail
      go_loopw [6] (fun iv wr => ∃ x : Int, ∃ t r m2 : Nat, ∃ A c, iv = .int .i64 x ∧ -1 ≤ x ∧ x ≤ 4 ∧ Hid (x + 1 = (r : Int) ∧ r + t = j) ∧ m2 ≤ 4 * j + t ∧ t ≤ 4 ∧ Own wr (b + 1) 27 (some ⟨b + 1, 0, none⟩) 2 2 [.int .i64 (n : Int), .slice A m2 c] ∧ OwnS wr (b + 2) A m2 c (insJ j ++ insI j t) ∧ Below (b + 1) W1 wr) (fun iv _ => (intOf iv + 1).toNat)
      case atStart => exact ⟨(j : Int) - 1, 0, j, m, A, c, rfl, by omega, by omega, Lib.hid ⟨by omega, by omega⟩, by omega, by omega, HX.out, by simpa [insI] using HS.out, HL.out⟩
      case round =>
        clear HX HS HL
        obtain ⟨x, t, r, m2, A, c, rfl, hx1, hx4, HR, hm2, ht4, hbox, hS, hbl⟩ := hrel
        have hszr : b + 2 ≤ wr.heap.size := by have h := (hbox.blk_ _ rfl).2; simp at h; omega
        obtain ⟨p0, p1, p2, p3, p4⟩ := own_box2 hbox
        by_cases hx0 : 0 ≤ x
        · obtain ⟨i, rfl⟩ := Int.eq_ofNat_of_zero_le hx0
          obtain ⟨q, hq⟩ : ∃ q, i + 1 = q := ⟨_, rfl⟩
          have eq1 : (i : Int) + 1 = (q : Int) := by omega
          have HNX := Lib.hid (show insJ j ++ insI j (t + 1) = insJ j ++ insI j t ++ [pr i q] by
            have h1 := HR.out.1
            have h2 := HR.out.2
            rw [insI_succ, List.append_assoc, show j - 1 - t = i by omega, show j - t = q by omega])
          have hR := Lib.hid (show OwnI (wr.alloc (.cells #[.int .i64 (i : Int), .int .i64 (q : Int)] 3)) (b + 2) 3 (some ⟨wr.heap.size, 0, none⟩) 2 2 (pr i q) from (own_pair2 wr i q).more hszr)
          obtain ⟨hl5, vs5, v5, r5⟩ := hS
          have ho1 := v5.alloc (.cells #[.int .i64 (i : Int), .int .i64 (q : Int)] 3)
          have hr1 := Lib.hid (r5.mono fun v z k => k.keep fun g h1 h2 h3 => ⟨Below.heap_alloc wr (.cells #[.int .i64 (i : Int), .int .i64 (q : Int)] 3) g h2, h3⟩)
          have hbl1 := Lib.hid (hbl.alloc (show b + 1 ≤ wr.heap.size by omega) (.cells #[.int .i64 (i : Int), .int .i64 (q : Int)] 3))
          have hbox1 := Lib.hid (hbox.alloc (.cells #[.int .i64 (i : Int), .int .i64 (q : Int)] 3))
          have hAA := Lib.hid v5.blk_
          have HL5 := Lib.hid hl5
          have hq5 : q ≤ 5 := by omega
          clear hq hbl hbox r5 hl5
          go_wp2_with (at_builtin; refine wpL_append1_at _ rfl _ _ _ rfl (b + 2) 30 (.slice none 0 0) 24 Tryz.underlying25 sliceInfo rfl _ m2 _ _ rfl ho1 (.slice (some ⟨wr.heap.size, 0, none⟩) 2 2) (wr.heap.size + 1) (by simp) rfl rfl (by unfold maxLen; omega) (by omega) (by simp; omega) ?_)
          intro A4 c4 w4 ho4 hg4 hat4
          have hs4 := hg4.size
          simp at hs4
          have hS4 := OwnS.push2 (x := pr i q) HL5.out ho1 hr1.out hR.out (fun g e e2 => by simp [blk] at e; have := (hAA.out g e2).2; omega) ho4 hg4 (fun g e => by rcases hat4 with h | h; exact .inl (by rw [← h]; exact e); exact .inr (by rw [h] at e; injection e with e; (try simp at e); (try simp); omega))
          have hb4 := below_of_grown hbl1.out hg4 (by simp; omega) (fun g e => by have := (hAA.out g e).1; omega)
          have hbox4 := hbox1.out.kept hg4 (fun g h1 h2 => by have h3 : b + 1 = g := (by simpa [blk] using h1); have := (hAA.out g h2.symm).1; omega)
          obtain ⟨d0, d1, d2, d3, d4⟩ := own_box2 hbox4
          have hS5 := Lib.hid (hS4.keep (w' := w4.setCell ⟨b + 1, 1, none⟩ (.slice A4 (m2 + 1) c4)) (fun g h1 h2 => Below.heap_setCell _ _ _ g (by show g ≠ b + 1; omega)))
          have hbox5 := Lib.hid (hbox4.set_ (k := 1) (.slice A4 (m2 + 1) c4) (by omega))
          have hb5 := Lib.hid (hb4.setCell (p := ⟨b + 1, 1, none⟩) (Nat.le_refl _) (.slice A4 (m2 + 1) c4))
          clear ho1 ho4 v5 hg4 hat4 hb4 hbox4 hS4 p0 p1 p2 p3 p4
          go_wp2
          go_roundw
          case rel => exact ⟨(i : Int) - 1, t + 1, r - 1, m2 + 1, A4, c4, by first | rfl | go_num, by omega, by omega, Lib.hid ⟨by have := HR.out; omega, by have := HR.out; omega⟩, by omega, by have := HR.out; omega, hbox5.out, by rw [HNX.out]; exact hS5.out, hb5.out⟩
          case measure => (simp [intOf] <;> omega)
        · have hx : x = -1 := by omega
          subst hx
          have HT := Lib.hid (show t = j by have := HR.out; omega)
          go_wp2_with fail
          go_roundw
          case rel => exact ⟨j + 1, m2, A, c, by first | rfl | go_num, by omega, by omega, by omega, hbox, by rw [insJ]; rw [HT.out] at hS; exact hS, hbl⟩
          case measure => (simp [intOf] <;> omega)
    · obtain rfl : j = n := by omega
      have hbx := HK1.out.below (show Below W1.heap.size W1 wr by rw [z1]; exact hbl)
      obtain ⟨r0, r1, r2, r3, r4⟩ := own_box2 hbx
      obtain ⟨p0, p1, p2, p3, p4⟩ := own_box2 hbox
      have hr7 := hbx.set_ (k := 0) (.int .i64 (j : Int)) (by omega)
      have hr8 := hr7.set_ (k := 1) (.slice A m c) (by omega)
      obtain ⟨d0, d1, _, _, _⟩ := own_box2 hr8
      have HS8 := Lib.hid ((hS.keep (w' := (wr.setCell ⟨b, 0, none⟩ (.int .i64 (j : Int))).setCell ⟨b, 1, none⟩ (.slice A m c)) (fun g h1 h2 => (Below.heap_setCell _ _ _ g (by show g ≠ b; omega)).trans (Below.heap_setCell _ _ _ g (by show g ≠ b; omega)))).more (show b ≤ b + 2 by omega))
      have HB8 := Lib.hid (((HB1.out.trans (hbl.mono (by omega))).setCell (p := ⟨b, 0, none⟩) (Nat.le_refl _) (.int .i64 (j : Int))).setCell (p := ⟨b, 1, none⟩) (Nat.le_refl _) (.slice A m c))
      clear hbox hS hbl hbx hr7 hr8
      go_wp2_with fail
      exact bodyPost_ret (v := .tuple #[.agg #[.int .i64 (j : Int), .slice A m c], .bool true]) (by simp [results, Tryz.results36, go_sem, d0, d1]) rfl ⟨A, m, c, rfl, by omega, by rw [hb]; exact HS8.out, by rw [hb]; exact HB8.out⟩
end Go.Proofs.YtobdkfhmmpigiaaGreat
