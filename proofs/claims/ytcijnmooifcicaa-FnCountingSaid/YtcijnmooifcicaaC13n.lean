/- Chapter 13: networks, tokens and entries that are drawn (2); the law's own helpers. -/
import Derived.Test.YtcijnmooifcicaaC13m
import Derived.Test.YtcijnmooifcicaaC17h
namespace Go.Proofs.Ytcijnmooifcicaa
open Go.RowKit Go.Deep
set_option linter.unusedVariables false

set_option maxHeartbeats 4000000 in
theorem specNetDraw (g : Nat) (w : World) (hc : Cur w g) : Calls Try.prog 60 #[.pointer (some ⟨g, 0, none⟩), .int .i64 6] w fun e w' => ∃ n A m c zss, e = .returned (.agg #[.int .i64 (n : Nat), .slice A m c]) ∧ (1 ≤ n ∧ n ≤ 6) ∧ m ≤ 12 ∧ NetR n m zss ∧ (∃ lo hi, w.heap.size < lo ∧ OwnR w' lo hi A m c zss) ∧ Below g w w' := by
  have hgw := hc.lt
  have HC0 := Lib.hid (hc.below (below_alloc w (.cells #[.int .i64 0, .slice none 0 0] 35)))
  have HX0 := Lib.hid (show Own (w.alloc (.cells #[.int .i64 0, .slice none 0 0] 35)) w.heap.size 35 (some ⟨w.heap.size, 0, none⟩) 2 2 [.int .i64 0, .slice none 0 0] from own_netbox w 0 none 0 0)
  have HG0 := Lib.hid (grown_alloc w g (.cells #[.int .i64 0, .slice none 0 0] 35))
  clear hc
  go_enter Try.func60, Try.ntmps60
  go_wp2_with fail
  refine (specBelow g 6 _ HC0.out (by omega) (by omega)).mono ?_
  rintro e w1 ⟨x0, hx0, rfl, hc1, hg1⟩
  obtain ⟨n, hn⟩ : ∃ n, 1 + x0 = n := ⟨_, rfl⟩
  have en : 1 + (x0 : Int) = (n : Int) := by omega
  have hn1 : 1 ≤ n := by omega
  have hn6 : n ≤ 6 := by omega
  clear hn hx0
  have HX1 := Lib.hid (own_cur HX0.out hg1 hgw)
  have HG1 := Lib.hid (HG0.out.trans hg1)
  have HC1 := Lib.hid hc1
  clear hg1 hc1
  go_wp2_with fail
  refine (specBelow g 4 _ HC1.out (by omega) (by omega)).mono ?_
  rintro e w2 ⟨y0, hy0, rfl, hc2, hg2⟩
  have HX2 := Lib.hid (own_cur HX1.out hg2 hgw)
  have HG2 := Lib.hid (HG1.out.trans hg2)
  have HC2 := Lib.hid hc2
  clear hg2 hc2
  go_wp2_with fail
  refine (specPairs g n _ _ HC2.out hn1 hn6).mono ?_
  rintro e w3 ⟨A, m, c, zss, rfl, hm, hR, ho, hc3, hg3⟩
  have hx3 := own_cur HX2.out hg3 hgw
  have hgg := HG2.out.trans hg3
  have hsz2 : w.heap.size < w2.heap.size := by have := (HX2.out.blk_ _ rfl).2; exact this
  obtain ⟨b0, b1, b2, b3, b4⟩ := own_box hx3
  have HRR := Lib.hid hR
  have hx4 := hx3.set_ (k := 0) (.int .i64 (n : Int)) (by omega)
  have hx5 := hx4.set_ (k := 1) (.slice A m c) (by omega)
  obtain ⟨d0, d1, _, _, _⟩ := own_box hx5
  have HM := Lib.hid (show OwnR ((w3.setCell ⟨w.heap.size, 0, none⟩ (.int .i64 (n : Int))).setCell ⟨w.heap.size, 1, none⟩ (.slice A m c)) w2.heap.size w3.heap.size A m c zss from ho.keep (fun q h1 h2 h3 => (Below.heap_setCell _ _ _ q (by show q ≠ w.heap.size; omega)).trans (Below.heap_setCell _ _ _ q (by show q ≠ w.heap.size; omega))))
  have HBL := Lib.hid (((below_cur hgg (Nat.le_refl g) (by omega)).setCell (p := ⟨w.heap.size, 0, none⟩) (by show g ≤ w.heap.size; omega) (.int .i64 (n : Int))).setCell (p := ⟨w.heap.size, 1, none⟩) (by show g ≤ w.heap.size; omega) (.slice A m c))
  clear hx3 hx4 hx5 hgg ho hc3 hg3 hR
  go_wp2_with fail
  refine bodyPost_ret (v := .agg #[.int .i64 (n : Int), .slice A m c]) (by simp [results, Try.results60, go_sem, d0, d1]) rfl ⟨n, A, m, c, zss, rfl, ⟨hn1, hn6⟩, hm, HRR.out, ⟨_, _, hsz2, HM.out⟩, HBL.out⟩

set_option maxHeartbeats 4000000 in
theorem specNetwork (A : Option Addr) (n c N : Nat) (bs : List Int) (w : World) (ha : RdU w A n bs) (hz : ∀ z ∈ bs, 0 ≤ z ∧ z < 256) (hn : n ≤ 1048576) (hN : N ≤ 1000) :
    Calls Try.prog 36 #[.slice A n c, .int .i64 N] w fun e w' => ∃ W A' m c' zss, e = .returned (.agg #[.int .i64 (W : Nat), .slice A' m c']) ∧ (1 ≤ W ∧ W ≤ 6) ∧ m ≤ 12 ∧ NetR W m zss ∧ RdM w' A' m zss ∧ Below w.heap.size w w' := by
  have hal := below_alloc w (.cells #[.int .i64 0, .slice none 0 0] 35)
  have CN := Lib.hid (specAtByte A n c N bs _ (ha.below hal) hz hn hN)
  have HX0 := Lib.hid (show Own (w.alloc (.cells #[.int .i64 0, .slice none 0 0] 35)) w.heap.size 35 (some ⟨w.heap.size, 0, none⟩) 2 2 [.int .i64 0, .slice none 0 0] from own_netbox w 0 none 0 0)
  have HAL := Lib.hid hal
  clear hz ha hal
  go_enter Try.func36, Try.ntmps36
  go_wp2_with fail
  refine CN.out.mono ?_
  rintro e w1 ⟨g, rfl, hg, hc, hb⟩
  have hx1 := HX0.out.below hb
  have hB1 := HAL.out.trans (hb.mono HAL.out.size)
  have hgB : w.heap.size < g := by simp at hg; omega
  clear hb
  go_wp2_with fail
  refine (specNetDraw g w1 hc).mono ?_
  rintro e w2 ⟨W, A', m, c', zss, rfl, hW, hm, hR, ⟨lo, hi, hlo, ho⟩, hb2⟩
  have hx2 : Own w2 w.heap.size 35 (some ⟨w.heap.size, 0, none⟩) 2 2 [.int .i64 0, .slice none 0 0] := Own.keepAt hx1 (fun q hq => by
    have h3 : w.heap.size = q := (by simpa [blk] using hq)
    exact hb2.block q (by omega))
  obtain ⟨b0, b1, b2, b3, b4⟩ := own_box hx2
  have hx4 := hx2.set_ (k := 0) (.int .i64 (W : Int)) (by omega)
  have hx5 := hx4.set_ (k := 1) (.slice A' m c') (by omega)
  obtain ⟨d0, d1, _, _, _⟩ := own_box hx5
  have hs1 := hB1.size
  have hB2 := hB1.trans (hb2.mono (by omega))
  have HBL := Lib.hid ((hB2.setCell (p := ⟨w.heap.size, 0, none⟩) (by show w.heap.size ≤ w.heap.size; omega) (.int .i64 (W : Int))).setCell (p := ⟨w.heap.size, 1, none⟩) (by show w.heap.size ≤ w.heap.size; omega) (.slice A' m c'))
  have HRR := Lib.hid hR
  have HM := Lib.hid (show RdM ((w2.setCell ⟨w.heap.size, 0, none⟩ (.int .i64 (W : Int))).setCell ⟨w.heap.size, 1, none⟩ (.slice A' m c')) A' m zss from ((ho.keep (fun q h1 h2 h3 => (Below.heap_setCell _ _ _ q (by show q ≠ w.heap.size; omega)).trans (Below.heap_setCell _ _ _ q (by show q ≠ w.heap.size; omega)))).rd))
  clear hx1 hx2 hx4 hx5 hB1 hB2 hb2 ho hR hc
  go_wp2_with fail
  refine bodyPost_ret (v := .agg #[.int .i64 (W : Int), .slice A' m c']) (by simp [results, Try.results36, go_sem, d0, d1]) rfl ⟨W, A', m, c', zss, rfl, hW, hm, HRR.out, HM.out, HBL.out⟩

/-- Numbers from 0 up to below b. -/
def Nums (b k : Nat) (zs : List Int) : Prop := zs.length = k ∧ ∀ j, j < k → ∃ x : Nat, nth zs j = x ∧ x < b
theorem nums_nil (b : Nat) : Nums b 0 [] := ⟨rfl, fun j h => by omega⟩
theorem nums_snoc {b k x : Nat} {zs : List Int} (h : Nums b k zs) (hx : x < b) : Nums b (k + 1) (zs ++ [(x : Int)]) := by
  refine ⟨by rw [List.length_append, h.1]; rfl, fun j hj => ?_⟩
  by_cases e : j = k
  · subst e; exact ⟨x, nth_last h.1, hx⟩
  · rw [nth_first (by rw [h.1]; omega)]; exact h.2 j (by omega)
theorem nums_mem {b k : Nat} {zs : List Int} (h : Nums b k zs) : ∀ x ∈ zs, 0 ≤ x ∧ x < (b : Int) := by
  intro x hx
  obtain ⟨i, hi, e⟩ := List.getElem_of_mem hx
  obtain ⟨y, hy, hyb⟩ := h.2 i (by rw [← h.1]; exact hi)
  rw [nth_eq hi, e] at hy
  omega

set_option maxHeartbeats 2000000 in
theorem specTokens13 (g n : Nat) (w : World) (hc : Cur w g) (hn : n ≤ 1000) : Calls Try.prog 62 #[.pointer (some ⟨g, 0, none⟩), .int .i64 n] w fun e w' => ∃ A c zs, e = .returned (.slice A n c) ∧ OwnI w' w.heap.size 3 A n c zs ∧ Nums 7 n zs ∧ Cur w' g ∧ w.grownBy w' (some g) := by
  have hgw := hc.lt
  obtain ⟨B, hB⟩ : ∃ B, w.heap.size = B := ⟨_, rfl⟩
  have HB := Lib.hid hB
  have HC0 := Lib.hid (hc.below (below_alloc w (.cells #[] 3)))
  have HO0 := Lib.hid (show OwnI (w.alloc (.cells #[] 3)) B 3 (some ⟨B, 0, none⟩) 0 0 [] from hB ▸ own_empty w _)
  have HG0 := Lib.hid (grown_alloc w g (.cells #[] 3))
  rw [hB] at hgw ⊢
  clear hB hc
  go_enter Try.func62, Try.ntmps62
  go_wp2_with fail
  rw [HB.out]
  go_loopw [5, 6] (fun lv iv wr => ∃ k : Nat, ∃ A c zs, lv = .slice A k c ∧ iv = .int .i64 k ∧ k ≤ n ∧ OwnI wr B 3 A k c zs ∧ Hid (Nums 7 k zs) ∧ Cur wr g ∧ w.grownBy wr (some g)) (fun _ iv _ => n - (intOf iv).toNat)
  case atStart => exact ⟨0, _, _, _, rfl, rfl, Nat.zero_le _, HO0.out, Lib.hid (nums_nil _), HC0.out, HG0.out⟩
  case round =>
    obtain ⟨k, A, c, zs, rfl, rfl, hk, hown, HZ, hc, hg⟩ := hrel
    by_cases hlt : k < n
    · go_wp2_with fail
      refine (specBelow g 7 wr hc (by omega) (by omega)).mono ?_
      rintro e w2 ⟨x, hx, rfl, hc2, hg2⟩
      have ho2 := own_cur hown hg2 hgw
      have hg3 := hg.trans hg2
      have hsz : B ≤ w2.heap.size := by have := hg3.size; rw [HB.out] at this; exact this
      clear hc hown hg hg2
      go_wp2_with (at_builtin; refine wpL_append1 _ rfl _ _ _ rfl B 3 (.int .i64 0) 8 Try.underlying22 intInfo rfl _ k _ _ rfl ho2 _ rfl rfl (by unfold maxLen; omega) (by omega) hsz ?_)
      intro A6 c6 w6 ho6 hg6 hat6
      have hc6 : Cur w6 g := hc2.grown hg6 (fun q hq => by have := (ho2.blk_ q hq).1; omega)
      have hg7 := grown_own hg3 HB.out hg6 (fun q hq => (ho2.blk_ q hq).1)
      go_wp2
      go_roundw
      case rel => exact ⟨k + 1, A6, c6, zs ++ [(x : Int)], rfl, by go_num, by omega, by simpa [OwnI] using ho6, Lib.hid (nums_snoc HZ.out hx), hc6, hg7⟩
      case measure => (simp [intOf] <;> omega)
    · obtain rfl : k = n := by omega
      go_wp2_with fail
      go_ret
      exact ⟨A, c, zs, rfl, hown, HZ.out, hc, hg⟩

set_option maxHeartbeats 2000000 in
theorem specMakeTokens (A : Option Addr) (n c N W : Nat) (bs : List Int) (w : World) (ha : RdU w A n bs) (hz : ∀ z ∈ bs, 0 ≤ z ∧ z < 256) (hn : n ≤ 1048576) (hN : N ≤ 1000) (hW : W ≤ 1000) :
    Calls Try.prog 37 #[.slice A n c, .int .i64 N, .int .i64 W] w fun e w' => ∃ A' c' zs, e = .returned (.slice A' W c') ∧ RdI w' A' W zs ∧ Nums 7 W zs ∧ Below w.heap.size w w' := by
  have CN := Lib.hid (specAtByte A n c N bs w ha hz hn hN)
  clear hz ha
  go_enter Try.func37, Try.ntmps37
  go_wp2_with fail
  refine CN.out.mono ?_
  rintro e w1 ⟨g, rfl, hg, hc, hb⟩
  go_wp2_with fail
  refine (specTokens13 g W w1 hc hW).mono ?_
  rintro e w2 ⟨A2, c2, zs, rfl, ho, hZ, hc2, hg2⟩
  go_wp2_with fail
  go_ret
  exact ⟨A2, c2, zs, rfl, ho.rd, hZ, hb.trans (below_cur hg2 hg hb.size)⟩

set_option maxHeartbeats 4000000 in
theorem specEntries (A : Option Addr) (n c N W : Nat) (bs : List Int) (w : World) (ha : RdU w A n bs) (hz : ∀ z ∈ bs, 0 ≤ z ∧ z < 256) (hn : n ≤ 1048576) (hN : N ≤ 1000) (hW1 : 1 ≤ W) (hW : W ≤ 8) :
    Calls Try.prog 39 #[.slice A n c, .int .i64 N, .int .i64 W] w fun e w' => ∃ A' m c' zs, e = .returned (.slice A' m c') ∧ m ≤ 12 ∧ RdI w' A' m zs ∧ Nums W m zs ∧ Below w.heap.size w w' := by
  have CN := Lib.hid (specAtByte A n c N bs w ha hz hn hN)
  clear hz ha
  go_enter Try.func39, Try.ntmps39
  go_wp2_with fail
  refine CN.out.mono ?_
  rintro e w1 ⟨g, rfl, hg, hc, hb⟩
  have hgw := hc.lt
  have HS1 := Lib.hid hb.size
  have HC0 := Lib.hid (hc.below (below_alloc w1 (.cells #[] 3)))
  have HO0 := Lib.hid (own_empty w1 3)
  have HB0 := Lib.hid (hb.alloc hb.size (.cells #[] 3))
  have HG0 := Lib.hid (show (w1.alloc (.cells #[] 3)).heap.size = w1.heap.size + 1 by simp)
  clear hb hc
  go_wp2_with fail
  refine (specBelow g 13 _ HC0.out (by omega) (by omega)).mono ?_
  rintro e w2 ⟨x0, hx0, rfl, hc2, hg2⟩
  have HO2 := Lib.hid (own_cur HO0.out hg2 hgw)
  have HB2 := Lib.hid (HB0.out.trans (below_cur hg2 hg (by have := HG0.out; have := HS1.out; omega)))
  have HC2 := Lib.hid hc2
  have HS2 := Lib.hid (show w1.heap.size ≤ w2.heap.size by have := hg2.size; have := HG0.out; omega)
  clear hg2 hc2
  go_wp2_with fail
  go_loopw [8, 9] (fun lv rv wr => ∃ k r : Nat, ∃ A c zs, lv = .slice A k c ∧ rv = .int .i64 (r : Nat) ∧ k + r ≤ 12 ∧ OwnI wr w1.heap.size 3 A k c zs ∧ Hid (Nums W k zs) ∧ Cur wr g ∧ w1.heap.size ≤ wr.heap.size ∧ Below w.heap.size w wr) (fun _ rv _ => (intOf rv).toNat)
  case atStart => exact ⟨0, x0, _, _, [], rfl, rfl, by omega, HO2.out, Lib.hid (nums_nil _), HC2.out, HS2.out, HB2.out⟩
  case round =>
    obtain ⟨k, r, A, c, zs, rfl, rfl, hkr, hown, HZ, hc, hszr, hb⟩ := hrel
    by_cases hr0 : 0 < r
    · go_wp2_with fail
      refine (specBelow g W wr hc (by omega) (by omega)).mono ?_
      rintro e w3 ⟨x, hx, rfl, hc3, hg3⟩
      have ho3 := own_cur hown hg3 hgw
      have hb3 := hb.trans (below_cur hg3 hg hb.size)
      have hsz : w1.heap.size ≤ w3.heap.size := Nat.le_trans hszr hg3.size
      clear hc hown hb hg3
      go_wp2_with (at_builtin; refine wpL_append1 _ rfl _ _ _ rfl w1.heap.size 3 (.int .i64 0) 8 Try.underlying22 intInfo rfl _ k _ _ rfl ho3 _ rfl rfl (by unfold maxLen; omega) (by omega) hsz ?_)
      intro A6 c6 w6 ho6 hg6 hat6
      have hc6 : Cur w6 g := hc3.grown hg6 (fun q hq => by have := (ho3.blk_ q hq).1; omega)
      have hb6 := below_of_grown hb3 hg6 hb3.size (fun q hq => by have := (ho3.blk_ q hq).1; have := HS1.out; omega)
      go_wp2_with fail
      go_roundw
      case rel => exact ⟨k + 1, r - 1, A6, c6, zs ++ [(x : Int)], rfl, by go_num, by omega, by simpa [OwnI] using ho6, Lib.hid (nums_snoc HZ.out hx), hc6, Nat.le_trans hsz hg6.size, hb6⟩
      case measure => (simp [intOf] <;> omega)
    · go_wp2_with fail
      go_ret
      exact ⟨A, k, c, zs, rfl, by omega, hown.rd, HZ.out, hb⟩

set_option maxHeartbeats 1000000 in
theorem lawSame (A B : Option Addr) (n c d : Nat) (zs : List Int) (w : World) (ha : RdI w A n zs) (hb : RdI w B n zs) (hn : n ≤ 1048576) : Calls Try.prog 40 #[.slice A n c, .slice B n d] w fun e w' => e = .returned (.bool true) ∧ w' = w := by
  go_enter Try.func40, Try.ntmps40
  go_wp2_with fail
  go_loopw [14] (fun iv wr => ∃ k : Nat, k ≤ n ∧ iv = .int .i64 k ∧ w = wr) (fun iv _ => n - (intOf iv).toNat)
  case atStart => exact ⟨0, Nat.zero_le _, rfl, rfl⟩
  case round =>
    obtain ⟨k, hk, rfl, rfl⟩ := hrel
    by_cases hlt : k < n
    · obtain ⟨a1, rfl, _, h1⟩ := ha.at_ hlt
      obtain ⟨b1, rfl, _, h2⟩ := hb.at_ hlt
      go_wp2_with fail
      go_roundw
      case rel => exact ⟨k + 1, by omega, by go_num, by first | rfl | trivial⟩
      case measure => simp [intOf]; omega
    · obtain rfl : k = n := by omega
      go_wp2_with fail
      go_ret
      exact ⟨rfl, rfl⟩

set_option maxHeartbeats 1000000 in
theorem lawSorted (A : Option Addr) (n c : Nat) (zs : List Int) (w : World) (ha : RdI w A n zs) (hn : n ≤ 1048576) : Calls Try.prog 44 #[.slice A n c] w fun e w' => ∃ A' c', e = .returned (.slice A' n c') ∧ OwnI w' w.heap.size 3 A' n c' (insTo zs n) ∧ Below w.heap.size w w' := by
  have HS := Lib.hid (specSort A n c zs w ha hn)
  have HM : Calls Try.prog 67 #[.slice A n c] w fun e w' => ∃ A' c', e = .returned (.slice A' n c') ∧ OwnI w' w.heap.size 3 A' n c' (insTo zs n) ∧ Below w.heap.size w w' := by
    clear ha
    go_enter Try.func67, Try.ntmps67
    go_wp2_with fail
    refine HS.out.mono ?_
    rintro e w1 ⟨A', c', rfl, ho, hb⟩
    go_wp2_with fail
    go_ret
    exact ⟨A', c', rfl, ho, hb⟩
  have HM2 := Lib.hid HM
  clear HM ha HS
  go_enter Try.func44, Try.ntmps44
  go_wp2_with fail
  refine HM2.out.mono ?_
  rintro e w1 ⟨A', c', rfl, ho, hb⟩
  go_wp2_with fail
  go_ret
  exact ⟨A', c', rfl, ho, hb⟩

set_option maxHeartbeats 1000000 in
theorem lawStairs (n : Nat) (w : World) (hn : n ≤ 1000) : Calls Try.prog 45 #[.int .i64 n] w fun e w' => ∃ A' c', e = .returned (.slice A' n c') ∧ OwnI w' w.heap.size 3 A' n c' (marks 0 n) ∧ Below w.heap.size w w' := by
  go_enter Try.func45, Try.ntmps45
  go_wp2_with fail
  go_loopw [3, 4] (fun lv iv wr => ∃ k : Nat, ∃ A c, lv = .slice A k c ∧ iv = .int .i64 k ∧ k ≤ n ∧ OwnI wr w.heap.size 3 A k c (marks 0 k) ∧ Below w.heap.size w wr) (fun _ iv _ => n - (intOf iv).toNat)
  case atStart => exact ⟨0, _, _, rfl, rfl, Nat.zero_le _, own_empty w _, below_alloc w _⟩
  case round =>
    obtain ⟨k, A, c, rfl, rfl, hk, hown, hb⟩ := hrel
    have hsz := hb.size
    by_cases hlt : k < n
    · have H := Lib.hid (show marks 0 (k + 1) = marks 0 k ++ [(k : Int)] from nth_ext (n := k + 1) (marks_len _ _) (by rw [List.length_append, marks_len]; rfl) (fun i hi => by
        rw [marks_nth 0 _ i hi]
        by_cases e : i = k
        · subst e; rw [nth_last (marks_len _ _)]; omega
        · rw [nth_first (by rw [marks_len]; omega), marks_nth 0 _ i (by omega)]))
      go_wp2_with (at_builtin; refine wpL_append1 _ rfl _ _ _ rfl w.heap.size 3 (.int .i64 0) 8 Try.underlying22 intInfo rfl _ k _ _ rfl hown _ rfl rfl (by unfold maxLen; omega) (by omega) hsz ?_)
      intro A6 c6 w6 ho6 hg6 hat6
      have hb6 := own_below hown hb hsz hg6
      go_wp2_with fail
      go_roundw
      case rel => exact ⟨k + 1, A6, c6, rfl, by go_num, by omega, by rw [OwnI, H.out]; simpa using ho6, hb6⟩
      case measure => (simp [intOf] <;> omega)
    · obtain rfl : k = n := by omega
      go_wp2_with fail
      go_ret
      exact ⟨A, c, rfl, hown, hb⟩

set_option maxHeartbeats 1000000 in
theorem lawSum (A : Option Addr) (n c : Nat) (zs : List Int) (w : World) (ha : RdI w A n zs) (hn : n ≤ 100) (hb : ∀ x ∈ zs, 0 ≤ x ∧ x ≤ 1000) : Calls Try.prog 38 #[.slice A n c] w fun e w' => e = .returned (.int .i64 zs.sum) ∧ w' = w := by
  have HL := Lib.hid ha.lenI
  have HBD := Lib.hid (fun k (hk : k ≤ n) => sum_le (b := 1000) (zs.take k) (fun x hx => hb x (List.mem_of_mem_take hx)))
  have HB2 := Lib.hid hb
  clear hb
  go_enter Try.func38, Try.ntmps38
  go_wp2_with fail
  go_loopw [3, 8] (fun sv iv wr => ∃ k : Nat, ∃ s : Int, k ≤ n ∧ iv = .int .i64 k ∧ sv = .int .i64 s ∧ Hid ((zs.take k).sum = s) ∧ 0 ≤ s ∧ s ≤ 1000 * k ∧ w = wr) (fun _ iv _ => n - (intOf iv).toNat)
  case atStart => exact ⟨0, 0, Nat.zero_le _, rfl, rfl, Lib.hid rfl, by omega, by omega, rfl⟩
  case round =>
    obtain ⟨k, s, hk, rfl, rfl, HS, hs0, hs1, rfl⟩ := hrel
    by_cases hlt : k < n
    · obtain ⟨a1, rfl, _, h1⟩ := ha.at_ hlt
      have hx := HB2.out _ (nth_mem (zs := zs) (k := k) (by rw [HL.out]; exact hlt))
      have HN := Lib.hid (show (zs.take (k + 1)).sum = s + nth zs k by rw [sum_take (by rw [HL.out]; exact hlt), HS.out])
      go_wp2_with fail
      go_roundw
      case rel => exact ⟨k + 1, s + nth zs k, by omega, by go_num, by go_num, HN, by omega, by omega, by first | rfl | trivial⟩
      case measure => simp [intOf]; omega
    · obtain rfl : k = n := by omega
      have HE := Lib.hid (show zs.sum = s by rw [← HS.out, List.take_of_length_le (by rw [HL.out]; omega)])
      go_wp2_with fail
      go_ret
      exact ⟨by rw [HE.out]; rfl, rfl⟩
end Go.Proofs.Ytcijnmooifcicaa
