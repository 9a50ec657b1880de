/- Chapter 13: CountFrom. -/
import Derived.Test.YtcijnmooifcicaaC13h
import Derived.Deep.RegionHeld3
namespace Go.Proofs.Ytcijnmooifcicaa
open Go.RowKit Go.Deep
set_option linter.unusedVariables false

theorem own_empty_at (w : World) (e : TypeId) (s : Nat) (h : w.heap.size = s) : Own (w.alloc (.cells #[] e)) s e (some ⟨s, 0, none⟩) 0 0 [] := by subst h; exact own_empty w e
theorem tt_x {x : Int} {zss : List (List Int)} {es : List Int} (h : ttB x zss es = true) : ∃ W : Nat, x = W := by
  rw [ttB, Bool.and_eq_true] at h
  obtain ⟨W, hW, _⟩ := net_out rfl h.1
  exact ⟨W, hW⟩

set_option maxHeartbeats 4000000 in
theorem specCountFrom (x : Int) (A : Option Addr) (n c : Nat) (zss : List (List Int)) (S : Option Addr) (m d : Nat) (es : List Int) (w : World) (ha : RdM w A n zss) (hn : n ≤ 1048576) (hs : RdI w S m es) (hm : m ≤ 1048576) :
    Calls Try.prog 34 #[.agg #[.int .i64 x, .slice A n c], .slice S m d] w fun e w' => ∃ A' n' c', e = .returned (.slice A' n' c') ∧ OwnI w' w.heap.size 3 A' n' c' (cfOut x zss es) ∧ Below w.heap.size w w' := by
  have C := fun w' (h1 : RdM w' A n zss) (h2 : RdI w' S m es) => specTrace x A n c zss S m d es w' h1 hn h2 hm
  have hal := (below_alloc w (.cells #[.int .i64 x, .slice A n c] 35))
  have HLS := Lib.hid hs.lenI
  have HZ := Lib.hid ha.1
  cases hg : ttB x zss es with
  | false =>
    have H := Lib.hid (cfOut_no hg)
    rw [hg] at C
    have CC := Lib.hid C
    clear C hg
    go_enter Try.func34, Try.ntmps34
    go_wp2_with fail
    refine (CC.out _ (ha.below hal) (hs.below hal)).mono ?_
    rintro e w1 ⟨A1, n1, c1, rfl, o1, hb1⟩
    go_wp2_with fail
    go_ret
    exact ⟨none, 0, 0, rfl, by rw [H.out]; exact Own.nil_ _ _ _, hal.trans (hb1.mono (by simp))⟩
  | true =>
    obtain ⟨W, rfl⟩ := tt_x hg
    have HT := tt_out HZ.out HLS.out hg
    obtain ⟨hW1, hW8, hm60, l, hl, hll, hlw⟩ := HT
    have HW := Lib.hid hlw
    have HY := Lib.hid (cfOut_yes hg hl HLS.out)
    rw [hg, hl] at C
    have CC := Lib.hid C
    clear C hg hl hlw
    go_enter Try.func34, Try.ntmps34
    go_wp2_with fail
    refine (CC.out _ (ha.below hal) (hs.below hal)).mono ?_
    rintro e w1 ⟨A1, n1, c1, rfl, o1, hb1⟩
    obtain rfl : n1 = m := by rw [← o1.lenI]; exact hll
    have hsz1 : w.heap.size + 1 ≤ w1.heap.size := by have := hb1.size; simpa using this
    have hc0 : w1.cell? ⟨w.heap.size, 0, none⟩ = some (.int .i64 (W : Int)) := by rw [hb1.cell (p := ⟨w.heap.size, 0, none⟩) (by simp)]; simp
    have hB1 := Lib.hid (hal.trans (hb1.mono (by simp)))
    have HC := Lib.hid (show ∀ wz : World, Below w1.heap.size w1 wz → wz.cell? ⟨w.heap.size, 0, none⟩ = some (.int .i64 (W : Int)) from fun wz hz => (hz.cell (p := ⟨w.heap.size, 0, none⟩) (by show w.heap.size < _; omega)).trans hc0)
    have HR1 := Lib.hid o1.rd
    clear hb1 CC hal ha hs o1 hll
    go_wp2_with (at_make; refine wpL_make _ rfl _ _ 22 rfl 3 (.int .i64 0) 8 Try.underlying22 intInfo rfl _ _ _ _ W rfl rfl rfl rfl (by omega) (by unfold maxLen; omega) ?_)
    intro w2 hF2 hbl2 hsz2
    have HF2 := Lib.hid (show OwnI (w2.alloc (.cells #[] 3)) w1.heap.size 3 (some ⟨w1.heap.size, 0, none⟩) W W (cntL W l 0) by rw [← cntL_zero, OwnI, List.map_replicate]; exact hF2.alloc _)
    have HO2 := Lib.hid (show OwnI (w2.alloc (.cells #[] 3)) (w1.heap.size + 1) 3 (some ⟨w1.heap.size + 1, 0, none⟩) 0 0 [] by have h := own_empty w2 3; rw [hsz2] at h; exact h)
    have HB2 := Lib.hid (show Below w1.heap.size w1 (w2.alloc (.cells #[] 3)) from hbl2.alloc (by omega) _)
    clear hF2 hbl2 hc0
    go_wp2_with fail
    obtain ⟨i0, hi0, hz0, hz1, hz2⟩ := info_parts intInfo
    go_loopw [25, 8] (fun i o wr => ∃ k : Nat, ∃ A2 c2, k ≤ n1 ∧ i = .int .i64 k ∧ o = .slice A2 k c2 ∧ OwnI wr w1.heap.size 3 (some ⟨w1.heap.size, 0, none⟩) W W (cntL W l k) ∧ OwnI wr (w1.heap.size + 1) 3 A2 k c2 (cfTo (W : Int) l k) ∧ Below w1.heap.size w1 wr) (fun i _ _ => n1 - (intOf i).toNat)
    case atStart => exact ⟨0, _, _, Nat.zero_le _, rfl, rfl, HF2.out, by rw [cfTo_zero]; exact HO2.out, HB2.out⟩
    case round =>
      clear hsz2 HF2 HO2 HB2
      obtain ⟨k, A2, c2, hk, rfl, rfl, hF, hO, hbl⟩ := hrel
      have hc0 := HC.out _ hbl
      by_cases hlt : k < n1
      · obtain ⟨ae, rfl, _, h1⟩ := (HR1.out.below hbl).at_ hlt
        obtain ⟨a, ha, haW⟩ := HW.out k hlt
        rw [ha] at h1
        have ha8 : a < W := by omega
        obtain ⟨gF, uF, eF, _, _, hu, cF, fF⟩ := hF.at_ ha8
        injection eF with eF
        injection eF with eF
        subst eF
        obtain ⟨q, hq⟩ : ∃ q, cnt l k a = q := ⟨_, rfl⟩
        have huv : uF = .int .i64 (q : Int) := by
          have hzl := hF.lenI
          rw [List.getElem?_map, List.getElem?_eq_getElem (show a < (cntL W l k).length by omega)] at hu
          rw [← hq, ← cntL_nth (l := l) (k := k) ha8, nth_eq (show a < (cntL W l k).length by omega)]
          simpa using hu.symm
        subst huv
        have hqk : q ≤ k := by rw [← hq]; exact cnt_le _ _ _
        obtain ⟨r, hr⟩ : ∃ r : Nat, W * q = r := ⟨_, rfl⟩
        have hr2 : r ≤ 480 := by
          rw [← hr]
          exact Nat.le_trans (Nat.mul_le_mul hW8 (show q ≤ 60 by omega)) (by omega)
        have hr3 : (W : Int) * (q : Int) = (r : Int) := by rw [← hr]; simp
        obtain ⟨s, hs⟩ : ∃ s : Nat, r + a = s := ⟨_, rfl⟩
        have hs2 : s ≤ 500 := by omega
        have hs3 : (r : Int) + (a : Int) = (s : Int) := by omega
        have HN := Lib.hid (cfTo_succ ha hq hr3 hs3)
        have HSET := Lib.hid (cntL_set ha ha8)
        have HQ := Lib.hid hq
        have own := hO
        have N1 := Lib.hid (show some w.heap.size ≠ blk A2 from fun e => by have := (hO.blk_ _ e.symm).1; omega)
        have N2 := Lib.hid (show some w1.heap.size ≠ blk A2 from fun e => by have := (hO.blk_ _ e.symm).1; omega)
        have hszr : w1.heap.size < wr.heap.size := (hF.blk_ w1.heap.size rfl).2
        have hm1 : IntKind.i64.wrap ((W : Int) * (q : Int)) = (r : Int) := by rw [hr3]; exact IntWalk.i64_in _ (by omega)
        have hm2 : IntKind.i64.wrap ((r : Int) + (a : Int)) = (s : Int) := by rw [hs3]; exact IntWalk.i64_in _ (by omega)
        have ha8i : (a : Int) < 8 := by omega
        have ha0i : (0 : Int) ≤ (a : Int) := by omega
        clear hu ha hq hr hs hr3 hs3 hO
        go_wp2_with fail
        go_region_held3 (fun w' => w'.cell? ⟨w.heap.size, 0, none⟩ = some (.int .i64 (W : Int)) ∧ w'.cell? ⟨w1.heap.size, a, none⟩ = some (.int .i64 (q : Int)))
          (first
            | go_keep
            | (go_split_ands
               refine ⟨?_, ?_⟩
               · (rw [hgrow.cell_far _ (by simp; omega) (by rw [ownBlock_slice]; exact N1.out)]; assumption)
               · (rw [hgrow.cell_far _ (by simp; omega) (by rw [ownBlock_slice]; exact N2.out)]; assumption)))
          ((refine step_append_lies _ (by rfl) _ _ _ (by rfl) (w1.heap.size + 1) 3 i0 _ 1 8 Try.underlying22 hi0 hz0 hz1 hz2 rfl (by omega) _ k _ (by rfl) ((own.alloc _).drew)
              ⟨_, 0, none⟩ 1 1 [.int .i64 (s : Int)] (by rfl) (by rfl) (World.news_of_block (cs := #[.int .i64 (s : Int)]) (t := 3) (fr := (0, 0)) (heap_alloc_new wr _)) (by simp [Value.oneCell'])
              (by omega) (by unfold maxLen; omega) (by omega) (by simp; omega) (wr.heap.size + 1) (by simp) ?_; intro gg cap w7 hown7 hgrow hat hlt7))
        all_goals
          clear hm1 hm2
          have hF7 := ((hF.alloc (.cells #[.int .i64 (s : Int)] 3)).drew).kept hgrow (fun g h1 h2 => by have h3 : w1.heap.size = g := (by simpa [blk] using h1); subst h3; rw [ownBlock_slice] at h2; exact N2.out h2)
          have hb7 := below_of_grown (((hbl.alloc (by omega) (.cells #[.int .i64 (s : Int)] 3)).drew)) hgrow (by simp; omega) (fun g e => by rw [ownBlock_slice] at e; have := (own.blk_ g e).1; omega)
          have own7 : OwnI w7 (w1.heap.size + 1) 3 (some ⟨gg, 0, none⟩) (k + 1) cap (cfTo (W : Int) l (k + 1)) := by
            rw [OwnI, HN.out, List.map_append]
            exact hown7
          obtain ⟨gF, uF, eF, _, _, hu, cF7, fF7⟩ := hF7.at_ ha8
          injection eF with eF
          injection eF with eF
          subst eF
          have huv : uF = .int .i64 (q : Int) := by
            have hzl := hF7.lenI
            rw [List.getElem?_map, List.getElem?_eq_getElem (show a < (cntL W l k).length by omega)] at hu
            rw [← HQ.out, ← cntL_nth (l := l) (k := k) ha8, nth_eq (show a < (cntL W l k).length by omega)]
            simpa using hu.symm
          subst huv
          have hF8 := hF7.setI (x := (q : Int) + 1) ha8
          rw [show (cntL W l k).set a ((q : Int) + 1) = cntL W l (k + 1) by rw [← HQ.out]; exact HSET.out] at hF8
          have hb8 := hb7.setCell (p := ⟨w1.heap.size, a, none⟩) (Nat.le_refl _) (.int .i64 ((q : Int) + 1))
          have own8 := own7.setOther (p := ⟨w1.heap.size, a, none⟩) (fun g h => by have := (own7.blk_ g h).1; show g ≠ w1.heap.size; omega) (.int .i64 ((q : Int) + 1))
          clear hu cF fF hF hF7 hbl own own7 hown7 hgrow hb7
          go_wp2
          go_roundw
          case rel => exact ⟨k + 1, _, _, by omega, by go_num, rfl, hF8, own8, hb8⟩
          case measure => (simp [intOf] <;> omega)
      · obtain rfl : k = n1 := by omega
        go_wp2_with fail
        go_ret
        exact ⟨_, _, _, rfl, by rw [HY.out]; exact hO.more (by have := hB1.out.size; omega), hB1.out.trans (hbl.mono hB1.out.size)⟩

set_option maxHeartbeats 4000000 in
theorem implCountFrom (x : Int) (A : Option Addr) (n c : Nat) (zss : List (List Int)) (S : Option Addr) (m d : Nat) (es : List Int) (w : World) (ha : RdM w A n zss) (hn : n ≤ 1048576) (hs : RdI w S m es) (hm : m ≤ 1048576) :
    Calls Try.prog 35 #[.agg #[.int .i64 x, .slice A n c], .slice S m d] w fun e w' => ∃ A' n' c', e = .returned (.slice A' n' c') ∧ OwnI w' w.heap.size 3 A' n' c' (cfOut x zss es) ∧ Below w.heap.size w w' := by
  have C := fun w' (h1 : RdM w' A n zss) (h2 : RdI w' S m es) => implTrace x A n c zss S m d es w' h1 hn h2 hm
  have hal := (below_alloc w (.cells #[.int .i64 x, .slice A n c] 35))
  have HLS := Lib.hid hs.lenI
  have HZ := Lib.hid ha.1
  cases hg : ttB x zss es with
  | false =>
    have H := Lib.hid (cfOut_no hg)
    rw [hg] at C
    have CC := Lib.hid C
    clear C hg
    go_enter Try.func35, Try.ntmps35
    go_wp2_with fail
    refine (CC.out _ (ha.below hal) (hs.below hal)).mono ?_
    rintro e w1 ⟨A1, n1, c1, rfl, o1, hb1⟩
    go_wp2_with fail
    go_ret
    exact ⟨none, 0, 0, rfl, by rw [H.out]; exact Own.nil_ _ _ _, hal.trans (hb1.mono (by simp))⟩
  | true =>
    obtain ⟨W, rfl⟩ := tt_x hg
    have HT := tt_out HZ.out HLS.out hg
    obtain ⟨hW1, hW8, hm60, l, hl, hll, hlw⟩ := HT
    have HW := Lib.hid hlw
    have HY := Lib.hid (cfOut_yes hg hl HLS.out)
    rw [hg, hl] at C
    have CC := Lib.hid C
    clear C hg hl hlw
    go_enter Try.func35, Try.ntmps35
    go_wp2_with fail
    refine (CC.out _ (ha.below hal) (hs.below hal)).mono ?_
    rintro e w1 ⟨A1, n1, c1, rfl, o1, hb1⟩
    obtain rfl : n1 = m := by rw [← o1.lenI]; exact hll
    have hsz1 : w.heap.size + 1 ≤ w1.heap.size := by have := hb1.size; simpa using this
    have hc0 : w1.cell? ⟨w.heap.size, 0, none⟩ = some (.int .i64 (W : Int)) := by rw [hb1.cell (p := ⟨w.heap.size, 0, none⟩) (by simp)]; simp
    have hB1 := Lib.hid (hal.trans (hb1.mono (by simp)))
    have HC := Lib.hid (show ∀ wz : World, Below w1.heap.size w1 wz → wz.cell? ⟨w.heap.size, 0, none⟩ = some (.int .i64 (W : Int)) from fun wz hz => (hz.cell (p := ⟨w.heap.size, 0, none⟩) (by show w.heap.size < _; omega)).trans hc0)
    have HR1 := Lib.hid o1.rd
    clear hb1 CC hal ha hs o1 hll
    have HF2 := Lib.hid (show OwnI ((w1.alloc (.cells #[.int .i64 0, .int .i64 0, .int .i64 0, .int .i64 0, .int .i64 0, .int .i64 0, .int .i64 0, .int .i64 0] 60)).alloc (.cells #[] 3)) w1.heap.size 60 (some ⟨w1.heap.size, 0, none⟩) 8 8 (cntL 8 l 0) by
      rw [← cntL_zero]
      exact Own.alloc (World.ownsRow_lit (base := w1.heap.size) (e := 60) (size := 1) w1 #[.int .i64 0, .int .i64 0, .int .i64 0, .int .i64 0, .int .i64 0, .int .i64 0, .int .i64 0, .int .i64 0] 8 (Nat.le_refl _) (by unfold maxLen; omega) rfl) _)
    have HO2 := Lib.hid (show OwnI ((w1.alloc (.cells #[.int .i64 0, .int .i64 0, .int .i64 0, .int .i64 0, .int .i64 0, .int .i64 0, .int .i64 0, .int .i64 0] 60)).alloc (.cells #[] 3)) (w1.heap.size + 1) 3 (some ⟨w1.heap.size + 1, 0, none⟩) 0 0 [] from own_empty_at _ 3 (w1.heap.size + 1) (by simp))
    have HB2 := Lib.hid (show Below w1.heap.size w1 ((w1.alloc (.cells #[.int .i64 0, .int .i64 0, .int .i64 0, .int .i64 0, .int .i64 0, .int .i64 0, .int .i64 0, .int .i64 0] 60)).alloc (.cells #[] 3)) from (below_alloc w1 _).alloc (by simp) _)
    clear hc0
    go_wp2_with fail
    obtain ⟨i0, hi0, hz0, hz1, hz2⟩ := info_parts intInfo
    go_loopw [23, 8] (fun i o wr => ∃ k : Nat, ∃ A2 c2, k ≤ n1 ∧ i = .int .i64 k ∧ o = .slice A2 k c2 ∧ OwnI wr w1.heap.size 60 (some ⟨w1.heap.size, 0, none⟩) 8 8 (cntL 8 l k) ∧ OwnI wr (w1.heap.size + 1) 3 A2 k c2 (cfTo (W : Int) l k) ∧ Below w1.heap.size w1 wr) (fun i _ _ => n1 - (intOf i).toNat)
    case atStart => exact ⟨0, _, _, Nat.zero_le _, rfl, rfl, HF2.out, by rw [cfTo_zero]; exact HO2.out, HB2.out⟩
    case round =>
      clear HF2 HO2 HB2
      obtain ⟨k, A2, c2, hk, rfl, rfl, hF, hO, hbl⟩ := hrel
      have hc0 := HC.out _ hbl
      by_cases hlt : k < n1
      · obtain ⟨ae, rfl, _, h1⟩ := (HR1.out.below hbl).at_ hlt
        obtain ⟨a, ha, haW⟩ := HW.out k hlt
        rw [ha] at h1
        have ha8 : a < 8 := by omega
        obtain ⟨gF, uF, eF, _, _, hu, cF, fF⟩ := hF.at_ ha8
        injection eF with eF
        injection eF with eF
        subst eF
        obtain ⟨q, hq⟩ : ∃ q, cnt l k a = q := ⟨_, rfl⟩
        have huv : uF = .int .i64 (q : Int) := by
          have hzl := hF.lenI
          rw [List.getElem?_map, List.getElem?_eq_getElem (show a < (cntL 8 l k).length by omega)] at hu
          rw [← hq, ← cntL_nth (l := l) (k := k) ha8, nth_eq (show a < (cntL 8 l k).length by omega)]
          simpa using hu.symm
        subst huv
        have hqk : q ≤ k := by rw [← hq]; exact cnt_le _ _ _
        obtain ⟨r, hr⟩ : ∃ r : Nat, W * q = r := ⟨_, rfl⟩
        have hr2 : r ≤ 480 := by
          rw [← hr]
          exact Nat.le_trans (Nat.mul_le_mul hW8 (show q ≤ 60 by omega)) (by omega)
        have hr3 : (W : Int) * (q : Int) = (r : Int) := by rw [← hr]; simp
        obtain ⟨s, hs⟩ : ∃ s : Nat, r + a = s := ⟨_, rfl⟩
        have hs2 : s ≤ 500 := by omega
        have hs3 : (r : Int) + (a : Int) = (s : Int) := by omega
        have HN := Lib.hid (cfTo_succ ha hq hr3 hs3)
        have HSET := Lib.hid (cntL_set ha ha8)
        have HQ := Lib.hid hq
        have own := hO
        have N1 := Lib.hid (show some w.heap.size ≠ blk A2 from fun e => by have := (hO.blk_ _ e.symm).1; omega)
        have N2 := Lib.hid (show some w1.heap.size ≠ blk A2 from fun e => by have := (hO.blk_ _ e.symm).1; omega)
        have hszr : w1.heap.size < wr.heap.size := (hF.blk_ w1.heap.size rfl).2
        have hm1 : IntKind.i64.wrap ((W : Int) * (q : Int)) = (r : Int) := by rw [hr3]; exact IntWalk.i64_in _ (by omega)
        have hm2 : IntKind.i64.wrap ((r : Int) + (a : Int)) = (s : Int) := by rw [hs3]; exact IntWalk.i64_in _ (by omega)
        have ha8i : (a : Int) < 8 := by omega
        have ha0i : (0 : Int) ≤ (a : Int) := by omega
        clear hu ha hq hr hs hr3 hs3 hO
        go_wp2_with fail
        go_region_held3 (fun w' => w'.cell? ⟨w.heap.size, 0, none⟩ = some (.int .i64 (W : Int)) ∧ w'.cell? ⟨w1.heap.size, a, none⟩ = some (.int .i64 (q : Int)))
          (first
            | go_keep
            | (go_split_ands
               refine ⟨?_, ?_⟩
               · (rw [hgrow.cell_far _ (by simp; omega) (by rw [ownBlock_slice]; exact N1.out)]; assumption)
               · (rw [hgrow.cell_far _ (by simp; omega) (by rw [ownBlock_slice]; exact N2.out)]; assumption)))
          ((refine step_append_lies _ (by rfl) _ _ _ (by rfl) (w1.heap.size + 1) 3 i0 _ 1 8 Try.underlying22 hi0 hz0 hz1 hz2 rfl (by omega) _ k _ (by rfl) ((own.alloc _).drew)
              ⟨_, 0, none⟩ 1 1 [.int .i64 (s : Int)] (by rfl) (by rfl) (World.news_of_block (cs := #[.int .i64 (s : Int)]) (t := 3) (fr := (0, 0)) (heap_alloc_new wr _)) (by simp [Value.oneCell'])
              (by omega) (by unfold maxLen; omega) (by omega) (by simp; omega) (wr.heap.size + 1) (by simp) ?_; intro gg cap w7 hown7 hgrow hat hlt7))
        all_goals
          clear hm1 hm2
          have hF7 := ((hF.alloc (.cells #[.int .i64 (s : Int)] 3)).drew).kept hgrow (fun g h1 h2 => by have h3 : w1.heap.size = g := (by simpa [blk] using h1); subst h3; rw [ownBlock_slice] at h2; exact N2.out h2)
          have hb7 := below_of_grown (((hbl.alloc (by omega) (.cells #[.int .i64 (s : Int)] 3)).drew)) hgrow (by simp; omega) (fun g e => by rw [ownBlock_slice] at e; have := (own.blk_ g e).1; omega)
          have own7 : OwnI w7 (w1.heap.size + 1) 3 (some ⟨gg, 0, none⟩) (k + 1) cap (cfTo (W : Int) l (k + 1)) := by
            rw [OwnI, HN.out, List.map_append]
            exact hown7
          obtain ⟨gF, uF, eF, _, _, hu, cF7, fF7⟩ := hF7.at_ ha8
          injection eF with eF
          injection eF with eF
          subst eF
          have huv : uF = .int .i64 (q : Int) := by
            have hzl := hF7.lenI
            rw [List.getElem?_map, List.getElem?_eq_getElem (show a < (cntL 8 l k).length by omega)] at hu
            rw [← HQ.out, ← cntL_nth (l := l) (k := k) ha8, nth_eq (show a < (cntL 8 l k).length by omega)]
            simpa using hu.symm
          subst huv
          have hF8 := hF7.setI (x := (q : Int) + 1) ha8
          rw [show (cntL 8 l k).set a ((q : Int) + 1) = cntL 8 l (k + 1) by rw [← HQ.out]; exact HSET.out] at hF8
          have hb8 := hb7.setCell (p := ⟨w1.heap.size, a, none⟩) (Nat.le_refl _) (.int .i64 ((q : Int) + 1))
          have own8 := own7.setOther (p := ⟨w1.heap.size, a, none⟩) (fun g h => by have := (own7.blk_ g h).1; show g ≠ w1.heap.size; omega) (.int .i64 ((q : Int) + 1))
          clear hu cF fF hF hF7 hbl own own7 hown7 hgrow hb7
          go_wp2
          go_roundw
          case rel => exact ⟨k + 1, _, _, by omega, by go_num, rfl, hF8, own8, hb8⟩
          case measure => (simp [intOf] <;> omega)
      · obtain rfl : k = n1 := by omega
        go_wp2_with fail
        go_ret
        exact ⟨_, _, _, rfl, by rw [HY.out]; exact hO.more (by have := hB1.out.size; omega), hB1.out.trans (hbl.mono hB1.out.size)⟩

end Go.Proofs.Ytcijnmooifcicaa
