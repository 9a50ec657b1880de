/- FnShortest: slices.Delete at [][]int, impl.DropPair, impl.IsNeeded, impl.IsLean. -/
import Derived.Test.YtobdkfhmmpigiaaGreatZ6a
import Derived.Test.YtobdkfhmmpigiaaGreatLayE
namespace Go.Proofs.YtobdkfhmmpigiaaGreat
open Go.RowKit Go.Deep Go.Sort Go.Shelf
set_option linter.unusedVariables false

def dropR (zss : List (List Int)) (i : Nat) : List (List Int) := zss.take i ++ zss.drop (i + 1)
theorem dropR_len {zss : List (List Int)} {n i : Nat} (hl : zss.length = n) (hi : i < n) : (dropR zss i).length = n - 1 := by
  unfold dropR
  simp [hl]
  omega
theorem dropR_row {zss : List (List Int)} {n i j : Nat} (hl : zss.length = n) (hi : i < n) (hj : j < n - 1) : row (dropR zss i) j = row zss (if j < i then j else j + 1) := by
  unfold row dropR
  rw [List.getD_eq_getElem?_getD, List.getD_eq_getElem?_getD]
  by_cases h : j < i
  · rw [if_pos h, List.getElem?_append_left (by simp; omega), List.getElem?_take_of_lt h]
  · rw [if_neg h, List.getElem?_append_right (by simp; omega), List.getElem?_drop]
    congr 2
    simp
    omega
theorem netR_drop {W n i : Nat} {zss : List (List Int)} (h : NetR W n zss) (hi : i < n) : NetR W (n - 1) (dropR zss i) := by
  refine ⟨dropR_len h.1 hi, fun k hk => ?_⟩
  rw [dropR_row h.1 hi hk]
  exact h.2 _ (by split <;> omega)
theorem putRow_sortW (enc : Nat → Value) (w : World) (g m : Nat) (d : Array Nat) : putRow enc (Sort.ahead w m) g 0 d = sortWorld enc w g 0 m d #[] := by
  unfold sortWorld
  simp [Sort.grow]
  rfl

theorem implDelete (A : Option Addr) (n c i lo : Nat) (zss : List (List Int)) (w0 w : World) (ho : OwnS w0 lo A n c zss) (hbw : Below w0.heap.size w0 w) (hi : i < n) (hn : n ≤ 60) :
    Calls Tryz.prog 65 #[.slice A n c, .int .i64 i, .int .i64 (i + 1 : Nat)] w fun e w' => e = .returned (.slice A (n - 1) c) ∧ (∀ w2, w'.heap.size ≤ w2.heap.size → (∀ g, lo ≤ g → g < w0.heap.size → w2.heap[g]? = w'.heap[g]?) → RdM w2 A (n - 1) (dropR zss i)) ∧ w.grownBy w' (blk A) := by
  obtain ⟨hl, vs, hv0, hr⟩ := ho
  have hv := hv0.below hbw
  have hlen := hv.len
  obtain ⟨i0, hi0, hz0, hz1, hz3⟩ := info_parts sliceInfo
  obtain ⟨g, u0, hA, _, _, _, _, _⟩ := hv.at_ (show 0 < n by omega)
  subst hA
  obtain ⟨enc, henc⟩ : ∃ enc : Nat → Value, enc = fun j => vs.getD j (.slice none 0 0) := ⟨_, rfl⟩
  have hview : ∀ x, Rw w0 lo (fun q => q ≠ g) (enc x) (row zss x) := by
    intro x
    by_cases hx : x < n
    · obtain ⟨v, h1, h2⟩ := hr.at_ x (by omega)
      have : enc x = v := by rw [henc]; show vs.getD x _ = v; rw [List.getD_eq_getElem?_getD, h1]; rfl
      rw [this]
      exact h2.keep fun q h3 h4 h5 => ⟨rfl, fun e => h5 (by rw [e]; rfl)⟩
    · have h1 : enc x = .slice none 0 0 := by rw [henc]; show vs.getD x _ = _; rw [List.getD_eq_getElem?_getD, List.getElem?_eq_none (by omega)]; rfl
      have h2 : row zss x = [] := by unfold row; rw [List.getD_eq_getElem?_getD, List.getElem?_eq_none (by omega)]; rfl
      rw [h1, h2]
      exact ⟨none, 0, 0, rfl, Own.nil_ _ _ _, fun q e => by simp [blk] at e⟩
  have hzr : enc n = .slice none 0 0 := by rw [henc]; show vs.getD n _ = _; rw [List.getD_eq_getElem?_getD, List.getElem?_eq_none (by omega)]; rfl
  obtain ⟨d, hd⟩ : ∃ d : Array Nat, d = (List.range n).toArray := ⟨_, rfl⟩
  have hds : d.size = n := by subst hd; simp
  have hdj : ∀ j, j < n → d[j]! = j := by
    intro j hj
    rw [getElem!_pos d j (by omega)]
    subst hd
    simp
  have hH : Holds enc w g 0 d := by
    intro j hj
    rw [hds] at hj
    obtain ⟨g', u, hA, _, _, hu, hc, hf⟩ := hv.at_ hj
    injection hA with hA
    injection hA with hA
    subst hA
    rw [hdj j hj, Nat.zero_add]
    refine ⟨?_, hf⟩
    rw [hc, henc]
    show some u = some (vs.getD j _)
    rw [List.getD_eq_getElem?_getD, hu]
    rfl
  have h1 : OneCell enc := fun x => by
    obtain ⟨B, m, dd, e, _⟩ := hview x
    rw [e]; rfl
  have hcap := hv.cap
  have hblk := (hv0.blk_ g rfl).2
  have hs0 := hbw.size
  have hcall := AnyE.slices_Delete laysSlE45_f65 enc h1 n (fun w => by rw [hzr]; exact Tryz.zeroValue30 w) i0 hi0 hz1 g 0 c i (i + 1) d w hH (by omega) (by have := hcap.2; unfold maxLen at this; omega) (by omega) (by omega)
  rw [hds] at hcall
  refine hcall.mono ?_
  rintro e w' ⟨rfl, q, rfl⟩
  obtain ⟨d', hd'⟩ : ∃ d' : Array Nat, d' = (d.toList.take i ++ d.toList.drop (i + 1) ++ List.replicate (i + 1 - i) n).toArray := ⟨_, rfl⟩
  rw [← hd', putRow_sortW]
  have hsz' : d'.size = n := by rw [hd']; simp [hds]; omega
  have hd'j : ∀ j, j < n - 1 → d'[j]! = if j < i then j else j + 1 := by
    intro j hj
    rw [getElem!_pos d' j (by omega)]
    have : d'[j]? = some (if j < i then j else j + 1) := by
      have hdl : d.toList = List.range n := by rw [hd]
      rw [hd', List.getElem?_toArray, List.append_assoc, hdl]
      by_cases h : j < i
      · rw [if_pos h, List.getElem?_append_left (by simp; omega), List.getElem?_take_of_lt h, List.getElem?_range (by omega)]
      · rw [if_neg h, List.getElem?_append_right (by simp; omega), List.getElem?_append_left (by simp; omega), List.getElem?_drop, List.getElem?_range (by simp; omega)]
        exact congrArg some (by rw [List.length_take, List.length_range]; omega)
    rw [Array.getElem?_eq_getElem (by omega)] at this
    injection this
  refine ⟨by rw [show i + 1 - i = 1 by omega], fun w2 hsz2 heq2 => ⟨dropR_len hl hi, fun j hj => ?_⟩, sortW_grown _ _ _ _ _ _⟩
  have hcell : (sortWorld enc w g 0 q d' #[]).cell? ⟨g, 0 + j, none⟩ = some (enc d'[j]!) := by
    rw [← putRow_sortW]
    exact cell?_putRow enc (Sort.ahead w q) g 0 d d' hH (by omega) j (by omega)
  rw [hd'j j hj] at hcell
  obtain ⟨B, m, dd, e1, hB, hB2⟩ := hview (if j < i then j else j + 1)
  have hsw := sortW_size enc w g q d' #[]
  refine ⟨⟨g, 0, none⟩, B, m, dd, rfl, by show g < w2.heap.size; omega, ?_, ?_, hB.cap.1, hB.cap.2⟩
  · rw [Addr.add_lit, World.cell?_of_block (heq2 g (hv0.blk_ g rfl).1 hblk), hcell, e1]
  · rw [dropR_row hl hi hj]
    exact hB.rd.keep (by omega) fun p e hq => (heq2 p (hB.blk_ p e).1 hq).trans ((sortW_other _ _ _ _ _ _ p (by omega) (hB2 p e)).trans (hbw.block p hq))

theorem netR_rows {W n : Nat} {zss : List (List Int)} (h : NetR W n zss) : ∀ j, j < n → (row zss j).length ≤ 100 := fun j hj => by
  obtain ⟨p, q, hr, _⟩ := h.2 j hj
  rw [hr]
  show 2 ≤ 100
  omega
set_option maxHeartbeats 4000000 in
theorem implDrop (W n : Nat) (A : Option Addr) (c i : Nat) (zss : List (List Int)) (w : World) (hR : NetR W n zss) (ha : RdM w A n zss) (h1 : 1 ≤ W) (h4 : W ≤ 4) (hn : n ≤ 60) (hi : i < n) :
    Calls Tryz.prog 50 #[.agg #[.int .i64 W, .slice A n c], .int .i64 i] w fun e w' => ∃ A' c', e = .returned (.tuple #[.agg #[.int .i64 W, .slice A' (n - 1 : Nat) c'], .bool true]) ∧ RdM w' A' (n - 1) (dropR zss i) ∧ Below w.heap.size w w' := by
  have hok := netR_ok hR h1 (by omega) hn
  have CN := Lib.hid (fun w' (h : RdM w' A n zss) => hok ▸ implNetOk (W : Int) A n c zss w' h (by omega))
  have CO := Lib.hid (fun w' (h : RdM w' A n zss) => implOwn W n A c zss w' h hn (netR_rows hR))
  have CD := Lib.hid (fun A' c' lo w0 w' (h : OwnS w0 lo A' n c' zss) (h2 : Below w0.heap.size w0 w') => implDelete A' n c' i lo zss w0 w' h h2 hi hn)
  obtain ⟨b, hb⟩ : ∃ b, w.heap.size = b := ⟨_, rfl⟩
  obtain ⟨W1, hW1⟩ : ∃ X, w.alloc (.cells #[.int .i64 (W : Int), .slice A n c] 27) = X := ⟨_, rfl⟩
  have z1 : W1.heap.size = b + 1 := by rw [← hW1]; simp [hb]
  have b1 : Below b w W1 := hW1 ▸ (hb ▸ below_alloc w _)
  have k1 : Own W1 b 27 (some ⟨b, 0, none⟩) 2 2 [.int .i64 (W : Int), .slice A n c] := by have h := own_netbox w (W : Int) A n c; rw [hb, hW1] at h; exact h
  obtain ⟨W2, hW2⟩ : ∃ X, W1.alloc (.cells #[.int .i64 0, .slice none 0 0] 27) = X := ⟨_, rfl⟩
  have z2 : W2.heap.size = b + 2 := by rw [← hW2]; simp [z1]
  have b2 : Below (b + 1) W1 W2 := by have h := below_alloc W1 (.cells #[.int .i64 0, .slice none 0 0] 27); rw [z1, hW2] at h; exact h
  have o2 : Own W2 (b + 1) 27 (some ⟨b + 1, 0, none⟩) 2 2 [.int .i64 0, .slice none 0 0] := by have h := own_netbox W1 0 none 0 0; rw [z1, hW2] at h; exact h
  have k2 := k1.below (by rw [z1]; exact b2)
  obtain ⟨q0, q1, q2, q3, q4⟩ := own_box2 k2
  have HBW := Lib.hid (b1.trans (b2.mono (by omega)))
  have ha2 := (ha.below (by rw [hb]; exact b1)).below (by rw [z1]; exact b2)
  have HO2 := Lib.hid o2
  have HK2 := Lib.hid k2
  have HW1 := Lib.hid hW1
  have HW2 := Lib.hid hW2
  have d1 : decide ((i : Int) < 0) = false := by simp
  have d2 : decide ((n : Int) ≤ (i : Int)) = false := by simp; omega
  clear hW1 hW2 b1 b2 k1 k2 o2 ha hok hR
  go_enter Tryz.func50, Tryz.ntmps50
  go_wp2_with fail
  rw [HW1.out, HW2.out]
  refine (CN.out _ ha2).mono ?_
  rintro e w3 ⟨rfl, hb3⟩
  have s3 : b + 2 ≤ w3.heap.size := by have h := hb3.size; omega
  obtain ⟨r0, r1, r2, r3, r4⟩ := own_box2 (HK2.out.below hb3)
  have ha3 := ha2.below hb3
  have HO3 := Lib.hid (HO2.out.below hb3)
  have HB3 := Lib.hid (HBW.out.trans (hb3.mono (by omega)))
  clear hb3 ha2
  go_wp2_with fail
  refine (CO.out _ ha3).mono ?_
  rintro e w4 ⟨A4, c4, rfl, hs4, hb4⟩
  obtain ⟨bb, hbb⟩ : ∃ bb, w4.heap.size = bb := ⟨_, rfl⟩
  have s4 : b + 2 ≤ bb := by have h := hb4.size; omega
  obtain ⟨W5, hW5⟩ : ∃ X, w4.alloc (.cells #[.int .i64 (W : Int), .slice A4 n c4] 27) = X := ⟨_, rfl⟩
  have z5 : W5.heap.size = bb + 1 := by rw [← hW5]; simp [hbb]
  have b5 : Below bb w4 W5 := hW5 ▸ (hbb ▸ below_alloc w4 _)
  have k5 : Own W5 bb 27 (some ⟨bb, 0, none⟩) 2 2 [.int .i64 (W : Int), .slice A4 n c4] := by have h := own_netbox w4 (W : Int) A4 n c4; rw [hbb, hW5] at h; exact h
  obtain ⟨t0, t1, t2, t3, t4⟩ := own_box2 k5
  have HS4 := Lib.hid hs4
  have HB45 := Lib.hid (show Below w4.heap.size w4 W5 by rw [hbb]; exact b5)
  have HK5 := Lib.hid k5
  have HO5 := Lib.hid ((HO3.out.below hb4).below (by rw [hbb]; exact b5))
  have HB5 := Lib.hid ((HB3.out.trans (hb4.mono (by omega))).trans (b5.mono (by omega)))
  have HFR := Lib.hid (show ∀ g, blk A4 = some g → w3.heap.size ≤ g ∧ g < bb from fun g e => by obtain ⟨_, vs, hv, _⟩ := hs4; have := hv.blk_ g e; exact ⟨this.1, by rw [← hbb]; exact this.2⟩)
  have HW5 := Lib.hid hW5
  clear hW5 b5 k5 hs4 hb4
  go_wp2_with fail
  rw [HW5.out]
  go_wp2_with fail
  refine (CD.out A4 c4 w3.heap.size w4 W5 HS4.out HB45.out).mono ?_
  rintro e w6 ⟨rfl, hr6, hg6⟩
  have s6 := hg6.size
  have hk6 := HK5.out.kept hg6 (fun g h1 h2 => by have h3 : bb = g := (by simpa [blk] using h1); have := (HFR.out g h2.symm).2; omega)
  have ho6 := HO5.out.kept hg6 (fun g h1 h2 => by have h3 : b + 1 = g := (by simpa [blk] using h1); have := (HFR.out g h2.symm).1; omega)
  have hb6 := below_of_grown HB5.out hg6 (by omega) (fun g e => by have := (HFR.out g e).1; omega)
  obtain ⟨v0, v1, v2, v3, v4⟩ := own_box2 hk6
  obtain ⟨x0, x1, x2, x3, x4⟩ := own_box2 ho6
  have hk7 := hk6.set_ (k := 1) (.slice A4 (n - 1 : Nat) c4) (by omega)
  obtain ⟨y0, y1, _, _, _⟩ := own_box2 hk7
  have ho7 := ho6.setOther (p := ⟨bb, 1, none⟩) (fun g e => by simp [blk] at e; show g ≠ bb; omega) (.slice A4 (n - 1 : Nat) c4)
  obtain ⟨x5, x6, x7, x8, _⟩ := own_box2 ho7
  have ho8 := (ho7.set_ (k := 0) (.int .i64 (W : Int)) (by omega)).set_ (k := 1) (.slice A4 (n - 1 : Nat) c4) (by omega)
  obtain ⟨u0, u1, _, _, _⟩ := own_box2 ho8
  have HR8 := Lib.hid (hr6 (((w6.setCell ⟨bb, 1, none⟩ (.slice A4 (n - 1 : Nat) c4)).setCell ⟨b + 1, 0, none⟩ (.int .i64 (W : Int))).setCell ⟨b + 1, 1, none⟩ (.slice A4 (n - 1 : Nat) c4)) (by simp [World.setCell]) (fun g h1 h2 => (Below.heap_setCell _ _ _ g (by show g ≠ b + 1; omega)).trans ((Below.heap_setCell _ _ _ g (by show g ≠ b + 1; omega)).trans (Below.heap_setCell _ _ _ g (by show g ≠ bb; omega)))))
  have HB8 := Lib.hid (((hb6.setCell (p := ⟨bb, 1, none⟩) (by show b ≤ bb; omega) (.slice A4 (n - 1 : Nat) c4)).setCell (p := ⟨b + 1, 0, none⟩) (by show b ≤ b + 1; omega) (.int .i64 (W : Int))).setCell (p := ⟨b + 1, 1, none⟩) (by show b ≤ b + 1; omega) (.slice A4 (n - 1 : Nat) c4))
  clear hr6 hg6 hk6 ho6 hk7 ho7 ho8 hb6
  go_wp2_with fail
  exact bodyPost_ret (v := .tuple #[.agg #[.int .i64 (W : Int), .slice A4 (n - 1 : Nat) c4], .bool true]) (by simp [results, Tryz.results50, go_sem, u0, u1]) rfl ⟨A4, c4, rfl, HR8.out, by rw [hb]; exact HB8.out⟩

set_option maxHeartbeats 2000000 in
theorem implNeeded (W n : Nat) (A : Option Addr) (c i : Nat) (zss : List (List Int)) (w : World) (hR : NetR W n zss) (ha : RdM w A n zss) (h1 : 1 ≤ W) (h4 : W ≤ 4) (hn : n ≤ 60) (hi : i < n) (hs : sortB zss n W = true) (hd : sortB (dropR zss i) (n - 1) W = false) :
    Calls Tryz.prog 27 #[.agg #[.int .i64 W, .slice A n c], .int .i64 i] w fun e w' => e = .returned (.bool true) ∧ Below w.heap.size w w' := by
  have CX := Lib.hid (fun w' (h : RdM w' A n zss) => hs ▸ implIsSorting W n A c zss w' hR h h1 h4 hn)
  have CY := Lib.hid (fun A' c' w' (h : RdM w' A' (n - 1) (dropR zss i)) => hd ▸ implIsSorting W (n - 1) A' c' (dropR zss i) w' (netR_drop hR hi) h h1 h4 (by omega))
  have CD := Lib.hid (fun w' (h : RdM w' A n zss) => implDrop W n A c i zss w' hR h h1 h4 hn hi)
  obtain ⟨b, hb⟩ : ∃ b, w.heap.size = b := ⟨_, rfl⟩
  obtain ⟨W1, hW1⟩ : ∃ X, w.alloc (.cells #[.int .i64 (W : Int), .slice A n c] 27) = X := ⟨_, rfl⟩
  have z1 : W1.heap.size = b + 1 := by rw [← hW1]; simp [hb]
  have b1 : Below b w W1 := hW1 ▸ (hb ▸ below_alloc w _)
  have k1 : Own W1 b 27 (some ⟨b, 0, none⟩) 2 2 [.int .i64 (W : Int), .slice A n c] := by have h := own_netbox w (W : Int) A n c; rw [hb, hW1] at h; exact h
  obtain ⟨q0, q1, q2, q3, q4⟩ := own_box2 k1
  have ha1 := ha.below (by rw [hb]; exact b1)
  have HK1 := Lib.hid k1
  have HB1 := Lib.hid b1
  have HW1 := Lib.hid hW1
  clear hW1 b1 k1 ha hR hs hd
  go_enter Tryz.func27, Tryz.ntmps27
  go_wp2_with fail
  rw [HW1.out]
  go_wp2_with fail
  refine (CD.out _ ha1).mono ?_
  rintro e w2 ⟨A2, c2, rfl, hr2, hb2⟩
  obtain ⟨bb, hbb⟩ : ∃ bb, w2.heap.size = bb := ⟨_, rfl⟩
  have s2 : b + 1 ≤ bb := by have h := hb2.size; omega
  have b3 := below_alloc w2 (.cells #[.int .i64 (W : Int), .slice A2 (n - 1 : Nat) c2] 27)
  have k3 := own_netbox w2 (W : Int) A2 (n - 1) c2
  rw [hbb] at k3
  have z3 : (w2.alloc (.cells #[.int .i64 (W : Int), .slice A2 (n - 1 : Nat) c2] 27)).heap.size = bb + 1 := by simp [hbb]
  have hx3 := (HK1.out.below hb2).below b3
  obtain ⟨r0, r1, r2, r3, r4⟩ := own_box2 hx3
  obtain ⟨t0, t1, t2, t3, t4⟩ := own_box2 k3
  have HK3 := Lib.hid k3
  have hrx3 := (ha1.below hb2).below b3
  have HRY := Lib.hid (hr2.below b3)
  have HB3 := Lib.hid ((HB1.out.trans (hb2.mono (by omega))).trans (b3.mono (by omega)))
  clear b3 k3 hx3 hb2 hr2 ha1
  go_wp2_with fail
  refine (CX.out _ hrx3).mono ?_
  rintro e w4 ⟨rfl, hb4⟩
  obtain ⟨v0, v1, v2, v3, v4⟩ := own_box2 (HK3.out.below hb4)
  have hry4 := HRY.out.below hb4
  have HB4 := Lib.hid (HB3.out.trans (hb4.mono (by omega)))
  have hs4 := hb4.size
  clear hb4
  go_wp2_with fail
  refine (CY.out _ _ _ hry4).mono ?_
  rintro e w5 ⟨rfl, hb5⟩
  have HB5 := Lib.hid (HB4.out.trans (hb5.mono (by omega)))
  clear hb5
  go_wp2_with fail
  go_ret
  exact ⟨rfl, by rw [hb]; exact HB5.out⟩

/-- A sorting network none of whose pairs may be left out. -/
def LeanR (W n : Nat) (zss : List (List Int)) : Prop := sortB zss n W = true ∧ ∀ i, i < n → sortB (dropR zss i) (n - 1) W = false
set_option maxHeartbeats 2000000 in
theorem implLean (W n : Nat) (A : Option Addr) (c : Nat) (zss : List (List Int)) (w : World) (hR : NetR W n zss) (ha : RdM w A n zss) (h1 : 1 ≤ W) (h4 : W ≤ 4) (hn : n ≤ 60) (hL : LeanR W n zss) :
    Calls Tryz.prog 11 #[.agg #[.int .i64 W, .slice A n c]] w fun e w' => e = .returned (.bool true) ∧ Below w.heap.size w w' := by
  have CX := Lib.hid (fun w' (h : RdM w' A n zss) => hL.1 ▸ implIsSorting W n A c zss w' hR h h1 h4 hn)
  have CN := Lib.hid (fun i (hi : i < n) w' (h : RdM w' A n zss) => implNeeded W n A c i zss w' hR h h1 h4 hn hi hL.1 (hL.2 i hi))
  obtain ⟨b, hb⟩ : ∃ b, w.heap.size = b := ⟨_, rfl⟩
  obtain ⟨W1, hW1⟩ : ∃ X, w.alloc (.cells #[.int .i64 (W : Int), .slice A n c] 27) = X := ⟨_, rfl⟩
  have z1 : W1.heap.size = b + 1 := by rw [← hW1]; simp [hb]
  have b1 : Below b w W1 := hW1 ▸ (hb ▸ below_alloc w _)
  have k1 : Own W1 b 27 (some ⟨b, 0, none⟩) 2 2 [.int .i64 (W : Int), .slice A n c] := by have h := own_netbox w (W : Int) A n c; rw [hb, hW1] at h; exact h
  obtain ⟨q0, q1, q2, q3, q4⟩ := own_box2 k1
  have ha1 := ha.below (by rw [hb]; exact b1)
  have HA1 := Lib.hid ha1
  have HK1 := Lib.hid k1
  have HB1 := Lib.hid b1
  have HW1 := Lib.hid hW1
  clear hW1 b1 k1 ha hR hL
  go_enter Tryz.func11, Tryz.ntmps11
  go_wp2_with fail
  rw [HW1.out]
  refine (CX.out _ ha1).mono ?_
  rintro e w2 ⟨rfl, hb2⟩
  obtain ⟨r0, r1, r2, r3, r4⟩ := own_box2 (HK1.out.below hb2)
  have HB2 := Lib.hid hb2
  clear hb2 ha1
  go_wp2_with fail
  go_loopw [10] (fun iv wr => ∃ j : Nat, iv = .int .i64 (j : Nat) ∧ j ≤ n ∧ Below W1.heap.size W1 wr) (fun iv _ => n - (intOf iv).toNat)
  case atStart => exact ⟨0, rfl, Nat.zero_le _, HB2.out⟩
  case round =>
    obtain ⟨j, rfl, hj, hbl⟩ := hrel
    by_cases hlt : j < n
    · obtain ⟨t0, t1, t2, t3, t4⟩ := own_box2 (HK1.out.below hbl)
      have har := HA1.out.below hbl
      have hsz := hbl.size
      have HBL := Lib.hid hbl
      clear hbl
      go_wp2_with fail
      refine (CN.out j hlt _ har).mono ?_
      rintro e w5 ⟨rfl, hb5⟩
      have HB5 := Lib.hid (HBL.out.trans (hb5.mono hsz))
      clear hb5 har
      go_wp2_with fail
      go_roundw
      case rel => exact ⟨j + 1, by go_num, by omega, HB5.out⟩
      case measure => (simp [intOf] <;> omega)
    · obtain rfl : j = n := by omega
      go_wp2_with fail
      go_ret
      exact ⟨rfl, by rw [hb]; exact HB1.out.trans (hbl.mono (by omega))⟩
end Go.Proofs.YtobdkfhmmpigiaaGreat
