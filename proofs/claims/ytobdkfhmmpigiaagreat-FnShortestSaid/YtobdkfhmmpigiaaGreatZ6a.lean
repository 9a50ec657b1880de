/- FnShortest: impl.own. -/
import Derived.Test.YtobdkfhmmpigiaaGreatZ5
namespace Go.Proofs.YtobdkfhmmpigiaaGreat
open Go.RowKit Go.Deep
set_option linter.unusedVariables false

theorem OwnS.push2 {w w7 : World} {lo n c c7 mx dx : Nat} {A A7 Bx : Option Addr} {zss : List (List Int)} {x : List Int} {vs : List Value} (hl : zss.length = n) (hv : Own w lo 30 A n c vs) (hr : All2 (Rw w lo fun g => blk A ≠ some g) vs zss)
    (hx : OwnI w lo 3 Bx mx dx x) (hne : ∀ g, blk Bx = some g → blk A ≠ some g) (ho : Own w7 lo 30 A7 (n + 1) c7 (vs ++ [.slice Bx mx dx])) (hg : w.grownBy w7 (blk A)) (hat : ∀ g, blk A7 = some g → blk A = some g ∨ w.heap.size ≤ g) : OwnS w7 lo A7 (n + 1) c7 (zss ++ [x]) := by
  have hD : ∀ g, g < w.heap.size → blk A ≠ some g → blk A7 ≠ some g := fun g h1 h2 h3 => by
    rcases hat g h3 with h | h
    · exact h2 h
    · omega
  refine ⟨by simp [hl], _, ho, (hr.mono fun v z k => k.keep fun g h1 h2 h3 => ⟨hg.block g h2 (fun e => h3 e.symm), hD g h2 h3⟩).append (All2.one ⟨Bx, mx, dx, rfl, ?_, fun g hg1 => hD g (hx.blk_ g hg1).2 (hne g hg1)⟩)⟩
  exact hx.keepAt fun g hg1 => hg.block g (hx.blk_ g hg1).2 (fun e => hne g hg1 e.symm)
theorem take_row {zss : List (List Int)} {n j : Nat} (hl : zss.length = n) (h : j < n) : zss.take (j + 1) = zss.take j ++ [row zss j] := by
  subst hl
  rw [List.take_add_one, List.getElem?_eq_getElem h]
  unfold row
  simp [List.getD, h]

set_option maxHeartbeats 4000000 in
theorem implOwn (W n : Nat) (A : Option Addr) (c : Nat) (zss : List (List Int)) (w : World) (ha : RdM w A n zss) (hn : n ≤ 60) (hz : ∀ j, j < n → (row zss j).length ≤ 100) :
    Calls Tryz.prog 64 #[.agg #[.int .i64 W, .slice A n c]] w fun e w' => ∃ A' c', e = .returned (.agg #[.int .i64 W, .slice A' n c']) ∧ OwnS w' w.heap.size A' n c' zss ∧ Below w.heap.size w w' := by
  have CLN := Lib.hid (fun B m d zs wx (h : RdI wx B m zs) (hm : m ≤ 1048576) => implCloneAny B m d zs wx h hm)
  obtain ⟨i0, hi0, hz0, hz1, hz3⟩ := info_parts sliceInfo
  obtain ⟨b, hb⟩ : ∃ b, w.heap.size = b := ⟨_, rfl⟩
  obtain ⟨W1, hW1⟩ : ∃ X, w.alloc (.cells #[.int .i64 (W : Int), .slice A n c] 27) = X := ⟨_, rfl⟩
  have z1 : W1.heap.size = b + 1 := by rw [← hW1]; simp [hb]
  have b1 : Below b w W1 := hW1 ▸ (hb ▸ below_alloc w _)
  have k1 : Own W1 b 27 (some ⟨b, 0, none⟩) 2 2 [.int .i64 (W : Int), .slice A n c] := by have h := own_netbox w (W : Int) A n c; rw [hb, hW1] at h; exact h
  obtain ⟨W2, hW2⟩ : ∃ X, W1.alloc (.cells #[.int .i64 0, .slice none 0 0] 27) = X := ⟨_, rfl⟩
  have z2 : W2.heap.size = b + 2 := by rw [← hW2]; simp [z1]
  have b2 : Below (b + 1) W1 W2 := by have h := below_alloc W1 (.cells #[.int .i64 0, .slice none 0 0] 27); rw [z1, hW2] at h; exact h
  have o2 : Own W2 (b + 1) 27 (some ⟨b + 1, 0, none⟩) 2 2 [.int .i64 0, .slice none 0 0] := by have h := own_netbox W1 0 none 0 0; rw [z1, hW2] at h; exact h
  obtain ⟨W3, hW3⟩ : ∃ X, W2.alloc (.cells #[.int .i64 (W : Int), .slice none 0 0] 27) = X := ⟨_, rfl⟩
  have z3 : W3.heap.size = b + 3 := by rw [← hW3]; simp [z2]
  have b3 : Below (b + 2) W2 W3 := by have h := below_alloc W2 (.cells #[.int .i64 (W : Int), .slice none 0 0] 27); rw [z2, hW3] at h; exact h
  have o3 : Own W3 (b + 2) 27 (some ⟨b + 2, 0, none⟩) 2 2 [.int .i64 (W : Int), .slice none 0 0] := by have h := own_netbox W2 (W : Int) none 0 0; rw [z2, hW3] at h; exact h
  have k2 := k1.below (by rw [z1]; exact b2)
  obtain ⟨q0, q1, q2, q3, q4⟩ := own_box2 k2
  have k3 := k2.below (by rw [z2]; exact b3)
  obtain ⟨p0, p1, p2, p3, p4⟩ := own_box2 k3
  have ho2 := Lib.hid o2
  have HBW := Lib.hid (b1.trans (b2.mono (by omega)))
  have ha2 := Lib.hid ((ha.below (by rw [hb]; exact b1)).below (by rw [z1]; exact b2))
  have HO3 := Lib.hid o3
  have HB3 := Lib.hid b3
  have HW1 := Lib.hid hW1
  have HW2 := Lib.hid hW2
  have HW3 := Lib.hid hW3
  have HZ := Lib.hid hz
  clear hW1 hW2 hW3 b1 b2 b3 k1 k2 k3 o2 o3 ha hz
  go_enter Tryz.func64, Tryz.ntmps64
  go_wp2_with fail
  rw [HW1.out, HW2.out]
  go_wp2_with fail
  rw [HW3.out]
  go_wp2_with fail
  go_loopw [12] (fun iv wr => ∃ j : Nat, ∃ A2 c2, iv = .int .i64 (j : Nat) ∧ j ≤ n ∧ Own wr (b + 2) 27 (some ⟨b + 2, 0, none⟩) 2 2 [.int .i64 (W : Int), .slice A2 j c2] ∧ OwnS wr (b + 3) A2 j c2 (zss.take j) ∧ Below (b + 2) W2 wr) (fun iv _ => n - (intOf iv).toNat)
  case atStart => exact ⟨0, none, 0, rfl, Nat.zero_le _, HO3.out, by rw [List.take_zero]; exact OwnS.nil_ _ _, HB3.out⟩
  case round =>
    obtain ⟨j, A2, c2, rfl, hj, hbox, hownS, hbl⟩ := hrel
    have hszr : b + 3 ≤ wr.heap.size := by have h := (hbox.blk_ _ rfl).2; simp at h; omega
    obtain ⟨m0, m1, m2, m3, m4⟩ := own_box2 hbox
    have hrdM := ha2.out.below (show Below W2.heap.size W2 wr by rw [z2]; exact hbl)
    by_cases hlt : j < n
    · obtain ⟨ad, BN, mN, dN, rfl, _, hcN, hBN, hmN, hdN⟩ := hrdM.2 j hlt
      have hm100 : mN ≤ 1048576 := by have h := HZ.out j hlt; rw [hBN.lenI] at h; omega
      obtain ⟨hTK, vs, hown, hrs⟩ := hownS
      have HTK := Lib.hid hTK
      have HSN := Lib.hid (take_row hrdM.1 hlt)
      have hs3 : b + 3 ≤ wr.heap.size := hszr
      clear hTK hrdM
      go_wp2_with fail
      refine wp_region_held_drew (S := (fun _ => True)) (by kernel_rfl) ?_ (fun hHeld => ?_)
      · trivial
      refine wpAnyH_take (i := 0) (oi := { dst := _, op := _, type := _, pos := _, after := _, guard := none }) (v := ?_) rfl (by kernel_rfl) (by kernel_rfl) (by kernel_rfl) (fun _ _ _ h => h) (Or.inl ⟨by rfl, ?_⟩) (by assumption) ?_
      rotate_left
      · intro w hSw; (try dsimp only at hSw); go_simp; (try with_reducible rfl)
      try simp only [Act.put, List.setIfInBounds_toArray, List.set_cons_zero, List.set_cons_succ]
      refine wpAnyH_take (i := 2) (oi := { dst := _, op := _, type := _, pos := _, after := _, guard := none }) (v := ?_) rfl (by kernel_rfl) (by kernel_rfl) (by kernel_rfl) (fun _ _ _ h => h) (Or.inl ⟨by rfl, ?_⟩) (by assumption) ?_
      rotate_left
      · intro w hSw; (try dsimp only at hSw); go_simp; (try with_reducible rfl)
      try simp only [Act.put, List.setIfInBounds_toArray, List.set_cons_zero, List.set_cons_succ]
      refine wpAnyH_ready (rs := [1, 3]) (by kernel_rfl) (by simp) ?_
      refine AllReadyH.cons rfl (fun K hK => ?_) (AllReadyH.cons rfl (fun K hK => ?_) AllReadyH.nil)
      · go_simp
        try go_simp
        refine hK.out _ _ trivial (fun hHeld1 => ?_)
        clear hK K
        try simp only [Act.put, List.setIfInBounds_toArray, List.set_cons_zero, List.set_cons_succ]
        refine wpAnyH_ready (rs := [3]) (by kernel_rfl) (by simp) ?_
        refine AllReadyH.cons rfl (fun K hK => ?_) AllReadyH.nil
        go_simp
        refine (CLN.out BN mN dN (row zss j) (wr.drew) hBN hm100).mono ?_
        rintro e wA ⟨Ac, cc, rfl, hoA, hbA⟩
        have hsA : wr.heap.size ≤ wA.heap.size := by have h := hbA.size; have h2 : wr.drew.heap.size = wr.heap.size := rfl; omega
        have hboxA := hbox.below (show Below wr.heap.size wr wA from below_drew2 hbA)
        obtain ⟨a0, a1, a2, a3, a4⟩ := own_box2 hboxA
        try go_simp
        refine hK.out _ _ trivial (fun hHeld2 => ?_)
        clear hK K
        try simp only [Act.put, List.setIfInBounds_toArray, List.set_cons_zero, List.set_cons_succ]
        refine wpAnyH_ready (rs := [4]) (by kernel_rfl) (by simp) ?_
        refine AllReadyH.cons rfl (fun K hK => ?_) AllReadyH.nil
        go_simp
        try go_simp
        refine hK.out _ _ trivial (fun hHeld3 => ?_)
        clear hK K
        try simp only [Act.put, List.setIfInBounds_toArray, List.set_cons_zero, List.set_cons_succ]
        refine wpAnyH_ready (rs := [5]) (by kernel_rfl) (by simp) ?_
        refine AllReadyH.cons rfl (fun K hK => ?_) AllReadyH.nil
        have HOZ : Own (wA.alloc (.cells #[.slice Ac mN cc] 30)) (b + 3) 30 A2 j c2 vs := (hown.below (show Below wr.heap.size wr wA from below_drew2 hbA)).alloc _
        have HBZ : Below wr.heap.size wr (wA.alloc (.cells #[.slice Ac mN cc] 30)) := (show Below wr.heap.size wr wA from below_drew2 hbA).alloc hsA _
        have HCZ : OwnI (wA.alloc (.cells #[.slice Ac mN cc] 30)) wr.heap.size 3 Ac mN cc (row zss j) := hoA.alloc _
        have hboxZ := hboxA.alloc (.cells #[.slice Ac mN cc] 30)
        refine step_append_lies _ (by rfl) _ _ _ (by rfl) (b + 3) 30 i0 _ 1 24 Tryz.underlying25 hi0 hz0 hz1 hz3 rfl (by omega) _ j _ (by rfl) HOZ
            ⟨_, 0, none⟩ 1 1 [.slice Ac mN cc] (by rfl) (by rfl) (World.news_of_block (cs := #[.slice Ac mN cc]) (t := 30) (fr := (0, 0)) (heap_alloc_new wA (.cells #[.slice Ac mN cc] 30))) (by simp [Value.oneCell'])
            (by omega) (by unfold maxLen; omega) (by omega) (by simp; omega) (wA.heap.size + 1) (by simp) ?_
        intro gg cap7 w7 hown7 hgrow hat hlt7
        have hg7 : (wA.alloc (.cells #[.slice Ac mN cc] 30)).grownBy w7 (blk A2) := by have h := hgrow; rw [ownBlock_slice] at h; exact h
        have hat7 : ∀ g, blk (some (⟨gg, 0, none⟩ : Addr)) = some g → blk A2 = some g ∨ (wA.alloc (.cells #[.slice Ac mN cc] 30)).heap.size ≤ g := by intro g e; simp [blk] at e; subst e; rw [ownBlock_slice] at hat; rcases hat with h | h; exact .inl h; exact .inr (by simp; omega)
        have hS7 := OwnS.push2 (x := row zss j) HTK.out HOZ (hrs.mono fun v z q => q.keep fun g h1 h2 h3 => ⟨HBZ.block g h2, h3⟩) (HCZ.more hs3) (fun g e e2 => by have h1 := (hoA.blk_ g e).1; have h2 := (hown.blk_ g e2).2; have h3 : wr.drew.heap.size = wr.heap.size := rfl; omega) hown7 hg7 hat7
        have hbox7 := hboxZ.kept hg7 (fun g h1 h2 => by have h3 : b + 2 = g := (by simpa [blk] using h1); have := (hown.blk_ g h2.symm).1; omega)
        have hb7 := below_of_grown (hbl.trans (HBZ.mono (by omega))) hg7 (by simp; omega) (fun g e => by have := (hown.blk_ g e).1; omega)
        obtain ⟨d0, d1, d2, d3, d4⟩ := own_box2 hbox7
        have HS8 := Lib.hid (hS7.keep (w' := w7.setCell ⟨b + 2, 1, none⟩ (.slice (some ⟨gg, 0, none⟩) (j + 1) cap7)) (fun g h1 h2 => Below.heap_setCell _ _ _ g (by show g ≠ b + 2; omega)))
        have HX8 := Lib.hid (hbox7.set_ (k := 1) (.slice (some ⟨gg, 0, none⟩) (j + 1) cap7) (by omega))
        have HB8 := Lib.hid (hb7.setCell (p := ⟨b + 2, 1, none⟩) (Nat.le_refl _) (.slice (some ⟨gg, 0, none⟩) (j + 1) cap7))
        clear hS7 hbox7 hb7 HOZ HBZ HCZ hboxZ hg7 hgrow hat hat7 hown7
        try go_simp
        refine hK.out _ _ trivial (fun hHeld4 => ?_)
        clear hK K
        try simp only [Act.put, List.setIfInBounds_toArray, List.set_cons_zero, List.set_cons_succ]
        refine wpAnyH_take (i := 6) (oi := { dst := _, op := _, type := _, pos := _, after := _, guard := none }) (v := ?_) rfl (by kernel_rfl) (by kernel_rfl) (by kernel_rfl) (fun _ _ _ h => h) (Or.inl ⟨by rfl, ?_⟩) (by assumption) ?_
        rotate_left
        · intro w hSw; (try dsimp only at hSw); go_simp; (try with_reducible rfl)
        try simp only [Act.put, List.setIfInBounds_toArray, List.set_cons_zero, List.set_cons_succ]
        refine wpAnyH_ready (rs := [7]) (by kernel_rfl) (by simp) ?_
        refine AllReadyH.cons rfl (fun K hK => ?_) AllReadyH.nil
        go_simp
        try go_simp
        refine hK.out _ _ trivial (fun hHeld5 => ?_)
        clear hK K
        try simp only [Act.put, List.setIfInBounds_toArray, List.set_cons_zero, List.set_cons_succ]
        refine wpAnyH_done (by kernel_rfl) ?_ _
        go_wp2_with fail
        go_roundw
        case rel => exact ⟨j + 1, some ⟨gg, 0, none⟩, cap7, by go_num, by omega, HX8.out, by rw [HSN.out]; exact HS8.out, HB8.out⟩
        case measure => (simp [intOf] <;> omega)
      · go_simp
        refine (CLN.out BN mN dN (row zss j) (wr.drew) hBN hm100).mono ?_
        rintro e wA ⟨Ac, cc, rfl, hoA, hbA⟩
        have hsA : wr.heap.size ≤ wA.heap.size := by have h := hbA.size; have h2 : wr.drew.heap.size = wr.heap.size := rfl; omega
        have hboxA := hbox.below (show Below wr.heap.size wr wA from below_drew2 hbA)
        obtain ⟨a0, a1, a2, a3, a4⟩ := own_box2 hboxA
        try go_simp
        refine hK.out _ _ trivial (fun hHeld6 => ?_)
        clear hK K
        try simp only [Act.put, List.setIfInBounds_toArray, List.set_cons_zero, List.set_cons_succ]
        refine wpAnyH_ready (rs := [1, 4]) (by kernel_rfl) (by simp) ?_
        refine AllReadyH.cons rfl (fun K hK => ?_) (AllReadyH.cons rfl (fun K hK => ?_) AllReadyH.nil)
        · go_simp
          try go_simp
          refine hK.out _ _ trivial (fun hHeld7 => ?_)
          clear hK K
          try simp only [Act.put, List.setIfInBounds_toArray, List.set_cons_zero, List.set_cons_succ]
          refine wpAnyH_ready (rs := [4]) (by kernel_rfl) (by simp) ?_
          refine AllReadyH.cons rfl (fun K hK => ?_) AllReadyH.nil
          go_simp
          try go_simp
          refine hK.out _ _ trivial (fun hHeld8 => ?_)
          clear hK K
          try simp only [Act.put, List.setIfInBounds_toArray, List.set_cons_zero, List.set_cons_succ]
          refine wpAnyH_ready (rs := [5]) (by kernel_rfl) (by simp) ?_
          refine AllReadyH.cons rfl (fun K hK => ?_) AllReadyH.nil
          have HOZ : Own (wA.alloc (.cells #[.slice Ac mN cc] 30)) (b + 3) 30 A2 j c2 vs := (hown.below (show Below wr.heap.size wr wA from below_drew2 hbA)).alloc _
          have HBZ : Below wr.heap.size wr (wA.alloc (.cells #[.slice Ac mN cc] 30)) := (show Below wr.heap.size wr wA from below_drew2 hbA).alloc hsA _
          have HCZ : OwnI (wA.alloc (.cells #[.slice Ac mN cc] 30)) wr.heap.size 3 Ac mN cc (row zss j) := hoA.alloc _
          have hboxZ := hboxA.alloc (.cells #[.slice Ac mN cc] 30)
          refine step_append_lies _ (by rfl) _ _ _ (by rfl) (b + 3) 30 i0 _ 1 24 Tryz.underlying25 hi0 hz0 hz1 hz3 rfl (by omega) _ j _ (by rfl) HOZ
              ⟨_, 0, none⟩ 1 1 [.slice Ac mN cc] (by rfl) (by rfl) (World.news_of_block (cs := #[.slice Ac mN cc]) (t := 30) (fr := (0, 0)) (heap_alloc_new wA (.cells #[.slice Ac mN cc] 30))) (by simp [Value.oneCell'])
              (by omega) (by unfold maxLen; omega) (by omega) (by simp; omega) (wA.heap.size + 1) (by simp) ?_
          intro gg cap7 w7 hown7 hgrow hat hlt7
          have hg7 : (wA.alloc (.cells #[.slice Ac mN cc] 30)).grownBy w7 (blk A2) := by have h := hgrow; rw [ownBlock_slice] at h; exact h
          have hat7 : ∀ g, blk (some (⟨gg, 0, none⟩ : Addr)) = some g → blk A2 = some g ∨ (wA.alloc (.cells #[.slice Ac mN cc] 30)).heap.size ≤ g := by intro g e; simp [blk] at e; subst e; rw [ownBlock_slice] at hat; rcases hat with h | h; exact .inl h; exact .inr (by simp; omega)
          have hS7 := OwnS.push2 (x := row zss j) HTK.out HOZ (hrs.mono fun v z q => q.keep fun g h1 h2 h3 => ⟨HBZ.block g h2, h3⟩) (HCZ.more hs3) (fun g e e2 => by have h1 := (hoA.blk_ g e).1; have h2 := (hown.blk_ g e2).2; have h3 : wr.drew.heap.size = wr.heap.size := rfl; omega) hown7 hg7 hat7
          have hbox7 := hboxZ.kept hg7 (fun g h1 h2 => by have h3 : b + 2 = g := (by simpa [blk] using h1); have := (hown.blk_ g h2.symm).1; omega)
          have hb7 := below_of_grown (hbl.trans (HBZ.mono (by omega))) hg7 (by simp; omega) (fun g e => by have := (hown.blk_ g e).1; omega)
          obtain ⟨d0, d1, d2, d3, d4⟩ := own_box2 hbox7
          have HS8 := Lib.hid (hS7.keep (w' := w7.setCell ⟨b + 2, 1, none⟩ (.slice (some ⟨gg, 0, none⟩) (j + 1) cap7)) (fun g h1 h2 => Below.heap_setCell _ _ _ g (by show g ≠ b + 2; omega)))
          have HX8 := Lib.hid (hbox7.set_ (k := 1) (.slice (some ⟨gg, 0, none⟩) (j + 1) cap7) (by omega))
          have HB8 := Lib.hid (hb7.setCell (p := ⟨b + 2, 1, none⟩) (Nat.le_refl _) (.slice (some ⟨gg, 0, none⟩) (j + 1) cap7))
          clear hS7 hbox7 hb7 HOZ HBZ HCZ hboxZ hg7 hgrow hat hat7 hown7
          try go_simp
          refine hK.out _ _ trivial (fun hHeld9 => ?_)
          clear hK K
          try simp only [Act.put, List.setIfInBounds_toArray, List.set_cons_zero, List.set_cons_succ]
          refine wpAnyH_take (i := 6) (oi := { dst := _, op := _, type := _, pos := _, after := _, guard := none }) (v := ?_) rfl (by kernel_rfl) (by kernel_rfl) (by kernel_rfl) (fun _ _ _ h => h) (Or.inl ⟨by rfl, ?_⟩) (by assumption) ?_
          rotate_left
          · intro w hSw; (try dsimp only at hSw); go_simp; (try with_reducible rfl)
          try simp only [Act.put, List.setIfInBounds_toArray, List.set_cons_zero, List.set_cons_succ]
          refine wpAnyH_ready (rs := [7]) (by kernel_rfl) (by simp) ?_
          refine AllReadyH.cons rfl (fun K hK => ?_) AllReadyH.nil
          go_simp
          try go_simp
          refine hK.out _ _ trivial (fun hHeld10 => ?_)
          clear hK K
          try simp only [Act.put, List.setIfInBounds_toArray, List.set_cons_zero, List.set_cons_succ]
          refine wpAnyH_done (by kernel_rfl) ?_ _
          go_wp2_with fail
          go_roundw
          case rel => exact ⟨j + 1, some ⟨gg, 0, none⟩, cap7, by go_num, by omega, HX8.out, by rw [HSN.out]; exact HS8.out, HB8.out⟩
          case measure => (simp [intOf] <;> omega)
        · go_simp
          obtain ⟨e0, e1, e2, e3, e4⟩ := own_box2 (hboxA.alloc (.cells #[.slice Ac mN cc] 30))
          try go_simp
          refine hK.out _ _ trivial (fun hHeld11 => ?_)
          clear hK K
          try simp only [Act.put, List.setIfInBounds_toArray, List.set_cons_zero, List.set_cons_succ]
          refine wpAnyH_ready (rs := [1]) (by kernel_rfl) (by simp) ?_
          refine AllReadyH.cons rfl (fun K hK => ?_) AllReadyH.nil
          go_simp
          try go_simp
          refine hK.out _ _ trivial (fun hHeld12 => ?_)
          clear hK K
          try simp only [Act.put, List.setIfInBounds_toArray, List.set_cons_zero, List.set_cons_succ]
          refine wpAnyH_ready (rs := [5]) (by kernel_rfl) (by simp) ?_
          refine AllReadyH.cons rfl (fun K hK => ?_) AllReadyH.nil
          have HOZ : Own (wA.alloc (.cells #[.slice Ac mN cc] 30)) (b + 3) 30 A2 j c2 vs := (hown.below (show Below wr.heap.size wr wA from below_drew2 hbA)).alloc _
          have HBZ : Below wr.heap.size wr (wA.alloc (.cells #[.slice Ac mN cc] 30)) := (show Below wr.heap.size wr wA from below_drew2 hbA).alloc hsA _
          have HCZ : OwnI (wA.alloc (.cells #[.slice Ac mN cc] 30)) wr.heap.size 3 Ac mN cc (row zss j) := hoA.alloc _
          have hboxZ := hboxA.alloc (.cells #[.slice Ac mN cc] 30)
          refine step_append_lies _ (by rfl) _ _ _ (by rfl) (b + 3) 30 i0 _ 1 24 Tryz.underlying25 hi0 hz0 hz1 hz3 rfl (by omega) _ j _ (by rfl) HOZ
              ⟨_, 0, none⟩ 1 1 [.slice Ac mN cc] (by rfl) (by rfl) (World.news_of_block (cs := #[.slice Ac mN cc]) (t := 30) (fr := (0, 0)) (heap_alloc_new wA (.cells #[.slice Ac mN cc] 30))) (by simp [Value.oneCell'])
              (by omega) (by unfold maxLen; omega) (by omega) (by simp; omega) (wA.heap.size + 1) (by simp) ?_
          intro gg cap7 w7 hown7 hgrow hat hlt7
          have hg7 : (wA.alloc (.cells #[.slice Ac mN cc] 30)).grownBy w7 (blk A2) := by have h := hgrow; rw [ownBlock_slice] at h; exact h
          have hat7 : ∀ g, blk (some (⟨gg, 0, none⟩ : Addr)) = some g → blk A2 = some g ∨ (wA.alloc (.cells #[.slice Ac mN cc] 30)).heap.size ≤ g := by intro g e; simp [blk] at e; subst e; rw [ownBlock_slice] at hat; rcases hat with h | h; exact .inl h; exact .inr (by simp; omega)
          have hS7 := OwnS.push2 (x := row zss j) HTK.out HOZ (hrs.mono fun v z q => q.keep fun g h1 h2 h3 => ⟨HBZ.block g h2, h3⟩) (HCZ.more hs3) (fun g e e2 => by have h1 := (hoA.blk_ g e).1; have h2 := (hown.blk_ g e2).2; have h3 : wr.drew.heap.size = wr.heap.size := rfl; omega) hown7 hg7 hat7
          have hbox7 := hboxZ.kept hg7 (fun g h1 h2 => by have h3 : b + 2 = g := (by simpa [blk] using h1); have := (hown.blk_ g h2.symm).1; omega)
          have hb7 := below_of_grown (hbl.trans (HBZ.mono (by omega))) hg7 (by simp; omega) (fun g e => by have := (hown.blk_ g e).1; omega)
          obtain ⟨d0, d1, d2, d3, d4⟩ := own_box2 hbox7
          have HS8 := Lib.hid (hS7.keep (w' := w7.setCell ⟨b + 2, 1, none⟩ (.slice (some ⟨gg, 0, none⟩) (j + 1) cap7)) (fun g h1 h2 => Below.heap_setCell _ _ _ g (by show g ≠ b + 2; omega)))
          have HX8 := Lib.hid (hbox7.set_ (k := 1) (.slice (some ⟨gg, 0, none⟩) (j + 1) cap7) (by omega))
          have HB8 := Lib.hid (hb7.setCell (p := ⟨b + 2, 1, none⟩) (Nat.le_refl _) (.slice (some ⟨gg, 0, none⟩) (j + 1) cap7))
          clear hS7 hbox7 hb7 HOZ HBZ HCZ hboxZ hg7 hgrow hat hat7 hown7
          try go_simp
          refine hK.out _ _ trivial (fun hHeld13 => ?_)
          clear hK K
          try simp only [Act.put, List.setIfInBounds_toArray, List.set_cons_zero, List.set_cons_succ]
          refine wpAnyH_take (i := 6) (oi := { dst := _, op := _, type := _, pos := _, after := _, guard := none }) (v := ?_) rfl (by kernel_rfl) (by kernel_rfl) (by kernel_rfl) (fun _ _ _ h => h) (Or.inl ⟨by rfl, ?_⟩) (by assumption) ?_
          rotate_left
          · intro w hSw; (try dsimp only at hSw); go_simp; (try with_reducible rfl)
          try simp only [Act.put, List.setIfInBounds_toArray, List.set_cons_zero, List.set_cons_succ]
          refine wpAnyH_ready (rs := [7]) (by kernel_rfl) (by simp) ?_
          refine AllReadyH.cons rfl (fun K hK => ?_) AllReadyH.nil
          go_simp
          try go_simp
          refine hK.out _ _ trivial (fun hHeld14 => ?_)
          clear hK K
          try simp only [Act.put, List.setIfInBounds_toArray, List.set_cons_zero, List.set_cons_succ]
          refine wpAnyH_done (by kernel_rfl) ?_ _
          go_wp2_with fail
          go_roundw
          case rel => exact ⟨j + 1, some ⟨gg, 0, none⟩, cap7, by go_num, by omega, HX8.out, by rw [HSN.out]; exact HS8.out, HB8.out⟩
          case measure => (simp [intOf] <;> omega)
    · obtain rfl : j = n := by omega
      have hbx := ho2.out.below (show Below W2.heap.size W2 wr by rw [z2]; exact hbl)
      obtain ⟨r0, r1, r2, r3, r4⟩ := own_box2 hbx
      have hr7 := hbx.set_ (k := 0) (.int .i64 (W : Int)) (by omega)
      have hr8 := hr7.set_ (k := 1) (.slice A2 j c2) (by omega)
      obtain ⟨d0, d1, _, _, _⟩ := own_box2 hr8
      have HE := Lib.hid (show zss.take j = zss by rw [List.take_of_length_le (by rw [hrdM.1]; exact Nat.le_refl _)])
      have HS8 := Lib.hid ((hownS.keep (w' := (wr.setCell ⟨b + 1, 0, none⟩ (.int .i64 (W : Int))).setCell ⟨b + 1, 1, none⟩ (.slice A2 j c2)) (fun g h1 h2 => (Below.heap_setCell _ _ _ g (by show g ≠ b + 1; omega)).trans (Below.heap_setCell _ _ _ g (by show g ≠ b + 1; omega)))).more (show b ≤ b + 3 by omega))
      have HB8 := Lib.hid (((HBW.out.trans (hbl.mono (by omega))).setCell (p := ⟨b + 1, 0, none⟩) (by show b ≤ b + 1; omega) (.int .i64 (W : Int))).setCell (p := ⟨b + 1, 1, none⟩) (by show b ≤ b + 1; omega) (.slice A2 j c2))
      clear hbox hownS hbl hbx hr7 hr8 hrdM
      go_wp2_with fail
      refine bodyPost_ret (v := .agg #[.int .i64 (W : Int), .slice A2 j c2]) (by simp [results, Tryz.results64, go_sem, d0, d1]) rfl ⟨A2, c2, rfl, ?_, ?_⟩
      · rw [hb]; exact HE.out ▸ HS8.out
      · rw [hb]; exact HB8.out
end Go.Proofs.YtobdkfhmmpigiaaGreat
