/- Networks: which are valid, by the program. -/
import Derived.Test.YtobdkfhmmpigiaaGreatMF
namespace Go.Proofs.YtobdkfhmmpigiaaGreat
open Go.RowKit Go.Deep
set_option linter.unusedVariables false

set_option maxHeartbeats 4000000 in
theorem implNetOk (x : Int) (A : Option Addr) (n c : Nat) (zss : List (List Int)) (w : World) (ha : RdM w A n zss) (hn : n ≤ 1048576) :
    Calls Tryz.prog 25 #[.agg #[.int .i64 x, .slice A n c]] w fun e w' => e = .returned (.bool (netV x zss)) ∧ Below w.heap.size w w' := by
  have hl := ha.1
  by_cases hx : 1 ≤ x ∧ x ≤ 8
  · have C1 := Lib.hid (fun w' => implIsWires_yes x w' hx)
    by_cases h60 : n ≤ 60
    · have HL := Lib.hid hl
      have HX := Lib.hid hx
      obtain ⟨hx1, hx8⟩ := hx
      have HA := Lib.hid ha
      clear hl ha
      go_enter Tryz.func25, Tryz.ntmps25
      go_wp2_with fail
      refine (C1.out _).mono ?_
      rintro e w' ⟨rfl, rfl⟩
      go_wp2_with fail
      go_loopw [18] (fun i wr => ∃ k : Nat, k ≤ n ∧ i = .int .i64 k ∧ Hid (netTo x zss k = true) ∧ Hid (wr.cell? ⟨w.heap.size, 0, none⟩ = some (.int .i64 x) ∧ wr.cell? ⟨w.heap.size, 1, none⟩ = some (.slice A n c)) ∧ w.heap.size + 1 ≤ wr.heap.size ∧ Below w.heap.size w wr) (fun i _ => n - (intOf i).toNat)
      case atStart => exact ⟨0, Nat.zero_le _, rfl, Lib.hid (netTo_zero _ _), Lib.hid ⟨by simp, by simp⟩, by simp, below_alloc w _⟩
      case round =>
        obtain ⟨k, hk, rfl, HK, HCC, hsz, hbl⟩ := hrel
        obtain ⟨hc0, hc1⟩ := HCC.out
        by_cases hlt : k < n
        · obtain ⟨a1, B, m, d, rfl, _, h1, hB, hmd, hd⟩ := (HA.out.below hbl).2 k hlt
          unfold maxLen at hd
          have HM := Lib.hid hB.lenI
          by_cases hm2 : m = 2
          · subst hm2
            obtain ⟨b, rfl, lb, p0⟩ := hB.at_ (show 0 < 2 by omega)
            obtain ⟨b', hb', _, p1⟩ := hB.at_ (show 1 < 2 by omega)
            injection hb' with hb'
            subst hb'
            replace p0 : wr.cell? b = some (.int .i64 (nth (row zss k) 0)) := p0
            replace p1 : wr.cell? ⟨b.block, b.off + 1, none⟩ = some (.int .i64 (nth (row zss k) 1)) := by rw [← add_one_]; exact p1
            obtain ⟨y0, hy0⟩ : ∃ y, nth (row zss k) 0 = y := ⟨_, rfl⟩
            obtain ⟨y1, hy1⟩ : ∃ y, nth (row zss k) 1 = y := ⟨_, rfl⟩
            rw [hy0] at p0
            rw [hy1] at p1
            have HP := Lib.hid (show pairB x (row zss k) = (inW x y0 && (inW x y1 && !(y0 == y1))) by rw [pairB, HM.out, hy0, hy1]; rfl)
            clear hy0 hy1 hB
            by_cases h01 : y0 = y1
            · have H := Lib.hid (net_bad HL.out hlt (show pairB x (row zss k) = false by rw [HP.out, h01]; simp))
              have e1 : (y0 == y1) = true := by simp [h01]
              clear h01
              go_wp2_with fail
              go_quiet (fail)
              go_wp2
              go_ret
              exact ⟨ret_bool H.out.symm, below_drewN hbl _⟩
            · have e1 : (y0 == y1) = false := by simp [h01]
              have HE := Lib.hid e1
              cases hw0 : inW x y0 with
              | false =>
                have H := Lib.hid (net_bad HL.out hlt (show pairB x (row zss k) = false by rw [HP.out, hw0]; rfl))
                have CW := Lib.hid (show ∀ w', Calls Tryz.prog 48 #[.agg #[.int .i64 x, .slice (some a1) n c], .int .i64 y0] w' fun e w'' => e = .returned (.bool false) ∧ Below w'.heap.size w' w'' from fun w' => by rw [← hw0]; exact implIsWire x y0 _ n c w')
                clear h01 hw0
                go_wp2_with fail
                refine wp_region_held_drew (S := (fun w' => w'.cell? b = some (.int .i64 y0) ∧ w'.cell? ⟨b.block, b.off + 1, none⟩ = some (.int .i64 y1) ∧ w'.cell? ⟨w.heap.size, 0, none⟩ = some (.int .i64 x) ∧ w'.cell? ⟨w.heap.size, 1, none⟩ = some (.slice (some a1) n c))) (by kernel_rfl) ?_ (fun hHeld => ?_)
                · go_keep
                refine wpAnyH_take (i := 0) (oi := { dst := _, op := _, type := _, pos := _, after := _, guard := none }) (v := ?_) rfl (by kernel_rfl) (by kernel_rfl) (by kernel_rfl) (fun _ _ _ h => h) (Or.inl ⟨by rfl, ?_⟩) (by assumption) ?_
                rotate_left
                · intro w hSw; (try dsimp only at hSw); go_simp; (try with_reducible rfl)
                try simp only [Act.put, List.setIfInBounds_toArray, List.set_cons_zero, List.set_cons_succ]
                refine wpAnyH_take (i := 1) (oi := { dst := _, op := _, type := _, pos := _, after := _, guard := none }) (v := ?_) rfl (by kernel_rfl) (by kernel_rfl) (by kernel_rfl) (fun _ _ _ h => h) (Or.inl ⟨by rfl, ?_⟩) (by assumption) ?_
                rotate_left
                · intro w hSw; (try dsimp only at hSw); go_simp; (try with_reducible rfl)
                try simp only [Act.put, List.setIfInBounds_toArray, List.set_cons_zero, List.set_cons_succ]
                refine wpAnyH_take (i := 2) (oi := { dst := _, op := _, type := _, pos := _, after := _, guard := none }) (v := ?_) rfl (by kernel_rfl) (by kernel_rfl) (by kernel_rfl) (fun _ _ _ h => h) (Or.inl ⟨by rfl, ?_⟩) (by assumption) ?_
                rotate_left
                · intro w hSw; (try dsimp only at hSw); go_simp; (try with_reducible rfl)
                try simp only [Act.put, List.setIfInBounds_toArray, List.set_cons_zero, List.set_cons_succ]
                refine wpAnyH_take (i := 3) (oi := { dst := _, op := _, type := _, pos := _, after := _, guard := none }) (v := ?_) rfl (by kernel_rfl) (by kernel_rfl) (by kernel_rfl) (fun _ _ _ h => h) (Or.inl ⟨by rfl, ?_⟩) (by assumption) ?_
                rotate_left
                · intro w hSw; (try dsimp only at hSw); go_simp; (try with_reducible rfl)
                try simp only [Act.put, List.setIfInBounds_toArray, List.set_cons_zero, List.set_cons_succ]
                refine wpAnyH_take (i := 4) (oi := { dst := _, op := _, type := _, pos := _, after := _, guard := some (3, false) }) (v := ?_) rfl (by kernel_rfl) (by kernel_rfl) (by kernel_rfl) (fun _ _ _ h => h) (Or.inl ⟨by rfl, ?_⟩) (by assumption) ?_
                rotate_left
                · intro w hSw; (try dsimp only at hSw); go_simp; (try with_reducible rfl)
                try simp only [Act.put, List.setIfInBounds_toArray, List.set_cons_zero, List.set_cons_succ]
                refine wpAnyH_take (i := 5) (oi := { dst := _, op := _, type := _, pos := _, after := _, guard := some (3, false) }) (v := ?_) rfl (by kernel_rfl) (by kernel_rfl) (by kernel_rfl) (fun _ _ _ h => h) (Or.inl ⟨by rfl, ?_⟩) (by assumption) ?_
                rotate_left
                · intro w hSw; (try dsimp only at hSw); go_simp; (try with_reducible rfl)
                try simp only [Act.put, List.setIfInBounds_toArray, List.set_cons_zero, List.set_cons_succ]
                refine wpAnyH_take (i := 6) (oi := { dst := _, op := _, type := _, pos := _, after := _, guard := some (3, false) }) (v := ?_) rfl (by kernel_rfl) (by kernel_rfl) (by kernel_rfl) (fun _ _ _ h => h) (Or.inl ⟨by rfl, ?_⟩) (by assumption) ?_
                rotate_left
                · intro w hSw; (try dsimp only at hSw); go_simp; (try with_reducible rfl)
                try simp only [Act.put, List.setIfInBounds_toArray, List.set_cons_zero, List.set_cons_succ]
                refine wpAnyH_take (i := 7) (oi := { dst := _, op := _, type := _, pos := _, after := _, guard := some (3, false) }) (v := ?_) rfl (by kernel_rfl) (by kernel_rfl) (by kernel_rfl) (fun _ _ _ h => h) (Or.inl ⟨by rfl, ?_⟩) (by assumption) ?_
                rotate_left
                · intro w hSw; (try dsimp only at hSw); go_simp; (try with_reducible rfl)
                try simp only [Act.put, List.setIfInBounds_toArray, List.set_cons_zero, List.set_cons_succ]
                refine wpAnyH_take (i := 8) (oi := { dst := _, op := _, type := _, pos := _, after := _, guard := some (3, false) }) (v := ?_) rfl (by kernel_rfl) (by kernel_rfl) (by kernel_rfl) (fun _ _ _ h => h) (Or.inl ⟨by rfl, ?_⟩) (by assumption) ?_
                rotate_left
                · intro w hSw; (try dsimp only at hSw); go_simp; (try with_reducible rfl)
                try simp only [Act.put, List.setIfInBounds_toArray, List.set_cons_zero, List.set_cons_succ]
                refine wpAnyH_take (i := 9) (oi := { dst := _, op := _, type := _, pos := _, after := _, guard := some (3, false) }) (v := ?_) rfl (by kernel_rfl) (by kernel_rfl) (by kernel_rfl) (fun _ _ _ h => h) (Or.inl ⟨by rfl, ?_⟩) (by assumption) ?_
                rotate_left
                · intro w hSw; (try dsimp only at hSw); go_simp; (try with_reducible rfl)
                try simp only [Act.put, List.setIfInBounds_toArray, List.set_cons_zero, List.set_cons_succ]
                refine wpAnyH_take (i := 10) (oi := { dst := _, op := _, type := _, pos := _, after := _, guard := some (3, false) }) (v := ?_) rfl (by kernel_rfl) (by kernel_rfl) (by kernel_rfl) (fun _ _ _ h => h) (Or.inl ⟨by rfl, ?_⟩) (by assumption) ?_
                rotate_left
                · intro w hSw; (try dsimp only at hSw); go_simp; (try with_reducible rfl)
                try simp only [Act.put, List.setIfInBounds_toArray, List.set_cons_zero, List.set_cons_succ]
                refine wpAnyH_take (i := 11) (oi := { dst := _, op := _, type := _, pos := _, after := _, guard := none }) (v := ?_) rfl (by kernel_rfl) (by kernel_rfl) (by kernel_rfl) (fun _ _ _ h => h) (Or.inl ⟨by rfl, ?_⟩) (by assumption) ?_
                rotate_left
                · intro w hSw; (try dsimp only at hSw); go_simp; (try with_reducible rfl)
                try simp only [Act.put, List.setIfInBounds_toArray, List.set_cons_zero, List.set_cons_succ]
                refine wpAnyH_take (i := 12) (oi := { dst := _, op := _, type := _, pos := _, after := _, guard := none }) (v := ?_) rfl (by kernel_rfl) (by kernel_rfl) (by kernel_rfl) (fun _ _ _ h => h) (Or.inl ⟨by rfl, ?_⟩) (by assumption) ?_
                rotate_left
                · intro w hSw; (try dsimp only at hSw); go_simp; (try with_reducible rfl)
                try simp only [Act.put, List.setIfInBounds_toArray, List.set_cons_zero, List.set_cons_succ]
                refine wpAnyH_take (i := 13) (oi := { dst := _, op := _, type := _, pos := _, after := _, guard := some (12, false) }) (v := ?_) rfl (by kernel_rfl) (by kernel_rfl) (by kernel_rfl) (fun _ _ _ h => h) (Or.inl ⟨by rfl, ?_⟩) (by assumption) ?_
                rotate_left
                · intro w hSw; (try dsimp only at hSw); go_simp; (try with_reducible rfl)
                try simp only [Act.put, List.setIfInBounds_toArray, List.set_cons_zero, List.set_cons_succ]
                refine wpAnyH_take (i := 14) (oi := { dst := _, op := _, type := _, pos := _, after := _, guard := some (12, false) }) (v := ?_) rfl (by kernel_rfl) (by kernel_rfl) (by kernel_rfl) (fun _ _ _ h => h) (Or.inl ⟨by rfl, ?_⟩) (by assumption) ?_
                rotate_left
                · intro w hSw; (try dsimp only at hSw); go_simp; (try with_reducible rfl)
                try simp only [Act.put, List.setIfInBounds_toArray, List.set_cons_zero, List.set_cons_succ]
                refine wpAnyH_take (i := 15) (oi := { dst := _, op := _, type := _, pos := _, after := _, guard := some (12, false) }) (v := ?_) rfl (by kernel_rfl) (by kernel_rfl) (by kernel_rfl) (fun _ _ _ h => h) (Or.inl ⟨by rfl, ?_⟩) (by assumption) ?_
                rotate_left
                · intro w hSw; (try dsimp only at hSw); go_simp; (try with_reducible rfl)
                try simp only [Act.put, List.setIfInBounds_toArray, List.set_cons_zero, List.set_cons_succ]
                refine wpAnyH_take (i := 16) (oi := { dst := _, op := _, type := _, pos := _, after := _, guard := some (12, false) }) (v := ?_) rfl (by kernel_rfl) (by kernel_rfl) (by kernel_rfl) (fun _ _ _ h => h) (Or.inl ⟨by rfl, ?_⟩) (by assumption) ?_
                rotate_left
                · intro w hSw; (try dsimp only at hSw); go_simp; (try with_reducible rfl)
                try simp only [Act.put, List.setIfInBounds_toArray, List.set_cons_zero, List.set_cons_succ]
                refine wpAnyH_ready (rs := [17]) (by kernel_rfl) (by simp) ?_
                refine AllReadyH.cons rfl (fun K hK => ?_) AllReadyH.nil
                go_simp
                refine (CW.out _).mono ?_
                rintro e wA ⟨rfl, hbA⟩
                have s1 := (hbA.cell (p := b) lb).trans p0
                have s2 := (hbA.cell (p := ⟨b.block, b.off + 1, none⟩) lb).trans p1
                have s3 := (hbA.cell (p := ⟨w.heap.size, 0, none⟩) hsz).trans hc0
                have s4 := (hbA.cell (p := ⟨w.heap.size, 1, none⟩) hsz).trans hc1
                try go_simp
                refine hK.out _ _ ⟨s1, s2, s3, s4⟩ (fun hHeld2 => ?_)
                clear hK K
                try simp only [Act.put, List.setIfInBounds_toArray, List.set_cons_zero, List.set_cons_succ]
                refine wpAnyH_take (i := 18) (oi := { dst := _, op := _, type := _, pos := _, after := _, guard := some (12, false) }) (v := ?_) rfl (by kernel_rfl) (by kernel_rfl) (by kernel_rfl) (fun _ _ _ h => h) (Or.inl ⟨by rfl, ?_⟩) (by assumption) ?_
                rotate_left
                · intro w hSw; (try dsimp only at hSw); go_simp; (try with_reducible rfl)
                try simp only [Act.put, List.setIfInBounds_toArray, List.set_cons_zero, List.set_cons_succ]
                refine wpAnyH_take (i := 19) (oi := { dst := _, op := _, type := _, pos := _, after := _, guard := none }) (v := ?_) rfl (by kernel_rfl) (by kernel_rfl) (by kernel_rfl) (fun _ _ _ h => h) (Or.inl ⟨by rfl, ?_⟩) (by assumption) ?_
                rotate_left
                · intro w hSw; (try dsimp only at hSw); go_simp; (try with_reducible rfl)
                try simp only [Act.put, List.setIfInBounds_toArray, List.set_cons_zero, List.set_cons_succ]
                refine wpAnyH_take (i := 20) (oi := { dst := _, op := _, type := _, pos := _, after := _, guard := none }) (v := ?_) rfl (by kernel_rfl) (by kernel_rfl) (by kernel_rfl) (fun _ _ _ h => h) (Or.inl ⟨by rfl, ?_⟩) (by assumption) ?_
                rotate_left
                · intro w hSw; (try dsimp only at hSw); go_simp; (try with_reducible rfl)
                try simp only [Act.put, List.setIfInBounds_toArray, List.set_cons_zero, List.set_cons_succ]
                refine wpAnyH_take (i := 21) (oi := { dst := _, op := _, type := _, pos := _, after := _, guard := some (20, false) }) (v := undef) rfl (by kernel_rfl) (by kernel_rfl) (by kernel_rfl) (fun _ _ _ h => h) (Or.inr ⟨by rfl, rfl⟩) (by assumption) ?_
                try simp only [Act.put, List.setIfInBounds_toArray, List.set_cons_zero, List.set_cons_succ]
                refine wpAnyH_take (i := 22) (oi := { dst := _, op := _, type := _, pos := _, after := _, guard := some (20, false) }) (v := undef) rfl (by kernel_rfl) (by kernel_rfl) (by kernel_rfl) (fun _ _ _ h => h) (Or.inr ⟨by rfl, rfl⟩) (by assumption) ?_
                try simp only [Act.put, List.setIfInBounds_toArray, List.set_cons_zero, List.set_cons_succ]
                refine wpAnyH_take (i := 23) (oi := { dst := _, op := _, type := _, pos := _, after := _, guard := some (20, false) }) (v := undef) rfl (by kernel_rfl) (by kernel_rfl) (by kernel_rfl) (fun _ _ _ h => h) (Or.inr ⟨by rfl, rfl⟩) (by assumption) ?_
                try simp only [Act.put, List.setIfInBounds_toArray, List.set_cons_zero, List.set_cons_succ]
                refine wpAnyH_take (i := 24) (oi := { dst := _, op := _, type := _, pos := _, after := _, guard := some (20, false) }) (v := undef) rfl (by kernel_rfl) (by kernel_rfl) (by kernel_rfl) (fun _ _ _ h => h) (Or.inr ⟨by rfl, rfl⟩) (by assumption) ?_
                try simp only [Act.put, List.setIfInBounds_toArray, List.set_cons_zero, List.set_cons_succ]
                refine wpAnyH_take (i := 25) (oi := { dst := _, op := _, type := _, pos := _, after := _, guard := some (20, false) }) (v := undef) rfl (by kernel_rfl) (by kernel_rfl) (by kernel_rfl) (fun _ _ _ h => h) (Or.inr ⟨by rfl, rfl⟩) (by assumption) ?_
                try simp only [Act.put, List.setIfInBounds_toArray, List.set_cons_zero, List.set_cons_succ]
                refine wpAnyH_take (i := 26) (oi := { dst := _, op := _, type := _, pos := _, after := _, guard := some (20, false) }) (v := undef) rfl (by kernel_rfl) (by kernel_rfl) (by kernel_rfl) (fun _ _ _ h => h) (Or.inr ⟨by rfl, rfl⟩) (by assumption) ?_
                try simp only [Act.put, List.setIfInBounds_toArray, List.set_cons_zero, List.set_cons_succ]
                refine wpAnyH_take (i := 27) (oi := { dst := _, op := _, type := _, pos := _, after := _, guard := none }) (v := ?_) rfl (by kernel_rfl) (by kernel_rfl) (by kernel_rfl) (fun _ _ _ h => h) (Or.inl ⟨by rfl, ?_⟩) (by assumption) ?_
                rotate_left
                · intro w hSw; (try dsimp only at hSw); go_simp; (try with_reducible rfl)
                try simp only [Act.put, List.setIfInBounds_toArray, List.set_cons_zero, List.set_cons_succ]
                refine wpAnyH_done (by kernel_rfl) ?_ _

                all_goals
                  go_wp2
                  go_ret
                  exact ⟨ret_bool H.out.symm, (by first | exact below_a0 hbl hbA | exact below_a hbl hbA | exact below_drewN (below_a0 hbl hbA) _ | exact below_drewN (below_a hbl hbA) _)⟩
              | true =>
                have CW := Lib.hid (show ∀ w', Calls Tryz.prog 48 #[.agg #[.int .i64 x, .slice (some a1) n c], .int .i64 y0] w' fun e w'' => e = .returned (.bool true) ∧ Below w'.heap.size w' w'' from fun w' => by rw [← hw0]; exact implIsWire x y0 _ n c w')
                have tok1 : True := trivial
                cases hw1 : inW x y1 with
                | false =>
                  have H := Lib.hid (net_bad HL.out hlt (show pairB x (row zss k) = false by rw [HP.out, hw0, hw1]; rfl))
                  have CW2 := Lib.hid (show ∀ w', Calls Tryz.prog 48 #[.agg #[.int .i64 x, .slice (some a1) n c], .int .i64 y1] w' fun e w'' => e = .returned (.bool false) ∧ Below w'.heap.size w' w'' from fun w' => by rw [← hw1]; exact implIsWire x y1 _ n c w')
                  clear h01 hw0 hw1
                  go_wp2_with fail
                  go_region_held3 (fun w' => w'.cell? b = some (.int .i64 y0) ∧ w'.cell? ⟨b.block, b.off + 1, none⟩ = some (.int .i64 y1) ∧ w'.cell? ⟨w.heap.size, 0, none⟩ = some (.int .i64 x) ∧ w'.cell? ⟨w.heap.size, 1, none⟩ = some (.slice (some a1) n c)) (go_keep) (first | (go_at_call 48; have _t := tok1; clear _t tok1; refine (CW.out _).mono ?_; rintro e wA ⟨rfl, hbA⟩; have s1 := (hbA.cell (p := b) lb).trans p0; have s2 := (hbA.cell (p := ⟨b.block, b.off + 1, none⟩) lb).trans p1; have s3 := (hbA.cell (p := ⟨w.heap.size, 0, none⟩) hsz).trans hc0; have s4 := (hbA.cell (p := ⟨w.heap.size, 1, none⟩) hsz).trans hc1; have lA := hbA.size) | (go_at_call 48; refine (CW2.out _).mono ?_; rintro e wB ⟨rfl, hbB⟩; have s5 := (hbB.cell (p := b) (Nat.lt_of_lt_of_le lb lA)).trans s1; have s6 := (hbB.cell (p := ⟨b.block, b.off + 1, none⟩) (Nat.lt_of_lt_of_le lb lA)).trans s2; have s7 := (hbB.cell (p := ⟨w.heap.size, 0, none⟩) (Nat.lt_of_lt_of_le hsz lA)).trans s3; have s8 := (hbB.cell (p := ⟨w.heap.size, 1, none⟩) (Nat.lt_of_lt_of_le hsz lA)).trans s4))
                  all_goals
                    go_wp2
                    go_ret
                    exact ⟨ret_bool H.out.symm, (by first | exact below_a0 (below_a0 hbl hbA) hbB | exact below_b0 hbl hbA hbB | exact below_b hbl hbA hbB | exact below_a (below_a0 hbl hbA) hbB | exact below_drewN (below_a0 (below_a0 hbl hbA) hbB) _ | exact below_drewN (below_b0 hbl hbA hbB) _ | exact below_drewN (below_b hbl hbA hbB) _ | exact below_drewN (below_a (below_a0 hbl hbA) hbB) _)⟩
                | true =>
                  have H := Lib.hid (netTo_on HK.out (show pairB x (row zss k) = true by rw [HP.out, hw0, hw1, HE.out]; rfl))
                  have CW2 := Lib.hid (show ∀ w', Calls Tryz.prog 48 #[.agg #[.int .i64 x, .slice (some a1) n c], .int .i64 y1] w' fun e w'' => e = .returned (.bool true) ∧ Below w'.heap.size w' w'' from fun w' => by rw [← hw1]; exact implIsWire x y1 _ n c w')
                  clear h01 hw0 hw1
                  go_wp2_with fail
                  go_region_held3 (fun w' => w'.cell? b = some (.int .i64 y0) ∧ w'.cell? ⟨b.block, b.off + 1, none⟩ = some (.int .i64 y1) ∧ w'.cell? ⟨w.heap.size, 0, none⟩ = some (.int .i64 x) ∧ w'.cell? ⟨w.heap.size, 1, none⟩ = some (.slice (some a1) n c)) (go_keep) (first | (go_at_call 48; have _t := tok1; clear _t tok1; refine (CW.out _).mono ?_; rintro e wA ⟨rfl, hbA⟩; have s1 := (hbA.cell (p := b) lb).trans p0; have s2 := (hbA.cell (p := ⟨b.block, b.off + 1, none⟩) lb).trans p1; have s3 := (hbA.cell (p := ⟨w.heap.size, 0, none⟩) hsz).trans hc0; have s4 := (hbA.cell (p := ⟨w.heap.size, 1, none⟩) hsz).trans hc1; have lA := hbA.size) | (go_at_call 48; refine (CW2.out _).mono ?_; rintro e wB ⟨rfl, hbB⟩; have s5 := (hbB.cell (p := b) (Nat.lt_of_lt_of_le lb lA)).trans s1; have s6 := (hbB.cell (p := ⟨b.block, b.off + 1, none⟩) (Nat.lt_of_lt_of_le lb lA)).trans s2; have s7 := (hbB.cell (p := ⟨w.heap.size, 0, none⟩) (Nat.lt_of_lt_of_le hsz lA)).trans s3; have s8 := (hbB.cell (p := ⟨w.heap.size, 1, none⟩) (Nat.lt_of_lt_of_le hsz lA)).trans s4))
                  all_goals
                    have lB := hbB.size
                    go_wp2
                    go_roundw
                    case rel => exact ⟨k + 1, by omega, by go_num, H, (by first | exact Lib.hid ⟨s7, s8⟩ | exact Lib.hid ⟨s7, s8⟩), by have h9 : wr.heap.size ≤ wA.heap.size := hbA.size; have h10 : wA.heap.size ≤ wB.heap.size := hbB.size; omega, (by first | exact below_a0 (below_a0 hbl hbA) hbB | exact below_b0 hbl hbA hbB | exact below_b hbl hbA hbB | exact below_a (below_a0 hbl hbA) hbB | exact below_drewN (below_a0 (below_a0 hbl hbA) hbB) _ | exact below_drewN (below_b0 hbl hbA hbB) _ | exact below_drewN (below_b hbl hbA hbB) _ | exact below_drewN (below_a (below_a0 hbl hbA) hbB) _)⟩
                    case measure => (simp [intOf] <;> omega)
          · have H := Lib.hid (net_bad HL.out hlt (show pairB x (row zss k) = false by rw [pairB, HM.out, decide_eq_false hm2]; rfl))
            have e2 : ((m : Int) != 2) = true := by simp; omega
            clear hm2
            go_wp2_with fail
            go_quiet (fail)
            go_wp2
            go_ret
            exact ⟨ret_bool H.out.symm, below_drewN hbl _⟩
        · obtain rfl : k = n := by omega
          have H := Lib.hid (net_yes HL.out HX.out h60 HK.out)
          go_wp2_with fail
          go_ret
          exact ⟨ret_bool H.out.symm, hbl⟩
    · have H := Lib.hid (net_len (x := x) hl h60)
      have h61 : 60 < n := by omega
      clear hl h60 hx
      go_enter Tryz.func25, Tryz.ntmps25
      go_wp2_with fail
      refine (C1.out _).mono ?_
      rintro e w' ⟨rfl, rfl⟩
      go_wp2_with fail
      go_ret
      exact ⟨ret_bool H.out.symm, below_alloc w _⟩
  · have H := Lib.hid (net_x (zss := zss) hx)
    have C1 := Lib.hid (fun w' => implIsWires_no x w' hx)
    clear hl hx
    go_enter Tryz.func25, Tryz.ntmps25
    go_wp2_with fail
    refine (C1.out _).mono ?_
    rintro e w' ⟨rfl, rfl⟩
    go_wp2_with fail
    go_ret
    exact ⟨ret_bool H.out.symm, below_alloc w _⟩

end Go.Proofs.YtobdkfhmmpigiaaGreat
