/- Chapter 15: the switches with which an order passes: the walks. -/
import Derived.Test.YtaeabpmpfadkjaaC15i
namespace Go.Proofs.Ytaeabpmpfadkjaa
open Go.RowKit Go.Deep
set_option linter.unusedVariables false

set_option maxHeartbeats 4000000 in
theorem specStageSettings (A : Option Addr) (n c : Nat) (zs : List Int) (w : World) (ha : RdI w A n zs) (hn : n ≤ 1048576) :
    Calls Try.prog 37 #[.slice A n c] w fun e w' => ∃ A' n' c', e = .returned (.tuple #[.slice A' n' c', .bool (canV zs)]) ∧ OwnR w' w.heap.size w'.heap.size A' n' c' (swV zs) ∧ Below w.heap.size w w' := by
  have hl := ha.lenI
  have C := specCanPass A n c zs w ha hn
  cases hg : canV zs with
  | false =>
    have H := Lib.hid (swV_no hg)
    rw [hg] at C
    have CC := Lib.hid C
    clear C hg hl
    go_enter Try.func37, Try.ntmps37
    go_wp2_with fail
    refine CC.out.mono ?_
    rintro e w1 ⟨rfl, hb1⟩
    go_wp2_with fail
    go_ret2
    exact ⟨_, _, _, rfl, by rw [H.out]; exact OwnR.nil_ _ _ _, hb1⟩
  | true =>
    have H := Lib.hid (swV_yes hl hg)
    have HC := Lib.hid (can_out hl hg)
    have hn8 : n ≤ 8 := by have := HC.out.1; omega
    have hn2 : 2 ≤ n := by have := HC.out.1; omega
    have HS := stg_le HC.out.1
    obtain ⟨K, hK⟩ : ∃ K, stgN n = K := ⟨_, rfl⟩
    have hK3 : K ≤ 3 := by omega
    have C2 := fun w' => specStages n w' HC.out.1
    rw [hK] at C2 H
    have CC2 := Lib.hid C2
    have HK := Lib.hid hK
    rw [hg] at C
    have CC := Lib.hid C
    clear C hg hl C2 hK HS
    go_enter Try.func37, Try.ntmps37
    go_wp2_with fail
    refine CC.out.mono ?_
    rintro e w1 ⟨rfl, hb1⟩
    have hs1 := hb1.size
    clear CC
    go_wp2_with fail
    go_loopw [5, 6] (fun v i wr => ∃ s : Nat, ∃ A' c' vs, s ≤ K ∧ i = .int .i64 s ∧ v = .slice A' s c' ∧ Own wr w.heap.size 24 A' s c' vs ∧ RowsIn wr w.heap.size wr.heap.size A' s (fun s => swRow n zs s n) vs ∧ Below w.heap.size w wr) (fun _ i _ => K - (intOf i).toNat)
    case atStart => exact ⟨0, _, _, [], Nat.zero_le _, rfl, rfl, by simpa using (own_empty w1 24).more hs1, fun j hj => by omega, hb1.trans ((below_alloc w1 _).mono hs1)⟩
    case round =>
      clear hb1 hs1
      obtain ⟨s, A1, c1, vs, hs, rfl, rfl, hown, hrs, hbl⟩ := hrel
      have hsz := hbl.size
      by_cases hlt : s < K
      · have hsK : s < stgN n := by rw [HK.out]; exact hlt
        have HSK := Lib.hid hsK
        clear hsK
        go_wp2_with fail
        refine (CC2.out _).mono ?_
        rintro e w' ⟨rfl, rfl⟩
        go_wp2_with (at_make; refine wpL_make _ rfl _ _ 24 rfl 3 (.int .i64 0) 8 Try.underlying24 intInfo rfl _ _ _ _ (n / 2) rfl rfl (by omega) (by omega) (by omega) (by unfold maxLen; omega) ?_)
        intro w2 hmk hb2 hs2
        rw [show (List.replicate (n / 2) (Value.int .i64 0)) = (swRow n zs s 0).map (Value.int .i64) by rw [swRow_zero]; simp] at hmk
        go_wp2_with fail
        go_loopw [29] (fun i w3 => ∃ q : Nat, q ≤ n ∧ i = .int .i64 q ∧ OwnI w3 wr.heap.size 3 (some ⟨wr.heap.size, 0, none⟩) (n / 2) (n / 2) (swRow n zs s q) ∧ Below wr.heap.size wr w3) (fun i _ => n - (intOf i).toNat)
        case atStart => exact ⟨0, Nat.zero_le _, rfl, hmk, hb2⟩
        case round =>
          clear hmk hb2 hs2
          obtain ⟨q, hq, rfl, o3, hb3⟩ := hrel
          have hs3 := hb3.size
          by_cases hqn : q < n
          · obtain ⟨a1, rfl, _, h1⟩ := (ha.below (hbl.trans (hb3.mono hsz))).at_ hqn
            obtain ⟨z, hz, hzn⟩ := HC.out.2.1 q hqn
            obtain ⟨p0, hp0⟩ : ∃ p0, pz n zs q s = p0 := ⟨_, rfl⟩
            obtain ⟨p1, hp1⟩ : ∃ p1, pz n zs q (s + 1) = p1 := ⟨_, rfl⟩
            obtain ⟨t0, ht0⟩ : ∃ t0, shuf n p0 = t0 := ⟨_, rfl⟩
            have hp0n : p0 < n := by rw [← hp0]; unfold pz; exact posR_lt HC.out.1 _ _ _ (by rw [hz]; simpa using hzn)
            have hp1n : p1 < n := by rw [← hp1]; unfold pz; exact posR_lt HC.out.1 _ _ _ (by rw [hz]; simpa using hzn)
            have hcr := crossed (n := n) (zs := zs) (i := q) HSK.out
            rw [hp0, ht0, hp1] at hcr
            have CP := Lib.hid (specPath n z q wr HC.out.1 hzn hqn)
            have CS := fun w' => (specShuffle n p0 w' HC.out.1 hp0n).mono (fun _ _ (h : _ ∧ _) => (⟨h.1, h.2.symm⟩ : _ ∧ _))
            rw [ht0] at CS
            have CCS := Lib.hid CS
            have HPT := Lib.hid (show ∀ s', s' < stgN n → nth (pathL n z q) s' = (pz n zs q (s' + 1) : Int) from fun s' hs' => by
              have := path_nth (n := n) (zs := zs) (i := q) hs'
              rwa [hz, Int.toNat_natCast] at this)
            have hpq : p1 / 2 < n / 2 := by have := HC.out.1; omega
            obtain ⟨g, u, hgA, _, _, _, h4, h5⟩ := o3.at_ hpq
            injection hgA with hgA
            injection hgA with hgA
            subst hgA
            rw [hz] at h1
            have HZ := Lib.hid hz
            have HP0 := Lib.hid hp0
            have HP1 := Lib.hid hp1
            have hp1h : p1 / 2 < n / 2 := hpq
            clear hz hp0 hp1 ht0 CS
            by_cases hs0 : s = 0
            · have e1 : decide (0 < (s : Int)) = false := by simp; omega
              have e11 : decide (0 < s) = false := by simp; omega
              have hpz0 : p0 = z := by have := HP0.out; rw [hs0, pz_zero, HZ.out, Int.toNat_natCast] at this; exact this.symm
              subst hpz0
              clear hs0
              rcases hcr with ⟨hc1, hc2⟩ | ⟨hc1, hc2⟩
              · have e2 : ((t0 : Int) != (p1 : Int)) = false := by simp; omega
                have HR := Lib.hid (swRow_keep hc2)
                clear hc1 hc2
                go_wp2_with fail
                refine CP.out.mono ?_
                rintro e w4 ⟨A4, n4, c4, rfl, o4, hb4⟩
                obtain rfl : n4 = K := by rw [← o4.lenI, pathL_len, HK.out]
                obtain ⟨a4, rfl, _, h6⟩ := o4.rd.at_ hlt
                rw [HPT.out s HSK.out, HP1.out] at h6
                have o5 := o3.below hb4
                have hb5 := hb3.trans (hb4.mono hs3)
                clear o3 o4 h4 h5
                go_wp2_with fail
                go_quiet ((go_at_call 62; exact Calls.quiet_of_same (CCS.out _)))
                go_wp2
                go_roundw
                case rel => exact ⟨q + 1, by omega, by go_num, by rw [HR.out]; exact o5.drewN _, below_drewN hb5 _⟩
                case measure => (simp [intOf] <;> omega)
              · have e2 : ((t0 : Int) != (p1 : Int)) = true := by simp; omega
                have HR := Lib.hid (swRow_on hc2)
                clear hc1 hc2
                go_wp2_with fail
                refine CP.out.mono ?_
                rintro e w4 ⟨A4, n4, c4, rfl, o4, hb4⟩
                obtain rfl : n4 = K := by rw [← o4.lenI, pathL_len, HK.out]
                obtain ⟨a4, rfl, _, h6⟩ := o4.rd.at_ hlt
                rw [HPT.out s HSK.out, HP1.out] at h6
                have o5 := o3.below hb4
                have hb5 := hb3.trans (hb4.mono hs3)
                obtain ⟨g, u, hgA, _, _, _, h8, h9⟩ := o5.at_ hpq
                injection hgA with hgA
                injection hgA with hgA
                subst hgA
                have o6 := o5.setI (x := 1) hpq
                rw [← HP1.out, HR.out] at o6
                have hb6 := hb5.setCell (p := ⟨_, p1 / 2, none⟩) (Nat.le_refl _) (.int .i64 1)
                rw [HP1.out] at o6
                clear o3 o4 h4 h5
                go_wp2_with fail
                go_quiet ((go_at_call 62; exact Calls.quiet_of_same (CCS.out _)))
                go_wp2
                go_roundw
                case rel => exact ⟨q + 1, by omega, by go_num, by first | exact o6 | exact o6.drewN _, by first | exact hb6 | exact below_drewN hb6 _⟩
                case measure => (simp [intOf] <;> omega)
            · obtain ⟨s', hs'⟩ : ∃ s', s = s' + 1 := ⟨s - 1, by omega⟩
              have e1 : 0 < s := by omega
              have e3 : ((s : Int) - 1) = (s' : Int) := by omega
              have hs1K : s' < K := by omega
              have HSS := Lib.hid hs'
              clear hs0 hs'
              rcases hcr with ⟨hc1, hc2⟩ | ⟨hc1, hc2⟩
              · have e2 : ((t0 : Int) != (p1 : Int)) = false := by simp; omega
                have HR := Lib.hid (swRow_keep hc2)
                clear hc1 hc2
                go_wp2_with fail
                refine CP.out.mono ?_
                rintro e w4 ⟨A4, n4, c4, rfl, o4, hb4⟩
                obtain rfl : n4 = K := by rw [← o4.lenI, pathL_len, HK.out]
                obtain ⟨a4, rfl, _, h6⟩ := o4.rd.at_ hlt
                rw [HPT.out s HSK.out, HP1.out] at h6
                obtain ⟨a5, ha5, _, h7⟩ := o4.rd.at_ (show s' < n4 by omega)
                injection ha5 with ha5
                subst ha5
                rw [HPT.out s' (by have := HK.out; omega), ← HSS.out, HP0.out] at h7
                have o5 := o3.below hb4
                have hb5 := hb3.trans (hb4.mono hs3)
                clear o3 o4 h4 h5
                go_wp2_with fail
                go_quiet ((go_at_call 62; exact Calls.quiet_of_same (CCS.out _)))
                go_wp2
                go_roundw
                case rel => exact ⟨q + 1, by omega, by go_num, by rw [HR.out]; exact o5.drewN _, below_drewN hb5 _⟩
                case measure => (simp [intOf] <;> omega)
              · have e2 : ((t0 : Int) != (p1 : Int)) = true := by simp; omega
                have HR := Lib.hid (swRow_on hc2)
                clear hc1 hc2
                go_wp2_with fail
                refine CP.out.mono ?_
                rintro e w4 ⟨A4, n4, c4, rfl, o4, hb4⟩
                obtain rfl : n4 = K := by rw [← o4.lenI, pathL_len, HK.out]
                obtain ⟨a4, rfl, _, h6⟩ := o4.rd.at_ hlt
                rw [HPT.out s HSK.out, HP1.out] at h6
                obtain ⟨a5, ha5, _, h7⟩ := o4.rd.at_ (show s' < n4 by omega)
                injection ha5 with ha5
                subst ha5
                rw [HPT.out s' (by have := HK.out; omega), ← HSS.out, HP0.out] at h7
                have o5 := o3.below hb4
                have hb5 := hb3.trans (hb4.mono hs3)
                obtain ⟨g, u, hgA, _, _, _, h8, h9⟩ := o5.at_ hpq
                injection hgA with hgA
                injection hgA with hgA
                subst hgA
                have o6 := o5.setI (x := 1) hpq
                rw [← HP1.out, HR.out] at o6
                have hb6 := hb5.setCell (p := ⟨_, p1 / 2, none⟩) (Nat.le_refl _) (.int .i64 1)
                rw [HP1.out] at o6
                clear o3 o4 h4 h5
                go_wp2_with fail
                go_quiet ((go_at_call 62; exact Calls.quiet_of_same (CCS.out _)))
                go_wp2
                go_roundw
                case rel => exact ⟨q + 1, by omega, by go_num, by first | exact o6 | exact o6.drewN _, by first | exact hb6 | exact below_drewN hb6 _⟩
                case measure => (simp [intOf] <;> omega)
          · obtain rfl : q = n := by omega
            have hown2 := hown.below hb3
            have hbl2 := hbl.trans (hb3.mono hsz)
            have hsz2 := hbl2.size
            have hrs2 := RowsIn.keep hrs (fun g h1 h2 h3 => hb3.block g h3)
            have hAA := hown.blk_
            have hRR := o3.blk_
            go_wp2_with (at_builtin; refine wpL_append1 _ rfl _ _ _ rfl w.heap.size 24 (.slice none 0 0) 24 Try.underlying35 sliceInfo rfl _ s _ _ rfl hown2 (.slice (some ⟨_, 0, none⟩) (q / 2) (q / 2)) rfl rfl (by unfold maxLen; omega) (by omega) hsz2 ?_)
            intro A4 c4 w4 ho4 hg4 hat4
            have hb4 := own_below hown2 hbl2 hsz2 hg4
            have hrs4 := rowsIn_push (cR := q / 2) hown2 hrs2 (fun g hg => (hAA g hg).2) hs3 (o3.more hsz) (fun g hg => (hRR g hg).1) hg4 hat4
            go_wp2
            go_roundw
            case rel => exact ⟨s + 1, A4, c4, _, by omega, by go_num, rfl, ho4, hrs4, hb4⟩
            case measure => (simp [intOf] <;> omega)
      · obtain rfl : s = K := by omega
        have HL := Lib.hid (swM_len n zs s)
        have hrs5 : RowsIn wr w.heap.size wr.heap.size A1 s (row (swM n zs s)) vs := by
          intro j hj
          have := hrs j hj
          rw [swM_row hj]
          exact this
        go_wp2_with fail
        refine (CC2.out _).mono ?_
        rintro e w' ⟨rfl, rfl⟩
        go_wp2_with fail
        go_ret2
        exact ⟨_, _, _, rfl, by rw [H.out]; exact ⟨HL.out, vs, hown, fun g hg => (hown.blk_ g hg).2, hrs5⟩, hbl⟩

theorem rowsIn_set {w : World} {lo hi n m d s g j : Nat} {A : Option Addr} {f f' : Nat → List Int} {vs : List Value} {x : Int} (hr : RowsIn w lo hi A n f vs) (hs : s < n) (hv : vs[s]? = some (.slice (some ⟨g, 0, none⟩) m d)) (hj : j < m)
    (h1 : f' s = (f s).set j x) (h2 : ∀ k, k ≠ s → f' k = f k) : RowsIn (w.setCell ⟨g, j, none⟩ (.int .i64 x)) lo hi A n f' vs := by
  obtain ⟨B0, m0, d0, hv0, hB0, hd0⟩ := hr s hs
  rw [hv] at hv0
  injection hv0 with hv0
  injection hv0 with e1 e2 e3
  subst e1 e2 e3
  intro k hk
  by_cases e : k = s
  · subst e
    exact ⟨_, m, d, hv, by rw [h1]; exact hB0.setI hj, hd0⟩
  · obtain ⟨B, m', d', hv', hB, hd⟩ := hr k hk
    refine ⟨B, m', d', hv', ?_, hd⟩
    rw [h2 k e]
    refine hB.setOther (fun g' hg' => ?_) _
    show g' ≠ g
    intro eg
    subst eg
    rcases Nat.lt_or_gt_of_ne e with h | h
    · exact (hd0 _ rfl).2.2 k B m' d' h hv' hg'
    · exact (hd _ hg').2.2 s _ m d h hv rfl

set_option maxHeartbeats 4000000 in
theorem implStageSettings (A : Option Addr) (n c : Nat) (zs : List Int) (w : World) (ha : RdI w A n zs) (hn : n ≤ 1048576) :
    Calls Try.prog 38 #[.slice A n c] w fun e w' => ∃ A' n' c', e = .returned (.tuple #[.slice A' n' c', .bool (canV zs)]) ∧ OwnR w' w.heap.size w'.heap.size A' n' c' (swV zs) ∧ Below w.heap.size w w' := by
  have hl := ha.lenI
  have C := implCanPass A n c zs w ha hn
  cases hg : canV zs with
  | false =>
    have H := Lib.hid (swV_no hg)
    rw [hg] at C
    have CC := Lib.hid C
    clear C hg hl
    go_enter Try.func38, Try.ntmps38
    go_wp2_with fail
    refine CC.out.mono ?_
    rintro e w1 ⟨rfl, hb1⟩
    go_wp2_with fail
    go_ret2
    exact ⟨_, _, _, rfl, by rw [H.out]; exact OwnR.nil_ _ _ _, hb1⟩
  | true =>
    have H := Lib.hid (swV_yes hl hg)
    have HG := Lib.hid hg
    have HLN := Lib.hid hl
    have HC := Lib.hid (can_out hl hg)
    have hn8 : n ≤ 8 := by have := HC.out.1; omega
    have hn2 : 2 ≤ n := by have := HC.out.1; omega
    have HS := stg_le HC.out.1
    obtain ⟨K, hK⟩ : ∃ K, stgN n = K := ⟨_, rfl⟩
    have hK3 : K ≤ 3 := by omega
    have hK1 : 1 ≤ K := by omega
    have C2 := fun w' => implStages_yes n w' HC.out.1
    rw [hK] at C2 H
    have CC2 := Lib.hid C2
    have HK := Lib.hid hK
    rw [hg] at C
    have CC := Lib.hid C
    clear C hg hl C2 hK HS
    go_enter Try.func38, Try.ntmps38
    go_wp2_with fail
    refine CC.out.mono ?_
    rintro e w1 ⟨rfl, hb1⟩
    have hs1 := hb1.size
    clear CC
    go_wp2_with fail
    refine (CC2.out _).mono ?_
    rintro e w' ⟨rfl, rfl⟩
    go_wp2_with fail
    go_loopw [5, 20] (fun v i wr => ∃ s : Nat, ∃ A' c' vs, s ≤ K ∧ i = .int .i64 s ∧ v = .slice A' s c' ∧ Own wr w.heap.size 24 A' s c' vs ∧ RowsIn wr w.heap.size wr.heap.size A' s (fun s => swRow n zs s 0) vs ∧ Below w.heap.size w wr) (fun _ i _ => K - (intOf i).toNat)
    case atStart => exact ⟨0, _, _, [], Nat.zero_le _, rfl, rfl, by simpa using (own_empty w1 24).more hs1, fun j hj => by omega, hb1.trans ((below_alloc w1 _).mono hs1)⟩
    case round =>
      clear hb1 hs1
      obtain ⟨s, A1, c1, vs, hs, rfl, rfl, hown, hrs, hbl⟩ := hrel
      have hsz := hbl.size
      by_cases hlt : s < K
      · go_wp2_with (at_make; refine wpL_make _ rfl _ _ 24 rfl 3 (.int .i64 0) 8 Try.underlying24 intInfo rfl _ _ _ _ (n / 2) rfl rfl (by omega) (by omega) (by omega) (by unfold maxLen; omega) ?_)
        intro w2 hmk hb2 hs2
        rw [show (List.replicate (n / 2) (Value.int .i64 0)) = (swRow n zs s 0).map (Value.int .i64) by rw [swRow_zero]; simp] at hmk
        have hs3 := hb2.size
        clear hs2
        have hown2 := hown.below hb2
        have hbl2 := hbl.trans (hb2.mono hsz)
        have hsz2 := hbl2.size
        have hrs2 := RowsIn.keep hrs (fun g h1 h2 h3 => hb2.block g h3)
        have hAA := hown.blk_
        have hRR := hmk.blk_
        go_wp2_with (at_builtin; refine wpL_append1 _ rfl _ _ _ rfl w.heap.size 24 (.slice none 0 0) 24 Try.underlying35 sliceInfo rfl _ s _ _ rfl hown2 (.slice (some ⟨_, 0, none⟩) (n / 2) (n / 2)) rfl rfl (by unfold maxLen; omega) (by omega) hsz2 ?_)
        intro A4 c4 w4 ho4 hg4 hat4
        have hb4 := own_below hown2 hbl2 hsz2 hg4
        have hrs4 := rowsIn_push (cR := n / 2) hown2 hrs2 (fun g hg => (hAA g hg).2) hs3 (hmk.more hsz) (fun g hg => (hRR g hg).1) hg4 hat4
        go_wp2
        go_roundw
        case rel => exact ⟨s + 1, A4, c4, _, by omega, by go_num, rfl, ho4, hrs4, hb4⟩
        case measure => (simp [intOf] <;> omega)
      · obtain rfl : s = K := by omega
        have hAlt := fun g hg => (hown.blk_ g hg).2
        have HAL := Lib.hid hAlt
        clear hAlt
        obtain ⟨HI, hHI⟩ : ∃ HI, wr.heap.size = HI := ⟨_, rfl⟩
        rw [hHI] at hrs HAL hsz
        have hHI2 : HI ≤ wr.heap.size := by omega
        clear hHI
        go_wp2_with fail
        go_loopw [31] (fun i w3 => ∃ q : Nat, q ≤ n ∧ i = .int .i64 q ∧ Own w3 w.heap.size 24 A1 s c1 vs ∧ RowsIn w3 w.heap.size HI A1 s (fun s => swRow n zs s q) vs ∧ Below w.heap.size w w3 ∧ HI ≤ w3.heap.size) (fun i _ => n - (intOf i).toNat)
        case atStart => exact ⟨0, Nat.zero_le _, rfl, hown, hrs, hbl, hHI2⟩
        case round =>
          clear hown hrs hbl hHI2
          obtain ⟨q, hq, rfl, hown, hrs, hbl, hH⟩ := hrel
          have hsz3 := hbl.size
          by_cases hqn : q < n
          · obtain ⟨a1, rfl, _, h1⟩ := (ha.below hbl).at_ hqn
            obtain ⟨z, hz, hzn⟩ := HC.out.2.1 q hqn
            have CP := Lib.hid (implPath n z q wr HC.out.1 hzn hqn)
            have HPT := Lib.hid (show ∀ s', s' < stgN n → nth (pathL n z q) s' = (pz n zs q (s' + 1) : Int) ∧ nth (crossL n z q) s' = (cz n zs q s' : Int) from fun s' hs' => by
              have h1 := path_nth (n := n) (zs := zs) (i := q) hs'
              have h2 := cross_nth (n := n) (zs := zs) (i := q) hs'
              rw [hz, Int.toNat_natCast] at h1 h2
              exact ⟨h1, h2⟩)
            have HLT := Lib.hid (show ∀ s', s' < stgN n → pz n zs q (s' + 1) < n from fun s' _ => by unfold pz; exact posR_lt HC.out.1 _ _ _ (by rw [hz]; simpa using hzn))
            rw [hz] at h1
            clear hz
            go_wp2_with fail
            refine CP.out.mono ?_
            rintro e w4 ⟨A4, c4, A5, c5, k4, rfl, o4, o5, hk4, hb4⟩
            obtain rfl : k4 = s := by rw [hk4, HK.out]
            have hs4 := hb4.size
            have hown4 := hown.below hb4
            have hrs4 := RowsIn.keep hrs (fun g h1 h2 h3 => hb4.block g h3)
            have hbl4 := hbl.trans (hb4.mono hsz3)
            have hP4 := o4.blk_
            have hP5 := o5.blk_
            clear hk4 CP hown hrs hbl hb4
            go_wp2_with fail
            go_loopw [45] (fun i w5 => ∃ t : Nat, t ≤ k4 ∧ i = .int .i64 t ∧ RowsIn w5 w.heap.size HI A1 k4 (fun j => if j < t then swRow n zs j (q + 1) else swRow n zs j q) vs ∧ Chg w.heap.size HI w4 w5 ∧ Own w5 w.heap.size 24 A1 k4 c1 vs) (fun i _ => k4 - (intOf i).toNat)
            case atStart => exact ⟨0, Nat.zero_le _, rfl, fun j hj => by simpa using hrs4 j hj, Chg.refl _ _ _, hown4⟩
            case round =>
              clear hown4 hrs4
              obtain ⟨t, ht, rfl, hrs5, hch, hown5⟩ := hrel
              have hs5 := hch.size
              by_cases htk : t < k4
              · have htK : t < stgN n := by rw [HK.out]; exact htk
                have HTK := Lib.hid htK
                clear htK
                have o4' := o4.chg hch (fun g hg => by have := hP4 g hg; omega)
                have o5' := o5.chg hch (fun g hg => by have := hP5 g hg; omega)
                obtain ⟨a4, rfl, _, h6⟩ := o4'.rd.at_ htk
                obtain ⟨a5, rfl, _, h7⟩ := o5'.rd.at_ htk
                obtain ⟨p1, hp1⟩ : ∃ p1, pz n zs q (t + 1) = p1 := ⟨_, rfl⟩
                obtain ⟨x, hx⟩ : ∃ x, cz n zs q t = x := ⟨_, rfl⟩
                rw [(HPT.out t HTK.out).1, hp1] at h6
                rw [(HPT.out t HTK.out).2, hx] at h7
                have hp1n : p1 < n := by rw [← hp1]; exact HLT.out t HTK.out
                have hpq : p1 / 2 < n / 2 := by have := HC.out.1; omega
                have hset := swRow_set HLN.out HG.out hqn HTK.out
                rw [hp1, hx] at hset
                have HSET := Lib.hid hset
                obtain ⟨B, m, d, hv, hB, hd⟩ := hrs5 t htk
                replace hB : OwnI wr w.heap.size 3 B m d (swRow n zs t q) := by simpa using hB
                obtain rfl : m = n / 2 := by rw [← hB.lenI, swRow_len]
                obtain ⟨ad, hAd, _, h8⟩ := hown5.rd.atV hv
                obtain ⟨g, u, rfl, hg1, _, _, h9, h10⟩ := hB.at_ hpq
                have hdg := hd g rfl
                have HR := Lib.hid (rowsIn_set (f' := fun j => if j < t + 1 then swRow n zs j (q + 1) else swRow n zs j q) (j := p1 / 2) (x := (x : Int)) hrs5 htk hv hpq
                  (by simp only [Nat.lt_succ_self, if_true, Nat.lt_irrefl, if_false]; exact HSET.out.symm)
                  (fun k hk => by
                    by_cases h : k < t
                    · simp only [if_pos h, if_pos (show k < t + 1 by omega)]
                    · simp only [if_neg h, if_neg (show ¬ k < t + 1 by omega)]))
                have hch2 : Chg w.heap.size HI w4 (wr.setCell ⟨g, p1 / 2, none⟩ (.int .i64 x)) := hch.trans (Chg.of_grown (r := some g) (grownBy_set (World.grownBy.refl _ _) (p := ⟨g, p1 / 2, none⟩) rfl _) (fun g' e => by injection e with e; have := hdg.1; omega))
                have hown6 : Own (wr.setCell ⟨g, p1 / 2, none⟩ (.int .i64 x)) w.heap.size 24 A1 k4 c1 vs := hown5.setOther (fun g' e => by intro e2; exact hdg.2.1 (by rw [e]; exact congrArg some e2)) _
                have HX := Lib.hid (show RowsIn (wr.setCell ⟨g, p1 / 2, none⟩ (.int .i64 x)) w.heap.size HI A1 k4 (fun j => if j < t + 1 then swRow n zs j (q + 1) else swRow n zs j q) vs ∧ Chg w.heap.size HI w4 (wr.setCell ⟨g, p1 / 2, none⟩ (.int .i64 x)) ∧ Own (wr.setCell ⟨g, p1 / 2, none⟩ (.int .i64 x)) w.heap.size 24 A1 k4 c1 vs from ⟨HR.out, hch2, hown6⟩)
                subst hAd
                have hp1h : p1 / 2 < n / 2 := hpq
                clear hrs5 hch hown5 hB hset hp1 hx o4' o5' hd hdg HR hch2 hown6
                go_wp2
                go_region
                all_goals
                  go_wp2
                  go_roundw
                  case rel => exact ⟨t + 1, by omega, by go_num, HX.out.1, ⟨HX.out.2.1.os, HX.out.2.1.tape, HX.out.2.1.output, HX.out.2.1.size, HX.out.2.1.block⟩, HX.out.2.2⟩
                  case measure => (simp [intOf] <;> omega)
              · obtain rfl : t = k4 := by omega
                have hrs6 : RowsIn wr w.heap.size HI A1 t (fun s => swRow n zs s (q + 1)) vs := by
                  intro j hj
                  have := hrs5 j hj
                  simp only [if_pos hj] at this
                  exact this
                have hbl6 := hbl4.trans ((hch.below (Nat.le_refl _) hbl4.size))
                clear hrs5
                go_wp2_with fail
                go_roundw
                case rel => exact ⟨q + 1, by omega, by go_num, hown5, hrs6, hbl6, by omega⟩
                case measure => (simp [intOf] <;> omega)
          · obtain rfl : q = n := by omega
            have HL := Lib.hid (swM_len q zs s)
            have hrs5 : RowsIn wr w.heap.size HI A1 s (row (swM q zs s)) vs := by
              intro j hj
              have := hrs j hj
              rw [swM_row hj]
              exact this
            have oF : OwnR wr w.heap.size HI A1 s c1 (swM q zs s) := ⟨HL.out, vs, hown, HAL.out, hrs5⟩
            go_wp2_with fail
            go_ret2
            exact ⟨_, _, _, rfl, by rw [H.out]; exact oF.keepHi hH, hbl⟩

end Go.Proofs.Ytaeabpmpfadkjaa
