/- Chapter 12: impl.standardLists, for whatever is handed to it as 'see'. -/
import Derived.Test.YtobdkfhmmpigiaaGreatC12r1
import Derived.Deep.RegionHeld3
import Derived.Deep.LoopGhost
namespace Go.Proofs.YtobdkfhmmpigiaaGreat
open Go.RowKit Go.Deep
set_option linter.unusedVariables false
attribute [local go_sem] bits_and_one

theorem below_drew_ {B : Nat} {a b : World} (h : Below B a.drew b) : Below B a b := ⟨h.os, h.tape, h.output, h.size, h.block⟩
theorem RdX.lt {D : Nat → Prop} {w : World} {A : Option Addr} {l : Nat} {zss : List (List Int)} (h : RdX D w A l zss) : RdX (fun g => D g ∨ w.heap.size ≤ g) w A l zss := by
  refine ⟨h.1, fun j hj => ?_⟩
  obtain ⟨ad, B, h1, h2, h3, h4, h5, h6, h7⟩ := h.2 j hj
  exact ⟨ad, B, h1, h2, fun e => by rcases e with e | e; exact h3 e; omega, h4, h5, fun e => by rcases e with e | e; exact h6 e; omega, h7⟩
theorem below_box (w : World) (x y : Int) (t : TypeId) : Below w.heap.size w (((w.alloc (.cells #[.int .i64 0] t)).setCell ⟨w.heap.size, 0, none⟩ (.int .i64 x)).setCell ⟨w.heap.size, 0, none⟩ (.int .i64 y)) :=
  ((below_alloc w _).setCell (p := ⟨w.heap.size, 0, none⟩) (Nat.le_refl _) _).setCell (p := ⟨w.heap.size, 0, none⟩) (Nat.le_refl _) _
theorem below_box1 (w : World) (x : Int) (t : TypeId) : Below w.heap.size w ((w.alloc (.cells #[.int .i64 0] t)).setCell ⟨w.heap.size, 0, none⟩ (.int .i64 x)) :=
  ((below_alloc w _).setCell (p := ⟨w.heap.size, 0, none⟩) (Nat.le_refl _) _)
theorem box_one (w : World) (x : Int) (t : TypeId) : ((w.alloc (.cells #[.int .i64 0] t)).setCell ⟨w.heap.size, 0, none⟩ (.int .i64 x)).cell? ⟨w.heap.size, 0, none⟩ = some (.int .i64 x) := World.cell?_setCell_same _ _ _ (box_cell w _ t)
theorem box_two (w : World) (x y : Int) (t : TypeId) : (((w.alloc (.cells #[.int .i64 0] t)).setCell ⟨w.heap.size, 0, none⟩ (.int .i64 x)).setCell ⟨w.heap.size, 0, none⟩ (.int .i64 y)).cell? ⟨w.heap.size, 0, none⟩ = some (.int .i64 y) := World.cell?_setCell_same _ _ _ (box_one w x t)

set_option maxHeartbeats 16000000 in
theorem implLists {σ : Type} (n lo : Nat) (hn : n ≤ 4) (I : σ → (Nat → Prop) → World → Prop) (see : List (List Int) → List Int → σ → σ × Bool) (fs : Nat) (cap : Array Value)
    (hlt : ∀ s D w, I s D w → ∀ g, D g → g < w.heap.size) (hbelow : ∀ s D w w', I s D w → Below w.heap.size w w' → I s D w')
    (eg : ∀ args w, (callFunc fs args).run Tryz.prog w = .ok (.enter fs args) w)
    (hsee : ∀ s D w A l c zss B m d set, I s D w → lo ≤ w.heap.size → OwnI w lo 3 B m d set → (∀ g, blk B = some g → ¬ D g) → RdX D w A l zss → Good m set → l ≤ 100 →
      Calls Tryz.prog fs (#[.slice A l c, .slice B m d] ++ cap) w fun e w' => e = .returned (.bool (see zss set s).2) ∧ ∃ D', I (see zss set s).1 D' w' ∧ Fr D D' w w') :
    ∀ K, K ≤ 100 → ∀ s D w A l c zss B m d set, I s D w → lo ≤ w.heap.size → OwnI w lo 3 B m d set → (∀ g, blk B = some g → ¬ D g) → RdX D w A l zss → Good m set → l + K ≤ 100 →
      Calls Tryz.prog 21 #[.int .i64 n, .int .i64 (K : Nat), .slice B m d, .slice A l c, .func (.func fs) #[] cap] w fun e w' => e = .returned (.bool (runL n see K zss set s).2) ∧ ∃ D', I (runL n see K zss set s).1 D' w' ∧ Fr D D' w w' := by
  intro K
  induction K with
  | zero =>
    intro _ s D w A l c zss B m d set hI hlo hB hBD hX hG hl
    have HS := Lib.hid (hsee s D w A l c zss B m d set hI hlo hB hBD hX hG (by omega))
    clear hI hB hBD hX hG hsee
    go_enter Tryz.func21, Tryz.ntmps21
    go_wp2_with (go_at_fn fs; refine HS.out.mono ?_; rintro e w2 ⟨rfl, D2, hI2, hF2⟩)
    go_ret
    exact ⟨by rw [runL_zero]; rfl, D2, by rw [runL_zero]; exact hI2, hF2⟩
  | succ K ih =>
    intro hK s0 D0 w A l c zss B m d set hI hlo hB hBD hX hG hl
    have IH := Lib.hid (ih (by omega))
    have CLN := Lib.hid (fun (Dx : Nat → Prop) wx (hx : RdX Dx wx A l zss) => implCloneR Dx A l c zss wx hx (by omega))
    obtain ⟨M, hM⟩ : ∃ M, K + 1 = M := ⟨_, rfl⟩
    have HMK := Lib.hid hM
    have hMw := down1 (J := M) (I := K) (by omega) (by omega) (by omega)
    have hKw : IntKind.i64.wrap (K : Int) = (K : Int) := IntWalk.i64_in _ (by omega)
    have hM0 : ((M : Int) == 0) = false := by simp; omega
    have HI0 := Lib.hid hI
    have HB0 := Lib.hid hB
    have HBD := Lib.hid hBD
    have HX0 := Lib.hid hX
    have HG := Lib.hid hG
    have HXL := Lib.hid hX.1
    have eg2 : ∀ args w, (callFunc 44 args).run Tryz.prog w = .ok (.enter 44 args) w := enters_of Tryz.func44 (by kernel_rfl) rfl
    obtain ⟨i0, hi0, hz0, hz1, hz3⟩ := info_parts sliceInfo
    rw [show ((K + 1 : Nat) : Int) = (M : Int) by rw [hM]]
    clear ih hsee hI hB hBD hX hG hM
    go_enter Tryz.func21, Tryz.ntmps21
    go_wp2_with fail
    go_loopw [21] (fun iv wr => ∃ i : Nat, iv = .int .i64 (i : Nat) ∧ i ≤ n ∧ ∃ s D, Hid (goP (fun p s => runL n see K (zss ++ [pr p.1 p.2]) (stI p.1 p.2 set) s) (allP n i) s = runL n see (K + 1) zss set s0) ∧ I s D wr ∧ Fr D0 D w wr) (fun iv _ => n - (intOf iv).toNat)
    case atStart => exact ⟨0, rfl, Nat.zero_le _, s0, D0, Lib.hid (runL_succ _ _ _ _ _ _).symm, HI0.out, Fr.refl _ _⟩
    case round =>
      clear HI0
      obtain ⟨i, rfl, hi, s, D, HR, hI, hF⟩ := hrel
      have hszr := hF.size
      by_cases hlti : i < n
      · have HA := Lib.hid (allP_cons n (by omega) i (by omega) hlti)
        have hdi : ¬ D wr.heap.size := fun e => by have := hlt _ _ _ hI _ e; omega
        have HI := Lib.hid hI
        have HF := Lib.hid hF
        have HLT := Lib.hid (hlt _ _ _ hI)
        obtain ⟨wo, hwo⟩ : ∃ x, x = wr := ⟨_, rfl⟩
        subst hwo
        have HBX := Lib.hid (below_alloc wo (.cells #[.int .i64 (i : Int)] 3))
        have HC1 := Lib.hid (box_cell wo (.int .i64 (i : Int)) 3)
        clear hI hF
        obtain ⟨wp, hwp⟩ : ∃ wp, wo.alloc (.cells #[.int .i64 (i : Int)] 3) = wp := ⟨_, rfl⟩
        have HWP := Lib.hid hwp
        have hsp : wp.heap.size = wo.heap.size + 1 := by rw [← hwp]; simp
        have HSP := Lib.hid hsp
        rw [hwp] at HBX HC1
        have HBY := Lib.hid (below_alloc wp (.cells #[.int .i64 ((i : Int) + 1)] 3))
        have HC2 := Lib.hid (box_cell wp (.int .i64 ((i : Int) + 1)) 3)
        have hdk : ¬ D wp.heap.size := fun e => by have := HLT.out _ e; omega
        have HIW := Lib.hid (hbelow _ _ _ _ HI.out (HBX.out.trans (HBY.out.mono (by omega))))
        have HFW := Lib.hid (HF.out.below (HBX.out.trans (HBY.out.mono (by omega))))
        have HC1b := Lib.hid ((HBY.out.cell (p := ⟨wo.heap.size, 0, none⟩) (by show wo.heap.size < _; omega)).trans HC1.out)
        have HR2 := Lib.hid (show goP (fun p s => runL n see K (zss ++ [pr p.1 p.2]) (stI p.1 p.2 set) s) (inP n i (i + 1) ++ allP n (i + 1)) s = runL n see (K + 1) zss set s0 by rw [← HA.out]; exact HR.out)
        clear hwp hsp HI HF HBX HBY HC1 HR
        go_wp2_with fail
        rw [HWP.out]
        obtain ⟨bi, hbi⟩ : ∃ bi, wo.heap.size = bi := ⟨_, rfl⟩
        have HBI := Lib.hid hbi
        rw [hbi] at hdi HC1b HSP ⊢
        rw [HSP.out] at HC2 hdk
        have HR0 := Lib.hid (show ((i : Int) + 1) = ((i + 1 : Nat) : Int) by simp)
        rw [HR0.out] at HC2 HIW HFW HC1b ⊢
        clear hbi
        go_loopg [12] (n + 1) (fun gk kv wr => ∃ k bk : Nat, ∃ s D, kv = .pointer (some ⟨bk, 0, none⟩) ∧ Hid (gk + k = n + 1 + i + 1) ∧ k ≤ n ∧ Hid (goP (fun p s => runL n see K (zss ++ [pr p.1 p.2]) (stI p.1 p.2 set) s) (inP n i k ++ allP n (i + 1)) s = runL n see (K + 1) zss set s0) ∧ wr.cell? ⟨bk, 0, none⟩ = some (.int .i64 (k : Nat)) ∧ bk < wr.heap.size ∧ ¬ D bk ∧ wr.cell? ⟨bi, 0, none⟩ = some (.int .i64 (i : Nat)) ∧ bi < wr.heap.size ∧ ¬ D bi ∧ I s D wr ∧ Fr D0 D w wr)
        case atStart => exact ⟨i + 1, bi + 1, s, D, rfl, Lib.hid (by omega), by omega, HR2.out, HC2.out, by simp [HSP.out], hdk, HC1b.out, by simp [HSP.out]; omega, hdi, HIW.out, HFW.out⟩
        case round =>
          clear HC2 HC1b HIW HFW HR2 hdi hdk HLT
          obtain ⟨k, bk, s, D, rfl, HGK, hk, HRR, c2w, hbk, hdk, c1w, hbi, hdi, hI, hF⟩ := hrel
          have hszr := hF.size
          by_cases hltk : k < n
          · have HP1 := Lib.hid (inP_cons (i := i) hltk)
            have HLT := Lib.hid (hlt _ _ _ hI)
            have HFR := Lib.hid hF
            have HI := Lib.hid hI
            have hB1 := HB0.out.keepAt (w' := wr) fun g hg => hF.block g (HB0.out.blk_ g hg).2 (HBD.out g hg)
            have HXW := Lib.hid (HX0.out.fr hF)
            have CI := Lib.hid (implImages B m d set 44 #[.pointer (some ⟨bi, 0, none⟩), .pointer (some ⟨bk, 0, none⟩)] (fun z => (bst z.toNat i k : Nat)) wr hB1.rd (by have := HG.out.2.2; omega) eg2
              (fun wx hbx q hq => by
                obtain ⟨t, ht, ht16⟩ := HG.out.1 q hq
                have h := implStepC t i k ⟨bi, 0, none⟩ ⟨bk, 0, none⟩ wx ht16 (by omega) (by omega) ((hbx.cell (p := ⟨bi, 0, none⟩) hbi).trans c1w) ((hbx.cell (p := ⟨bk, 0, none⟩) hbk).trans c2w)
                rw [ht]
                simpa using h))
            have HG2 := Lib.hid (good_st HG.out (show i < 4 by omega) (show k < 4 by omega))
            clear hB1 hI hF
            go_wp2_with fail
            refine CI.out.mono ?_
            rintro e w2 ⟨g2, m2, c2s, rfl, ho2, hb7x⟩
            have ho2 : OwnI w2 wr.heap.size 3 (some ⟨g2, 0, none⟩) m2 c2s (stI i k set) := by unfold stI; exact ho2
            obtain rfl : (stI i k set).length = m2 := ho2.lenI
            obtain ⟨m2, hm2⟩ : ∃ m2, (stI i k set).length = m2 := ⟨_, rfl⟩
            rw [hm2] at ho2 HG2 ⊢
            have hsr2 := hb7x.size
            have c1 := (hb7x.cell (p := ⟨bi, 0, none⟩) hbi).trans c1w
            have c2 := (hb7x.cell (p := ⟨bk, 0, none⟩) hbk).trans c2w
            have hbi2 : bi < w2.heap.size := by omega
            have hbk2 : bk < w2.heap.size := by omega
            have HO2 := Lib.hid ho2
            have HI2 := Lib.hid (hbelow _ _ _ _ HI.out hb7x)
            have HX2 := Lib.hid ((HXW.out.below hb7x).lt)
            clear ho2 CI HI HXW c1w c2w hm2
            go_wp2_with fail
            refine wp_region_held_drew (S := (fun w' => w'.cell? ⟨bi, 0, none⟩ = some (.int .i64 (i : Int)) ∧ w'.cell? ⟨bk, 0, none⟩ = some (.int .i64 (k : Int)))) (by kernel_rfl) ?_ (fun hHeld => ?_)
            · exact ⟨c1, c2⟩
            refine wpAnyH_take (i := 0) (oi := { dst := _, op := _, type := _, pos := _, after := _, guard := none }) (v := ?_) rfl (by kernel_rfl) (by kernel_rfl) (by kernel_rfl) (fun _ _ _ h => h) (Or.inl ⟨by rfl, ?_⟩) (by assumption) ?_
            rotate_left
            · intro w hSw; (try dsimp only at hSw); go_simp; (try with_reducible rfl)
            try simp only [Act.put, List.setIfInBounds_toArray, List.set_cons_zero, List.set_cons_succ]
            refine wpAnyH_take (i := 1) (oi := { dst := _, op := _, type := _, pos := _, after := _, guard := none }) (v := ?_) rfl (by kernel_rfl) (by kernel_rfl) (by kernel_rfl) (fun _ _ _ h => h) (Or.inl ⟨by rfl, ?_⟩) (by assumption) ?_
            rotate_left
            · intro w hSw; (try dsimp only at hSw); go_simp; (try with_reducible rfl)
            try simp only [Act.put, List.setIfInBounds_toArray, List.set_cons_zero, List.set_cons_succ]
            refine wpAnyH_take (i := 2) (oi := { dst := _, op := _, type := _, pos := _, after := _, guard := none }) (v := ?_) rfl (by kernel_rfl) (by kernel_rfl) (by kernel_rfl) (fun _ _ _ h => h) (Or.inl ⟨by rfl, ?_⟩) (by assumption) ?_
            rotate_left
            · intro w hSw; (try dsimp only at hSw); go_simp; (try with_reducible rfl)
            try simp only [Act.put, List.setIfInBounds_toArray, List.set_cons_zero, List.set_cons_succ]
            refine wpAnyH_take (i := 3) (oi := { dst := _, op := _, type := _, pos := _, after := _, guard := none }) (v := ?_) rfl (by kernel_rfl) (by kernel_rfl) (by kernel_rfl) (fun _ _ _ h => h) (Or.inl ⟨by rfl, ?_⟩) (by assumption) ?_
            rotate_left
            · intro w hSw; (try dsimp only at hSw); go_simp; (try with_reducible rfl)
            try simp only [Act.put, List.setIfInBounds_toArray, List.set_cons_zero, List.set_cons_succ]
            refine wpAnyH_take (i := 4) (oi := { dst := _, op := _, type := _, pos := _, after := _, guard := none }) (v := ?_) rfl (by kernel_rfl) (by kernel_rfl) (by kernel_rfl) (fun _ _ _ h => h) (Or.inl ⟨by rfl, ?_⟩) (by assumption) ?_
            rotate_left
            · intro w hSw; (try dsimp only at hSw); go_simp; (try with_reducible rfl)
            try simp only [Act.put, List.setIfInBounds_toArray, List.set_cons_zero, List.set_cons_succ]
            refine wpAnyH_take (i := 6) (oi := { dst := _, op := _, type := _, pos := _, after := _, guard := none }) (v := ?_) rfl (by kernel_rfl) (by kernel_rfl) (by kernel_rfl) (fun _ _ _ h => h) (Or.inl ⟨by rfl, ?_⟩) (by assumption) ?_
            rotate_left
            · intro w hSw; (try dsimp only at hSw); go_simp; (try with_reducible rfl)
            try simp only [Act.put, List.setIfInBounds_toArray, List.set_cons_zero, List.set_cons_succ]
            refine wpAnyH_take (i := 7) (oi := { dst := _, op := _, type := _, pos := _, after := _, guard := none }) (v := ?_) rfl (by kernel_rfl) (by kernel_rfl) (by kernel_rfl) (fun _ _ _ h => h) (Or.inl ⟨by rfl, ?_⟩) (by assumption) ?_
            rotate_left
            · intro w hSw; (try dsimp only at hSw); go_simp; (try with_reducible rfl)
            try simp only [Act.put, List.setIfInBounds_toArray, List.set_cons_zero, List.set_cons_succ]
            refine wpAnyH_take (i := 11) (oi := { dst := _, op := _, type := _, pos := _, after := _, guard := none }) (v := ?_) rfl (by kernel_rfl) (by kernel_rfl) (by kernel_rfl) (fun _ _ _ h => h) (Or.inl ⟨by rfl, ?_⟩) (by assumption) ?_
            rotate_left
            · intro w hSw; (try dsimp only at hSw); go_simp; (try with_reducible rfl)
            try simp only [Act.put, List.setIfInBounds_toArray, List.set_cons_zero, List.set_cons_succ]
            refine wpAnyH_ready (rs := [5, 8]) (by kernel_rfl) (by simp) ?_
            refine AllReadyH.cons rfl (fun K hK => ?_) (AllReadyH.cons rfl (fun K hK => ?_) AllReadyH.nil)
            · go_simp
              have hsW : w2.heap.size ≤ (w2.drew).heap.size := by simp; try omega
              refine (CLN.out _ (w2.drew) (HX2.out.below ((Below.refl _ _).drew))).mono ?_
              rintro e wA ⟨Ac, cc, vs, rfl, hoA, hvA, hbA⟩
              have hsA : w2.heap.size ≤ wA.heap.size := Nat.le_trans hsW hbA.size
              have t1 := (hbA.cell (p := ⟨bi, 0, none⟩) (Nat.lt_of_lt_of_le hbi2 hsW)).trans (c1)
              have t2 := (hbA.cell (p := ⟨bk, 0, none⟩) (Nat.lt_of_lt_of_le hbk2 hsW)).trans (c2)
              try go_simp
              refine hK.out _ _ ⟨t1, t2⟩ (fun hHeld1 => ?_)
              clear hK K
              try simp only [Act.put, List.setIfInBounds_toArray, List.set_cons_zero, List.set_cons_succ]
              refine wpAnyH_ready (rs := [8]) (by kernel_rfl) (by simp) ?_
              refine AllReadyH.cons rfl (fun K hK => ?_) AllReadyH.nil
              go_simp
              try go_simp
              refine hK.out _ _ ⟨((below_alloc (wA) _).cell (p := ⟨bi, 0, none⟩) (Nat.lt_of_lt_of_le hbi2 hsA)).trans (t1), ((below_alloc (wA) _).cell (p := ⟨bk, 0, none⟩) (Nat.lt_of_lt_of_le hbk2 hsA)).trans (t2)⟩ (fun hHeld2 => ?_)
              clear hK K
              try simp only [Act.put, List.setIfInBounds_toArray, List.set_cons_zero, List.set_cons_succ]
              refine wpAnyH_ready (rs := [9]) (by kernel_rfl) (by simp) ?_
              refine AllReadyH.cons rfl (fun K hK => ?_) AllReadyH.nil
              go_simp
              try go_simp
              refine hK.out _ _ ⟨((below_alloc (wA.alloc (.cells #[.int .i64 (i : Int), .int .i64 (k : Int)] 3)) _).cell (p := ⟨bi, 0, none⟩) (by show bi < _; simp; omega)).trans (((below_alloc (wA) _).cell (p := ⟨bi, 0, none⟩) (Nat.lt_of_lt_of_le hbi2 hsA)).trans (t1)), ((below_alloc (wA.alloc (.cells #[.int .i64 (i : Int), .int .i64 (k : Int)] 3)) _).cell (p := ⟨bk, 0, none⟩) (by show bk < _; simp; omega)).trans (((below_alloc (wA) _).cell (p := ⟨bk, 0, none⟩) (Nat.lt_of_lt_of_le hbk2 hsA)).trans (t2))⟩ (fun hHeld3 => ?_)
              clear hK K
              try simp only [Act.put, List.setIfInBounds_toArray, List.set_cons_zero, List.set_cons_succ]
              refine wpAnyH_ready (rs := [10]) (by kernel_rfl) (by simp) ?_
              refine AllReadyH.cons rfl (fun K hK => ?_) AllReadyH.nil
              have HOZ : Own ((wA.alloc (.cells #[.int .i64 (i : Int), .int .i64 (k : Int)] 3)).alloc (.cells #[.slice (some ⟨wA.heap.size, 0, none⟩) 2 2] 30)) w2.heap.size 30 Ac l cc vs := ((hoA.alloc _).alloc _).more (by simp; try omega)
              have HPZ : OwnI ((wA.alloc (.cells #[.int .i64 (i : Int), .int .i64 (k : Int)] 3)).alloc (.cells #[.slice (some ⟨wA.heap.size, 0, none⟩) 2 2] 30)) w2.heap.size 3 (some ⟨wA.heap.size, 0, none⟩) 2 2 (pr i k) := ((own_pair2 wA i k).more hsA).alloc _
              have HPN : blk Ac ≠ some (wA.heap.size) := fun e => by have := (hoA.blk_ _ e).2; omega
              have HBZ : Below w2.heap.size w2 ((wA.alloc (.cells #[.int .i64 (i : Int), .int .i64 (k : Int)] 3)).alloc (.cells #[.slice (some ⟨wA.heap.size, 0, none⟩) 2 2] 30)) := ((below_drew_ hbA).alloc hsA _).alloc (by simp; omega) _
              have HBA : Below wA.heap.size wA ((wA.alloc (.cells #[.int .i64 (i : Int), .int .i64 (k : Int)] 3)).alloc (.cells #[.slice (some ⟨wA.heap.size, 0, none⟩) 2 2] 30)) := ((Below.refl _ _).alloc (Nat.le_refl _) _).alloc (by simp) _
              have HRZ : All2 (Rr ((wA.alloc (.cells #[.int .i64 (i : Int), .int .i64 (k : Int)] 3)).alloc (.cells #[.slice (some ⟨wA.heap.size, 0, none⟩) 2 2] 30)) fun g => ¬ D g ∧ g < w2.heap.size) vs zss := hvA.mono fun v z q => q.keep HBA.size fun g hg hd => ⟨HBA.block g hg, fun e => hd.1 (.inl e), by rcases Nat.lt_or_ge g w2.heap.size with h | h; exact h; exact absurd (Or.inr h) hd.1⟩
              refine step_append_lies _ (by rfl) _ _ _ (by rfl) w2.heap.size 30 i0 _ 1 24 Tryz.underlying25 hi0 hz0 hz1 hz3 rfl (by omega) _ l _ (by rfl) HOZ
                  ⟨_, 0, none⟩ 1 1 [.slice (some ⟨wA.heap.size, 0, none⟩) 2 2] (by rfl) (by rfl) (World.news_of_block (cs := #[.slice (some ⟨wA.heap.size, 0, none⟩) 2 2]) (t := 30) (fr := (0, 0)) (by have h := heap_alloc_new (wA.alloc (.cells #[.int .i64 (i : Int), .int .i64 (k : Int)] 3)) (.cells #[.slice (some ⟨wA.heap.size, 0, none⟩) 2 2] 30); simpa using h)) (by simp [Value.oneCell'])
                  (by omega) (by unfold maxLen; omega) (by omega) HBZ.size (wA.heap.size + 2) (by simp) ?_
              intro gg cap7 w7 hown7 hgrow hat hlt7
              have hg7 : ((wA.alloc (.cells #[.int .i64 (i : Int), .int .i64 (k : Int)] 3)).alloc (.cells #[.slice (some ⟨wA.heap.size, 0, none⟩) 2 2] 30)).grownBy w7 (blk Ac) := by have h := hgrow; rw [ownBlock_slice] at h; exact h
              have hX7 := listX_push (i := i) (k := k) HXL.out HOZ (fun g hg => Nat.lt_of_lt_of_le (HLT.out g hg) hsr2) HBZ.size HRZ HPZ HPN hown7 hg7
              have hb7 : Below w2.heap.size w2 w7 := HBZ.grown hg7 HBZ.size (fun g e => (HOZ.blk_ g e).1)
              have hI7 := hbelow _ _ _ _ HI2.out hb7
              have HO7 := HO2.out.below hb7
              have s71 := (hb7.cell (p := ⟨bi, 0, none⟩) hbi2).trans c1
              have s72 := (hb7.cell (p := ⟨bk, 0, none⟩) hbk2).trans c2
              have hs7 : w2.heap.size ≤ w7.heap.size := hb7.size
              try go_simp
              refine hK.out _ _ ⟨s71, s72⟩ (fun hHeld4 => ?_)
              clear hK K
              try simp only [Act.put, List.setIfInBounds_toArray, List.set_cons_zero, List.set_cons_succ]
              refine wpAnyH_ready (rs := [12]) (by kernel_rfl) (by simp) ?_
              refine AllReadyH.cons rfl (fun K hK => ?_) AllReadyH.nil
              go_simp
              refine (IH.out s D w7 (some ⟨gg, 0, none⟩) (l + 1) cap7 (zss ++ [pr i k]) (some ⟨g2, 0, none⟩) m2 c2s (stI i k set) hI7 (by omega) (HO7.more (by omega)) (fun g e hd => by have h1 := HLT.out g hd; have h2 := (HO2.out.blk_ g e).1; omega) hX7 HG2.out (by omega)).mono ?_
              rintro e w8 ⟨rfl, D8, hI8, hF8⟩
              have s81 := (hF8.cell (p := ⟨bi, 0, none⟩) (Nat.lt_of_lt_of_le hbi2 hs7) hdi).trans s71
              have s82 := (hF8.cell (p := ⟨bk, 0, none⟩) (Nat.lt_of_lt_of_le hbk2 hs7) hdk).trans s72
              try go_simp
              refine hK.out _ _ ⟨s81, s82⟩ (fun hHeld5 => ?_)
              clear hK K
              try simp only [Act.put, List.setIfInBounds_toArray, List.set_cons_zero, List.set_cons_succ]
              refine wpAnyH_done (by kernel_rfl) ?_ _
              have HF8 := Lib.hid ((HFR.out.below (hb7x.trans (hb7.mono hsr2))).trans hF8)
              have HI8 := Lib.hid hI8
              have hdi8 : ¬ D8 bi := fun e => hdi (hF8.back bi (by omega) e)
              have hs8 := hF8.size
              have hbi8 : bi < w8.heap.size := by omega
              cases hbb : (runL n see K (zss ++ [pr i k]) (stI i k set) s).2 with
              | true =>
                have HE := Lib.hid (show runL n see (K + 1) zss set s0 = ((runL n see K (zss ++ [pr i k]) (stI i k set) s).1, true) by rw [← HRR.out, HP1.out]; exact goP_on (f := fun p s => runL n see K (zss ++ [pr p.1 p.2]) (stI p.1 p.2 set) s) (p := (i, k)) hbb)
                clear hbb
                go_wp2_with fail
                go_ret
                exact ⟨by rw [HE.out]; rfl, D8, by rw [HE.out]; exact HI8.out, HF8.out⟩
              | false =>
                have HE := Lib.hid (show goP (fun p s => runL n see K (zss ++ [pr p.1 p.2]) (stI p.1 p.2 set) s) (inP n i (k + 1) ++ allP n (i + 1)) (runL n see K (zss ++ [pr i k]) (stI i k set) s).1 = runL n see (K + 1) zss set s0 by rw [← HRR.out, HP1.out]; exact (goP_off (f := fun p s => runL n see K (zss ++ [pr p.1 p.2]) (stI p.1 p.2 set) s) (p := (i, k)) hbb).symm)
                have hd8 : ¬ D8 w8.heap.size := fun e => by have := hlt _ _ _ HI8.out _ e; omega
                clear hbb hHeld hI7 hX7 HO7 hb7 hgrow hg7 hown7 HRZ HPZ HOZ
                go_wp2_with fail
                have hW := below_alloc w8 (.cells #[.int .i64 ((k : Int) + 1)] 3)
                have hK1 : ((k : Int) + 1) = ((k + 1 : Nat) : Int) := by simp
                go_roundg (gk - 1)
                case measure => have := HGK.out; omega
                case rel => exact ⟨k + 1, w8.heap.size, _, D8, rfl, Lib.hid (by have := HGK.out; omega), by omega, HE, by rw [← hK1]; exact box_cell w8 _ _, by simp, hd8, (hW.cell (p := ⟨bi, 0, none⟩) hbi8).trans s81, by simp; omega, hdi8, hbelow _ _ _ _ HI8.out hW, HF8.out.below hW⟩
            · go_simp
              try go_simp
              refine hK.out _ _ ⟨((below_alloc (w2) _).cell (p := ⟨bi, 0, none⟩) (hbi2)).trans (c1), ((below_alloc (w2) _).cell (p := ⟨bk, 0, none⟩) (hbk2)).trans (c2)⟩ (fun hHeld6 => ?_)
              clear hK K
              try simp only [Act.put, List.setIfInBounds_toArray, List.set_cons_zero, List.set_cons_succ]
              refine wpAnyH_ready (rs := [5, 9]) (by kernel_rfl) (by simp) ?_
              refine AllReadyH.cons rfl (fun K hK => ?_) (AllReadyH.cons rfl (fun K hK => ?_) AllReadyH.nil)
              · go_simp
                have hsW : w2.heap.size ≤ ((w2.alloc (.cells #[.int .i64 (i : Int), .int .i64 (k : Int)] 3)).drew).heap.size := by simp; try omega
                refine (CLN.out _ ((w2.alloc (.cells #[.int .i64 (i : Int), .int .i64 (k : Int)] 3)).drew) (HX2.out.below (((below_alloc w2 _)).drew))).mono ?_
                rintro e wA ⟨Ac, cc, vs, rfl, hoA, hvA, hbA⟩
                have hsA : w2.heap.size ≤ wA.heap.size := Nat.le_trans hsW hbA.size
                have t1 := (hbA.cell (p := ⟨bi, 0, none⟩) (Nat.lt_of_lt_of_le hbi2 hsW)).trans (((below_alloc (w2) _).cell (p := ⟨bi, 0, none⟩) (hbi2)).trans (c1))
                have t2 := (hbA.cell (p := ⟨bk, 0, none⟩) (Nat.lt_of_lt_of_le hbk2 hsW)).trans (((below_alloc (w2) _).cell (p := ⟨bk, 0, none⟩) (hbk2)).trans (c2))
                try go_simp
                refine hK.out _ _ ⟨t1, t2⟩ (fun hHeld7 => ?_)
                clear hK K
                try simp only [Act.put, List.setIfInBounds_toArray, List.set_cons_zero, List.set_cons_succ]
                refine wpAnyH_ready (rs := [9]) (by kernel_rfl) (by simp) ?_
                refine AllReadyH.cons rfl (fun K hK => ?_) AllReadyH.nil
                go_simp
                try go_simp
                refine hK.out _ _ ⟨((below_alloc (wA) _).cell (p := ⟨bi, 0, none⟩) (Nat.lt_of_lt_of_le hbi2 hsA)).trans (t1), ((below_alloc (wA) _).cell (p := ⟨bk, 0, none⟩) (Nat.lt_of_lt_of_le hbk2 hsA)).trans (t2)⟩ (fun hHeld8 => ?_)
                clear hK K
                try simp only [Act.put, List.setIfInBounds_toArray, List.set_cons_zero, List.set_cons_succ]
                refine wpAnyH_ready (rs := [10]) (by kernel_rfl) (by simp) ?_
                refine AllReadyH.cons rfl (fun K hK => ?_) AllReadyH.nil
                have HOZ : Own (wA.alloc (.cells #[.slice (some ⟨w2.heap.size, 0, none⟩) 2 2] 30)) w2.heap.size 30 Ac l cc vs := (hoA.alloc _).more (by simp; try omega)
                have HPZ : OwnI (wA.alloc (.cells #[.slice (some ⟨w2.heap.size, 0, none⟩) 2 2] 30)) w2.heap.size 3 (some ⟨w2.heap.size, 0, none⟩) 2 2 (pr i k) := (((own_pair2 w2 i k).drew.below hbA)).alloc _
                have HPN : blk Ac ≠ some (w2.heap.size) := fun e => by have := (hoA.blk_ _ e).1; simp at this; omega
                have HBZ : Below w2.heap.size w2 (wA.alloc (.cells #[.slice (some ⟨w2.heap.size, 0, none⟩) 2 2] 30)) := (((below_alloc w2 _).drew.trans (hbA.mono (by simp))).alloc hsA _)
                have HBA : Below wA.heap.size wA (wA.alloc (.cells #[.slice (some ⟨w2.heap.size, 0, none⟩) 2 2] 30)) := (Below.refl _ _).alloc (Nat.le_refl _) _
                have HRZ : All2 (Rr (wA.alloc (.cells #[.slice (some ⟨w2.heap.size, 0, none⟩) 2 2] 30)) fun g => ¬ D g ∧ g < w2.heap.size) vs zss := hvA.mono fun v z q => q.keep HBA.size fun g hg hd => ⟨HBA.block g hg, fun e => hd.1 (.inl e), by rcases Nat.lt_or_ge g w2.heap.size with h | h; exact h; exact absurd (Or.inr h) hd.1⟩
                refine step_append_lies _ (by rfl) _ _ _ (by rfl) w2.heap.size 30 i0 _ 1 24 Tryz.underlying25 hi0 hz0 hz1 hz3 rfl (by omega) _ l _ (by rfl) HOZ
                    ⟨_, 0, none⟩ 1 1 [.slice (some ⟨w2.heap.size, 0, none⟩) 2 2] (by rfl) (by rfl) (World.news_of_block (cs := #[.slice (some ⟨w2.heap.size, 0, none⟩) 2 2]) (t := 30) (fr := (0, 0)) (by have h := heap_alloc_new wA (.cells #[.slice (some ⟨w2.heap.size, 0, none⟩) 2 2] 30); simpa using h)) (by simp [Value.oneCell'])
                    (by omega) (by unfold maxLen; omega) (by omega) HBZ.size (wA.heap.size + 1) (by simp) ?_
                intro gg cap7 w7 hown7 hgrow hat hlt7
                have hg7 : (wA.alloc (.cells #[.slice (some ⟨w2.heap.size, 0, none⟩) 2 2] 30)).grownBy w7 (blk Ac) := by have h := hgrow; rw [ownBlock_slice] at h; exact h
                have hX7 := listX_push (i := i) (k := k) HXL.out HOZ (fun g hg => Nat.lt_of_lt_of_le (HLT.out g hg) hsr2) HBZ.size HRZ HPZ HPN hown7 hg7
                have hb7 : Below w2.heap.size w2 w7 := HBZ.grown hg7 HBZ.size (fun g e => (HOZ.blk_ g e).1)
                have hI7 := hbelow _ _ _ _ HI2.out hb7
                have HO7 := HO2.out.below hb7
                have s71 := (hb7.cell (p := ⟨bi, 0, none⟩) hbi2).trans c1
                have s72 := (hb7.cell (p := ⟨bk, 0, none⟩) hbk2).trans c2
                have hs7 : w2.heap.size ≤ w7.heap.size := hb7.size
                try go_simp
                refine hK.out _ _ ⟨s71, s72⟩ (fun hHeld9 => ?_)
                clear hK K
                try simp only [Act.put, List.setIfInBounds_toArray, List.set_cons_zero, List.set_cons_succ]
                refine wpAnyH_ready (rs := [12]) (by kernel_rfl) (by simp) ?_
                refine AllReadyH.cons rfl (fun K hK => ?_) AllReadyH.nil
                go_simp
                refine (IH.out s D w7 (some ⟨gg, 0, none⟩) (l + 1) cap7 (zss ++ [pr i k]) (some ⟨g2, 0, none⟩) m2 c2s (stI i k set) hI7 (by omega) (HO7.more (by omega)) (fun g e hd => by have h1 := HLT.out g hd; have h2 := (HO2.out.blk_ g e).1; omega) hX7 HG2.out (by omega)).mono ?_
                rintro e w8 ⟨rfl, D8, hI8, hF8⟩
                have s81 := (hF8.cell (p := ⟨bi, 0, none⟩) (Nat.lt_of_lt_of_le hbi2 hs7) hdi).trans s71
                have s82 := (hF8.cell (p := ⟨bk, 0, none⟩) (Nat.lt_of_lt_of_le hbk2 hs7) hdk).trans s72
                try go_simp
                refine hK.out _ _ ⟨s81, s82⟩ (fun hHeld10 => ?_)
                clear hK K
                try simp only [Act.put, List.setIfInBounds_toArray, List.set_cons_zero, List.set_cons_succ]
                refine wpAnyH_done (by kernel_rfl) ?_ _
                have HF8 := Lib.hid ((HFR.out.below (hb7x.trans (hb7.mono hsr2))).trans hF8)
                have HI8 := Lib.hid hI8
                have hdi8 : ¬ D8 bi := fun e => hdi (hF8.back bi (by omega) e)
                have hs8 := hF8.size
                have hbi8 : bi < w8.heap.size := by omega
                cases hbb : (runL n see K (zss ++ [pr i k]) (stI i k set) s).2 with
                | true =>
                  have HE := Lib.hid (show runL n see (K + 1) zss set s0 = ((runL n see K (zss ++ [pr i k]) (stI i k set) s).1, true) by rw [← HRR.out, HP1.out]; exact goP_on (f := fun p s => runL n see K (zss ++ [pr p.1 p.2]) (stI p.1 p.2 set) s) (p := (i, k)) hbb)
                  clear hbb
                  go_wp2_with fail
                  go_ret
                  exact ⟨by rw [HE.out]; rfl, D8, by rw [HE.out]; exact HI8.out, HF8.out⟩
                | false =>
                  have HE := Lib.hid (show goP (fun p s => runL n see K (zss ++ [pr p.1 p.2]) (stI p.1 p.2 set) s) (inP n i (k + 1) ++ allP n (i + 1)) (runL n see K (zss ++ [pr i k]) (stI i k set) s).1 = runL n see (K + 1) zss set s0 by rw [← HRR.out, HP1.out]; exact (goP_off (f := fun p s => runL n see K (zss ++ [pr p.1 p.2]) (stI p.1 p.2 set) s) (p := (i, k)) hbb).symm)
                  have hd8 : ¬ D8 w8.heap.size := fun e => by have := hlt _ _ _ HI8.out _ e; omega
                  clear hbb hHeld hI7 hX7 HO7 hb7 hgrow hg7 hown7 HRZ HPZ HOZ
                  go_wp2_with fail
                  have hW := below_alloc w8 (.cells #[.int .i64 ((k : Int) + 1)] 3)
                  have hK1 : ((k : Int) + 1) = ((k + 1 : Nat) : Int) := by simp
                  go_roundg (gk - 1)
                  case measure => have := HGK.out; omega
                  case rel => exact ⟨k + 1, w8.heap.size, _, D8, rfl, Lib.hid (by have := HGK.out; omega), by omega, HE, by rw [← hK1]; exact box_cell w8 _ _, by simp, hd8, (hW.cell (p := ⟨bi, 0, none⟩) hbi8).trans s81, by simp; omega, hdi8, hbelow _ _ _ _ HI8.out hW, HF8.out.below hW⟩
              · go_simp
                try go_simp
                refine hK.out _ _ ⟨((below_alloc (w2.alloc (.cells #[.int .i64 (i : Int), .int .i64 (k : Int)] 3)) _).cell (p := ⟨bi, 0, none⟩) (by show bi < _; simp; omega)).trans (((below_alloc (w2) _).cell (p := ⟨bi, 0, none⟩) (hbi2)).trans (c1)), ((below_alloc (w2.alloc (.cells #[.int .i64 (i : Int), .int .i64 (k : Int)] 3)) _).cell (p := ⟨bk, 0, none⟩) (by show bk < _; simp; omega)).trans (((below_alloc (w2) _).cell (p := ⟨bk, 0, none⟩) (hbk2)).trans (c2))⟩ (fun hHeld11 => ?_)
                clear hK K
                try simp only [Act.put, List.setIfInBounds_toArray, List.set_cons_zero, List.set_cons_succ]
                refine wpAnyH_ready (rs := [5]) (by kernel_rfl) (by simp) ?_
                refine AllReadyH.cons rfl (fun K hK => ?_) AllReadyH.nil
                go_simp
                have hsW : w2.heap.size ≤ (((w2.alloc (.cells #[.int .i64 (i : Int), .int .i64 (k : Int)] 3)).alloc (.cells #[.slice (some ⟨w2.heap.size, 0, none⟩) 2 2] 30)).drew).heap.size := by simp; try omega
                refine (CLN.out _ (((w2.alloc (.cells #[.int .i64 (i : Int), .int .i64 (k : Int)] 3)).alloc (.cells #[.slice (some ⟨w2.heap.size, 0, none⟩) 2 2] 30)).drew) (HX2.out.below ((((below_alloc w2 _)).alloc (by simp) _).drew))).mono ?_
                rintro e wA ⟨Ac, cc, vs, rfl, hoA, hvA, hbA⟩
                have hsA : w2.heap.size ≤ wA.heap.size := Nat.le_trans hsW hbA.size
                have t1 := (hbA.cell (p := ⟨bi, 0, none⟩) (Nat.lt_of_lt_of_le hbi2 hsW)).trans (((below_alloc (w2.alloc (.cells #[.int .i64 (i : Int), .int .i64 (k : Int)] 3)) _).cell (p := ⟨bi, 0, none⟩) (by show bi < _; simp; omega)).trans (((below_alloc (w2) _).cell (p := ⟨bi, 0, none⟩) (hbi2)).trans (c1)))
                have t2 := (hbA.cell (p := ⟨bk, 0, none⟩) (Nat.lt_of_lt_of_le hbk2 hsW)).trans (((below_alloc (w2.alloc (.cells #[.int .i64 (i : Int), .int .i64 (k : Int)] 3)) _).cell (p := ⟨bk, 0, none⟩) (by show bk < _; simp; omega)).trans (((below_alloc (w2) _).cell (p := ⟨bk, 0, none⟩) (hbk2)).trans (c2)))
                try go_simp
                refine hK.out _ _ ⟨t1, t2⟩ (fun hHeld12 => ?_)
                clear hK K
                try simp only [Act.put, List.setIfInBounds_toArray, List.set_cons_zero, List.set_cons_succ]
                refine wpAnyH_ready (rs := [10]) (by kernel_rfl) (by simp) ?_
                refine AllReadyH.cons rfl (fun K hK => ?_) AllReadyH.nil
                have HOZ : Own (wA) w2.heap.size 30 Ac l cc vs := (hoA).more (by simp; try omega)
                have HPZ : OwnI (wA) w2.heap.size 3 (some ⟨w2.heap.size, 0, none⟩) 2 2 (pr i k) := ((((own_pair2 w2 i k).alloc _).drew.below hbA))
                have HPN : blk Ac ≠ some (w2.heap.size) := fun e => by have := (hoA.blk_ _ e).1; simp at this; omega
                have HBZ : Below w2.heap.size w2 (wA) := (((below_alloc w2 (.cells #[.int .i64 (i : Int), .int .i64 (k : Int)] 3)).alloc (by simp) (.cells #[.slice (some ⟨w2.heap.size, 0, none⟩) 2 2] 30)).drew.trans (hbA.mono (by simp; try omega)))
                have HBA : Below wA.heap.size wA (wA) := Below.refl _ _
                have HRZ : All2 (Rr (wA) fun g => ¬ D g ∧ g < w2.heap.size) vs zss := hvA.mono fun v z q => q.keep HBA.size fun g hg hd => ⟨HBA.block g hg, fun e => hd.1 (.inl e), by rcases Nat.lt_or_ge g w2.heap.size with h | h; exact h; exact absurd (Or.inr h) hd.1⟩
                refine step_append_lies _ (by rfl) _ _ _ (by rfl) w2.heap.size 30 i0 _ 1 24 Tryz.underlying25 hi0 hz0 hz1 hz3 rfl (by omega) _ l _ (by rfl) HOZ
                    ⟨_, 0, none⟩ 1 1 [.slice (some ⟨w2.heap.size, 0, none⟩) 2 2] (by rfl) (by rfl) (World.news_of_block (cs := #[.slice (some ⟨w2.heap.size, 0, none⟩) 2 2]) (t := 30) (fr := (0, 0)) (by have h := heap_alloc_new (w2.alloc (.cells #[.int .i64 (i : Int), .int .i64 (k : Int)] 3)) (.cells #[.slice (some ⟨w2.heap.size, 0, none⟩) 2 2] 30); rw [show (w2.alloc (.cells #[.int .i64 (i : Int), .int .i64 (k : Int)] 3)).heap.size = w2.heap.size + 1 by simp] at h; exact (hbA.block _ (by simp)).trans h)) (by simp [Value.oneCell'])
                    (by omega) (by unfold maxLen; omega) (by omega) HBZ.size (wA.heap.size) (by simp) ?_
                intro gg cap7 w7 hown7 hgrow hat hlt7
                have hg7 : (wA).grownBy w7 (blk Ac) := by have h := hgrow; rw [ownBlock_slice] at h; exact h
                have hX7 := listX_push (i := i) (k := k) HXL.out HOZ (fun g hg => Nat.lt_of_lt_of_le (HLT.out g hg) hsr2) HBZ.size HRZ HPZ HPN hown7 hg7
                have hb7 : Below w2.heap.size w2 w7 := HBZ.grown hg7 HBZ.size (fun g e => (HOZ.blk_ g e).1)
                have hI7 := hbelow _ _ _ _ HI2.out hb7
                have HO7 := HO2.out.below hb7
                have s71 := (hb7.cell (p := ⟨bi, 0, none⟩) hbi2).trans c1
                have s72 := (hb7.cell (p := ⟨bk, 0, none⟩) hbk2).trans c2
                have hs7 : w2.heap.size ≤ w7.heap.size := hb7.size
                try go_simp
                refine hK.out _ _ ⟨s71, s72⟩ (fun hHeld13 => ?_)
                clear hK K
                try simp only [Act.put, List.setIfInBounds_toArray, List.set_cons_zero, List.set_cons_succ]
                refine wpAnyH_ready (rs := [12]) (by kernel_rfl) (by simp) ?_
                refine AllReadyH.cons rfl (fun K hK => ?_) AllReadyH.nil
                go_simp
                refine (IH.out s D w7 (some ⟨gg, 0, none⟩) (l + 1) cap7 (zss ++ [pr i k]) (some ⟨g2, 0, none⟩) m2 c2s (stI i k set) hI7 (by omega) (HO7.more (by omega)) (fun g e hd => by have h1 := HLT.out g hd; have h2 := (HO2.out.blk_ g e).1; omega) hX7 HG2.out (by omega)).mono ?_
                rintro e w8 ⟨rfl, D8, hI8, hF8⟩
                have s81 := (hF8.cell (p := ⟨bi, 0, none⟩) (Nat.lt_of_lt_of_le hbi2 hs7) hdi).trans s71
                have s82 := (hF8.cell (p := ⟨bk, 0, none⟩) (Nat.lt_of_lt_of_le hbk2 hs7) hdk).trans s72
                try go_simp
                refine hK.out _ _ ⟨s81, s82⟩ (fun hHeld14 => ?_)
                clear hK K
                try simp only [Act.put, List.setIfInBounds_toArray, List.set_cons_zero, List.set_cons_succ]
                refine wpAnyH_done (by kernel_rfl) ?_ _
                have HF8 := Lib.hid ((HFR.out.below (hb7x.trans (hb7.mono hsr2))).trans hF8)
                have HI8 := Lib.hid hI8
                have hdi8 : ¬ D8 bi := fun e => hdi (hF8.back bi (by omega) e)
                have hs8 := hF8.size
                have hbi8 : bi < w8.heap.size := by omega
                cases hbb : (runL n see K (zss ++ [pr i k]) (stI i k set) s).2 with
                | true =>
                  have HE := Lib.hid (show runL n see (K + 1) zss set s0 = ((runL n see K (zss ++ [pr i k]) (stI i k set) s).1, true) by rw [← HRR.out, HP1.out]; exact goP_on (f := fun p s => runL n see K (zss ++ [pr p.1 p.2]) (stI p.1 p.2 set) s) (p := (i, k)) hbb)
                  clear hbb
                  go_wp2_with fail
                  go_ret
                  exact ⟨by rw [HE.out]; rfl, D8, by rw [HE.out]; exact HI8.out, HF8.out⟩
                | false =>
                  have HE := Lib.hid (show goP (fun p s => runL n see K (zss ++ [pr p.1 p.2]) (stI p.1 p.2 set) s) (inP n i (k + 1) ++ allP n (i + 1)) (runL n see K (zss ++ [pr i k]) (stI i k set) s).1 = runL n see (K + 1) zss set s0 by rw [← HRR.out, HP1.out]; exact (goP_off (f := fun p s => runL n see K (zss ++ [pr p.1 p.2]) (stI p.1 p.2 set) s) (p := (i, k)) hbb).symm)
                  have hd8 : ¬ D8 w8.heap.size := fun e => by have := hlt _ _ _ HI8.out _ e; omega
                  clear hbb hHeld hI7 hX7 HO7 hb7 hgrow hg7 hown7 HRZ HPZ HOZ
                  go_wp2_with fail
                  have hW := below_alloc w8 (.cells #[.int .i64 ((k : Int) + 1)] 3)
                  have hK1 : ((k : Int) + 1) = ((k + 1 : Nat) : Int) := by simp
                  go_roundg (gk - 1)
                  case measure => have := HGK.out; omega
                  case rel => exact ⟨k + 1, w8.heap.size, _, D8, rfl, Lib.hid (by have := HGK.out; omega), by omega, HE, by rw [← hK1]; exact box_cell w8 _ _, by simp, hd8, (hW.cell (p := ⟨bi, 0, none⟩) hbi8).trans s81, by simp; omega, hdi8, hbelow _ _ _ _ HI8.out hW, HF8.out.below hW⟩
          · obtain rfl : k = n := by omega
            have HN := Lib.hid (show goP (fun p s => runL k see K (zss ++ [pr p.1 p.2]) (stI p.1 p.2 set) s) (allP k (i + 1)) s = runL k see (K + 1) zss set s0 by have h := HRR.out; rw [inP_nil (Nat.le_refl _)] at h; simpa using h)
            go_wp2_with fail
            go_roundw
            case rel => exact ⟨i + 1, by go_num, by omega, s, D, HN, hI, hF⟩
            case measure => (simp [intOf] <;> omega)
      · obtain rfl : i = n := by omega
        have HE := Lib.hid (show runL i see (K + 1) zss set s0 = (s, false) by rw [← HR.out, allP_nil (Nat.le_refl _), goP_nil])
        go_wp2_with fail
        go_ret
        exact ⟨by rw [HE.out]; rfl, D, by rw [HE.out]; exact hI, hF⟩
end Go.Proofs.YtobdkfhmmpigiaaGreat
