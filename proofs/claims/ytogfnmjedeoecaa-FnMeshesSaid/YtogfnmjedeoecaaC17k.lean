/- Chapter 17: columns that are sorted. -/
import Derived.Test.YtogfnmjedeoecaaC17j
namespace Go.Proofs.Ytogfnmjedeoecaa
open Go.RowKit Go.Deep
set_option linter.unusedVariables false

/-- The sorted columns, as rows. -/
def colS (zss : List (List Int)) (n m : Nat) : List (List Int) := (List.range m).map fun j => srt (colTo zss j n)
theorem colS_len (zss : List (List Int)) (n m : Nat) : (colS zss n m).length = m := by simp [colS]
theorem colS_row {zss : List (List Int)} {n m j : Nat} (h : j < m) : row (colS zss n m) j = srt (colTo zss j n) := by
  have : ∀ f : Nat → List Int, ((List.range m).map f).getD j [] = f j := fun f => by simp [List.getD, h]
  rw [row, colS]
  exact this _
theorem colS_rows (zss : List (List Int)) (n m : Nat) : ∀ k, k < m → (row (colS zss n m) k).length = n := by
  intro k hk
  rw [colS_row hk, srt_len, colTo_len]
theorem flip_rows (zss : List (List Int)) (n m : Nat) : ∀ k, k < m → (row (flip zss n m) k).length = n := by
  intro k hk
  rw [flip_row hk, colTo_len]
def colL (zss : List (List Int)) (n m : Nat) : List (List Int) := flip (colS zss n m) m n
theorem colL_len (zss : List (List Int)) (n m : Nat) : (colL zss n m).length = n := flip_len _ _ _
theorem colL_rows (zss : List (List Int)) (n m : Nat) : ∀ k, k < n → (row (colL zss n m) k).length = m := flip_rows _ _ _
attribute [irreducible] colS

set_option maxHeartbeats 2000000 in
theorem specCols (A : Option Addr) (n c M : Nat) (zss : List (List Int)) (w : World) (ha : RdM w A n zss) (hn1 : 1 ≤ n) (hn : n ≤ 4) (hM1 : 1 ≤ M) (hM : M ≤ 4) (hrows : ∀ k, k < n → (row zss k).length = M) :
    Calls Try.prog 56 #[.slice A n c] w fun e w' => ∃ A' n' c', e = .returned (.slice A' n' c') ∧ OwnR w' w.heap.size w'.heap.size A' n' c' (colL zss n M) ∧ Below w.heap.size w w' := by
  have CF := Lib.hid (fun w' (h : RdM w' A n zss) => specFlip A n c M zss w' h hn1 hn hM hrows)
  have CG := Lib.hid (fun A' c' w' (h : RdM w' A' M (colS zss n M)) => specFlip A' M c' n (colS zss n M) w' h hM1 hM hn (colS_rows zss n M))
  have HF := Lib.hid (flip_rows zss n M)
  clear hrows
  go_enter Try.func56, Try.ntmps56
  go_wp2_with fail
  refine (CF.out _ (by first | exact ha | exact ha.below (below_alloc w _))).mono ?_
  rintro e w1 ⟨A1, n1, c1, rfl, o1, hb1⟩
  obtain rfl : n1 = M := by rw [← o1.1, flip_len]
  have hs1 := hb1.size
  go_wp2_with fail
  go_loopw [3, 10] (fun v i wr => ∃ k : Nat, ∃ A' c' vs, k ≤ n1 ∧ i = .int .i64 k ∧ v = .slice A' k c' ∧ Own wr w.heap.size 29 A' k c' vs ∧ RowsIn wr w.heap.size wr.heap.size A' k (fun j => srt (colTo zss j n)) vs ∧ Below w.heap.size w wr ∧ OwnR wr (w.heap.size + 1) w1.heap.size A1 n1 c1 (flip zss n n1) ∧ (∀ g, blk A' = some g → g = w.heap.size ∨ w1.heap.size ≤ g) ∧ w1.heap.size ≤ wr.heap.size) (fun _ i _ => n1 - (intOf i).toNat)
  case atStart => exact ⟨0, _, _, [], Nat.zero_le _, rfl, rfl, by simpa using (own_empty w 29).below hb1, fun j hj => by omega, (below_alloc w _).trans (hb1.mono (by simp)), by simpa using o1, fun g hg => by simp [blk] at hg; exact .inl hg.symm, Nat.le_refl _⟩
  case round =>
    obtain ⟨k, A', c', vs, hk, rfl, rfl, hown, hrs, hbl, hok, hA', hH⟩ := hrel
    have hsz := hbl.size
    by_cases hlt : k < n1
    · obtain ⟨a1, B, m, d, rfl, _, h1, hB, hmd, hd⟩ := hok.rd.2 k hlt
      unfold maxLen at hd
      obtain rfl : m = n := by rw [← hB.lenI]; exact HF.out k hlt
      rw [flip_row hlt] at hB
      have HI := Lib.hid (srt_of hB.lenI)
      go_wp2_with fail
      refine (specSort B m d (colTo zss k m) wr hB (by omega)).mono ?_
      rintro e w2 ⟨A3, c3, rfl, o3, hb2⟩
      rw [HI.out] at o3
      have hs2 := hb2.size
      have hown2 := hown.below hb2
      have hbl2 := hbl.trans (hb2.mono hsz)
      have hsz2 := hbl2.size
      have hrs2 := RowsIn.keep hrs (fun g h1 h2 h3 => hb2.block g h3)
      have hAA := hown.blk_
      have hRR := o3.blk_
      go_wp2_with (at_builtin; refine wpL_append1 _ rfl _ _ _ rfl w.heap.size 29 (.slice none 0 0) 24 Try.underlying24 sliceInfo rfl _ k _ _ rfl hown2 (.slice A3 m c3) rfl rfl (by unfold maxLen; omega) (by omega) hsz2 ?_)
      intro A4 c4 w4 ho4 hg4 hat4
      have hb4 := own_below hown2 hbl2 hsz2 hg4
      have hrs4 := rowsIn_push (cR := c3) hown2 hrs2 (fun g hg => (hAA g hg).2) (by omega) ((o3).more hsz) (fun g hg => (hRR g hg).1) hg4 hat4
      go_wp2
      go_roundw
      case rel => exact ⟨k + 1, A4, c4, _, by omega, by go_num, rfl, ho4, hrs4, hb4, (hok.below hb2).grown hg4 (fun g e => by have := hA' g e; omega), fun g e => by rcases hat4 with h | h <;> rw [h] at e; exact hA' g e; injection e with e; omega, by have := hg4.size; omega⟩
      case measure => (simp [intOf] <;> omega)
    · obtain rfl : k = n1 := by omega
      have HL := Lib.hid (colS_len zss n k)
      have hrs5 : RowsIn wr w.heap.size wr.heap.size A' k (row (colS zss n k)) vs := by
        intro j hj
        have := hrs j hj
        rw [colS_row hj]
        exact this
      have oS : OwnR wr w.heap.size wr.heap.size A' k c' (colS zss n k) := ⟨HL.out, vs, hown, fun g hg => (hown.blk_ g hg).2, hrs5⟩
      go_wp2_with fail
      refine (CG.out _ _ _ oS.rd).mono ?_
      rintro e w2 ⟨A5, n5, c5, rfl, o5, hb5⟩
      go_wp2_with fail
      go_ret
      exact ⟨_, _, _, rfl, o5.more hsz, hbl.trans (hb5.mono hsz)⟩

set_option maxHeartbeats 2000000 in
theorem implCols (A : Option Addr) (n c M : Nat) (zss : List (List Int)) (w : World) (ha : RdM w A n zss) (hn1 : 1 ≤ n) (hn : n ≤ 4) (hM1 : 1 ≤ M) (hM : M ≤ 4) (hrows : ∀ k, k < n → (row zss k).length = M) :
    Calls Try.prog 57 #[.slice A n c] w fun e w' => ∃ A' n' c', e = .returned (.slice A' n' c') ∧ OwnR w' w.heap.size w'.heap.size A' n' c' (colL zss n M) ∧ Below w.heap.size w w' := by
  have CF := Lib.hid (implTurned A n c M zss w ha hn1 hn hM hrows)
  have CG := Lib.hid (fun A' c' w' (h : RdM w' A' M (colS zss n M)) => implTurned A' M c' n (colS zss n M) w' h hM1 hM hn (colS_rows zss n M))
  clear hrows
  go_enter Try.func57, Try.ntmps57
  go_wp2_with fail
  refine CF.out.mono ?_
  rintro e w1 ⟨A1, n1, c1, rfl, o1, hb1⟩
  obtain rfl : n1 = M := by rw [← o1.1, flip_len]
  have hs1 := hb1.size
  obtain ⟨_, vs, ho1, hA1, hr1⟩ := o1
  go_wp2_with fail
  go_loopw [10] (fun i wr => ∃ k : Nat, k ≤ n1 ∧ i = .int .i64 k ∧ Own wr w.heap.size 29 A1 n1 c1 vs ∧ RowsIn wr w.heap.size w1.heap.size A1 n1 (fun j => if j < k then srt (colTo zss j n) else colTo zss j n) vs ∧ Below w.heap.size w wr ∧ w1.heap.size ≤ wr.heap.size) (fun i _ => n1 - (intOf i).toNat)
  case atStart => exact ⟨0, Nat.zero_le _, rfl, ho1, fun j hj => by have := hr1 j hj; rw [flip_row hj] at this; simpa using this, hb1, Nat.le_refl _⟩
  case round =>
    clear ho1 hr1
    obtain ⟨k, hk, rfl, ho, hr, hbl, hH⟩ := hrel
    have hsz := hbl.size
    by_cases hlt : k < n1
    · obtain ⟨B, m, d, hv, hB, hd⟩ := hr k hlt
      obtain ⟨ad, hAd, _, h1⟩ := ho.rd.atV hv
      replace hB : OwnI wr w.heap.size 3 B m d (colTo zss k n) := by simpa using hB
      obtain rfl : m = n := by rw [← hB.lenI, colTo_len]
      subst hAd
      obtain ⟨g1, u1, rfl, hg1, _⟩ := hB.at_ (show 0 < m by omega)
      have hdg := hd g1 rfl
      go_wp2_with fail
      refine (implSort g1 m d w.heap.size (colTo zss k m) wr hB (by omega)).mono ?_
      rintro e w2 ⟨rfl, oN, hg⟩
      have ho2 := ho.kept hg (fun g hga hgb => by injection hgb with hgb; rw [hgb] at hga; exact hdg.2.1 hga)
      have hb2 := below_of_grown hbl hg hsz (fun g e => by injection e with e; omega)
      have HR := Lib.hid (show RowsIn w2 w.heap.size w1.heap.size (some ad) n1 (fun j => if j < k + 1 then srt (colTo zss j m) else colTo zss j m) vs by
        intro j hj
        by_cases e : k = j
        · subst e
          refine ⟨_, m, d, hv, ?_, hd⟩
          simp only [Nat.lt_succ_self, if_true]
          exact oN
        · obtain ⟨B3, m3, d3, hv3, hB3, hd3⟩ := hr j hj
          refine ⟨B3, m3, d3, hv3, ?_, hd3⟩
          have e1 : (if j < k + 1 then srt (colTo zss j m) else colTo zss j m) = if j < k then srt (colTo zss j m) else colTo zss j m := by
            by_cases h : j < k
            · rw [if_pos h, if_pos (by omega)]
            · rw [if_neg h, if_neg (by omega)]
          show OwnI w2 w.heap.size 3 B3 m3 d3 (if j < k + 1 then srt (colTo zss j m) else colTo zss j m)
          rw [e1]
          refine hB3.kept hg (fun g hga hgb => ?_)
          injection hgb with hgb
          rw [hgb] at hga
          rcases Nat.lt_or_gt_of_ne e with h | h
          · exact (hd3 _ hga).2.2 k _ m d h hv rfl
          · exact hdg.2.2 j B3 m3 d3 h hv3 hga)
      have hs2 := hg.size
      clear ho hr hB oN
      go_wp2
      go_roundw
      case rel => exact ⟨k + 1, by omega, by go_num, ho2, HR.out, hb2, by omega⟩
      case measure => (simp [intOf] <;> omega)
    · obtain rfl : k = n1 := by omega
      have HL := Lib.hid (colS_len zss n k)
      have hrs5 : RowsIn wr w.heap.size w1.heap.size A1 k (row (colS zss n k)) vs := by
        intro j hj
        have h5 := hr j hj
        simp only [if_pos hj] at h5
        rw [colS_row hj]
        exact h5
      have oS : OwnR wr w.heap.size w1.heap.size A1 k c1 (colS zss n k) := ⟨HL.out, vs, ho, hA1, hrs5⟩
      go_wp2_with fail
      refine (CG.out _ _ _ oS.rd).mono ?_
      rintro e w2 ⟨A5, n5, c5, rfl, o5, hb5⟩
      go_wp2_with fail
      go_ret
      exact ⟨_, _, _, rfl, o5.more hsz, hbl.trans (hb5.mono hsz)⟩

def colV (zss : List (List Int)) : List (List Int) := if meshV zss = true then colL zss zss.length (row zss 0).length else []
theorem colV_no {zss : List (List Int)} (h : meshV zss = false) : colV zss = [] := by rw [colV, h]; rfl
theorem colV_yes {zss : List (List Int)} {n m : Nat} (hl : zss.length = n) (hm : (row zss 0).length = m) (h : meshV zss = true) : colV zss = colL zss n m := by rw [colV, h, hl, hm]; rfl
theorem colV_tot (zss : List (List Int)) : (colV zss).length + tot (colV zss) (colV zss).length ≤ 1048576 := by
  cases h : meshV zss with
  | false => rw [colV_no h]; simp [tot_zero]
  | true =>
    obtain ⟨h1, h2, m, h3, h4, h5⟩ := mesh_out h rfl
    rw [colV_yes rfl (h5 0 (by omega)) h, colL_len]
    have := tot_le (zss := colL zss zss.length m) (b := 4) zss.length (fun k hk => by rw [colL_rows _ _ _ k hk]; exact h4)
    omega

set_option maxHeartbeats 1000000 in
theorem specSortColumns (A : Option Addr) (n c : Nat) (zss : List (List Int)) (w : World) (ha : RdM w A n zss) (hn : n ≤ 1048576) :
    Calls Try.prog 34 #[.slice A n c] w fun e w' => ∃ A' n' c', e = .returned (.slice A' n' c') ∧ OwnR w' w.heap.size w'.heap.size A' n' c' (colV zss) ∧ Below w.heap.size w w' := by
  have hl := ha.1
  have C := specMesh A n c zss w ha hn
  cases hg : meshV zss with
  | false =>
    have H := Lib.hid (colV_no hg)
    rw [hg] at C
    have CC := Lib.hid C
    clear C hg hl
    go_enter Try.func34, Try.ntmps34
    go_wp2_with fail
    refine CC.out.mono ?_
    rintro e w' ⟨rfl, rfl⟩
    go_wp2_with fail
    go_ret
    exact ⟨_, _, _, rfl, by rw [H.out]; exact OwnR.nil_ _ _ _, Below.refl _ _⟩
  | true =>
    obtain ⟨hn1, hn4, M, hM1, hM4, hrows⟩ := mesh_out hg hl
    have H := Lib.hid (colV_yes hl (hrows 0 (by omega)) hg)
    have HR := Lib.hid hrows
    rw [hg] at C
    have CC := Lib.hid C
    have D := Lib.hid (specCols A n c M zss w ha hn1 hn4 hM1 hM4 HR.out)
    clear C hg hl hrows
    go_enter Try.func34, Try.ntmps34
    go_wp2_with fail
    refine CC.out.mono ?_
    rintro e w' ⟨rfl, rfl⟩
    go_wp2_with fail
    refine D.out.mono ?_
    rintro e w2 ⟨A', n', c', rfl, own, hb2⟩
    go_wp2_with fail
    go_ret
    exact ⟨_, _, _, rfl, by rw [H.out]; exact own, hb2⟩

set_option maxHeartbeats 1000000 in
theorem implSortColumns (A : Option Addr) (n c : Nat) (zss : List (List Int)) (w : World) (ha : RdM w A n zss) (hn : n ≤ 1048576) :
    Calls Try.prog 35 #[.slice A n c] w fun e w' => ∃ A' n' c', e = .returned (.slice A' n' c') ∧ OwnR w' w.heap.size w'.heap.size A' n' c' (colV zss) ∧ Below w.heap.size w w' := by
  have hl := ha.1
  have C := implMesh A n c zss w ha hn
  cases hg : meshV zss with
  | false =>
    have H := Lib.hid (colV_no hg)
    rw [hg] at C
    have CC := Lib.hid C
    clear C hg hl
    go_enter Try.func35, Try.ntmps35
    go_wp2_with fail
    refine CC.out.mono ?_
    rintro e w' ⟨rfl, rfl⟩
    go_wp2_with fail
    go_ret
    exact ⟨_, _, _, rfl, by rw [H.out]; exact OwnR.nil_ _ _ _, Below.refl _ _⟩
  | true =>
    obtain ⟨hn1, hn4, M, hM1, hM4, hrows⟩ := mesh_out hg hl
    have H := Lib.hid (colV_yes hl (hrows 0 (by omega)) hg)
    have HR := Lib.hid hrows
    rw [hg] at C
    have CC := Lib.hid C
    have D := Lib.hid (implCols A n c M zss w ha hn1 hn4 hM1 hM4 HR.out)
    clear C hg hl hrows
    go_enter Try.func35, Try.ntmps35
    go_wp2_with fail
    refine CC.out.mono ?_
    rintro e w' ⟨rfl, rfl⟩
    go_wp2_with fail
    refine D.out.mono ?_
    rintro e w2 ⟨A', n', c', rfl, own, hb2⟩
    go_wp2_with fail
    go_ret
    exact ⟨_, _, _, rfl, by rw [H.out]; exact own, hb2⟩

end Go.Proofs.Ytogfnmjedeoecaa
