/- Chapter 12: impl.ResultKinds. -/
import Derived.Test.YtobdkfhmmpigiaaGreatC12u1
namespace Go.Proofs.YtobdkfhmmpigiaaGreat
open Go.RowKit Go.Deep
set_option linter.unusedVariables false

/-- The sets that are kept of the first j. -/
def kinI (n : Nat) (L : List (List Int)) : Nat → List (List Int)
  | 0 => []
  | j + 1 => if (kinI n L j).any (sameI n (row L j)) = true then kinI n L j else kinI n L j ++ [row L j]
theorem kinI_zero (n : Nat) (L : List (List Int)) : kinI n L 0 = [] := rfl
theorem kinI_old {n : Nat} {L z : List (List Int)} {j : Nat} (h : kinI n L j = z) (hk : z.any (sameI n (row L j)) = true) : kinI n L (j + 1) = z := by rw [kinI, h, if_pos hk]
theorem kinI_new {n : Nat} {L z : List (List Int)} {j : Nat} (h : kinI n L j = z) (hk : z.any (sameI n (row L j)) = false) : kinI n L (j + 1) = z ++ [row L j] := by rw [kinI, h, if_neg (by rw [hk]; simp)]
theorem row_mem {z : List (List Int)} {j : Nat} (h : j < z.length) : row z j ∈ z := by
  have h2 := row_drop h
  have : row z j ∈ z.drop j := by rw [h2]; simp
  exact List.mem_of_mem_drop this
theorem good_bd {m : Nat} {x : List Int} (h : Good m x) : ∀ z ∈ x, 0 ≤ z ∧ z ≤ 1048576 := by
  intro z hz
  obtain ⟨i, hi, rfl⟩ := List.getElem_of_mem hz
  obtain ⟨s, hs, hs16⟩ := h.1 i (by rw [h.2.1] at hi; exact hi)
  rw [nth_eq hi] at hs
  rw [hs]
  omega
attribute [irreducible] kinI

set_option maxHeartbeats 4000000 in
theorem implKindsBad (N K : Int) (w : World) (h : ¬ ((1 ≤ N ∧ N ≤ 4) ∧ 0 ≤ K ∧ K ≤ 5)) : Calls Tryz.prog 17 #[.int .i64 N, .int .i64 K] w fun e w' => e = .returned (.int .i64 (-1)) ∧ Below w.heap.size w w' := by
  have CC := Lib.hid (fun wx => implCounted N K wx)
  have HD := Lib.hid (decide_eq_false h)
  have HB := Lib.hid (below_alloc w (.cells #[.int .i64 N] 3))
  clear h
  go_enter Tryz.func17, Tryz.ntmps17
  go_wp2_with fail
  refine (CC.out _).mono ?_
  rintro e w' ⟨rfl, hww⟩
  obtain rfl := hww
  rw [HD.out]
  go_wp2_with fail
  go_ret
  exact ⟨rfl, HB.out⟩

set_option maxHeartbeats 4000000 in
theorem implKinds (n K : Nat) (w : World) (h1 : 1 ≤ n) (h4 : n ≤ 4) (hK : K ≤ 5) : Calls Tryz.prog 17 #[.int .i64 n, .int .i64 K] w fun e w' => ∃ L, e = .returned (.int .i64 ((kinI n L L.length).length : Nat)) ∧ L.Perm (outI n K) ∧ (∀ i j, i < j → j < L.length → ¬ cmpV (row L j) (row L i) < 0) ∧ Below w.heap.size w w' := by
  have CC := Lib.hid (fun wx => implCounted (n : Int) (K : Int) wx)
  have HD := Lib.hid (show decide (((1 : Int) ≤ n ∧ (n : Int) ≤ 4) ∧ (0 : Int) ≤ K ∧ (K : Int) ≤ 5) = true from decide_eq_true (by omega))
  obtain ⟨b, hb⟩ : ∃ b, w.heap.size = b := ⟨_, rfl⟩
  have HB := Lib.hid hb
  obtain ⟨W1, hW1⟩ : ∃ W, w.alloc (.cells #[.int .i64 (n : Int)] 3) = W := ⟨_, rfl⟩
  have z1 : W1.heap.size = b + 1 := by rw [← hW1]; simp [hb]
  have b1 : Below b w W1 := hW1 ▸ (hb ▸ below_alloc w _)
  have c1 : W1.cell? ⟨b, 0, none⟩ = some (.int .i64 (n : Int)) := by have h := box_cell w (.int .i64 (n : Int)) 3; rw [hb, hW1] at h; exact h
  obtain ⟨W2, hW2⟩ : ∃ W, W1.alloc (.cells #[] 30) = W := ⟨_, rfl⟩
  have z2 : W2.heap.size = b + 2 := by rw [← hW2]; simp [z1]
  have b2 : Below (b + 1) W1 W2 := by have h := below_alloc W1 (.cells #[] 30); rw [z1, hW2] at h; exact h
  have o2 : Own W2 (b + 1) 30 (some ⟨b + 1, 0, none⟩) 0 0 [] := by have h := own_empty W1 30; rw [z1, hW2] at h; exact h
  have HC2 := Lib.hid ((b2.cell (p := ⟨b, 0, none⟩) (by show b < b + 1; omega)).trans c1)
  have HC1 := Lib.hid c1
  have HO2 := Lib.hid o2
  have HBW := Lib.hid (b1.trans (b2.mono (by omega)))
  have HZ2 := Lib.hid z2
  have HW1 := Lib.hid hW1
  have HW2 := Lib.hid hW2
  have CR := Lib.hid (implResultSets n K W2 h4 hK)
  have c1' := c1
  clear hW1 hW2 b1 b2 o2 c1 z2
  go_enter Tryz.func17, Tryz.ntmps17
  go_wp2_with fail
  rw [HW1.out]
  refine (CC.out _).mono ?_
  rintro e w' ⟨rfl, hww⟩
  obtain rfl := hww
  rw [HD.out]
  go_wp2_with fail
  rw [HW2.out]
  refine CR.out.mono ?_
  rintro e w1 ⟨As, ms, cs, S, rfl, hos, hperm, hsrt, hms, hb1⟩
  have hGS : ∀ x ∈ S, Good x.length x := fun x hx => out_good h4 x (hperm.mem_iff.1 hx)
  rw [HZ2.out] at hos hb1
  have hs1 := hb1.size
  rw [HZ2.out] at hs1
  have HOS := Lib.hid hos
  have HLS := Lib.hid hos.1
  have HGS := Lib.hid hGS
  have HPM := Lib.hid hperm
  have HSRT := Lib.hid hsrt
  have HB1 := Lib.hid (HBW.out.trans (hb1.mono (by omega)))
  have HCN := Lib.hid ((hb1.cell (p := ⟨b, 0, none⟩) (by show b < b + 2; omega)).trans HC2.out)
  have HL0 := Lib.hid (show LeftL w1 w1 (b + 1) (some ⟨b + 1, 0, none⟩) 0 0 [] from ⟨rfl, fun g e => by simp [blk] at e; left; exact e.symm, Chg.refl _ _ _, [], HO2.out.keepAt (fun g e => by
    simp [blk] at e
    exact hb1.block g (by omega)), trivial⟩)
  clear hos hb1 hGS hperm hsrt CC CR c1'
  go_wp2_with fail
  go_loopw [5, 18] (fun lv iv wr => ∃ j k : Nat, ∃ A c zss, lv = .slice A k c ∧ iv = .int .i64 (j : Nat) ∧ j ≤ ms ∧ k ≤ j ∧ Hid (kinI n S j = zss) ∧ Hid (∀ x ∈ zss, Good x.length x) ∧ LeftL w1 wr (b + 1) A k c zss) (fun _ iv _ => ms - (intOf iv).toNat)
  case atStart => exact ⟨0, 0, _, _, [], rfl, rfl, Nat.zero_le _, Nat.zero_le _, Lib.hid (kinI_zero _ _), Lib.hid (by simp), HL0.out⟩
  case round =>
    clear HL0
    obtain ⟨j, k, A, c, zss, rfl, rfl, hj, hkj, HZ, HGZ, hl⟩ := hrel
    obtain ⟨wo, hwo⟩ : ∃ x, x = wr := ⟨_, rfl⟩
    subst hwo
    have HC := Lib.hid hl.2.2.1
    have hsw := HC.out.size
    by_cases hlt : j < ms
    · obtain ⟨ad, BS, mS, dS, rfl, hcS, hoS⟩ := (HOS.out.keep (w' := wo) fun g h1 h2 => HC.out.block g h2 (.inr h1)).at_ hlt
      have hjl : j < S.length := by rw [HLS.out]; exact hlt
      have HGJ := Lib.hid (HGS.out _ (row_mem hjl))
      have hmS : (row S j).length = mS := hoS.lenI
      rw [hmS] at HGJ
      have HMS := Lib.hid hmS
      have hm16 : mS ≤ 16 := HGJ.out.2.2
      have HOX := Lib.hid (show OwnI w1 (b + 2) 3 BS mS dS (row S j) by
        obtain ⟨_, vs, ho, hr⟩ := HOS.out
        obtain ⟨v, hv, B3, m3, d3, rfl, hB, _⟩ := hr.at_ j hjl
        obtain ⟨ad3, hA3, hlt3, hc3⟩ := ho.rd.atV hv
        injection hA3 with hA3
        subst hA3
        have hcw : wo.cell? (ad.add j) = w1.cell? (ad.add j) := World.cell?_of_block (w := w1) (by rw [block_of_add]; exact HC.out.block _ hlt3 (.inr (ho.blk_ _ rfl).1))
        rw [hcS, hc3] at hcw
        injection hcw with hcw
        injection hcw with e1 e2 e3
        subst e1 e2 e3
        exact hB)
      obtain ⟨wp, hwp⟩ : ∃ wp, wo.alloc (.cells #[.slice BS mS dS] 30) = wp := ⟨_, rfl⟩
      have hbp : Below wo.heap.size wo wp := hwp ▸ below_alloc wo _
      have hcp : wp.cell? ⟨wo.heap.size, 0, none⟩ = some (.slice BS mS dS) := hwp ▸ box_cell wo _ _
      have hsp : wp.heap.size = wo.heap.size + 1 := by rw [← hwp]; simp
      have hlp := hl.below hbp
      have hcn : wp.cell? ⟨b, 0, none⟩ = some (.int .i64 (n : Int)) := by
        rw [World.cell?_of_block (w := w1) (show wp.heap[(⟨b, 0, none⟩ : Addr).block]? = w1.heap[b]? by rw [hbp.block b (by omega)]; exact HC.out.block b (by omega) (.inl (by omega)))]
        exact HCN.out
      have CF := Lib.hid (implContainsF n mS k wo.heap.size b BS A dS c (row S j) zss wp h4 hcp hcn (by omega) (by omega) (hoS.rd.below hbp) hlp.rd HGJ.out.1 hm16 (fun q hq => by
        have h2 := HGZ.out _ (row_mem (show q < zss.length by rw [hl.1]; exact hq))
        exact ⟨good_bd h2, h2.2.2⟩) (by omega))
      have HLP := Lib.hid hlp
      have HWP := Lib.hid hwp
      have HCP := Lib.hid hcp
      have hcp2 := hcp
      have hSP := hsp
      clear hoS hl hbp hcp hcn hlp hwp hsp hcp2 hmS
      go_wp2_with fail
      rw [HWP.out]
      refine CF.out.mono ?_
      rintro e w5 ⟨rfl, hb5⟩
      have HL5 := Lib.hid (HLP.out.below hb5)
      have c5 : w5.cell? ⟨wo.heap.size, 0, none⟩ = some (.slice BS mS dS) := (hb5.cell (p := ⟨wo.heap.size, 0, none⟩) (by show wo.heap.size < _; omega)).trans HCP.out
      have hs5 := hb5.size
      clear hb5 CF
      cases hv : zss.any (sameI n (row S j)) with
      | true =>
        have HN := Lib.hid (kinI_old HZ.out hv)
        clear hv
        go_wp2_with fail
        go_roundw
        case rel => exact ⟨j + 1, k, A, c, zss, rfl, by go_num, by omega, by omega, HN, HGZ, HL5.out⟩
        case measure => (simp [intOf] <;> omega)
      | false =>
        have HN := Lib.hid (kinI_new HZ.out hv)
        have HGN := Lib.hid (show ∀ x ∈ zss ++ [row S j], Good x.length x from fun x hx => by
          rcases List.mem_append.1 hx with hx | hx
          · exact HGZ.out x hx
          · simp at hx; subst hx; exact HGS.out _ (row_mem hjl))
        obtain ⟨vs, hov, har⟩ := HL5.out.2.2.2
        have HOV := Lib.hid hov
        have HAR := Lib.hid har
        have hbr : b + 1 ≤ w5.heap.size := by omega
        clear hv hov har
        go_wp2_with (at_builtin; refine wpL_append1 _ rfl _ _ _ rfl (b + 1) 30 (.slice none 0 0) 24 Tryz.underlying25 sliceInfo rfl _ k _ _ rfl HOV.out (.slice BS mS dS) rfl rfl (by unfold maxLen; omega) (by omega) hbr ?_)
        intro A6 c6 w6 ho6 hg6 hat6
        have hl6 := HL5.out.push HOV.out HAR.out HOX.out ho6 hg6 hat6
        go_wp2_with fail
        go_roundw
        case rel => exact ⟨j + 1, k + 1, A6, c6, _, rfl, by go_num, by omega, by omega, HN, HGN, hl6⟩
        case measure => (simp [intOf] <;> omega)
    · obtain rfl : j = ms := by omega
      have HF := Lib.hid (show (kinI n S S.length).length = k by rw [HLS.out, HZ.out, hl.1])
      go_wp2_with fail
      go_ret
      exact ⟨S, by rw [HF.out]; rfl, HPM.out, by rw [HLS.out]; exact HSRT.out, HB1.out.trans (HC.out.below (by omega) (by omega))⟩
end Go.Proofs.YtobdkfhmmpigiaaGreat
