/- Chapter 17: a mesh that is drawn; the law's own helpers. -/
import Derived.Test.YtogfnmjedeoecaaC17q
import Derived.Test.YtogfnmjedeoecaaDraw2
namespace Go.Proofs.Ytogfnmjedeoecaa
open Go.RowKit Go.Deep
set_option linter.unusedVariables false

theorem RowsIn.congr {w : World} {lo hi n : Nat} {A : Option Addr} {f f' : Nat → List Int} {vs : List Value} (h : RowsIn w lo hi A n f vs) (hf : ∀ j, j < n → f j = f' j) : RowsIn w lo hi A n f' vs := by
  intro j hj
  obtain ⟨B, m, d, hv, hB, hd⟩ := h j hj
  exact ⟨B, m, d, hv, by rw [← hf j hj]; exact hB, hd⟩
theorem row_snoc_lt {zss : List (List Int)} {r : List Int} {j : Nat} (h : j < zss.length) : row zss j = row (zss ++ [r]) j := by
  simp only [row, List.getD, List.getElem?_append_left h]
theorem row_snoc_eq {zss : List (List Int)} {r : List Int} {j : Nat} (h : zss.length = j) : row (zss ++ [r]) j = r := by
  simp [row, List.getD, ← h]

set_option maxHeartbeats 4000000 in
theorem specDraw17 (g : Nat) (w : World) (hc : Cur w g) : Calls Try.prog 62 #[.pointer (some ⟨g, 0, none⟩)] w fun e w' => ∃ A n c M zss, e = .returned (.slice A n c) ∧ (1 ≤ n ∧ n ≤ 4) ∧ (1 ≤ M ∧ M ≤ 4) ∧ (∀ i, i < n → (row zss i).length = M) ∧ OwnR w' w.heap.size w'.heap.size A n c zss ∧ Below g w w' := by
  have hgw := hc.lt
  obtain ⟨B, hB⟩ : ∃ B, w.heap.size = B := ⟨_, rfl⟩
  have HB := Lib.hid hB
  have HC0 := Lib.hid hc
  rw [hB] at hgw ⊢
  clear hB hc
  go_enter Try.func62, Try.ntmps62
  go_wp2_with fail
  refine (specBelow g 4 _ HC0.out (by omega) (by omega)).mono ?_
  rintro e w1 ⟨x0, hx0, rfl, hc1, hg1⟩
  obtain ⟨M, hM⟩ : ∃ M, 1 + x0 = M := ⟨_, rfl⟩
  have eM : 1 + (x0 : Int) = (M : Int) := by omega
  have hM1 : 1 ≤ M := by omega
  have hM4 : M ≤ 4 := by omega
  clear hM hx0
  have HC1 := Lib.hid (hc1.below (below_alloc w1 (.cells #[] 29)))
  have HO1 := Lib.hid ((own_empty w1 29).more (b2 := B) (by have := hg1.size; rw [HB.out] at this; exact this))
  have HG1 := Lib.hid (hg1.trans (grown_alloc w1 g (.cells #[] 29)))
  clear hc1 hg1
  go_wp2_with fail
  refine (specBelow g 4 _ HC1.out (by omega) (by omega)).mono ?_
  rintro e w2 ⟨y0, hy0, rfl, hc2, hg2⟩
  have HO2 := Lib.hid (own_cur HO1.out hg2 hgw)
  have HG2 := Lib.hid (HG1.out.trans hg2)
  have HC2 := Lib.hid hc2
  clear hc2 hg2
  go_wp2_with fail
  go_loopw [4, 5] (fun mv rv wr => ∃ k r : Nat, ∃ A c vs zss, mv = .slice A k c ∧ rv = .int .i64 (r : Nat) ∧ k + r = 1 + y0 ∧ zss.length = k ∧ Hid (∀ i, i < k → (row zss i).length = M) ∧ Own wr B 29 A k c vs ∧ RowsIn wr B wr.heap.size A k (row zss) vs ∧ Cur wr g ∧ w.grownBy wr (some g)) (fun _ rv _ => (intOf rv).toNat)
  case atStart => exact ⟨0, 1 + y0, _, _, [], [], rfl, by go_num, by omega, rfl, Lib.hid (fun i hi => by omega), HO2.out, fun j hj => by omega, HC2.out, HG2.out⟩
  case round =>
    obtain ⟨k, r, A, c, vs, zss, rfl, rfl, hkr, hl, HR, hown, hrs, hc, hg⟩ := hrel
    by_cases hr0 : 0 < r
    · have HL := Lib.hid hl
      clear hl
      go_wp2_with fail
      refine (specList02 g M wr hc (by omega)).mono ?_
      rintro e w3 ⟨R, cR, rw_, rfl, hR, hc3, hg3⟩
      have hown3 := own_cur hown hg3 hgw
      have hAA := hown.blk_
      have hRR := hR.blk_
      have hrs3 : RowsIn w3 B wr.heap.size A k (row zss) vs := RowsIn.keep hrs (fun q h1 h2 h3 => hg3.block q h3 (fun he => by injection he with he; omega))
      have hg4 := hg.trans hg3
      have hsz : B ≤ w3.heap.size := by have := hg4.size; rw [HB.out] at this; exact this
      have hsr : B ≤ wr.heap.size := by have := hg.size; rw [HB.out] at this; exact this
      have hs3 := hg3.size
      have hlR := hR.lenI
      have HL2 := Lib.hid hlR
      clear hown hrs hc hg hg3 hlR
      go_wp2_with (at_builtin; refine wpL_append1 _ rfl _ _ _ rfl B 29 (.slice none 0 0) 24 Try.underlying24 sliceInfo rfl _ k _ _ rfl hown3 (.slice R M cR) rfl rfl (by unfold maxLen; omega) (by omega) hsz ?_)
      intro A6 c6 w6 ho6 hg6 hat6
      have hc6 : Cur w6 g := hc3.grown hg6 (fun q hq => by have := (hown3.blk_ q hq).1; omega)
      have hg7 := grown_own hg4 HB.out hg6 (fun q hq => (hown3.blk_ q hq).1)
      have hrs6 := rowsIn_push (f := row (zss ++ [rw_])) (cR := cR) hown3 (hrs3.congr fun j hj => row_snoc_lt (by rw [HL.out]; exact hj)) (fun q hq => (hAA q hq).2) hs3 (by rw [row_snoc_eq HL.out]; exact hR.more hsr) (fun q hq => (hRR q hq).1) hg6 hat6
      go_wp2
      go_roundw
      case rel => exact ⟨k + 1, r - 1, A6, c6, _, zss ++ [rw_], rfl, by go_num, by omega, by rw [List.length_append, HL.out]; rfl, Lib.hid (fun i hi => by
        by_cases e : i = k
        · subst e; rw [row_snoc_eq HL.out]; exact HL2.out
        · rw [← row_snoc_lt (by rw [HL.out]; omega)]; exact HR.out i (by omega)), ho6, hrs6, hc6, hg7⟩
      case measure => (simp [intOf] <;> omega)
    · go_wp2_with fail
      go_ret
      exact ⟨A, k, c, M, zss, rfl, by omega, by omega, HR.out, ⟨hl, vs, hown, fun q hq => (hown.blk_ q hq).2, hrs⟩, below_cur hg (Nat.le_refl _) (by rw [HB.out]; omega)⟩

set_option maxHeartbeats 1000000 in
theorem specMeshDrawn (A : Option Addr) (n c N : Nat) (bs : List Int) (w : World) (ha : RdU w A n bs) (hz : ∀ z ∈ bs, 0 ≤ z ∧ z < 256) (hn : n ≤ 1048576) (hN : N ≤ 1000) :
    Calls Try.prog 40 #[.slice A n c, .int .i64 N] w fun e w' => ∃ A' n' c' M zss, e = .returned (.slice A' n' c') ∧ (1 ≤ n' ∧ n' ≤ 4) ∧ (1 ≤ M ∧ M ≤ 4) ∧ (∀ i, i < n' → (row zss i).length = M) ∧ zss.length = n' ∧ RdM w' A' n' zss ∧ Below w.heap.size w w' := by
  have CN := Lib.hid (specAtByte A n c N bs w ha hz hn hN)
  clear hz ha
  go_enter Try.func40, Try.ntmps40
  go_wp2_with fail
  refine CN.out.mono ?_
  rintro e w1 ⟨g, rfl, hg, hc, hb⟩
  go_wp2_with fail
  refine (specDraw17 g w1 hc).mono ?_
  rintro e w2 ⟨A2, m, c2, M, zss, rfl, h1, h2, h3, ho, hb2⟩
  go_wp2_with fail
  go_ret
  exact ⟨A2, m, c2, M, zss, rfl, h1, h2, h3, ho.1, ho.rd, hb.trans (hb2.mono hg)⟩

set_option maxHeartbeats 1000000 in
theorem lawSame (A B : Option Addr) (n c d : Nat) (zs : List Int) (w : World) (ha : RdI w A n zs) (hb : RdI w B n zs) (hn : n ≤ 1048576) : Calls Try.prog 42 #[.slice A n c, .slice B n d] w fun e w' => e = .returned (.bool true) ∧ w' = w := by
  go_enter Try.func42, Try.ntmps42
  go_wp2_with fail
  go_loopw [14] (fun iv wr => ∃ k : Nat, k ≤ n ∧ iv = .int .i64 k ∧ w = wr) (fun iv _ => n - (intOf iv).toNat)
  case atStart => exact ⟨0, Nat.zero_le _, rfl, rfl⟩
  case round =>
    obtain ⟨k, hk, rfl, rfl⟩ := hrel
    by_cases hlt : k < n
    · obtain ⟨a1, rfl, _, h1⟩ := ha.at_ hlt
      obtain ⟨b1, rfl, _, h2⟩ := hb.at_ hlt
      go_wp2_with fail
      go_roundw
      case rel => exact ⟨k + 1, by omega, by go_num, by first | rfl | trivial⟩
      case measure => simp [intOf]; omega
    · obtain rfl : k = n := by omega
      go_wp2_with fail
      go_ret
      exact ⟨rfl, rfl⟩

set_option maxHeartbeats 1000000 in
theorem lawSorted (A : Option Addr) (n c : Nat) (zs : List Int) (w : World) (ha : RdI w A n zs) (hn : n ≤ 1048576) : Calls Try.prog 43 #[.slice A n c] w fun e w' => ∃ A' c', e = .returned (.slice A' n c') ∧ OwnI w' w.heap.size 3 A' n c' (srt zs) ∧ Below w.heap.size w w' := by
  have HS := Lib.hid (specSort A n c zs w ha hn)
  have HL := Lib.hid (srt_of ha.lenI)
  have HM : Calls Try.prog 64 #[.slice A n c] w fun e w' => ∃ A' c', e = .returned (.slice A' n c') ∧ OwnI w' w.heap.size 3 A' n c' (srt zs) ∧ Below w.heap.size w w' := by
    clear ha
    go_enter Try.func64, Try.ntmps64
    go_wp2_with fail
    refine HS.out.mono ?_
    rintro e w1 ⟨A', c', rfl, ho, hb⟩
    go_wp2_with fail
    go_ret
    exact ⟨A', c', rfl, by rw [← HL.out]; exact ho, hb⟩
  have HM2 := Lib.hid HM
  clear HM ha HS HL
  go_enter Try.func43, Try.ntmps43
  go_wp2_with fail
  refine HM2.out.mono ?_
  rintro e w1 ⟨A', c', rfl, ho, hb⟩
  go_wp2_with fail
  go_ret
  exact ⟨A', c', rfl, ho, hb⟩

set_option maxHeartbeats 1000000 in
theorem lawRises (A : Option Addr) (n c : Nat) (zs : List Int) (w : World) (ha : RdI w A n zs) (hn : n ≤ 1048576) :
    Calls Try.prog 41 #[.slice A n c] w fun e w' => e = .returned (.bool (risesB zs)) ∧ Below w.heap.size w w' := by
  have hl := Lib.hid ha.lenI
  go_enter Try.func41, Try.ntmps41
  go_wp2
  go_loopw [3] (fun i wr => ∃ k : Nat, (k ≤ n ∨ k = 1) ∧ 1 ≤ k ∧ i = .int .i64 k ∧ Hid (∀ j, j + 1 < k → nth zs j ≤ nth zs (j + 1)) ∧ Below w.heap.size w wr) (fun i _ => n - (intOf i).toNat)
  case atStart => exact ⟨1, .inr rfl, Nat.le_refl _, rfl, Lib.hid (fun j hj => by omega), Below.refl _ _⟩
  case round =>
    obtain ⟨k, hk, hk1, rfl, HJ, hbl⟩ := hrel
    by_cases hlt : k < n
    · obtain ⟨s, hs⟩ : ∃ s, k = s + 1 := ⟨k - 1, by omega⟩
      obtain ⟨a1, rfl, _, h1⟩ := (ha.below hbl).at_ hlt
      obtain ⟨a2, ha2, _, h2⟩ := (ha.below hbl).at_ (show s < n by omega)
      injection ha2 with ha2
      subst ha2
      have e1 : ((k : Int) - 1) = (s : Int) := by omega
      have hk8 : k ≤ 1048576 := by omega
      have hsn : s < n := by omega
      have HS := Lib.hid hs
      clear hk
      by_cases hx : nth zs k < nth zs s
      · have H := Lib.hid (rises_bad (k := s) (by rw [hl.out, ← hs]; exact hlt) (by rw [← hs]; exact hx))
        clear hs
        go_wp2
        go_region
        all_goals
          go_wp2
          go_ret
          exact ⟨ret_bool H.out.symm, hbl.drew⟩
      · have H := Lib.hid (show ∀ j, j + 1 < k + 1 → nth zs j ≤ nth zs (j + 1) from fun j hj => by
          by_cases e : j = s
          · subst e; rw [← hs]; omega
          · exact HJ.out j (by omega))
        have d : decide (nth zs k < nth zs s) = false := decide_eq_false hx
        clear hx hs
        go_wp2
        go_region
        all_goals
          go_wp2
          go_roundw
          case rel => exact ⟨k + 1, .inl (by omega), by omega, by go_num, H, hbl.drew⟩
          case measure => (simp [intOf] <;> omega)
    · have H := Lib.hid (rises_ok (zs := zs) (fun j hj => HJ.out j (by rw [hl.out] at hj; omega)))
      have hk8 : k ≤ 1048577 := by omega
      clear hk
      go_wp2
      go_ret
      exact ⟨ret_bool H.out.symm, hbl⟩
end Go.Proofs.Ytogfnmjedeoecaa
