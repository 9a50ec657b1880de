/- Chapter 12: slices.ContainsFunc at [][]int with impl.ResultKinds' closure. -/
import Derived.Test.YtobdkfhmmpigiaaGreatC12t3
namespace Go.Proofs.YtobdkfhmmpigiaaGreat
open Go.RowKit Go.Deep
set_option linter.unusedVariables false

/-- Are two sets the same by other names (the program's words)? -/
def sameI (n : Nat) (set other : List Int) : Bool := set.length == other.length && fitI n set other

set_option maxHeartbeats 2000000 in
theorem implSame (n ms mo : Nat) (bs bn : Nat) (B C : Option Addr) (ds dd : Nat) (set other : List Int) (w : World) (h4 : n ≤ 4) (h1 : w.cell? ⟨bs, 0, none⟩ = some (.slice B ms ds)) (h2 : w.cell? ⟨bn, 0, none⟩ = some (.int .i64 (n : Nat))) (hb : RdI w B ms set) (hc : RdI w C mo other)
    (hS : MaskR 16 ms set) (hm : ms ≤ 16) (hz : ∀ x ∈ other, 0 ≤ x ∧ x ≤ 1048576) (hmo : mo ≤ 16) :
    Calls Tryz.prog 38 #[.slice C mo dd, .pointer (some ⟨bs, 0, none⟩), .pointer (some ⟨bn, 0, none⟩)] w fun e w' => e = .returned (.bool (sameI n set other)) ∧ Below w.heap.size w w' := by
  have HLS := Lib.hid hb.lenI
  have HLO := Lib.hid hc.lenI
  by_cases he : ms = mo
  · have CF := Lib.hid (implFits n ms mo B C ds dd set other w hb hc hS hz h4 hm hmo)
    have HE := Lib.hid (show sameI n set other = fitI n set other by unfold sameI; rw [HLS.out, HLO.out, he]; simp)
    obtain rfl := he
    clear hb hc hS hz
    go_enter Tryz.func38, Tryz.ntmps38
    go_wp2_with fail
    refine CF.out.mono ?_
    rintro e w' ⟨rfl, hbl⟩
    go_wp2_with fail
    go_ret
    exact ⟨by rw [HE.out]; rfl, hbl⟩
  · have HE := Lib.hid (show sameI n set other = false by unfold sameI; rw [HLS.out, HLO.out]; simp [he])
    clear hb hc hS hz
    go_enter Tryz.func38, Tryz.ntmps38
    go_wp2_with fail
    go_ret
    exact ⟨by rw [HE.out]; rfl, Below.refl _ _⟩

set_option maxHeartbeats 2000000 in
theorem implIndexF (n ms k : Nat) (bs bn : Nat) (B A : Option Addr) (ds c : Nat) (set : List Int) (zss : List (List Int)) (w : World) (h4 : n ≤ 4) (h1 : w.cell? ⟨bs, 0, none⟩ = some (.slice B ms ds)) (h2 : w.cell? ⟨bn, 0, none⟩ = some (.int .i64 (n : Nat))) (l1 : bs < w.heap.size) (l2 : bn < w.heap.size)
    (hb : RdI w B ms set) (ha : RdM w A k zss) (hS : MaskR 16 ms set) (hm : ms ≤ 16) (hz : ∀ j, j < k → (∀ x ∈ row zss j, 0 ≤ x ∧ x ≤ 1048576) ∧ (row zss j).length ≤ 16) (hk : k ≤ 1048576) :
    Calls Tryz.prog 59 #[.slice A k c, .func (.func 38) #[] #[.pointer (some ⟨bs, 0, none⟩), .pointer (some ⟨bn, 0, none⟩)]] w fun e w' => ∃ r : Int, e = .returned (.int .i64 r) ∧ Hid (decide (0 ≤ r) = zss.any (sameI n set)) ∧ Below w.heap.size w w' := by
  have HL := Lib.hid ha.1
  have HA := Lib.hid ha
  have HB := Lib.hid hb
  have HS := Lib.hid hS
  have HZ := Lib.hid hz
  have H1 := Lib.hid h1
  have H2 := Lib.hid h2
  clear ha hb hS hz h1 h2
  go_enter Tryz.func59, Tryz.ntmps59
  go_wp2_with fail
  go_loopw [8] (fun iv wr => ∃ j : Nat, iv = .int .i64 (j : Nat) ∧ j ≤ k ∧ Hid ((zss.take j).any (sameI n set) = false) ∧ Below w.heap.size w wr) (fun iv _ => k - (intOf iv).toNat)
  case atStart => exact ⟨0, rfl, Nat.zero_le _, Lib.hid (by simp), Below.refl _ _⟩
  case round =>
    obtain ⟨j, rfl, hj, HJ, hbl⟩ := hrel
    have hsz := hbl.size
    by_cases hlt : j < k
    · obtain ⟨ad, BN, mN, dN, rfl, _, hcN, hBN, hmN, hdN⟩ := (HA.out.below hbl).2 j hlt
      obtain ⟨q1, q2⟩ := HZ.out j hlt
      rw [hBN.lenI] at q2
      have CS := Lib.hid (implSame n ms mN bs bn B BN ds dN set (row zss j) wr h4 ((hbl.cell (p := ⟨bs, 0, none⟩) l1).trans H1.out) ((hbl.cell (p := ⟨bn, 0, none⟩) l2).trans H2.out) (HB.out.below hbl) hBN HS.out hm q1 q2)
      have HSN := Lib.hid (any_snoc (f := sameI n set) (d := []) (show j < zss.length by rw [HL.out]; exact hlt))
      have HON := Lib.hid (fun h => any_on (f := sameI n set) (d := []) (show j < zss.length by rw [HL.out]; exact hlt) h)
      rw [row_getD] at HSN HON
      have HBL := Lib.hid hbl
      clear hBN q1 q2 hbl
      go_wp2_with fail
      refine CS.out.mono ?_
      rintro e w5 ⟨rfl, hb5⟩
      have HB5 := Lib.hid (HBL.out.trans (hb5.mono hsz))
      clear hb5 CS
      cases hv : sameI n set (row zss j) with
      | true =>
        have HF := Lib.hid (HON.out hv)
        clear hv
        go_wp2_with fail
        go_ret
        exact ⟨j, rfl, Lib.hid (by rw [HF.out]; simp), HB5.out⟩
      | false =>
        have HN := Lib.hid (show (zss.take (j + 1)).any (sameI n set) = false by rw [HSN.out, HJ.out]; exact hv)
        clear hv
        go_wp2_with fail
        go_roundw
        case rel => exact ⟨j + 1, by go_num, by omega, HN, HB5.out⟩
        case measure => (simp [intOf] <;> omega)
    · obtain rfl : j = k := by omega
      have HF := Lib.hid (show zss.any (sameI n set) = false by have h := HJ.out; rw [List.take_of_length_le (by rw [HL.out]; exact Nat.le_refl _)] at h; exact h)
      go_wp2_with fail
      go_ret
      exact ⟨-1, rfl, Lib.hid (by rw [HF.out]; rfl), hbl⟩

theorem implContainsF (n ms k : Nat) (bs bn : Nat) (B A : Option Addr) (ds c : Nat) (set : List Int) (zss : List (List Int)) (w : World) (h4 : n ≤ 4) (h1 : w.cell? ⟨bs, 0, none⟩ = some (.slice B ms ds)) (h2 : w.cell? ⟨bn, 0, none⟩ = some (.int .i64 (n : Nat))) (l1 : bs < w.heap.size) (l2 : bn < w.heap.size)
    (hb : RdI w B ms set) (ha : RdM w A k zss) (hS : MaskR 16 ms set) (hm : ms ≤ 16) (hz : ∀ j, j < k → (∀ x ∈ row zss j, 0 ≤ x ∧ x ≤ 1048576) ∧ (row zss j).length ≤ 16) (hk : k ≤ 1048576) :
    Calls Tryz.prog 40 #[.slice A k c, .func (.func 38) #[] #[.pointer (some ⟨bs, 0, none⟩), .pointer (some ⟨bn, 0, none⟩)]] w fun e w' => e = .returned (.bool (zss.any (sameI n set))) ∧ Below w.heap.size w w' := by
  have CI := Lib.hid (implIndexF n ms k bs bn B A ds c set zss w h4 h1 h2 l1 l2 hb ha hS hm hz hk)
  clear hb ha hS hz h1 h2
  go_enter Tryz.func40, Tryz.ntmps40
  go_wp2_with fail
  refine CI.out.mono ?_
  rintro e w' ⟨r, rfl, HR, hbl⟩
  by_cases hr : 0 ≤ r
  · have HE := Lib.hid (show zss.any (sameI n set) = true by rw [← HR.out]; exact decide_eq_true hr)
    go_wp2_with fail
    go_ret
    exact ⟨by rw [HE.out]; rfl, hbl⟩
  · have HE := Lib.hid (show zss.any (sameI n set) = false by rw [← HR.out]; exact decide_eq_false hr)
    go_wp2_with fail
    go_ret
    exact ⟨by rw [HE.out]; exact ret_bool (decide_eq_false (by omega)), hbl⟩
end Go.Proofs.YtobdkfhmmpigiaaGreat
