/- Chapter 12: spec.l04Fits. -/
import Derived.Test.YtobdkfhmmpigiaaC12i2
import Derived.Deep.LoopGhost
namespace Go.Proofs.Ytobdkfhmmpigiaa
open Go.RowKit Go.Deep
set_option linter.unusedVariables false

set_option maxHeartbeats 1000000 in
theorem specFirst (n : Nat) (w : World) (hn : n ≤ 1048576) :
    Calls Try.prog 21 #[.int .i64 n] w fun e w' => ∃ A' c', e = .returned (.slice A' n c') ∧ OwnI w' w.heap.size 3 A' n c' (marks 0 n) ∧ Below w.heap.size w w' := by
  go_enter Try.func21, Try.ntmps21
  go_wp2
  go_loopw [3, 4] (fun v i wr => ∃ q : Nat, ∃ A' c', q ≤ n ∧ i = .int .i64 q ∧ v = .slice A' q c' ∧ OwnI wr w.heap.size 3 A' q c' (marks 0 q) ∧ Below w.heap.size w wr) (fun _ i _ => n - (intOf i).toNat)
  case atStart => exact ⟨0, _, _, Nat.zero_le _, rfl, rfl, by simpa [OwnI, marks] using own_empty w 3, below_alloc w _⟩
  case round =>
    obtain ⟨q, A', c', hq, rfl, rfl, hown, hbl⟩ := hrel
    have hsz := hbl.size
    by_cases hlt : q < n
    · go_wp2_with (at_builtin; refine wpL_append1 _ rfl _ _ _ rfl w.heap.size 3 (.int .i64 0) 8 Try.underlying28 intInfo rfl _ q _ _ rfl hown _ rfl rfl (by unfold maxLen; omega) (by omega) hsz ?_)
      intro A2 c2 w2 ho2 hg2 hat2
      have hb2 := own_below hown hbl hsz hg2
      go_wp2
      go_roundw
      case rel => exact ⟨q + 1, A2, c2, by omega, by go_num, rfl, by rw [OwnI, marks_succ0, List.map_append]; simpa using ho2, hb2⟩
      case measure => simp [intOf]; omega
    · obtain rfl : q = n := by omega
      go_wp2
      go_ret
      exact ⟨_, _, rfl, hown, hbl⟩

/-- The orders from one on. -/
def chainL : Nat → List Int → List (List Int)
  | 0, _ => []
  | f + 1, z => z :: (match nxt z with
    | none => []
    | some y => chainL f y)
def ordsL (n : Nat) : List (List Int) := chainL 24 (marks 0 n)
/-- What the reference asks of the orders: each one's next is the next one; each has n wires; masks stay masks. -/
def ordB (n : Nat) : Bool := (List.range (ordsL n).length).all fun j =>
  decide (nxt (row (ordsL n) j) = if j + 1 < (ordsL n).length then some (row (ordsL n) (j + 1)) else none) && decide ((row (ordsL n) j).length = n) &&
    ((List.range n).all fun i => decide (0 ≤ nth (row (ordsL n) j) i ∧ nth (row (ordsL n) j) i < 4)) && ((List.range (2 ^ n)).all fun s => decide (renM (row (ordsL n) j) s n < 2 ^ n))
theorem ordB_1 : ordB 1 = true := by decide +kernel
theorem ordB_2 : ordB 2 = true := by decide +kernel
theorem ordB_3 : ordB 3 = true := by decide +kernel
theorem ordB_4 : ordB 4 = true := by decide +kernel
theorem ords_pos (n : Nat) : 0 < (ordsL n).length := by unfold ordsL chainL; simp
theorem ords_first (n : Nat) : row (ordsL n) 0 = marks 0 n := by unfold ordsL chainL row; rfl
theorem ord_facts {n : Nat} (h1 : 1 ≤ n) (h4 : n ≤ 4) {j : Nat} (hj : j < (ordsL n).length) :
    nxt (row (ordsL n) j) = (if j + 1 < (ordsL n).length then some (row (ordsL n) (j + 1)) else none) ∧ (row (ordsL n) j).length = n ∧ MaskR 4 n (row (ordsL n) j) ∧ ∀ s, s < 2 ^ n → renM (row (ordsL n) j) s n < 2 ^ n := by
  have hB : ordB n = true := by
    have hc : n = 1 ∨ n = 2 ∨ n = 3 ∨ n = 4 := by omega
    rcases hc with rfl | rfl | rfl | rfl
    · exact ordB_1
    · exact ordB_2
    · exact ordB_3
    · exact ordB_4
  have h := List.all_eq_true.1 hB j (List.mem_range.2 hj)
  simp only [Bool.and_eq_true] at h
  obtain ⟨⟨⟨q1, q2⟩, q3⟩, q4⟩ := h
  refine ⟨of_decide_eq_true q1, of_decide_eq_true q2, fun i hi => ?_, fun s hs => of_decide_eq_true (List.all_eq_true.1 q4 s (List.mem_range.2 hs))⟩
  have := of_decide_eq_true (List.all_eq_true.1 q3 i (List.mem_range.2 hi))
  exact ⟨(nth (row (ordsL n) j) i).toNat, by omega, by omega⟩
/-- Is the first list of counts nowhere above the second, up to i? -/
def cluLe (x y : List Int) : Nat → Bool
  | 0 => true
  | i + 1 => cluLe x y i && decide (nth x i ≤ nth y i)
theorem cluLe_on {x y : List Int} {i : Nat} (h : cluLe x y i = true) (h2 : nth x i ≤ nth y i) : cluLe x y (i + 1) = true := by
  rw [cluLe, h, decide_eq_true h2]; rfl
theorem cluLe_off {x y : List Int} {i : Nat} (h2 : ¬ nth x i ≤ nth y i) : ∀ m, i < m → cluLe x y m = false := by
  intro m
  induction m with
  | zero => intro h; omega
  | succ m ih =>
    intro h
    rw [cluLe]
    by_cases e : i = m
    · subst e; rw [decide_eq_false h2]; simp
    · rw [ih (by omega)]; rfl
/-- Does one of the first j orders bring a set into another one? -/
def fitTo (n : Nat) (a b : List Int) : Nat → Bool
  | 0 => false
  | j + 1 => fitTo n a b j || witV (renV (row (ordsL n) j) n a (2 ^ n)) b
def fitV (n : Nat) (a b : List Int) : Bool := decide (a.length ≤ b.length) && cluLe (cluV n a) (cluV n b) (n + 1) && fitTo n a b (ordsL n).length
theorem fitTo_zero (n : Nat) (a b : List Int) : fitTo n a b 0 = false := rfl
theorem fitTo_off {n : Nat} {a b : List Int} {j : Nat} (h : fitTo n a b j = false) (h2 : witV (renV (row (ordsL n) j) n a (2 ^ n)) b = false) : fitTo n a b (j + 1) = false := by rw [fitTo, h, h2]; rfl
theorem fitTo_on {n : Nat} {a b : List Int} {j : Nat} (h2 : witV (renV (row (ordsL n) j) n a (2 ^ n)) b = true) : ∀ m, j < m → fitTo n a b m = true := by
  intro m
  induction m with
  | zero => intro h; omega
  | succ m ih =>
    intro h
    rw [fitTo]
    by_cases e : j = m
    · subst e; rw [h2]; simp
    · rw [ih (by omega)]; rfl
theorem ren_len (names : List Int) (n : Nat) (set : List Int) (N : Nat) : (renV names n set N).length ≤ N := selL_le _ _
theorem ren_sel (names : List Int) (n : Nat) (set : List Int) (N : Nat) : ∃ P, renV names n set N = selL P N := ⟨_, rfl⟩
attribute [irreducible] chainL cluLe fitTo

set_option maxHeartbeats 4000000 in
theorem specFits (n ma mb : Nat) (A B : Option Addr) (c d : Nat) (a b : List Int) (w : World) (ha : RdI w A ma a) (hb : RdI w B mb b) (hSa : MaskR (2 ^ n) ma a) (hSb : MaskR (2 ^ n) mb b) (h1 : 1 ≤ n) (h4 : n ≤ 4) (hma : ma ≤ 16) (hmb : mb ≤ 16) :
    Calls Try.prog 9 #[.int .i64 n, .slice A ma c, .slice B mb d] w fun e w' => e = .returned (.bool (fitV n a b)) ∧ Below w.heap.size w w' := by
  have HLA := Lib.hid ha.lenI
  have HLB := Lib.hid hb.lenI
  have HA := Lib.hid ha
  have HB := Lib.hid hb
  have HSA := Lib.hid hSa
  have CA := Lib.hid (fun wx (hx : RdI wx A ma a) => specClusters n ma A c a wx hx hSa h1 h4 (by omega))
  have CB := Lib.hid (fun wx (hx : RdI wx B mb b) => specClusters n mb B d b wx hx hSb h1 h4 (by omega))
  clear ha hb hSa hSb
  by_cases hlen : mb < ma
  · have HF := Lib.hid (show fitV n a b = false by unfold fitV; rw [HLA.out, HLB.out, decide_eq_false (by omega)]; rfl)
    go_enter Try.func9, Try.ntmps9
    go_wp2_with fail
    go_ret
    exact ⟨by rw [HF.out]; rfl, Below.refl _ _⟩
  have HLL := Lib.hid (show decide (a.length ≤ b.length) = true by rw [HLA.out, HLB.out]; exact decide_eq_true (by omega))
  go_enter Try.func9, Try.ntmps9
  go_wp2_with fail
  refine (CA.out _ HA.out).mono ?_
  rintro e w1 ⟨gx, rfl, ox, hb1⟩
  have HOX := Lib.hid ox
  have HB1 := Lib.hid hb1
  clear ox hb1
  go_wp2_with fail
  refine (CB.out _ (HB.out.below HB1.out)).mono ?_
  rintro e w2 ⟨gy, rfl, oy, hb2⟩
  have hs1 := HB1.out.size
  have RX := Lib.hid (HOX.out.below hb2).rd
  have RY := Lib.hid oy.rd
  have HB2 := Lib.hid (HB1.out.trans (hb2.mono hs1))
  clear oy hb2 HOX HB1 CA CB hs1
  go_wp2_with fail
  go_loopw [26] (fun iv wr => ∃ i : Nat, iv = .int .i64 (i : Nat) ∧ i ≤ n + 1 ∧ Hid (cluLe (cluV n a) (cluV n b) i = true) ∧ Below w2.heap.size w2 wr) (fun iv _ => n + 1 - (intOf iv).toNat)
  case atStart => exact ⟨0, rfl, Nat.zero_le _, Lib.hid (by unfold cluLe; rfl), Below.refl _ _⟩
  case round =>
    obtain ⟨i, rfl, hi, HC, hbl⟩ := hrel
    have hs2 := HB2.out.size
    by_cases hlt : i < n + 1
    · obtain ⟨a1, ha1, _, l1⟩ := (RX.out.below hbl).at_ hlt
      injection ha1 with ha1
      subst ha1
      obtain ⟨a2, ha2, _, l2⟩ := (RY.out.below hbl).at_ hlt
      injection ha2 with ha2
      subst ha2
      rw [add0_] at l1 l2
      have hin : (i : Int) < (n : Int) + 1 := by omega
      have hi0 : (0 : Int) ≤ (i : Int) := by omega
      obtain ⟨x, hx⟩ : ∃ x, nth (cluV n a) i = x := ⟨_, rfl⟩
      obtain ⟨y, hy⟩ : ∃ y, nth (cluV n b) i = y := ⟨_, rfl⟩
      rw [hx] at l1
      rw [hy] at l2
      by_cases hc : y < x
      · have HF := Lib.hid (show fitV n a b = false by unfold fitV; rw [cluLe_off (i := i) (by rw [hx, hy]; omega) (n + 1) hlt]; simp)
        clear hx hy
        go_wp2_with fail
        go_region
        all_goals
          go_wp2_with fail
          go_ret
          exact ⟨by rw [HF.out]; rfl, (HB2.out.trans (hbl.mono hs2)).drew⟩
      · have HCN := Lib.hid (cluLe_on HC.out (show nth (cluV n a) i ≤ nth (cluV n b) i by rw [hx, hy]; omega))
        clear hx hy
        go_wp2_with fail
        go_region
        all_goals
          go_wp2_with fail
          go_roundw
          case rel => exact ⟨i + 1, by go_num, by omega, HCN, hbl.drew⟩
          case measure => (simp [intOf] <;> omega)
    · obtain rfl : i = n + 1 := by omega
      have HBW := Lib.hid (HB2.out.trans (hbl.mono hs2))
      have CF := Lib.hid (specFirst n wr (by omega))
      clear hbl RX RY HB2
      go_wp2_with fail
      refine CF.out.mono ?_
      rintro e w3 ⟨A3, c3, rfl, o3, hb3⟩
      have hsr := HBW.out.size
      have HB3 := Lib.hid (HBW.out.trans (hb3.mono hsr))
      have HO3 := Lib.hid o3.rd
      obtain ⟨L, hL⟩ : ∃ L, (ordsL n).length = L := ⟨_, rfl⟩
      have HLL2 := Lib.hid hL
      have hL0 : 0 < L := by rw [← hL]; exact ords_pos n
      clear o3 hb3 CF hL HBW
      go_wp2_with fail
      go_loopg [10] L (fun gk nv wr => ∃ j : Nat, ∃ A' c', nv = .slice A' n c' ∧ Hid (gk + j = L) ∧ j < L ∧ Hid (fitTo n a b j = false) ∧ RdI wr A' n (row (ordsL n) j) ∧ Below w.heap.size w wr)
      case atStart => exact ⟨0, A3, c3, rfl, Lib.hid rfl, hL0, Lib.hid (fitTo_zero _ _ _), by rw [ords_first]; exact HO3.out, HB3.out⟩
      case round =>
        clear HO3 HB3
        obtain ⟨j, A', c', rfl, HG, hj, HFT, hnm, hbl⟩ := hrel
        obtain ⟨q1, q2, q3, q4⟩ := ord_facts h1 h4 (show j < (ordsL n).length by rw [HLL2.out]; exact hj)
        have HQ1 := Lib.hid q1
        have hsz := hbl.size
        have CR := Lib.hid (specRename n n ma A' A c' c (row (ordsL n) j) a wr hnm (HA.out.below hbl) HSA.out q3 q4 h4 h4 (by omega))
        have HNM := Lib.hid hnm
        have HBL := Lib.hid hbl
        clear q1 q2 q3 q4 hnm hbl
        go_wp2_with fail
        refine CR.out.mono ?_
        rintro e w4 ⟨A4, m4, c4, rfl, o4, hb4⟩
        have HB4 := Lib.hid (HBL.out.trans (hb4.mono hsz))
        have HN4 := Lib.hid (HNM.out.below hb4)
        have hl4 := ren_len (row (ordsL n) j) n a (2 ^ n)
        rw [o4.lenI] at hl4
        have hp16 := pow16 h4
        have CW := Lib.hid (specWithin A4 B m4 mb c4 d _ b w4 o4.rd (HB.out.below HB4.out) (by omega) (by omega))
        clear o4 hb4 hl4 hp16 CR HNM HBL
        go_wp2_with fail
        refine CW.out.mono ?_
        rintro e w5 ⟨rfl, hww⟩
        obtain rfl := hww
        cases hv : witV (renV (row (ordsL n) j) n a (2 ^ n)) b with
        | true =>
          have HF := Lib.hid (show fitV n a b = true by unfold fitV; rw [HLL.out, HC.out, HLL2.out, fitTo_on hv L hj]; rfl)
          clear hv
          go_wp2_with fail
          go_ret
          exact ⟨by rw [HF.out]; rfl, HB4.out⟩
        | false =>
          have HFN := Lib.hid (fitTo_off HFT.out hv)
          have CN := Lib.hid (specNext n A' c' (row (ordsL n) j) w4 HN4.out h1 (by omega))
          clear hv CW
          go_wp2_with fail
          refine CN.out.mono ?_
          rintro e w6 ⟨A6, m6, c6, ys, bb, rfl, o6, hb6, HX⟩
          have hs4 := HB4.out.size
          have HB6 := Lib.hid (HB4.out.trans (hb6.mono hs4))
          by_cases hjl : j + 1 < L
          · have HY := Lib.hid (show bb = true ∧ ys = row (ordsL n) (j + 1) by
              have h5 := HX.out
              rw [HQ1.out, HLL2.out, if_pos hjl] at h5
              cases bb with
              | true => simp at h5; exact ⟨rfl, h5.symm⟩
              | false => simp at h5)
            obtain rfl := HY.out.1
            obtain rfl := HY.out.2
            have hl6 := o6.lenI
            rw [(ord_facts h1 h4 (show j + 1 < (ordsL n).length by rw [HLL2.out]; exact hjl)).2.1] at hl6
            obtain rfl := hl6
            have HO6 := Lib.hid o6.rd
            clear o6 hb6 HX HY CN
            go_wp2_with fail
            go_roundg (gk - 1)
            case measure => have := HG.out; omega
            case rel => exact ⟨j + 1, A6, c6, rfl, Lib.hid (by have := HG.out; omega), hjl, HFN, HO6.out, HB6.out⟩
          · have HY := Lib.hid (show bb = false by
              have h5 := HX.out
              rw [HQ1.out, HLL2.out, if_neg hjl] at h5
              cases bb with
              | true => simp at h5
              | false => rfl)
            obtain rfl := HY.out
            have HF := Lib.hid (show fitV n a b = false by unfold fitV; rw [HLL2.out, show L = j + 1 by omega, HFN.out]; simp)
            clear o6 hb6 HX HY CN
            go_wp2_with fail
            go_ret
            exact ⟨by rw [HF.out]; rfl, HB6.out⟩
end Go.Proofs.Ytobdkfhmmpigiaa
