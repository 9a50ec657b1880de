/- Chapter 15: CanPass. -/
import Derived.Test.YtaeabpmpfadkjaaC15f
namespace Go.Proofs.Ytaeabpmpfadkjaa
open Go.RowKit Go.Deep
set_option linter.unusedVariables false
attribute [local go_sem] bits_and_one

def pairMeet (zs : List Int) (i k : Nat) : Bool := pathsMeet zs.length (nth zs i).toNat i (nth zs k).toNat k
def rowTo (zs : List Int) (i : Nat) : Nat → Bool
  | 0 => true
  | k + 1 => rowTo zs i k && !pairMeet zs i k
def passTo (zs : List Int) : Nat → Bool
  | 0 => true
  | i + 1 => passTo zs i && rowTo zs i i
def passB (zs : List Int) : Bool := passTo zs zs.length
def canV (zs : List Int) : Bool := ordV zs && passB zs
theorem row_down {zs : List Int} {i k : Nat} : ∀ m, k ≤ m → rowTo zs i k = false → rowTo zs i m = false := by
  intro m
  induction m with
  | zero => intro h1 h2; have : k = 0 := by omega
            subst this; exact h2
  | succ m ih =>
    intro h1 h2
    by_cases e : k = m + 1
    · subst e; exact h2
    · rw [rowTo, ih (by omega) h2]; rfl
theorem pass_down {zs : List Int} {k : Nat} : ∀ m, k ≤ m → passTo zs k = false → passTo zs m = false := by
  intro m
  induction m with
  | zero => intro h1 h2; have : k = 0 := by omega
            subst this; exact h2
  | succ m ih =>
    intro h1 h2
    by_cases e : k = m + 1
    · subst e; exact h2
    · rw [passTo, ih (by omega) h2]; rfl
theorem pass_bad {zs : List Int} {i k : Nat} (hi : i < zs.length) (hk : k < i) (h : pairMeet zs i k = true) : passB zs = false :=
  pass_down (k := i + 1) zs.length (by omega) (by rw [passTo, row_down (k := k + 1) i (by omega) (by rw [rowTo, h]; simp)]; simp)
theorem row_zero (zs : List Int) (i : Nat) : rowTo zs i 0 = true := rfl
theorem row_succ {zs : List Int} {i k : Nat} (h : rowTo zs i k = true) (h1 : pairMeet zs i k = false) : rowTo zs i (k + 1) = true := by rw [rowTo, h, h1]; rfl
theorem pass_zero (zs : List Int) : passTo zs 0 = true := rfl
theorem pass_succ {zs : List Int} {i : Nat} (h : passTo zs i = true) (h1 : rowTo zs i i = true) : passTo zs (i + 1) = true := by rw [passTo, h, h1]; rfl
attribute [irreducible] rowTo passTo
theorem below_two {w wr wA wB : World} (h : Below w.heap.size w wr) {m : Nat} (hA : Below wr.heap.size (wr.drewN m) wA) (hB : Below wA.heap.size wA wB) : Below w.heap.size w wB :=
  (h.trans ((below_drewN (Below.refl _ _) m : Below w.heap.size wr (wr.drewN m)).trans (hA.mono h.size))).trans (hB.mono (Nat.le_trans h.size hA.size))
theorem below_two0 {w wr wA wB : World} (h : Below w.heap.size w wr) (hA : Below wr.heap.size wr wA) (hB : Below wA.heap.size wA wB) : Below w.heap.size w wB :=
  (h.trans (hA.mono h.size)).trans (hB.mono (Nat.le_trans h.size hA.size))

set_option maxHeartbeats 2000000 in
theorem implPass (A : Option Addr) (n c : Nat) (zs : List Int) (w : World) (ha : RdI w A n zs) (hv : ordV zs = true) :
    Calls Try.prog 55 #[.slice A n c] w fun e w' => e = .returned (.bool (passB zs)) ∧ Below w.heap.size w w' := by
  have hl := Lib.hid ha.lenI
  have HV := Lib.hid (ordV_out hv ha.lenI)
  have hn8 : n ≤ 8 := by have := HV.out.1; omega
  clear hv
  go_enter Try.func55, Try.ntmps55
  go_wp2
  go_loopw [8] (fun i wr => ∃ q : Nat, q ≤ n ∧ i = .int .i64 q ∧ Below w.heap.size w wr ∧ passTo zs q = true) (fun i _ => n - (intOf i).toNat)
  case atStart => exact ⟨0, Nat.zero_le _, rfl, Below.refl _ _, pass_zero _⟩
  case round =>
    obtain ⟨q, hq, rfl, hbl, hps⟩ := hrel
    have HPS := Lib.hid hps
    clear hps
    obtain ⟨wo, rfl⟩ : ∃ wo : World, wo = wr := ⟨_, rfl⟩
    by_cases hlt : q < n
    · obtain ⟨a1, hA1, _, h1⟩ := (ha.below hbl).at_ hlt
      subst hA1
      obtain ⟨x, hx, hxn⟩ := ord_get HV.out.2 (k := q) (by rw [hl.out]; exact hlt)
      rw [hx] at h1
      have HX := Lib.hid hx
      have hxn' : x < n := by have := hl.out; omega
      clear hx hxn
      go_wp2
      go_loopw [14] (fun i wr => ∃ k : Nat, k ≤ q ∧ i = .int .i64 k ∧ Below w.heap.size w wr ∧ rowTo zs q k = true) (fun i _ => q - (intOf i).toNat)
      case atStart => exact ⟨0, Nat.zero_le _, rfl, hbl, row_zero _ _⟩
      case round =>
        obtain ⟨k, hk, rfl, hbl3, hrow⟩ := hrel
        have HR := Lib.hid hrow
        clear hrow
        have hsz3 := hbl3.size
        by_cases hkq : k < q
        · obtain ⟨a2, hA2, _, h2⟩ := (ha.below hbl3).at_ (show k < n by omega)
          injection hA2 with hA2
          subst hA2
          obtain ⟨y, hy, hyn⟩ := ord_get HV.out.2 (k := k) (by rw [hl.out]; omega)
          rw [hy] at h2
          have HY := Lib.hid hy
          have hyn' : y < n := by have := hl.out; omega
          have C := implMeet n x q y k wr HV.out.1 hxn' hlt hyn' (by omega)
          clear hy hyn
          cases hm : pathsMeet n x q y k with
          | true =>
            have H := Lib.hid (pass_bad (zs := zs) (i := q) (k := k) (by rw [hl.out]; exact hlt) hkq (by rw [pairMeet, hl.out, HX.out, HY.out]; simpa using hm))
            rw [hm] at C
            have CC := Lib.hid C
            clear C hm
            go_wp2_with (go_at_call 50; refine CC.out.mono ?_; rintro e w2 ⟨rfl, hb2⟩)
            go_ret
            exact ⟨ret_bool H.out.symm, hbl3.trans (hb2.mono hsz3)⟩
          | false =>
            have H := Lib.hid (row_succ HR.out (show pairMeet zs q k = false by rw [pairMeet, hl.out, HX.out, HY.out]; simpa using hm))
            rw [hm] at C
            have CC := Lib.hid C
            clear C hm
            go_wp2_with (go_at_call 50; refine CC.out.mono ?_; rintro e w2 ⟨rfl, hb2⟩)
            go_roundw
            case rel => exact ⟨k + 1, by omega, by go_num, hbl3.trans (hb2.mono hsz3), H.out⟩
            case measure => (simp [intOf] <;> omega)
        · obtain rfl : k = q := by omega
          have H := Lib.hid (pass_succ HPS.out HR.out)
          clear h1
          go_wp2
          go_roundw
          case rel => exact ⟨k + 1, by omega, by go_num, hbl3, H.out⟩
          case measure => (simp [intOf] <;> omega)
    · obtain rfl : q = n := by omega
      have H := Lib.hid (show passB zs = true by rw [passB, hl.out]; exact HPS.out)
      go_wp2
      go_ret
      exact ⟨ret_bool H.out.symm, hbl⟩

set_option maxHeartbeats 1000000 in
theorem implCanPass (A : Option Addr) (n c : Nat) (zs : List Int) (w : World) (ha : RdI w A n zs) (hn : n ≤ 1048576) :
    Calls Try.prog 28 #[.slice A n c] w fun e w' => e = .returned (.bool (canV zs)) ∧ Below w.heap.size w w' := by
  have C := implStaged A n c zs w ha hn
  cases hv : ordV zs with
  | true =>
    have H := Lib.hid (show canV zs = passB zs by rw [canV, hv, Bool.true_and])
    rw [hv] at C
    have CC := Lib.hid C
    have C2 := Lib.hid (fun w1 (hb : Below w.heap.size w w1) => implPass A n c zs w1 (ha.below hb) hv)
    clear C hv
    go_enter Try.func28, Try.ntmps28
    go_wp2_with fail
    refine CC.out.mono ?_
    rintro e w1 ⟨rfl, hb1⟩
    go_wp2_with fail
    refine (C2.out w1 hb1).mono ?_
    rintro e w2 ⟨rfl, hb2⟩
    go_wp2_with fail
    go_ret
    exact ⟨ret_bool H.out.symm, hb1.trans (hb2.mono hb1.size)⟩
  | false =>
    have H := Lib.hid (show canV zs = false by rw [canV, hv, Bool.false_and])
    rw [hv] at C
    have CC := Lib.hid C
    clear C hv
    go_enter Try.func28, Try.ntmps28
    go_wp2_with fail
    refine CC.out.mono ?_
    rintro e w1 ⟨rfl, hb1⟩
    go_wp2_with fail
    go_ret
    exact ⟨ret_bool H.out.symm, hb1⟩

set_option maxHeartbeats 4000000 in
theorem specCanPass (A : Option Addr) (n c : Nat) (zs : List Int) (w : World) (ha : RdI w A n zs) (hn : n ≤ 1048576) :
    Calls Try.prog 26 #[.slice A n c] w fun e w' => e = .returned (.bool (canV zs)) ∧ Below w.heap.size w w' := by
  have C := specOrder A n c zs w ha hn
  cases hv : ordV zs with
  | true =>
    have H0 := Lib.hid (show canV zs = passB zs by rw [canV, hv, Bool.true_and])
    rw [hv] at C
    have CC := Lib.hid C
    have hl := Lib.hid ha.lenI
    have HV := Lib.hid (ordV_out hv ha.lenI)
    have hn8 : n ≤ 8 := by have := HV.out.1; omega
    clear C hv
    go_enter Try.func26, Try.ntmps26
    go_wp2_with fail
    refine CC.out.mono ?_
    rintro e w1 ⟨rfl, hb1⟩
    go_wp2_with fail
    go_loopw [13] (fun i wr => ∃ q : Nat, q ≤ n ∧ i = .int .i64 q ∧ Below w.heap.size w wr ∧ passTo zs q = true) (fun i _ => n - (intOf i).toNat)
    case atStart => exact ⟨0, Nat.zero_le _, rfl, hb1, pass_zero _⟩
    case round =>
      obtain ⟨q, hq, rfl, hbl, hps⟩ := hrel
      have HPS := Lib.hid hps
      clear hps
      obtain ⟨wo, rfl⟩ : ∃ wo : World, wo = wr := ⟨_, rfl⟩
      by_cases hlt : q < n
      · obtain ⟨x, hx, hxn⟩ := ord_get HV.out.2 (k := q) (by rw [hl.out]; exact hlt)
        have HX := Lib.hid hx
        have hxn' : x < n := by have := hl.out; omega
        clear hx hxn
        go_wp2_with fail
        go_loopw [5] (fun i wr => ∃ k : Nat, k ≤ q ∧ i = .int .i64 k ∧ Below w.heap.size w wr ∧ rowTo zs q k = true) (fun i _ => q - (intOf i).toNat)
        case atStart => exact ⟨0, Nat.zero_le _, rfl, hbl, row_zero _ _⟩
        case round =>
          obtain ⟨k, hk, rfl, hbl3, hrow⟩ := hrel
          have HR := Lib.hid hrow
          clear hrow
          have hsz3 := hbl3.size
          by_cases hkq : k < q
          · obtain ⟨a1, hA1, hlt1, h1⟩ := (ha.below hbl3).at_ hlt
            subst hA1
            rw [HX.out] at h1
            obtain ⟨a2, hA2, hlt2, h2⟩ := (ha.below hbl3).at_ (show k < n by omega)
            injection hA2 with hA2
            subst hA2
            obtain ⟨y, hy, hyn⟩ := ord_get HV.out.2 (k := k) (by rw [hl.out]; omega)
            rw [hy] at h2
            have HY := Lib.hid hy
            have hyn' : y < n := by have := hl.out; omega
            clear hy hyn
            have C1 := Lib.hid (fun W => specPath n x q W HV.out.1 hxn' hlt)
            have C2 := Lib.hid (fun W => specPath n y k W HV.out.1 hyn' (by omega))
            have HS := Lib.hid (stg_le HV.out.1)
            have tok1 : True := trivial
            have b1 : (k : Int) < (n : Int) := by omega
            have b2 : (0 : Int) ≤ (k : Int) := by omega
            have b3 : (q : Int) < (n : Int) := by omega
            have b4 : (0 : Int) ≤ (q : Int) := by omega
            cases hm : pathsMeet n x q y k with
            | true =>
              have H := Lib.hid (pass_bad (zs := zs) (i := q) (k := k) (by rw [hl.out]; exact hlt) hkq (by rw [pairMeet, hl.out, HX.out, HY.out]; simpa using hm))
              have HM := Lib.hid hm
              clear hm
              go_wp2_with fail
              go_region_held3 (fun w' => w'.cell? (a1.add q) = some (.int .i64 x) ∧ w'.cell? (a1.add k) = some (.int .i64 y)) (go_keep) (first | (go_at_call 51; have _t := tok1; clear _t tok1; refine (C1.out _).mono ?_; rintro e wA ⟨AA, nA, cA, rfl, hoA, hbA⟩; have s1 := (hbA.cell (p := a1.add q) (by rw [block_of_add]; exact hlt1)).trans h1; have s2 := (hbA.cell (p := a1.add k) (by rw [block_of_add]; exact hlt2)).trans h2; obtain rfl : nA = stgN n := by rw [← hoA.lenI, pathL_len]) | (go_at_call 51; refine (C2.out _).mono ?_; rintro e wB ⟨AB, nB, cB, rfl, hoB, hbB⟩; have s3 := (hbB.cell (p := a1.add q) (by rw [block_of_add]; exact Nat.lt_of_lt_of_le hlt1 hbA.size)).trans s1; have s4 := (hbB.cell (p := a1.add k) (by rw [block_of_add]; exact Nat.lt_of_lt_of_le hlt2 hbA.size)).trans s2; obtain rfl : nB = stgN n := by rw [← hoB.lenI, pathL_len]) | (go_at_call 48; refine (specMeet _ _ (stgN n) _ _ _ _ _ (hoA.rd.below hbB) hoB.rd (by have := HS.out; omega)).mono ?_; rw [show meetB (pathL n x q) (pathL n y k) = _ from HM.out]; rintro e w' ⟨rfl, rfl⟩))
              all_goals
                go_wp2_with fail
                go_ret
                exact ⟨ret_bool (by rw [H0.out, H.out]), (by first | exact below_two0 hbl3 hbA hbB | exact below_two hbl3 hbA hbB | exact below_drewN (below_two0 hbl3 hbA hbB) _ | exact below_drewN (below_two hbl3 hbA hbB) _)⟩
            | false =>
              have H := Lib.hid (row_succ HR.out (show pairMeet zs q k = false by rw [pairMeet, hl.out, HX.out, HY.out]; simpa using hm))
              have HM := Lib.hid hm
              clear hm
              go_wp2_with fail
              go_region_held3 (fun w' => w'.cell? (a1.add q) = some (.int .i64 x) ∧ w'.cell? (a1.add k) = some (.int .i64 y)) (go_keep) (first | (go_at_call 51; have _t := tok1; clear _t tok1; refine (C1.out _).mono ?_; rintro e wA ⟨AA, nA, cA, rfl, hoA, hbA⟩; have s1 := (hbA.cell (p := a1.add q) (by rw [block_of_add]; exact hlt1)).trans h1; have s2 := (hbA.cell (p := a1.add k) (by rw [block_of_add]; exact hlt2)).trans h2; obtain rfl : nA = stgN n := by rw [← hoA.lenI, pathL_len]) | (go_at_call 51; refine (C2.out _).mono ?_; rintro e wB ⟨AB, nB, cB, rfl, hoB, hbB⟩; have s3 := (hbB.cell (p := a1.add q) (by rw [block_of_add]; exact Nat.lt_of_lt_of_le hlt1 hbA.size)).trans s1; have s4 := (hbB.cell (p := a1.add k) (by rw [block_of_add]; exact Nat.lt_of_lt_of_le hlt2 hbA.size)).trans s2; obtain rfl : nB = stgN n := by rw [← hoB.lenI, pathL_len]) | (go_at_call 48; refine (specMeet _ _ (stgN n) _ _ _ _ _ (hoA.rd.below hbB) hoB.rd (by have := HS.out; omega)).mono ?_; rw [show meetB (pathL n x q) (pathL n y k) = _ from HM.out]; rintro e w' ⟨rfl, rfl⟩))
              all_goals
                go_wp2_with fail
                go_roundw
                case rel => exact ⟨k + 1, by omega, by go_num, (by first | exact below_two0 hbl3 hbA hbB | exact below_two hbl3 hbA hbB | exact below_drewN (below_two0 hbl3 hbA hbB) _ | exact below_drewN (below_two hbl3 hbA hbB) _), H.out⟩
                case measure => (simp [intOf] <;> omega)
          · obtain rfl : k = q := by omega
            have H := Lib.hid (pass_succ HPS.out HR.out)
            go_wp2_with fail
            go_roundw
            case rel => exact ⟨k + 1, by omega, by go_num, hbl3, H.out⟩
            case measure => (simp [intOf] <;> omega)
      · obtain rfl : q = n := by omega
        have H := Lib.hid (show passB zs = true by rw [passB, hl.out]; exact HPS.out)
        go_wp2_with fail
        go_ret
        exact ⟨ret_bool (by rw [H0.out, H.out]), hbl⟩
  | false =>
    have H := Lib.hid (show canV zs = false by rw [canV, hv, Bool.false_and])
    rw [hv] at C
    have CC := Lib.hid C
    clear C hv
    go_enter Try.func26, Try.ntmps26
    go_wp2_with fail
    refine CC.out.mono ?_
    rintro e w1 ⟨rfl, hb1⟩
    go_wp2_with fail
    go_ret
    exact ⟨ret_bool H.out.symm, hb1⟩


end Go.Proofs.Ytaeabpmpfadkjaa
