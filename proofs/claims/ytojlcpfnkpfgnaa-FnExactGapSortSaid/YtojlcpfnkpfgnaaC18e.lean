/- Chapter 18: sorting with a gap. -/
import Derived.Test.YtojlcpfnkpfgnaaC18a
import Derived.Test.YtojlcpfnkpfgnaaC17i
import Derived.Test.YtojlcpfnkpfgnaaClone
namespace Go.Proofs.Ytojlcpfnkpfgnaa
open Go.RowKit Go.Deep
set_option linter.unusedVariables false

/-- How many places r, r + h, .. there are below n. -/
def gq (n h r : Nat) : Nat := if r < n then (n - r - 1) / h + 1 else 0
theorem gq_iff {n h r k : Nat} (hh : 1 ≤ h) : k < gq n h r ↔ r + k * h < n := by
  unfold gq
  by_cases hr : r < n
  · rw [if_pos hr]
    have := Nat.le_div_iff_mul_le (x := k) (y := n - r - 1) (k := h) (by omega)
    omega
  · rw [if_neg hr]
    omega
def gpart (zs : List Int) (h r : Nat) : Nat → List Int
  | 0 => []
  | k + 1 => gpart zs h r k ++ [nth zs (r + k * h)]
theorem gpart_zero (zs : List Int) (h r : Nat) : gpart zs h r 0 = [] := rfl
theorem gpart_succ (zs : List Int) (h r k : Nat) : gpart zs h r (k + 1) = gpart zs h r k ++ [nth zs (r + k * h)] := rfl
theorem gpart_len (zs : List Int) (h r k : Nat) : (gpart zs h r k).length = k := by
  induction k with
  | zero => rfl
  | succ k ih => rw [gpart, List.length_append, ih]; rfl
def putTo (o s : List Int) (h r : Nat) : Nat → List Int
  | 0 => o
  | k + 1 => (putTo o s h r k).set (r + k * h) (nth s k)
theorem putTo_zero (o s : List Int) (h r : Nat) : putTo o s h r 0 = o := rfl
theorem putTo_succ (o s : List Int) (h r k : Nat) : putTo o s h r (k + 1) = (putTo o s h r k).set (r + k * h) (nth s k) := rfl
theorem putTo_len (o s : List Int) (h r k : Nat) : (putTo o s h r k).length = o.length := by
  induction k with
  | zero => rfl
  | succ k ih => rw [putTo, List.length_set, ih]
def gsTo (zs : List Int) (h : Nat) : Nat → List Int
  | 0 => zs
  | r + 1 => putTo (gsTo zs h r) (srt (gpart zs h r (gq zs.length h r))) h r (gq zs.length h r)
theorem gsTo_zero (zs : List Int) (h : Nat) : gsTo zs h 0 = zs := rfl
theorem gsTo_succ {zs : List Int} {n : Nat} (hl : zs.length = n) (h r : Nat) : gsTo zs h (r + 1) = putTo (gsTo zs h r) (srt (gpart zs h r (gq n h r))) h r (gq n h r) := by rw [gsTo, hl]
theorem gsTo_len (zs : List Int) (h r : Nat) : (gsTo zs h r).length = zs.length := by
  induction r with
  | zero => rfl
  | succ r ih => rw [gsTo, putTo_len, ih]
def gsV (zs : List Int) (h : Int) : List Int := if gapOk zs h = true then gsTo zs h.toNat h.toNat else []
theorem gsV_no {zs : List Int} {h : Int} (hg : gapOk zs h = false) : gsV zs h = [] := by rw [gsV, hg]; rfl
theorem gsV_yes {zs : List Int} {m : Nat} (hg : gapOk zs m = true) : gsV zs m = gsTo zs m m := by rw [gsV, hg, Int.toNat_natCast]; rfl
theorem gsV_le (zs : List Int) (h : Int) : (gsV zs h).length ≤ 1048576 := by
  cases hg : gapOk zs h with
  | false => rw [gsV_no hg]; simp
  | true =>
    obtain ⟨h1, m, rfl, _⟩ := gapOk_out hg rfl
    rw [gsV_yes hg, gsTo_len]
    omega
attribute [irreducible] gpart putTo gsTo gq

theorem implCloneAny (A : Option Addr) (n c : Nat) (zs : List Int) (w : World) (ha : RdI w A n zs) (hn : n ≤ 1048576) :
    Calls Try.prog 40 #[.slice A n c] w fun e w' => ∃ A' c', e = .returned (.slice A' n c') ∧ OwnI w' w.heap.size 3 A' n c' zs ∧ Below w.heap.size w w' := by
  cases A with
  | some ad => exact implClone ad n c zs w ha hn
  | none =>
    have hn0 : n = 0 := by
      rcases Nat.eq_zero_or_pos n with h | h
      · exact h
      · obtain ⟨ad, h, _⟩ := ha.2 h
        cases h
    subst hn0
    have hz : zs = [] := List.eq_nil_of_length_eq_zero ha.lenI
    subst hz
    have q : ∀ w : World, (binOp .eql 22 (.slice none 0 c) (.slice none 0 0)).run Try.prog w = .ok (.bool true) w := fun w => Lib.run_eql_slice_nil w _ _ _ _ _ _ _ Try.underlying22
    clear ha hn
    go_enter Try.func40, Try.ntmps40
    go_wp2
    go_ret
    exact ⟨_, _, rfl, Own.nil_ _ _ _, Below.refl _ _⟩

set_option maxHeartbeats 8000000 in
theorem specGapRun (A : Option Addr) (n c m : Nat) (zs : List Int) (w : World) (ha : RdI w A n zs) (hn : n ≤ 16) (hm1 : 1 ≤ m) (hm : m ≤ 16) :
    Calls Try.prog 39 #[.slice A n c, .int .i64 m] w fun e w' => ∃ A' c', e = .returned (.slice A' n c') ∧ OwnI w' w.heap.size 3 A' n c' (gsTo zs m m) ∧ Below w.heap.size w w' := by
  have hl := Lib.hid ha.lenI
  go_enter Try.func39, Try.ntmps39
  go_wp2_with (at_builtin; refine wpL_append _ rfl _ _ _ rfl w.heap.size 3 (.int .i64 0) 8 Try.underlying22 intInfo rfl _ 0 _ [] rfl (own_empty _ _) A n c (zs.map (Value.int .i64)) rfl (ha.alloc _) (ints_one _) (by unfold maxLen; omega) (by omega) (by simp) ?_)
  intro A2 c2 w2 ho2 hg2 hat2
  have hb2 := own_below (own_empty w 3) (below_alloc w _) (by simp) hg2
  try simp only [Nat.zero_add, List.nil_append] at ho2 ⊢
  have o2 : OwnI w2 w.heap.size 3 A2 n c2 zs := by simpa [OwnI] using ho2
  clear ho2 hg2 hat2
  go_wp2_with fail
  go_loopw [6] (fun i wr => ∃ r : Nat, r ≤ m ∧ i = .int .i64 r ∧ OwnI wr w.heap.size 3 A2 n c2 (gsTo zs m r) ∧ Below w.heap.size w wr) (fun i _ => m - (intOf i).toNat)
  case atStart => exact ⟨0, Nat.zero_le _, rfl, by rw [gsTo_zero]; exact o2, hb2⟩
  case round =>
    clear o2 hb2
    obtain ⟨r, hr, rfl, own, hbl⟩ := hrel
    have hsz := hbl.size
    by_cases hrm : r < m
    · go_wp2_with fail
      go_loopw [7, 8] (fun v i w3 => ∃ q p : Nat, ∃ A' c', q ≤ gq n m r ∧ i = .int .i64 p ∧ Hid (p = r + q * m) ∧ p < 40 ∧ v = .slice A' q c' ∧ OwnI w3 wr.heap.size 3 A' q c' (gpart zs m r q) ∧ Below wr.heap.size wr w3 ∧ q ≤ 16) (fun _ i _ => n - (intOf i).toNat)
      case atStart => exact ⟨0, r, _, _, Nat.zero_le _, rfl, Lib.hid (by omega), by omega, rfl, by simpa [OwnI, gpart_zero] using own_empty wr 3, below_alloc wr _, by omega⟩
      case round =>
        obtain ⟨q, p, A5, c5, hq, rfl, HP, hp40, rfl, o5, hb5, hq16⟩ := hrel
        have hs5 := hb5.size
        by_cases hpn : p < n
        · have hqq : q < gq n m r := (gq_iff hm1).2 (by rw [← HP.out]; exact hpn)
          obtain ⟨a1, rfl, _, h1⟩ := (ha.below (hbl.trans (hb5.mono hsz))).at_ hpn
          have HG := Lib.hid (show gpart zs m r (q + 1) = gpart zs m r q ++ [nth zs p] by rw [gpart_succ, HP.out])
          have HP2 := Lib.hid (show p + m = r + (q + 1) * m by have := HP.out; rw [Nat.succ_mul]; omega)
          have hq15 : q < 16 := by
            have h1 := HP.out
            have h2 : q * 1 ≤ q * m := Nat.mul_le_mul_left q hm1
            omega
          go_wp2_with (at_builtin; refine wpL_append1 _ rfl _ _ _ rfl _ 3 (.int .i64 0) 8 Try.underlying22 intInfo rfl _ q _ _ rfl o5 _ rfl rfl (by unfold maxLen; omega) (by omega) hs5 ?_)
          intro A6 c6 w6 ho6 hg6 hat6
          have hb6 := own_below o5 hb5 hs5 hg6
          go_wp2
          go_roundw
          case rel => exact ⟨q + 1, p + m, A6, c6, by omega, by go_num, HP2, by omega, rfl, by rw [OwnI, HG.out, List.map_append]; simpa using ho6, hb6, by omega⟩
          case measure => (simp [intOf] <;> omega)
        · have hqe : q = gq n m r := by
            rcases Nat.lt_or_ge q (gq n m r) with h | h
            · have := (gq_iff hm1).1 h
              rw [← HP.out] at this
              omega
            · omega
          have HQ := Lib.hid hqe
          have HLP := Lib.hid (gpart_len zs m r q)
          clear hqe hq
          have HIN := Lib.hid (srt_of HLP.out)
          go_wp2_with fail
          refine (specSort A5 q c5 (gpart zs m r q) _ o5.rd (by omega)).mono ?_
          rintro e w7 ⟨A7, c7, rfl, o7, hb7'⟩
          rw [HIN.out] at o7
          have i7 := o7.blk_
          have hb7 := hb5.trans (hb7'.mono hs5)
          have HSL := Lib.hid (show (srt (gpart zs m r q)).length = q by rw [srt_len, HLP.out])
          have own2 := own.below hb7
          have hs7 := hb7.size
          have hbl7 := hbl.trans (hb7.mono hsz)
          have hi1 := own.blk_
          have hsz7 := hbl7.size
          clear own
          go_wp2_with fail
          go_loopw [38] (fun i w8 => ∃ k : Nat, k ≤ q ∧ i = .int .i64 k ∧ OwnI w8 w.heap.size 3 A2 n c2 (putTo (gsTo zs m r) (srt (gpart zs m r q)) m r k) ∧ w7.grownBy w8 (blk A2)) (fun i _ => q - (intOf i).toNat)
          case atStart => exact ⟨0, Nat.zero_le _, rfl, by rw [putTo_zero]; exact own2, World.grownBy.refl _ _⟩
          case round =>
            clear own2
            obtain ⟨k, hk, rfl, own3, hg8⟩ := hrel
            by_cases hkq : k < q
            · have hkn : r + k * m < n := (gq_iff hm1).1 (by rw [← HQ.out]; exact hkq)
              obtain ⟨z, hz⟩ : ∃ z, k * m = z := ⟨_, rfl⟩
              obtain ⟨t, ht⟩ : ∃ t, r + z = t := ⟨_, rfl⟩
              have htn : t < n := by rw [← ht, ← hz]; exact hkn
              have ez : (k : Int) * (m : Int) = (z : Int) := by rw [← hz]; simp
              have et : (r : Int) + (z : Int) = (t : Int) := by omega
              obtain ⟨a7, rfl, _, h7⟩ := (o7.rd.grown hg8 (fun g e1 e2 => by have h1 := i7 g e1; have h2 := hi1 g e2.symm; omega)).at_ hkq
              obtain ⟨g2, u2, rfl, _, _, _, h8, h9⟩ := own3.at_ htn
              have own4 := own3.setI (x := nth (srt (gpart zs m r q)) k) htn
              have HPT := Lib.hid (show (putTo (gsTo zs m r) (srt (gpart zs m r q)) m r k).set t (nth (srt (gpart zs m r q)) k) = putTo (gsTo zs m r) (srt (gpart zs m r q)) m r (k + 1) by rw [putTo_succ, hz, ht])
              have hg9 := grownBy_set hg8 (p := ⟨g2, t, none⟩) rfl (.int .i64 (nth (srt (gpart zs m r q)) k))
              have hz16 : z < 16 := by omega
              clear hz ht hkn own3 hg8
              go_wp2_with fail
              go_roundw
              case rel => exact ⟨k + 1, by omega, by go_num, by rw [← HPT.out]; exact own4, hg9⟩
              case measure => (simp [intOf] <;> omega)
            · obtain rfl : k = q := by omega
              have HGT := Lib.hid (gsTo_succ hl.out m r)
              have hblF := below_of_grown hbl7 hg8 hsz7 (fun g e => (hi1 g e).1)
              have ownF : OwnI wr w.heap.size 3 A2 n c2 (gsTo zs m (r + 1)) := by rw [HGT.out, ← HQ.out]; exact own3
              clear own3 hg8
              go_wp2_with fail
              go_roundw
              case rel => exact ⟨r + 1, by omega, by go_num, ownF, hblF⟩
              case measure => (simp [intOf] <;> omega)
    · obtain rfl : r = m := by omega
      go_wp2_with fail
      go_ret
      exact ⟨_, _, rfl, own, hbl⟩

set_option maxHeartbeats 8000000 in
theorem implGapSort_yes (A : Option Addr) (n c m : Nat) (zs : List Int) (w : World) (ha : RdI w A n zs) (hn : n ≤ 16) (hm1 : 1 ≤ m) (hm : m ≤ 16) (hg : gapOk zs m = true) :
    Calls Try.prog 27 #[.slice A n c, .int .i64 m] w fun e w' => ∃ A' c', e = .returned (.slice A' n c') ∧ OwnI w' w.heap.size 3 A' n c' (gsTo zs m m) ∧ Below w.heap.size w w' := by
  have hl := Lib.hid ha.lenI
  have C := implGap A n c zs m w ha (by omega)
  rw [hg] at C
  have CC := Lib.hid C
  have CL := Lib.hid (implCloneAny A n c zs w ha (by omega))
  clear C hg
  go_enter Try.func27, Try.ntmps27
  go_wp2_with fail
  refine CC.out.mono ?_
  rintro e w' ⟨rfl, rfl⟩
  go_wp2_with fail
  refine CL.out.mono ?_
  rintro e w2 ⟨A2, c2, rfl, o2, hb2⟩
  clear CC CL
  go_wp2_with fail
  go_loopw [18] (fun i wr => ∃ r : Nat, r ≤ m ∧ i = .int .i64 r ∧ OwnI wr w.heap.size 3 A2 n c2 (gsTo zs m r) ∧ Below w.heap.size w wr) (fun i _ => m - (intOf i).toNat)
  case atStart => exact ⟨0, Nat.zero_le _, rfl, by rw [gsTo_zero]; exact o2, hb2⟩
  case round =>
    clear o2 hb2
    obtain ⟨r, hr, rfl, own, hbl⟩ := hrel
    have hsz := hbl.size
    by_cases hrm : r < m
    · go_wp2_with fail
      go_loopw [7, 8] (fun v i w3 => ∃ q p : Nat, ∃ A' c', q ≤ gq n m r ∧ i = .int .i64 p ∧ Hid (p = r + q * m) ∧ p < 40 ∧ v = .slice A' q c' ∧ OwnI w3 wr.heap.size 3 A' q c' (gpart zs m r q) ∧ Below wr.heap.size wr w3 ∧ q ≤ 16 ∧ Hid (∃ g5, A' = some ⟨g5, 0, none⟩)) (fun _ i _ => n - (intOf i).toNat)
      case atStart => exact ⟨0, r, _, _, Nat.zero_le _, rfl, Lib.hid (by omega), by omega, rfl, by simpa [OwnI, gpart_zero] using own_empty wr 3, below_alloc wr _, by omega, Lib.hid ⟨_, rfl⟩⟩
      case round =>
        obtain ⟨q, p, A5, c5, hq, rfl, HP, hp40, rfl, o5, hb5, hq16, HS5⟩ := hrel
        have hs5 := hb5.size
        by_cases hpn : p < n
        · have hqq : q < gq n m r := (gq_iff hm1).2 (by rw [← HP.out]; exact hpn)
          obtain ⟨a1, rfl, _, h1⟩ := (ha.below (hbl.trans (hb5.mono hsz))).at_ hpn
          have HG := Lib.hid (show gpart zs m r (q + 1) = gpart zs m r q ++ [nth zs p] by rw [gpart_succ, HP.out])
          have HP2 := Lib.hid (show p + m = r + (q + 1) * m by have := HP.out; rw [Nat.succ_mul]; omega)
          have hq15 : q < 16 := by
            have h1 := HP.out
            have h2 : q * 1 ≤ q * m := Nat.mul_le_mul_left q hm1
            omega
          go_wp2_with (at_builtin; refine wpL_append1 _ rfl _ _ _ rfl _ 3 (.int .i64 0) 8 Try.underlying22 intInfo rfl _ q _ _ rfl o5 _ rfl rfl (by unfold maxLen; omega) (by omega) hs5 ?_)
          intro A6 c6 w6 ho6 hg6 hat6
          have hb6 := own_below o5 hb5 hs5 hg6
          go_wp2
          go_roundw
          case rel => exact ⟨q + 1, p + m, A6, c6, by omega, by go_num, HP2, by omega, rfl, by rw [OwnI, HG.out, List.map_append]; simpa using ho6, hb6, by omega, Lib.hid (by obtain ⟨g, u, hA, _⟩ := ho6.at_ (show 0 < q + 1 by omega); exact ⟨g, hA⟩)⟩
          case measure => (simp [intOf] <;> omega)
        · have hqe : q = gq n m r := by
            rcases Nat.lt_or_ge q (gq n m r) with h | h
            · have := (gq_iff hm1).1 h
              rw [← HP.out] at this
              omega
            · omega
          have HQ := Lib.hid hqe
          have HLP := Lib.hid (gpart_len zs m r q)
          clear hqe hq
          obtain ⟨g5, rfl⟩ := HS5.out
          go_wp2_with fail
          refine (implSort g5 q c5 _ (gpart zs m r q) _ o5 (by omega)).mono ?_
          rintro e w7 ⟨rfl, o7, hg7⟩
          have i7 := o7.blk_
          have hb7 := below_of_grown hb5 hg7 hs5 (fun g e => (i7 g e).1)
          have HSL := Lib.hid (show (srt (gpart zs m r q)).length = q by rw [srt_len, HLP.out])
          have own2 := own.below hb7
          have hs7 := hb7.size
          have hbl7 := hbl.trans (hb7.mono hsz)
          have hi1 := own.blk_
          have hsz7 := hbl7.size
          clear own
          go_wp2_with fail
          go_loopw [41] (fun i w8 => ∃ k : Nat, k ≤ q ∧ i = .int .i64 k ∧ OwnI w8 w.heap.size 3 A2 n c2 (putTo (gsTo zs m r) (srt (gpart zs m r q)) m r k) ∧ w7.grownBy w8 (blk A2)) (fun i _ => q - (intOf i).toNat)
          case atStart => exact ⟨0, Nat.zero_le _, rfl, by rw [putTo_zero]; exact own2, World.grownBy.refl _ _⟩
          case round =>
            clear own2
            obtain ⟨k, hk, rfl, own3, hg8⟩ := hrel
            by_cases hkq : k < q
            · have hkn : r + k * m < n := (gq_iff hm1).1 (by rw [← HQ.out]; exact hkq)
              obtain ⟨z, hz⟩ : ∃ z, k * m = z := ⟨_, rfl⟩
              obtain ⟨t, ht⟩ : ∃ t, r + z = t := ⟨_, rfl⟩
              have htn : t < n := by rw [← ht, ← hz]; exact hkn
              have ez : (k : Int) * (m : Int) = (z : Int) := by rw [← hz]; simp
              have et : (r : Int) + (z : Int) = (t : Int) := by omega
              obtain ⟨a7, ha7, _, h7⟩ := (o7.rd.grown hg8 (fun g e1 e2 => by have h1 := i7 g e1; have h2 := hi1 g e2.symm; omega)).at_ hkq
              injection ha7 with ha7
              subst ha7
              rw [show (⟨g5, 0, none⟩ : Addr).add k = ⟨g5, k, none⟩ by unfold Addr.add; split <;> simp_all] at h7
              obtain ⟨g2, u2, rfl, _, _, _, h8, h9⟩ := own3.at_ htn
              have own4 := own3.setI (x := nth (srt (gpart zs m r q)) k) htn
              have HPT := Lib.hid (show (putTo (gsTo zs m r) (srt (gpart zs m r q)) m r k).set t (nth (srt (gpart zs m r q)) k) = putTo (gsTo zs m r) (srt (gpart zs m r q)) m r (k + 1) by rw [putTo_succ, hz, ht])
              have hg9 := grownBy_set hg8 (p := ⟨g2, t, none⟩) rfl (.int .i64 (nth (srt (gpart zs m r q)) k))
              have hz16 : z < 16 := by omega
              clear hz ht hkn own3 hg8
              go_wp2_with fail
              go_roundw
              case rel => exact ⟨k + 1, by omega, by go_num, by rw [← HPT.out]; exact own4, hg9⟩
              case measure => (simp [intOf] <;> omega)
            · obtain rfl : k = q := by omega
              have HGT := Lib.hid (gsTo_succ hl.out m r)
              have hblF := below_of_grown hbl7 hg8 hsz7 (fun g e => (hi1 g e).1)
              have ownF : OwnI wr w.heap.size 3 A2 n c2 (gsTo zs m (r + 1)) := by rw [HGT.out, ← HQ.out]; exact own3
              clear own3 hg8
              go_wp2_with fail
              go_roundw
              case rel => exact ⟨r + 1, by omega, by go_num, ownF, hblF⟩
              case measure => (simp [intOf] <;> omega)
    · obtain rfl : r = m := by omega
      go_wp2_with fail
      go_ret
      exact ⟨_, _, rfl, own, hbl⟩

set_option maxHeartbeats 1000000 in
theorem specGapSort (A : Option Addr) (n c : Nat) (zs : List Int) (x : Int) (w : World) (ha : RdI w A n zs) (hn : n ≤ 1048576) :
    Calls Try.prog 26 #[.slice A n c, .int .i64 x] w fun e w' => ∃ A' n' c', e = .returned (.slice A' n' c') ∧ OwnI w' w.heap.size 3 A' n' c' (gsV zs x) ∧ Below w.heap.size w w' := by
  have hl := ha.lenI
  have C := specGap A n c zs x w ha hn
  cases hg : gapOk zs x with
  | false =>
    have H := Lib.hid (gsV_no hg)
    rw [hg] at C
    have CC := Lib.hid C
    clear C hg hl
    go_enter Try.func26, Try.ntmps26
    go_wp2_with fail
    refine CC.out.mono ?_
    rintro e w' ⟨rfl, rfl⟩
    go_wp2_with fail
    go_ret
    exact ⟨_, _, _, rfl, by rw [H.out]; exact Own.nil_ _ _ _, Below.refl _ _⟩
  | true =>
    obtain ⟨hn16, m, rfl, hm1, hm16⟩ := gapOk_out hg hl
    have H := Lib.hid (gsV_yes hg)
    rw [hg] at C
    have CC := Lib.hid C
    have CR := Lib.hid (specGapRun A n c m zs w ha hn16 hm1 hm16)
    clear C hg hl
    go_enter Try.func26, Try.ntmps26
    go_wp2_with fail
    refine CC.out.mono ?_
    rintro e w' ⟨rfl, rfl⟩
    go_wp2_with fail
    refine CR.out.mono ?_
    rintro e w2 ⟨A2, c2, rfl, o2, hb2⟩
    go_wp2_with fail
    go_ret
    exact ⟨_, _, _, rfl, by rw [H.out]; exact o2, hb2⟩

set_option maxHeartbeats 1000000 in
theorem implGapSort (A : Option Addr) (n c : Nat) (zs : List Int) (x : Int) (w : World) (ha : RdI w A n zs) (hn : n ≤ 1048576) :
    Calls Try.prog 27 #[.slice A n c, .int .i64 x] w fun e w' => ∃ A' n' c', e = .returned (.slice A' n' c') ∧ OwnI w' w.heap.size 3 A' n' c' (gsV zs x) ∧ Below w.heap.size w w' := by
  have hl := ha.lenI
  cases hg : gapOk zs x with
  | false =>
    have C := implGap A n c zs x w ha hn
    have H := Lib.hid (gsV_no hg)
    rw [hg] at C
    have CC := Lib.hid C
    clear C hg hl
    go_enter Try.func27, Try.ntmps27
    go_wp2_with fail
    refine CC.out.mono ?_
    rintro e w' ⟨rfl, rfl⟩
    go_wp2_with fail
    go_ret
    exact ⟨_, _, _, rfl, by rw [H.out]; exact Own.nil_ _ _ _, Below.refl _ _⟩
  | true =>
    obtain ⟨hn16, m, rfl, hm1, hm16⟩ := gapOk_out hg hl
    refine (implGapSort_yes A n c m zs w ha hn16 hm1 hm16 hg).mono ?_
    rintro e w' ⟨A2, c2, rfl, o2, hb2⟩
    exact ⟨_, _, _, rfl, by rw [gsV_yes hg]; exact o2, hb2⟩

end Go.Proofs.Ytojlcpfnkpfgnaa
