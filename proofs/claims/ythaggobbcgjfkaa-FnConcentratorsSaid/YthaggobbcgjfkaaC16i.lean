/- Chapter 16: MatchingOf, IsConcentrator and GreatestConcentration of the reference and of the program. -/
import Derived.Test.YthaggobbcgjfkaaC16h
namespace Go.Proofs.Ythaggobbcgjfkaa
open Go.RowKit Go.Deep
set_option linter.unusedVariables false
attribute [local go_sem] bits_and_one

def leadB (zs : List Int) (s : Int) : Bool := inputsOk zs s && (lead zs s.toNat zs.length 63).isSome
def leadV (zs : List Int) (s : Int) : List Int := if inputsOk zs s = true then (lead zs s.toNat zs.length 63).getD [] else []
/-- All sets below s of k inputs can be led. -/
def ConcTo (zs : List Int) (k s : Nat) : Prop := ∀ r, r < s → pop r = k → k ≤ mat zs r zs.length 63
theorem ConcTo.zero (zs : List Int) (k : Nat) : ConcTo zs k 0 := fun r h => absurd h (by omega)
theorem ConcTo.succ {zs : List Int} {k s : Nat} (h : ConcTo zs k s) (h1 : pop s = k → k ≤ mat zs s zs.length 63) : ConcTo zs k (s + 1) := fun r hr => by
  by_cases e : r = s
  · subst e; exact h1
  · exact h r (by omega)
open Classical in
theorem conc_yes {zs : List Int} {k N : Nat} (h : ConcTo zs k N) (hN : 2 ^ zs.length = N) : concB zs k = true := by
  unfold concB; subst hN; exact decide_eq_true h
open Classical in
theorem conc_no {zs : List Int} {k s : Nat} (h1 : s < 2 ^ zs.length) (h2 : pop s = k) (h3 : mat zs s zs.length 63 < k) : concB zs k = false := by
  unfold concB; exact decide_eq_false (fun h => by have := h s h1 h2; omega)
noncomputable def concV (zs : List Int) (k : Int) : Bool := planOk zs && decide (0 ≤ k ∧ k ≤ zs.length) && concB zs k.toNat
noncomputable def greatV (zs : List Int) : Int := if planOk zs = true then (great zs : Int) else -1

set_option maxHeartbeats 1000000 in
theorem specMatchingOf (A : Option Addr) (n c : Nat) (zs : List Int) (s : Int) (w : World) (ha : RdI w A n zs) (hn : n ≤ 1048576) :
    Calls Try.prog 27 #[.slice A n c, .int .i64 s] w fun e w' => ∃ A' n' c', e = .returned (.tuple #[.slice A' n' c', .bool (leadB zs s)]) ∧ OwnI w' w.heap.size 3 A' n' c' (leadV zs s) ∧ Below w.heap.size w w' := by
  cases hi : inputsOk zs s with
  | false =>
    have H := Lib.hid (show leadB zs s = false by rw [leadB, hi]; rfl)
    have H' := Lib.hid (show leadV zs s = [] by rw [leadV, if_neg (by simp [hi])])
    go_enter Try.func27, Try.ntmps27
    go_wp2_with (go_at_call 41; refine (specInputs A n c zs s _ ha hn).mono ?_; rintro e w' ⟨rfl, rfl⟩)
    go_ret2
    exact ⟨_, _, _, ret_sb H.out.symm, by rw [H'.out]; exact Own.nil_ _ _ _, Below.refl _ _⟩
  | true =>
    obtain ⟨hp, h6, m, rfl, hm⟩ := inputs_nat hi ha.lenI
    have hl := ha.lenI
    have C := specLead A n c zs m hp hm n 0 0 w (by omega) (by omega) ha
    cases hL : lead zs m n 63 with
    | none =>
      have H := Lib.hid (show leadB zs (m : Int) = false by rw [leadB, hi, Int.toNat_natCast, hl, hL]; rfl)
      have H' := Lib.hid (show leadV zs (m : Int) = [] by rw [leadV, if_pos hi, Int.toNat_natCast, hl, hL]; rfl)
      rw [hL] at C
      have CC := Lib.hid C
      clear C hL hl
      go_enter Try.func27, Try.ntmps27
      go_wp2_with (first | (go_at_call 41; refine (specInputs A n c zs _ _ ha hn).mono ?_; rintro e w' ⟨rfl, rfl⟩) | (go_at_call 48; refine CC.out.mono ?_; rintro e w2 ⟨A2, n2, c2, ys2, rfl, ho2, hy2, hn2, hb2⟩; clear hy2))
      go_ret2
      exact ⟨_, _, _, ret_sb H.out.symm, by rw [H'.out]; exact Own.nil_ _ _ _, hb2⟩
    | some r =>
      have H := Lib.hid (show leadB zs (m : Int) = true by rw [leadB, hi, Int.toNat_natCast, hl, hL]; rfl)
      have H' := Lib.hid (show leadV zs (m : Int) = r by rw [leadV, if_pos hi, Int.toNat_natCast, hl, hL]; rfl)
      rw [hL] at C
      have CC := Lib.hid C
      clear C hL hl
      go_enter Try.func27, Try.ntmps27
      go_wp2_with (first | (go_at_call 41; refine (specInputs A n c zs _ _ ha hn).mono ?_; rintro e w' ⟨rfl, rfl⟩) | (go_at_call 48; refine CC.out.mono ?_; rintro e w2 ⟨A2, n2, c2, ys2, rfl, ho2, hy2, hn2, hb2⟩; obtain rfl := hy2 r rfl; clear hy2))
      go_ret2
      exact ⟨_, _, _, ret_sb H.out.symm, by rw [H'.out]; exact ho2, hb2⟩

set_option maxHeartbeats 1000000 in
theorem implMatchingOf (A : Option Addr) (n c : Nat) (zs : List Int) (s : Int) (w : World) (ha : RdI w A n zs) (hn : n ≤ 1048576) :
    Calls Try.prog 28 #[.slice A n c, .int .i64 s] w fun e w' => ∃ A' n' c', e = .returned (.tuple #[.slice A' n' c', .bool (leadB zs s)]) ∧ OwnI w' w.heap.size 3 A' n' c' (leadV zs s) ∧ Below w.heap.size w w' := by
  cases hi : inputsOk zs s with
  | false =>
    have H := Lib.hid (show leadB zs s = false by rw [leadB, hi]; rfl)
    have H' := Lib.hid (show leadV zs s = [] by rw [leadV, if_neg (by simp [hi])])
    go_enter Try.func28, Try.ntmps28
    go_wp2_with (go_at_call 43; refine (implInputs A n c zs s _ ha hn).mono ?_; rintro e w' ⟨rfl, rfl⟩)
    go_ret2
    exact ⟨_, _, _, ret_sb H.out.symm, by rw [H'.out]; exact Own.nil_ _ _ _, Below.refl _ _⟩
  | true =>
    obtain ⟨hp, h6, m, rfl, hm⟩ := inputs_nat hi ha.lenI
    have hl := ha.lenI
    have C := implLed A n c zs m hp hm n 0 63 w (by omega) (by omega) ha
    cases hL : lead zs m n 63 with
    | none =>
      have H := Lib.hid (show leadB zs (m : Int) = false by rw [leadB, hi, Int.toNat_natCast, hl, hL]; rfl)
      have H' := Lib.hid (show leadV zs (m : Int) = [] by rw [leadV, if_pos hi, Int.toNat_natCast, hl, hL]; rfl)
      rw [hL] at C
      have CC := Lib.hid C
      clear C hL hl
      go_enter Try.func28, Try.ntmps28
      go_wp2_with (first | (go_at_call 43; refine (implInputs A n c zs _ _ ha hn).mono ?_; rintro e w' ⟨rfl, rfl⟩) | (go_at_call 49; refine CC.out.mono ?_; rintro e w2 ⟨A2, n2, c2, ys2, rfl, ho2, hy2, hn2, hb2⟩; clear hy2))
      go_ret2
      exact ⟨_, _, _, ret_sb H.out.symm, by rw [H'.out]; exact Own.nil_ _ _ _, hb2⟩
    | some r =>
      have H := Lib.hid (show leadB zs (m : Int) = true by rw [leadB, hi, Int.toNat_natCast, hl, hL]; rfl)
      have H' := Lib.hid (show leadV zs (m : Int) = r by rw [leadV, if_pos hi, Int.toNat_natCast, hl, hL]; rfl)
      rw [hL] at C
      have CC := Lib.hid C
      clear C hL hl
      go_enter Try.func28, Try.ntmps28
      go_wp2_with (first | (go_at_call 43; refine (implInputs A n c zs _ _ ha hn).mono ?_; rintro e w' ⟨rfl, rfl⟩) | (go_at_call 49; refine CC.out.mono ?_; rintro e w2 ⟨A2, n2, c2, ys2, rfl, ho2, hy2, hn2, hb2⟩; obtain rfl := hy2 r rfl; clear hy2))
      go_ret2
      exact ⟨_, _, _, ret_sb H.out.symm, by rw [H'.out]; exact ho2, hb2⟩

theorem lead_len {zs : List Int} (hp : planOk zs = true) (s : Nat) : ∀ m, m ≤ zs.length → ∀ l r, lead zs s m l = some r → r.length = m := by
  intro m
  induction m with
  | zero => intro _ l r h; rw [lead_zero] at h; injection h with h; subst h; rfl
  | succ m ih =>
    intro hm l r h
    obtain ⟨p, hpz, _⟩ := nth_cast hp (a := zs.length - (m + 1)) (by omega)
    cases hb : bitAt s (zs.length - (m + 1)) with
    | false =>
      rw [lead_off l rfl hb] at h
      obtain ⟨q, hq, rfl⟩ := Option.map_eq_some_iff.1 h
      simp [ih (by omega) l q hq]
    | true =>
      rw [lead_on l rfl hb hpz] at h
      have key : ∀ f k, leadStep p l (lead zs s m) f k = some r → r.length = m + 1 := by
        intro f
        induction f with
        | zero => intro k h; rw [lstep_end] at h; cases h
        | succ f ihf =>
          intro k h
          cases hb2 : bitAt (p &&& l) k with
          | false => rw [lstep_off hb2] at h; exact ihf _ h
          | true =>
            cases hs : lead zs s m (clr l k) with
            | none => rw [lstep_miss hb2 hs] at h; exact ihf _ h
            | some q => rw [lstep_hit hb2 hs] at h; injection h with h; subst h; simp [ih (by omega) _ q hs]
      exact key 6 0 h

theorem leadV_len (zs : List Int) (s : Int) : (leadV zs s).length ≤ 1048576 := by
  unfold leadV
  split
  · rename_i hi
    obtain ⟨hp, h6, m, rfl, hm⟩ := inputs_nat hi rfl
    cases hL : lead zs (Int.toNat (m : Int)) zs.length 63 with
    | none => simp
    | some r =>
      have := lead_len hp _ zs.length (Nat.le_refl _) 63 r hL
      simp; omega
  · simp

set_option maxHeartbeats 2000000 in
theorem specConc (A : Option Addr) (n c : Nat) (zs : List Int) (k : Nat) (w : World) (ha : RdI w A n zs) (hp : planOk zs = true) (hk : k ≤ n) :
    Calls Try.prog 51 #[.slice A n c, .int .i64 k] w fun e w' => e = .returned (.bool (concB zs k)) ∧ Below w.heap.size w w' := by
  have hl := Lib.hid ha.lenI
  have h6 : n ≤ 6 := by have := (planOk_out hp).2.1; have := hl.out; omega
  obtain ⟨N, hN⟩ : ∃ N, 2 ^ n = N := ⟨_, rfl⟩
  have hw := wrap_pow n (by omega)
  have h64 := (pow6 h6).2
  rw [hN] at hw h64
  have hN64 : N ≤ 64 := by omega
  have HN := Lib.hid hN
  have HP := Lib.hid hp
  have HA := Lib.hid ha
  clear hN h64 hp ha
  go_enter Try.func51, Try.ntmps51
  go_wp2_with fail
  go_loopw [5] (fun i wr => ∃ s : Nat, s ≤ N ∧ i = .int .i64 s ∧ Below w.heap.size w wr ∧ ConcTo zs k s) (fun i _ => N - (intOf i).toNat)
  case atStart => exact ⟨0, Nat.zero_le _, rfl, Below.refl _ _, ConcTo.zero _ _⟩
  case round =>
    obtain ⟨s, hs, rfl, hbl, hct⟩ := hrel
    have HCT := Lib.hid hct
    clear hct
    have hsz := hbl.size
    by_cases hlt : s < N
    · by_cases hpk : pop s = k
      · have e1 : ((pop s : Int) == (k : Int)) = true := by simp [hpk]
        have HPK := Lib.hid hpk
        clear hpk
        have HF := Lib.hid (lead_full HP.out (s := s) (by rw [hl.out, HN.out]; exact hlt))
        have C := specLead A n c zs s HP.out (by omega) n 0 0 wr (by omega) (by omega) (HA.out.below hbl)
        cases hL : (lead zs s n 63) with
        | none =>
          have H := Lib.hid (conc_no (zs := zs) (s := s) (k := k) (by rw [hl.out, HN.out]; exact hlt) HPK.out (by
            have h1 := HF.out
            rw [hl.out, hL] at h1
            rw [hl.out]
            have h2 := HPK.out
            rcases Nat.lt_or_ge (mat zs s n 63) k with h3 | h3
            · exact h3
            · have h4 := h1.2.2 (by omega); cases h4))
          rw [hL] at C
          have CC := Lib.hid C
          clear C hL
          go_wp2_with (first | (go_at_call 45; refine (specOnes _ _ (by omega)).mono ?_; rintro e w' ⟨rfl, rfl⟩) | (go_at_call 48; refine CC.out.mono ?_; rintro e w2 ⟨A2, n2, c2, ys2, rfl, ho2, hy2, hn2, hb2⟩; clear hy2 ho2))
          go_ret
          exact ⟨ret_bool H.out.symm, hbl.trans (hb2.mono hsz)⟩
        | some r =>
          have H := Lib.hid (HCT.out.succ (fun _ => by
            have h1 := HF.out
            rw [hl.out, hL] at h1
            rw [hl.out, h1.2.1 rfl, HPK.out]; exact Nat.le_refl _))
          rw [hL] at C
          have CC := Lib.hid C
          clear C hL
          go_wp2_with (first | (go_at_call 45; refine (specOnes _ _ (by omega)).mono ?_; rintro e w' ⟨rfl, rfl⟩) | (go_at_call 48; refine CC.out.mono ?_; rintro e w2 ⟨A2, n2, c2, ys2, rfl, ho2, hy2, hn2, hb2⟩; clear hy2 ho2))
          go_roundw
          case rel => exact ⟨s + 1, by omega, by go_num, hbl.trans (hb2.mono hsz), H.out⟩
          case measure => simp [intOf]; omega
      · have e1 : ((pop s : Int) == (k : Int)) = false := by simp; omega
        have H := Lib.hid (HCT.out.succ (fun h => absurd h hpk))
        clear hpk
        go_wp2_with (go_at_call 45; refine (specOnes _ _ (by omega)).mono ?_; rintro e w' ⟨rfl, rfl⟩)
        go_roundw
        case rel => exact ⟨s + 1, by omega, by go_num, hbl, H.out⟩
        case measure => simp [intOf]; omega
    · obtain rfl : s = N := by omega
      have H := Lib.hid (conc_yes HCT.out (by rw [hl.out, HN.out]))
      go_wp2
      go_ret
      exact ⟨ret_bool H.out.symm, hbl⟩

set_option maxHeartbeats 2000000 in
theorem implConc (A : Option Addr) (n c : Nat) (zs : List Int) (k : Nat) (w : World) (ha : RdI w A n zs) (hp : planOk zs = true) (hk : k ≤ n) :
    Calls Try.prog 52 #[.slice A n c, .int .i64 k] w fun e w' => e = .returned (.bool (concB zs k)) ∧ w = w' := by
  have hl := Lib.hid ha.lenI
  have h6 : n ≤ 6 := by have := (planOk_out hp).2.1; have := hl.out; omega
  obtain ⟨N, hN⟩ : ∃ N, 2 ^ n = N := ⟨_, rfl⟩
  have hw := wrap_pow n (by omega)
  have h64 := (pow6 h6).2
  rw [hN] at hw h64
  have hN64 : N ≤ 64 := by omega
  have HN := Lib.hid hN
  have HP := Lib.hid hp
  have HA := Lib.hid ha
  clear hN h64 hp ha
  go_enter Try.func52, Try.ntmps52
  go_wp2_with fail
  rw [hw]
  go_loop [9] (fun i => ∃ s : Nat, s ≤ N ∧ i = .int .i64 s ∧ ConcTo zs k s) (fun i => N - (intOf i).toNat)
  case atStart => exact ⟨0, Nat.zero_le _, rfl, ConcTo.zero _ _⟩
  case round =>
    obtain ⟨s, hs, rfl, hct⟩ := hrel
    have HCT := Lib.hid hct
    clear hct
    by_cases hlt : s < N
    · have CC := Lib.hid (implMatching A n c zs s HP.out (by omega) n 0 63 w (by omega) (by omega) HA.out)
      by_cases hpk : pop s = k
      · have e1 : ((pop s : Int) == (k : Int)) = true := by simp [hpk]
        have HPK := Lib.hid hpk
        clear hpk
        by_cases hmk : mat zs s n 63 < k
        · have H := Lib.hid (conc_no (zs := zs) (s := s) (k := k) (by rw [hl.out, HN.out]; exact hlt) HPK.out (by rw [hl.out]; exact hmk))
          go_wp2_with (first | (go_at_call 50; refine (implOnes _ _ (by omega)).mono ?_; rintro e w' ⟨rfl, rfl⟩) | (go_at_call 46; refine CC.out.mono ?_; rintro e w' ⟨rfl, rfl⟩))
          go_ret
          exact ⟨ret_bool H.out.symm, rfl⟩
        · have H := Lib.hid (HCT.out.succ (fun _ => by rw [hl.out]; omega))
          go_wp2_with (first | (go_at_call 50; refine (implOnes _ _ (by omega)).mono ?_; rintro e w' ⟨rfl, rfl⟩) | (go_at_call 46; refine CC.out.mono ?_; rintro e w' ⟨rfl, rfl⟩))
          go_round
          case rel => exact ⟨s + 1, by omega, by go_num, H.out⟩
          case measure => simp [intOf]; omega
      · have e1 : ((pop s : Int) == (k : Int)) = false := by simp; omega
        have H := Lib.hid (HCT.out.succ (fun h => absurd h hpk))
        clear hpk
        go_wp2_with (go_at_call 50; refine (implOnes _ _ (by omega)).mono ?_; rintro e w' ⟨rfl, rfl⟩)
        go_round
        case rel => exact ⟨s + 1, by omega, by go_num, H.out⟩
        case measure => simp [intOf]; omega
    · obtain rfl : s = N := by omega
      have H := Lib.hid (conc_yes HCT.out (by rw [hl.out, HN.out]))
      go_wp2
      go_ret
      exact ⟨ret_bool H.out.symm, rfl⟩

set_option maxHeartbeats 1000000 in
theorem specIsConc (A : Option Addr) (n c : Nat) (zs : List Int) (k : Int) (w : World) (ha : RdI w A n zs) (hn : n ≤ 1048576) :
    Calls Try.prog 31 #[.slice A n c, .int .i64 k] w fun e w' => e = .returned (.bool (concV zs k)) ∧ Below w.heap.size w w' := by
  have hl := ha.lenI
  cases hp : planOk zs with
  | false =>
    have H := Lib.hid (show concV zs k = false by rw [concV, hp]; rfl)
    clear hl
    go_enter Try.func31, Try.ntmps31
    go_wp2_with (go_at_call 13; refine (specPlanOk A n c zs _ ha hn).mono ?_; rintro e w' ⟨rfl, rfl⟩)
    go_ret
    exact ⟨ret_bool H.out.symm, Below.refl _ _⟩
  | true =>
    by_cases h0 : 0 ≤ k
    · by_cases h1 : k ≤ n
      · obtain ⟨m, rfl⟩ := Int.eq_ofNat_of_zero_le h0
        have H := Lib.hid (show concV zs (m : Int) = concB zs m by rw [concV, hp, hl, decide_eq_true ⟨h0, h1⟩, Int.toNat_natCast]; rfl)
        have CC := Lib.hid (specConc A n c zs m w ha hp (by omega))
        clear hl
        go_enter Try.func31, Try.ntmps31
        go_wp2_with (first | (go_at_call 13; refine (specPlanOk A n c zs _ ha hn).mono ?_; rintro e w' ⟨rfl, rfl⟩) | (go_at_call 40; refine (l01In_yes _ _ _ _ (by omega)).mono ?_; rintro e w' ⟨rfl, rfl⟩) | (go_at_call 51; refine CC.out.mono ?_; rintro e w2 ⟨rfl, hb2⟩))
        go_ret
        exact ⟨ret_bool H.out.symm, hb2⟩
      · have H := Lib.hid (show concV zs k = false by rw [concV, hp, hl, decide_eq_false (fun h => h1 h.2)]; rfl)
        clear hl
        go_enter Try.func31, Try.ntmps31
        go_wp2_with (first | (go_at_call 13; refine (specPlanOk A n c zs _ ha hn).mono ?_; rintro e w' ⟨rfl, rfl⟩) | (go_at_call 40; refine (l01In_no _ _ _ _ (by omega)).mono ?_; rintro e w' ⟨rfl, rfl⟩))
        go_ret
        exact ⟨ret_bool H.out.symm, Below.refl _ _⟩
    · have H := Lib.hid (show concV zs k = false by rw [concV, hp, hl, decide_eq_false (fun h => h0 h.1)]; rfl)
      clear hl
      go_enter Try.func31, Try.ntmps31
      go_wp2_with (first | (go_at_call 13; refine (specPlanOk A n c zs _ ha hn).mono ?_; rintro e w' ⟨rfl, rfl⟩) | (go_at_call 40; refine (l01In_no _ _ _ _ (by omega)).mono ?_; rintro e w' ⟨rfl, rfl⟩))
      go_ret
      exact ⟨ret_bool H.out.symm, Below.refl _ _⟩

set_option maxHeartbeats 1000000 in
theorem implIsConc (A : Option Addr) (n c : Nat) (zs : List Int) (k : Int) (w : World) (ha : RdI w A n zs) (hn : n ≤ 1048576) :
    Calls Try.prog 32 #[.slice A n c, .int .i64 k] w fun e w' => e = .returned (.bool (concV zs k)) ∧ Below w.heap.size w w' := by
  have hl := ha.lenI
  cases hp : planOk zs with
  | false =>
    have H := Lib.hid (show concV zs k = false by rw [concV, hp]; rfl)
    clear hl
    go_enter Try.func32, Try.ntmps32
    go_wp2_with (go_at_call 15; refine (implPlanOk A n c zs _ ha hn).mono ?_; rintro e w' ⟨rfl, rfl⟩)
    go_ret
    exact ⟨ret_bool H.out.symm, Below.refl _ _⟩
  | true =>
    by_cases h0 : 0 ≤ k
    · by_cases h1 : k ≤ n
      · obtain ⟨m, rfl⟩ := Int.eq_ofNat_of_zero_le h0
        have H := Lib.hid (show concV zs (m : Int) = concB zs m by rw [concV, hp, hl, decide_eq_true ⟨h0, h1⟩, Int.toNat_natCast]; rfl)
        have CC := Lib.hid (implConc A n c zs m w ha hp (by omega))
        clear hl
        go_enter Try.func32, Try.ntmps32
        go_wp2_with (first | (go_at_call 15; refine (implPlanOk A n c zs _ ha hn).mono ?_; rintro e w' ⟨rfl, rfl⟩) | (go_at_call 52; refine CC.out.mono ?_; rintro e w' ⟨rfl, rfl⟩))
        go_ret
        exact ⟨ret_bool H.out.symm, Below.refl _ _⟩
      · have H := Lib.hid (show concV zs k = false by rw [concV, hp, hl, decide_eq_false (fun h => h1 h.2)]; rfl)
        clear hl
        go_enter Try.func32, Try.ntmps32
        go_wp2_with (first | (go_at_call 15; refine (implPlanOk A n c zs _ ha hn).mono ?_; rintro e w' ⟨rfl, rfl⟩))
        go_ret
        exact ⟨ret_bool H.out.symm, Below.refl _ _⟩
    · have H := Lib.hid (show concV zs k = false by rw [concV, hp, hl, decide_eq_false (fun h => h0 h.1)]; rfl)
      clear hl
      go_enter Try.func32, Try.ntmps32
      go_wp2_with (first | (go_at_call 15; refine (implPlanOk A n c zs _ ha hn).mono ?_; rintro e w' ⟨rfl, rfl⟩))
      go_ret
      exact ⟨ret_bool H.out.symm, Below.refl _ _⟩

end Go.Proofs.Ythaggobbcgjfkaa
