/- Chapter 16: JoinedWith, MatchingSize and TightSet of the reference and of the program. -/
import Derived.Test.YthaggobbcgjfkaaC16e
namespace Go.Proofs.Ythaggobbcgjfkaa
open Go.RowKit Go.Deep
set_option linter.unusedVariables false
attribute [local go_sem] bits_and_one

def joinedWithV (zs : List Int) (s : Int) : Int := if inputsOk zs s = true then (joined zs s.toNat : Int) else -1
def matchV (zs : List Int) (s : Int) : Int := if inputsOk zs s = true then (mat zs s.toNat zs.length 63 : Int) else -1
theorem inputs_nat {zs : List Int} {s : Int} {n : Nat} (h : inputsOk zs s = true) (hl : zs.length = n) : planOk zs = true ∧ n ≤ 6 ∧ ∃ m : Nat, s = m ∧ m < 64 := by
  have h1 := inputsOk_out h
  have h2 := planOk_out h1.1
  obtain ⟨m, rfl⟩ := Int.eq_ofNat_of_zero_le h1.2.1
  have h6 : zs.length ≤ 6 := h2.2.1
  have h64 := (pow6 h6).2
  refine ⟨h1.1, by omega, m, rfl, ?_⟩
  have := h1.2.2
  omega

/-- The first number from p on, among f ones, for which P holds; 0 if there is none. -/
def firstOf (P : Nat → Bool) : Nat → Nat → Nat
  | 0, _ => 0
  | f + 1, p => if P p = true then p else firstOf P f (p + 1)
theorem firstOf_hit {P : Nat → Bool} : ∀ (f p q : Nat), p ≤ q → q < p + f → P q = true → (∀ r, p ≤ r → r < q → P r = false) → firstOf P f p = q := by
  intro f
  induction f with
  | zero => intro p q h1 h2; omega
  | succ f ih =>
    intro p q h1 h2 h3 h4
    by_cases hp : p = q
    · subst hp; rw [firstOf, if_pos h3]
    · rw [firstOf, if_neg (by rw [h4 p (Nat.le_refl _) (by omega)]; simp)]
      exact ih (p + 1) q (by omega) (by omega) h3 (fun r hr1 hr2 => h4 r (by omega) hr2)
theorem firstOf_none {P : Nat → Bool} : ∀ (f p : Nat), (∀ r, p ≤ r → r < p + f → P r = false) → firstOf P f p = 0 := by
  intro f
  induction f with
  | zero => intro p _; rfl
  | succ f ih =>
    intro p h
    rw [firstOf, if_neg (by rw [h p (Nat.le_refl _) (by omega)]; simp)]
    exact ih (p + 1) (fun r h1 h2 => h r (by omega) (by omega))
/-- Is p a part of s? -/
def isSub (p s : Nat) : Bool := bits .andNot .i64 (p : Int) (s : Int) == 0
def tightP (zs : List Int) (s p : Nat) : Bool := isSub p s && decide (pop (joined zs p) < pop p)
def tight (zs : List Int) (s : Nat) : Nat := firstOf (tightP zs s) s 1
def tightV (zs : List Int) (s : Int) : Int := if inputsOk zs s = true then (tight zs s.toNat : Int) else 0
def NoTight (zs : List Int) (s k : Nat) : Prop := ∀ r, 1 ≤ r → r < k → tightP zs s r = false
theorem NoTight.one (zs : List Int) (s : Nat) : NoTight zs s 1 := fun r h1 h2 => absurd h2 (by omega)
theorem NoTight.succ {zs : List Int} {s k : Nat} (h : NoTight zs s k) (h1 : tightP zs s k = false) : NoTight zs s (k + 1) := fun r h2 h3 => by
  by_cases e : r = k
  · subst e; exact h1
  · exact h r h2 (by omega)
theorem tight_hit {zs : List Int} {s k : Nat} (h : NoTight zs s k) (h1 : 1 ≤ k) (h2 : k ≤ s) (h3 : tightP zs s k = true) : tight zs s = k :=
  firstOf_hit s 1 k h1 (by omega) h3 (fun r a b => h r a b)
theorem tight_none {zs : List Int} {s k : Nat} (h : NoTight zs s k) (h2 : s < k) : tight zs s = 0 :=
  firstOf_none s 1 (fun r a b => h r a (by omega))
theorem joined_lt {zs : List Int} (hp : planOk zs = true) (s : Nat) : joined zs s < 256 := by
  have := joinedTo_lt s (planOk_out hp).2.2 zs.length (Nat.le_refl _)
  unfold joined; omega
attribute [irreducible] tight

set_option maxHeartbeats 1000000 in
theorem specJoinedWith (A : Option Addr) (n c : Nat) (zs : List Int) (s : Int) (w : World) (ha : RdI w A n zs) (hn : n ≤ 1048576) :
    Calls Try.prog 21 #[.slice A n c, .int .i64 s] w fun e w' => e = .returned (.int .i64 (joinedWithV zs s)) ∧ w = w' := by
  cases hi : inputsOk zs s with
  | false =>
    have H := Lib.hid (show joinedWithV zs s = -1 by rw [joinedWithV, if_neg (by simp [hi])])
    go_enter Try.func21, Try.ntmps21
    go_wp2_with (go_at_call 41; refine (specInputs A n c zs s _ ha hn).mono ?_; rintro e w' ⟨rfl, rfl⟩)
    go_ret
    exact ⟨ret_int H.out.symm, rfl⟩
  | true =>
    obtain ⟨hp, h6, m, rfl, hm⟩ := inputs_nat hi ha.lenI
    have hl := Lib.hid ha.lenI
    have H := Lib.hid (show joinedWithV zs (m : Int) = (joined zs m : Int) by rw [joinedWithV, if_pos hi, Int.toNat_natCast])
    have C := Lib.hid (specJoined A n c zs m w ha hp hm)
    go_enter Try.func21, Try.ntmps21
    go_wp2_with (first | (go_at_call 41; refine (specInputs A n c zs _ _ ha hn).mono ?_; rintro e w' ⟨rfl, rfl⟩) | (go_at_call 42; refine C.out.mono ?_; rintro e w' ⟨rfl, rfl⟩))
    go_ret
    exact ⟨ret_int (by rw [H.out]), rfl⟩

set_option maxHeartbeats 1000000 in
theorem implJoinedWith (A : Option Addr) (n c : Nat) (zs : List Int) (s : Int) (w : World) (ha : RdI w A n zs) (hn : n ≤ 1048576) :
    Calls Try.prog 22 #[.slice A n c, .int .i64 s] w fun e w' => e = .returned (.int .i64 (joinedWithV zs s)) ∧ w = w' := by
  cases hi : inputsOk zs s with
  | false =>
    have H := Lib.hid (show joinedWithV zs s = -1 by rw [joinedWithV, if_neg (by simp [hi])])
    go_enter Try.func22, Try.ntmps22
    go_wp2_with (go_at_call 43; refine (implInputs A n c zs s _ ha hn).mono ?_; rintro e w' ⟨rfl, rfl⟩)
    go_ret
    exact ⟨ret_int H.out.symm, rfl⟩
  | true =>
    obtain ⟨hp, h6, m, rfl, hm⟩ := inputs_nat hi ha.lenI
    have hl := Lib.hid ha.lenI
    have H := Lib.hid (show joinedWithV zs (m : Int) = (joined zs m : Int) by rw [joinedWithV, if_pos hi, Int.toNat_natCast])
    have C := Lib.hid (implJoined A n c zs m w ha hp hm)
    go_enter Try.func22, Try.ntmps22
    go_wp2_with (first | (go_at_call 43; refine (implInputs A n c zs _ _ ha hn).mono ?_; rintro e w' ⟨rfl, rfl⟩) | (go_at_call 44; refine C.out.mono ?_; rintro e w' ⟨rfl, rfl⟩))
    go_ret
    exact ⟨ret_int (by rw [H.out]), rfl⟩

set_option maxHeartbeats 1000000 in
theorem specMatchingSize (A : Option Addr) (n c : Nat) (zs : List Int) (s : Int) (w : World) (ha : RdI w A n zs) (hn : n ≤ 1048576) :
    Calls Try.prog 25 #[.slice A n c, .int .i64 s] w fun e w' => e = .returned (.int .i64 (matchV zs s)) ∧ w = w' := by
  cases hi : inputsOk zs s with
  | false =>
    have H := Lib.hid (show matchV zs s = -1 by rw [matchV, if_neg (by simp [hi])])
    go_enter Try.func25, Try.ntmps25
    go_wp2_with (go_at_call 41; refine (specInputs A n c zs s _ ha hn).mono ?_; rintro e w' ⟨rfl, rfl⟩)
    go_ret
    exact ⟨ret_int H.out.symm, rfl⟩
  | true =>
    obtain ⟨hp, h6, m, rfl, hm⟩ := inputs_nat hi ha.lenI
    have hl := Lib.hid ha.lenI
    have H := Lib.hid (show matchV zs (m : Int) = (mat zs m zs.length 63 : Int) by rw [matchV, if_pos hi, Int.toNat_natCast])
    have C := Lib.hid (specMost A n c zs m hp hm n 0 0 w (by omega) (by omega) ha)
    go_enter Try.func25, Try.ntmps25
    go_wp2_with (first | (go_at_call 41; refine (specInputs A n c zs _ _ ha hn).mono ?_; rintro e w' ⟨rfl, rfl⟩) | (go_at_call 47; refine C.out.mono ?_; rintro e w' ⟨rfl, rfl⟩))
    go_ret
    exact ⟨ret_int (by rw [H.out, hl.out]), rfl⟩

set_option maxHeartbeats 1000000 in
theorem implMatchingSize (A : Option Addr) (n c : Nat) (zs : List Int) (s : Int) (w : World) (ha : RdI w A n zs) (hn : n ≤ 1048576) :
    Calls Try.prog 26 #[.slice A n c, .int .i64 s] w fun e w' => e = .returned (.int .i64 (matchV zs s)) ∧ w = w' := by
  cases hi : inputsOk zs s with
  | false =>
    have H := Lib.hid (show matchV zs s = -1 by rw [matchV, if_neg (by simp [hi])])
    go_enter Try.func26, Try.ntmps26
    go_wp2_with (go_at_call 43; refine (implInputs A n c zs s _ ha hn).mono ?_; rintro e w' ⟨rfl, rfl⟩)
    go_ret
    exact ⟨ret_int H.out.symm, rfl⟩
  | true =>
    obtain ⟨hp, h6, m, rfl, hm⟩ := inputs_nat hi ha.lenI
    have hl := Lib.hid ha.lenI
    have H := Lib.hid (show matchV zs (m : Int) = (mat zs m zs.length 63 : Int) by rw [matchV, if_pos hi, Int.toNat_natCast])
    have C := Lib.hid (implMatching A n c zs m hp hm n 0 63 w (by omega) (by omega) ha)
    go_enter Try.func26, Try.ntmps26
    go_wp2_with (first | (go_at_call 43; refine (implInputs A n c zs _ _ ha hn).mono ?_; rintro e w' ⟨rfl, rfl⟩) | (go_at_call 46; refine C.out.mono ?_; rintro e w' ⟨rfl, rfl⟩))
    go_ret
    exact ⟨ret_int (by rw [H.out, hl.out]), rfl⟩

set_option maxHeartbeats 2000000 in
theorem specTightSet (A : Option Addr) (n c : Nat) (zs : List Int) (s : Int) (w : World) (ha : RdI w A n zs) (hn : n ≤ 1048576) :
    Calls Try.prog 29 #[.slice A n c, .int .i64 s] w fun e w' => e = .returned (.int .i64 (tightV zs s)) ∧ w = w' := by
  cases hi : inputsOk zs s with
  | false =>
    have H := Lib.hid (show tightV zs s = 0 by rw [tightV, if_neg (by simp [hi])])
    go_enter Try.func29, Try.ntmps29
    go_wp2_with (go_at_call 41; refine (specInputs A n c zs s _ ha hn).mono ?_; rintro e w' ⟨rfl, rfl⟩)
    go_ret
    exact ⟨ret_int H.out.symm, rfl⟩
  | true =>
    obtain ⟨hp, h6, m, rfl, hm⟩ := inputs_nat hi ha.lenI
    have H := Lib.hid (show tightV zs (m : Int) = (tight zs m : Int) by rw [tightV, if_pos hi, Int.toNat_natCast])
    have HP := Lib.hid hp
    have C1 := Lib.hid (fun (k : Nat) (hk : k < 64) => specJoined A n c zs k w ha hp hk)
    go_enter Try.func29, Try.ntmps29
    go_wp2_with (go_at_call 41; refine (specInputs A n c zs _ _ ha hn).mono ?_; rintro e w' ⟨rfl, rfl⟩)
    go_loop [5] (fun i => ∃ k : Nat, 1 ≤ k ∧ k ≤ m + 1 ∧ i = .int .i64 k ∧ NoTight zs m k) (fun i => m + 1 - (intOf i).toNat)
    case atStart => exact ⟨1, by omega, by omega, rfl, NoTight.one _ _⟩
    case round =>
      obtain ⟨k, hk1, hk2, rfl, hno⟩ := hrel
      have HNO := Lib.hid hno
      clear hno hp
      by_cases hkm : k ≤ m
      · have hj := joined_lt HP.out k
        cases hs : isSub k m with
        | false =>
          have hs1 : (bits .andNot .i64 (k : Int) (m : Int) == 0) = false := hs
          have H2 := Lib.hid (HNO.out.succ (show tightP zs m k = false by rw [tightP, hs]; rfl))
          clear hs
          go_wp2
          go_round
          case rel => exact ⟨k + 1, by omega, by omega, by go_num, H2.out⟩
          case measure => simp [intOf]; omega
        | true =>
          have hs1 : (bits .andNot .i64 (k : Int) (m : Int) == 0) = true := hs
          by_cases hlt : pop (joined zs k) < pop k
          · have H2 := Lib.hid (tight_hit HNO.out hk1 hkm (show tightP zs m k = true by rw [tightP, hs]; simpa using hlt))
            clear hs
            go_wp2_with (first | (go_at_call 42; refine (C1.out k (by omega)).mono ?_; rintro e w' ⟨rfl, rfl⟩) | (go_at_call 45; refine (specOnes _ _ (by omega)).mono ?_; rintro e w' ⟨rfl, rfl⟩))
            go_ret
            exact ⟨ret_int (by rw [H.out, H2.out]), rfl⟩
          · have H2 := Lib.hid (HNO.out.succ (show tightP zs m k = false by rw [tightP, hs]; simpa using hlt))
            clear hs
            go_wp2_with (first | (go_at_call 42; refine (C1.out k (by omega)).mono ?_; rintro e w' ⟨rfl, rfl⟩) | (go_at_call 45; refine (specOnes _ _ (by omega)).mono ?_; rintro e w' ⟨rfl, rfl⟩))
            go_round
            case rel => exact ⟨k + 1, by omega, by omega, by go_num, H2.out⟩
            case measure => simp [intOf]; omega
      · have H2 := Lib.hid (tight_none HNO.out (by omega))
        go_wp2
        go_ret
        exact ⟨ret_int (by rw [H.out, H2.out]; rfl), rfl⟩

set_option maxHeartbeats 2000000 in
theorem implTightSet (A : Option Addr) (n c : Nat) (zs : List Int) (s : Int) (w : World) (ha : RdI w A n zs) (hn : n ≤ 1048576) :
    Calls Try.prog 30 #[.slice A n c, .int .i64 s] w fun e w' => e = .returned (.int .i64 (tightV zs s)) ∧ w = w' := by
  cases hi : inputsOk zs s with
  | false =>
    have H := Lib.hid (show tightV zs s = 0 by rw [tightV, if_neg (by simp [hi])])
    go_enter Try.func30, Try.ntmps30
    go_wp2_with (go_at_call 43; refine (implInputs A n c zs s _ ha hn).mono ?_; rintro e w' ⟨rfl, rfl⟩)
    go_ret
    exact ⟨ret_int H.out.symm, rfl⟩
  | true =>
    obtain ⟨hp, h6, m, rfl, hm⟩ := inputs_nat hi ha.lenI
    have H := Lib.hid (show tightV zs (m : Int) = (tight zs m : Int) by rw [tightV, if_pos hi, Int.toNat_natCast])
    have HP := Lib.hid hp
    have C1 := Lib.hid (fun (k : Nat) (hk : k < 64) => implJoined A n c zs k w ha hp hk)
    go_enter Try.func30, Try.ntmps30
    go_wp2_with (go_at_call 43; refine (implInputs A n c zs _ _ ha hn).mono ?_; rintro e w' ⟨rfl, rfl⟩)
    go_loop [5] (fun i => ∃ k : Nat, 1 ≤ k ∧ k ≤ m + 1 ∧ i = .int .i64 k ∧ NoTight zs m k) (fun i => m + 1 - (intOf i).toNat)
    case atStart => exact ⟨1, by omega, by omega, rfl, NoTight.one _ _⟩
    case round =>
      obtain ⟨k, hk1, hk2, rfl, hno⟩ := hrel
      have HNO := Lib.hid hno
      clear hno hp
      by_cases hkm : k ≤ m
      · have hj := joined_lt HP.out k
        cases hs : isSub k m with
        | false =>
          have hs1 : (bits .andNot .i64 (k : Int) (m : Int) == 0) = false := hs
          have H2 := Lib.hid (HNO.out.succ (show tightP zs m k = false by rw [tightP, hs]; rfl))
          clear hs
          go_wp2
          go_round
          case rel => exact ⟨k + 1, by omega, by omega, by go_num, H2.out⟩
          case measure => simp [intOf]; omega
        | true =>
          have hs1 : (bits .andNot .i64 (k : Int) (m : Int) == 0) = true := hs
          by_cases hlt : pop (joined zs k) < pop k
          · have H2 := Lib.hid (tight_hit HNO.out hk1 hkm (show tightP zs m k = true by rw [tightP, hs]; simpa using hlt))
            clear hs
            go_wp2_with (first | (go_at_call 44; refine (C1.out k (by omega)).mono ?_; rintro e w' ⟨rfl, rfl⟩) | (go_at_call 50; refine (implOnes _ _ (by omega)).mono ?_; rintro e w' ⟨rfl, rfl⟩))
            go_ret
            exact ⟨ret_int (by rw [H.out, H2.out]), rfl⟩
          · have H2 := Lib.hid (HNO.out.succ (show tightP zs m k = false by rw [tightP, hs]; simpa using hlt))
            clear hs
            go_wp2_with (first | (go_at_call 44; refine (C1.out k (by omega)).mono ?_; rintro e w' ⟨rfl, rfl⟩) | (go_at_call 50; refine (implOnes _ _ (by omega)).mono ?_; rintro e w' ⟨rfl, rfl⟩))
            go_round
            case rel => exact ⟨k + 1, by omega, by omega, by go_num, H2.out⟩
            case measure => simp [intOf]; omega
      · have H2 := Lib.hid (tight_none HNO.out (by omega))
        go_wp2
        go_ret
        exact ⟨ret_int (by rw [H.out, H2.out]; rfl), rfl⟩

end Go.Proofs.Ythaggobbcgjfkaa
