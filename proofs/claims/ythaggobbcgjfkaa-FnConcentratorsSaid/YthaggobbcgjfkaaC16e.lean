/- Chapter 16: matchings: plain functions, and what the reference's and the program's recursions compute. -/
import Derived.Test.YthaggobbcgjfkaaC16d
namespace Go.Proofs.Ythaggobbcgjfkaa
open Go.RowKit Go.Deep
set_option linter.unusedVariables false
attribute [local go_sem] bits_and_one

theorem bitAt_testBit (s k : Nat) : bitAt s k = s.testBit k := by
  rw [bitAt, Nat.testBit_eq_decide_div_mod_eq]
  by_cases h : s / 2 ^ k % 2 = 1 <;> simp [h]
theorem bitAt_and (a b k : Nat) : bitAt (a &&& b) k = (bitAt a k && bitAt b k) := by simp [bitAt_testBit]
theorem used_fact : ∀ u, u < 64 → ∀ k, k < 6 → bitAt (63 - u) k = !bitAt u k := by decide +kernel
theorem used_add : ∀ u, u < 64 → ∀ k, k < 6 → bitAt u k = false → u + 2 ^ k < 64 ∧ 63 - (u + 2 ^ k) = clr (63 - u) k := by decide +kernel

/-- The best of 'best' and of 1 + sub(left without k) for the first k of the outputs of p that are left. -/
def matStep (p left : Nat) (sub : Nat → Nat) (best : Nat) : Nat → Nat
  | 0 => best
  | k + 1 => if bitAt (p &&& left) k = true then max (matStep p left sub best k) (1 + sub (clr left k)) else matStep p left sub best k
/-- The greatest number of inputs of a set among the last m ones that can be led to outputs that are left. -/
def mat (zs : List Int) (s : Nat) : Nat → Nat → Nat
  | 0, _ => 0
  | m + 1, left => if bitAt s (zs.length - (m + 1)) = true then matStep (nth zs (zs.length - (m + 1))).toNat left (mat zs s m) (mat zs s m left) 6 else mat zs s m left
theorem matStep_le {p left best b : Nat} {sub : Nat → Nat} (h1 : best ≤ b) (h2 : ∀ l, 1 + sub l ≤ b) (k : Nat) : matStep p left sub best k ≤ b := by
  induction k with
  | zero => exact h1
  | succ k ih =>
    unfold matStep
    split
    · exact Nat.max_le.2 ⟨ih, h2 _⟩
    · exact ih
theorem mat_le (zs : List Int) (s m : Nat) : ∀ l, mat zs s m l ≤ m := by
  induction m with
  | zero => intro l; exact Nat.le_refl _
  | succ m ih =>
    intro l
    unfold mat
    split
    · exact matStep_le (Nat.le_succ_of_le (ih l)) (fun l => by have := ih l; omega) 6
    · exact Nat.le_succ_of_le (ih l)

theorem mat_zero (zs : List Int) (s l : Nat) : mat zs s 0 l = 0 := rfl
theorem mat_off {zs : List Int} {s m a : Nat} (l : Nat) (h : zs.length - (m + 1) = a) (hb : bitAt s a = false) : mat zs s (m + 1) l = mat zs s m l := by
  rw [mat, h, if_neg (by simp [hb])]
theorem mat_on {zs : List Int} {s m a p : Nat} (l : Nat) (h : zs.length - (m + 1) = a) (hb : bitAt s a = true) (hp : nth zs a = p) : mat zs s (m + 1) l = matStep p l (mat zs s m) (mat zs s m l) 6 := by
  rw [mat, h, if_pos hb, hp, Int.toNat_natCast]
theorem step_zero (p l best : Nat) (sub : Nat → Nat) : matStep p l sub best 0 = best := rfl
theorem step_on {p l best k : Nat} (sub : Nat → Nat) (hb : bitAt (p &&& l) k = true) : matStep p l sub best (k + 1) = max (matStep p l sub best k) (1 + sub (clr l k)) := by rw [matStep, if_pos hb]
theorem step_off {p l best k : Nat} (sub : Nat → Nat) (hb : bitAt (p &&& l) k = false) : matStep p l sub best (k + 1) = matStep p l sub best k := by rw [matStep, if_neg (by simp [hb])]
attribute [irreducible] mat matStep

set_option maxHeartbeats 2000000 in
theorem implMatching (A : Option Addr) (n c : Nat) (zs : List Int) (s : Nat) (hp : planOk zs = true) (hs : s < 64) : ∀ (m a l : Nat) (w : World), a + m = n → l < 64 → RdI w A n zs →
    Calls Try.prog 46 #[.slice A n c, .int .i64 s, .int .i64 a, .int .i64 l] w fun e w' => e = .returned (.int .i64 (mat zs s m l)) ∧ w = w' := by
  intro m
  induction m with
  | zero =>
    intro a l w ham hlt ha
    have hn : n ≤ 6 := by have := (planOk_out hp).2.1; have := ha.lenI; omega
    obtain rfl : a = n := by omega
    clear hp
    go_enter Try.func46, Try.ntmps46
    go_wp2_with fail
    go_ret
    exact ⟨ret_int (by rw [mat_zero]; rfl), rfl⟩
  | succ m ih =>
    intro a l w ham hlt ha
    have hpo := planOk_out hp
    have hl := Lib.hid ha.lenI
    have hn : n ≤ 6 := by have := hl.out; omega
    have HP := Lib.hid hpo.2.2
    have hac : ((a : Int) == (n : Int)) = false := by simp; omega
    have han : a < n := by omega
    have hidx := Lib.hid (show zs.length - (m + 1) = a by have := hl.out; omega)
    have IH := Lib.hid (fun (l : Nat) (hl : l < 64) => ih (a + 1) l w (by omega) hl ha)
    have HA := Lib.hid ha
    have HM := Lib.hid (mat_le zs s m)
    have hm6 : m < 6 := by omega
    have HAM := Lib.hid ham
    clear hpo hp ih ham
    cases hsb : bitAt s a with
    | false =>
      have hb0 := (bit_off hsb).2
      have H := Lib.hid (mat_off l hidx.out hsb)
      clear hsb
      go_enter Try.func46, Try.ntmps46
      go_wp2_with (go_at_call 46; refine (IH.out l hlt).mono ?_; rintro e w' ⟨rfl, rfl⟩)
      go_ret
      exact ⟨ret_int (by rw [H.out]), rfl⟩
    | true =>
      have hb0 := (bit_on hsb).2
      obtain ⟨a1, rfl, _, h1⟩ := HA.out.at_ han
      have hz := HP.out a (by have := hl.out; omega)
      obtain ⟨p, hpz⟩ := Int.eq_ofNat_of_zero_le hz.1
      have hp64 : p < 64 := by omega
      rw [hpz] at h1
      have HPZ := Lib.hid hpz
      clear hpz hz
      have hm0 := HM.out l
      have H := Lib.hid (mat_on l hidx.out hsb HPZ.out)
      clear hsb
      go_enter Try.func46, Try.ntmps46
      go_wp2_with (go_at_call 46; refine (IH.out l hlt).mono ?_; rintro e w' ⟨rfl, rfl⟩)
      go_loop [9, 27] (fun v i => ∃ k : Nat, k ≤ 6 ∧ i = .int .i64 k ∧ v = .int .i64 (matStep p l (mat zs s m) (mat zs s m l) k)) (fun _ i => 6 - (intOf i).toNat)
      case atStart => exact ⟨0, by omega, rfl, int_eq (by rw [step_zero])⟩
      case round =>
        obtain ⟨k, hk, rfl, rfl⟩ := hrel
        have hbest := matStep_le (p := p) (left := l) (sub := mat zs s m) (best := mat zs s m l) (b := 7) (by omega) (fun l => by have := HM.out l; omega) k
        by_cases hk6 : k < 6
        · have hand := bits_and_small (a := (p : Int)) (b := (l : Int)) (by omega) (by omega) (by omega) (by omega)
          rw [Int.toNat_natCast, Int.toNat_natCast] at hand
          cases hb : bitAt (p &&& l) k with
          | true =>
            have hb1 := (bit_on hb).1
            have hcl := clr_spec hlt hk6
            have hsub := HM.out (clr l k)
            have hc64 := Nat.lt_of_le_of_lt (clr_le l k) hlt
            have H2 := Lib.hid (step_on (best := mat zs s m l) (mat zs s m) hb)
            clear hb
            go_wp2_with (go_at_call 46; refine (IH.out _ hc64).mono ?_; rintro e w' ⟨rfl, rfl⟩)
            go_round
            case rel => exact ⟨k + 1, by omega, by go_num, int_eq (by rw [H2.out]; omega)⟩
            case measure => simp [intOf]; omega
          | false =>
            have hb1 := (bit_off hb).1
            have H2 := Lib.hid (step_off (best := mat zs s m l) (mat zs s m) hb)
            clear hb
            go_wp2
            go_round
            case rel => exact ⟨k + 1, by omega, by go_num, int_eq (by rw [H2.out])⟩
            case measure => simp [intOf]; omega
        · have hk6' : k = 6 := by omega
          subst hk6'
          go_wp2
          go_ret
          exact ⟨ret_int (by rw [H.out]), rfl⟩

set_option maxHeartbeats 2000000 in
theorem specMost (A : Option Addr) (n c : Nat) (zs : List Int) (s : Nat) (hp : planOk zs = true) (hs : s < 64) : ∀ (m a u : Nat) (w : World), a + m = n → u < 64 → RdI w A n zs →
    Calls Try.prog 47 #[.slice A n c, .int .i64 s, .int .i64 a, .int .i64 u] w fun e w' => e = .returned (.int .i64 (mat zs s m (63 - u))) ∧ w = w' := by
  intro m
  induction m with
  | zero =>
    intro a u w ham hlt ha
    have hn : n ≤ 6 := by have := (planOk_out hp).2.1; have := ha.lenI; omega
    obtain rfl : a = n := by omega
    clear hp
    go_enter Try.func47, Try.ntmps47
    go_wp2_with fail
    go_ret
    exact ⟨ret_int (by rw [mat_zero]; rfl), rfl⟩
  | succ m ih =>
    intro a u w ham hlt ha
    have hpo := planOk_out hp
    have hl := Lib.hid ha.lenI
    have hn : n ≤ 6 := by have := hl.out; omega
    have HP := Lib.hid hpo.2.2
    have hac : ((a : Int) == (n : Int)) = false := by simp; omega
    have han : a < n := by omega
    have hidx := Lib.hid (show zs.length - (m + 1) = a by have := hl.out; omega)
    have IH := Lib.hid (fun (l : Nat) (hl : l < 64) => ih (a + 1) l w (by omega) hl ha)
    have HA := Lib.hid ha
    have HM := Lib.hid (mat_le zs s m)
    have hm6 : m < 6 := by omega
    have HAM := Lib.hid ham
    clear hpo hp ih ham
    cases hsb : bitAt s a with
    | false =>
      have hb0 := (bit_off hsb).2
      have H := Lib.hid (mat_off (63 - u) hidx.out hsb)
      clear hsb
      go_enter Try.func47, Try.ntmps47
      go_wp2_with (go_at_call 47; refine (IH.out u hlt).mono ?_; rintro e w' ⟨rfl, rfl⟩)
      go_ret
      exact ⟨ret_int (by rw [H.out]), rfl⟩
    | true =>
      have hb0 := (bit_on hsb).2
      obtain ⟨a1, rfl, _, h1⟩ := HA.out.at_ han
      have hz := HP.out a (by have := hl.out; omega)
      obtain ⟨p, hpz⟩ := Int.eq_ofNat_of_zero_le hz.1
      have hp64 : p < 64 := by omega
      rw [hpz] at h1
      have HPZ := Lib.hid hpz
      clear hpz hz
      have hm0 := HM.out (63 - u)
      have H := Lib.hid (mat_on (63 - u) hidx.out hsb HPZ.out)
      clear hsb
      go_enter Try.func47, Try.ntmps47
      go_wp2_with (go_at_call 47; refine (IH.out u hlt).mono ?_; rintro e w' ⟨rfl, rfl⟩)
      go_loop [9, 10] (fun v i => ∃ k : Nat, k ≤ 6 ∧ i = .int .i64 k ∧ v = .int .i64 (matStep p (63 - u) (mat zs s m) (mat zs s m (63 - u)) k)) (fun _ i => 6 - (intOf i).toNat)
      case atStart => exact ⟨0, by omega, rfl, int_eq (by rw [step_zero])⟩
      case round =>
        obtain ⟨k, hk, rfl, rfl⟩ := hrel
        have hbest := matStep_le (p := p) (left := (63 - u)) (sub := mat zs s m) (best := mat zs s m (63 - u)) (b := 7) (by omega) (fun l => by have := HM.out l; omega) k
        by_cases hk6 : k < 6
        · have hua := used_add u hlt k hk6
          have huf := Lib.hid (used_fact u hlt k hk6)
          cases hb : bitAt p k with
          | true =>
            have hb1 := (bit_on hb).1
            cases hb2 : bitAt u k with
            | false =>
              have hb3 := (bit_off hb2).2
              have hu2 := hua hb2
              obtain ⟨v, hv⟩ : ∃ v, u + 2 ^ k = v := ⟨_, rfl⟩
              rw [hv] at hu2
              have hc64 := hu2.1
              have hwu : wrap64 ((u : Int) + wrap64 (2 ^ k)) = (v : Int) := by
                rw [wrap_pow k (by omega)]
                generalize 2 ^ k = q at hv
                exact (IntWalk.wrap64_in _ (by omega)).trans (by omega)
              have hsub := HM.out (63 - v)
              have H2 := Lib.hid (show matStep p (63 - u) (mat zs s m) (mat zs s m (63 - u)) (k + 1) = max (matStep p (63 - u) (mat zs s m) (mat zs s m (63 - u)) k) (1 + mat zs s m (63 - v)) by rw [step_on _ (show bitAt (p &&& (63 - u)) k = true by rw [bitAt_and, hb, huf.out, hb2]; rfl), hu2.2])
              clear hb hb2 hua hu2 hv
              go_wp2_with (go_at_call 47; refine (IH.out _ hc64).mono ?_; rintro e w' ⟨rfl, rfl⟩)
              go_round
              case rel => exact ⟨k + 1, by omega, by go_num, int_eq (by rw [H2.out]; omega)⟩
              case measure => simp [intOf]; omega
            | true =>
              have hb3 := (bit_on hb2).2
              have H2 := Lib.hid (step_off (best := mat zs s m (63 - u)) (mat zs s m) (show bitAt (p &&& (63 - u)) k = false by rw [bitAt_and, hb, huf.out, hb2]; rfl))
              clear hb hb2 hua
              go_wp2
              go_round
              case rel => exact ⟨k + 1, by omega, by go_num, int_eq (by rw [H2.out])⟩
              case measure => simp [intOf]; omega
          | false =>
            have hb1 := (bit_off hb).1
            have H2 := Lib.hid (step_off (best := mat zs s m (63 - u)) (mat zs s m) (show bitAt (p &&& (63 - u)) k = false by rw [bitAt_and, hb]; rfl))
            clear hb hua
            go_wp2
            go_round
            case rel => exact ⟨k + 1, by omega, by go_num, int_eq (by rw [H2.out])⟩
            case measure => simp [intOf]; omega
        · have hk6' : k = 6 := by omega
          subst hk6'
          go_wp2
          go_ret
          exact ⟨ret_int (by rw [H.out]), rfl⟩

end Go.Proofs.Ythaggobbcgjfkaa
