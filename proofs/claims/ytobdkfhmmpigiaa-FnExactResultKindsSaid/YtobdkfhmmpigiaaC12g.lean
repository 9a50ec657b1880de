/- Chapter 12: spec.l04Rename. -/
import Derived.Test.YtobdkfhmmpigiaaC12f
namespace Go.Proofs.Ytobdkfhmmpigiaa
open Go.RowKit Go.Deep
set_option linter.unusedVariables false
attribute [local go_sem] bits_and_one

/-- A mask with other wires, up to wire k. -/
def renM (names : List Int) (s : Nat) : Nat → Nat
  | 0 => 0
  | k + 1 => renM names s k + if bitAt s k = true then 2 ^ (nth names k).toNat else 0
theorem renM_zero (names : List Int) (s : Nat) : renM names s 0 = 0 := rfl
theorem renM_on {names : List Int} {s k q x : Nat} (h : bitAt s k = true) (hq : nth names k = q) (hx : renM names s k = x) : renM names s (k + 1) = x + 2 ^ q := by
  rw [renM, if_pos h, hq, hx]; rfl
theorem renM_off {names : List Int} {s k x : Nat} (h : bitAt s k = false) (hx : renM names s k = x) : renM names s (k + 1) = x := by
  rw [renM, if_neg (by rw [h]; simp), hx]; rfl
/-- The masks that the first k of a set become. -/
def imgR (names : List Int) (n : Nat) (set : List Int) : Nat → Nat → Bool
  | 0 => fun _ => false
  | k + 1 => fun j => imgR names n set k j || j == renM names (nth set k).toNat n
def renV (names : List Int) (n : Nat) (set : List Int) (N : Nat) : List Int := selL (imgR names n set set.length) N
theorem grow8 {x p j n : Nat} (h1 : x ≤ 8 * j) (h2 : p ≤ 8) (h3 : j < n) (h4 : n ≤ 4) : x ≤ 32 ∧ x + p ≤ 8 * (j + 1) ∧ x ≤ 8 * (j + 1) ∧ j + 1 ≤ n := by omega
theorem add_fact2 {x p : Nat} (h1 : x ≤ 32) (h2 : p ≤ 8) : wrap64 ((x : Int) + (p : Int)) = ((x + p : Nat) : Int) := by rw [IntWalk.wrap64_in _ (by omega)]; rfl
theorem less1 {j n : Nat} (h3 : j < n) : n - (j + 1) < n - j := by omega
attribute [irreducible] renM

set_option maxHeartbeats 4000000 in
theorem specRename (W n m : Nat) (A B : Option Addr) (c d : Nat) (names set : List Int) (w : World) (ha : RdI w A n names) (hb : RdI w B m set) (hS : MaskR (2 ^ W) m set) (hP : MaskR 4 n names) (hT : ∀ s, s < 2 ^ W → renM names s n < 2 ^ W) (h4 : W ≤ 4) (hn : n ≤ 4) (hm : m ≤ 1048576) :
    Calls Try.prog 23 #[.int .i64 W, .slice B m d, .slice A n c] w fun e w' => ∃ A' m' c', e = .returned (.slice A' m' c') ∧ OwnI w' w.heap.size 3 A' m' c' (renV names n set (2 ^ W)) ∧ Below w.heap.size w w' := by
  have HL := Lib.hid hb.lenI
  have HA := Lib.hid ha
  have HB := Lib.hid hb
  have HS := Lib.hid hS
  have HPM := Lib.hid hP
  have HT := Lib.hid hT
  clear ha hb hS hP hT
  obtain ⟨N, hN⟩ : ∃ N, 2 ^ W = N := ⟨_, rfl⟩
  have hw := wrap_pow W (by omega)
  have hN16 : N ≤ 16 := by rw [← hN]; exact Nat.pow_le_pow_right (n := 2) (by omega) h4
  rw [hN] at hw HS HT ⊢
  clear hN
  go_enter Try.func23, Try.ntmps23
  go_wp2_with (at_make; refine wpL_make _ rfl _ _ 47 rfl 4 (.bool false) 1 Try.underlying47 boolInfo rfl _ _ _ _ N rfl rfl (by simp [go_sem, hw]) (by simp [go_sem, hw]) (by omega) (by unfold maxLen; omega) ?_)
  intro w1 hown hbl0 hsz0
  rw [flV_zero N] at hown
  go_wp2_with fail
  go_loopw [21] (fun i wr => ∃ k : Nat, ∃ P, k ≤ m ∧ i = .int .i64 k ∧ Own wr w.heap.size 4 (some ⟨w.heap.size, 0, none⟩) N N (flV N P) ∧ Below w.heap.size w wr ∧ Hid (imgR names n set k = P)) (fun i _ => m - (intOf i).toNat)
  case atStart => exact ⟨0, _, Nat.zero_le _, rfl, hown, hbl0, Lib.hid rfl⟩
  case round =>
    clear hown hbl0 hsz0
    obtain ⟨k, P, hk, rfl, hown, hbl, HP⟩ := hrel
    obtain ⟨wo, hwo⟩ : ∃ x, x = wr := ⟨_, rfl⟩
    subst hwo
    by_cases hlt : k < m
    · obtain ⟨b1, rfl, _, l1⟩ := (HB.out.below hbl).at_ hlt
      obtain ⟨s, hs, hsN⟩ := HS.out k hlt
      rw [hs] at l1
      have hz := HT.out s hsN
      obtain ⟨z, hze⟩ : ∃ z, renM names s n = z := ⟨_, rfl⟩
      rw [hze] at hz
      have HN := Lib.hid (show imgR names n set (k + 1) = fun j => P j || j == z by
        show (fun j => imgR names n set k j || j == renM names (nth set k).toNat n) = _
        rw [HP.out, hs, Int.toNat_natCast, hze])
      have HE := Lib.hid hze
      have HR0 := Lib.hid (renM_zero names s)
      have HAW := Lib.hid (HA.out.below hbl)
      have hs16 : s < 16 := by omega
      clear hs hze hsN
      go_wp2_with fail
      go_loopw [10, 27] (fun xv jv w2 => ∃ j x : Nat, j ≤ n ∧ jv = .int .i64 (j : Nat) ∧ xv = .int .i64 (x : Nat) ∧ x ≤ 8 * j ∧ Hid (renM names s j = x) ∧ wo = w2) (fun _ jv _ => n - (intOf jv).toNat)
      case atStart => exact ⟨0, 0, Nat.zero_le _, rfl, rfl, by omega, HR0, rfl⟩
      case round =>
        obtain ⟨j, x, hj, rfl, rfl, hx8, HX, hww⟩ := hrel
        subst hww
        by_cases hlt2 : j < n
        · obtain ⟨a1, rfl, _, l2⟩ := HAW.out.at_ hlt2
          obtain ⟨q, hq, hq4⟩ := HPM.out j hlt2
          rw [hq] at l2
          have hwq := wrap_pow q (by omega)
          have hP8 : 2 ^ q ≤ 8 := Nat.le_trans (Nat.pow_le_pow_right (n := 2) (by omega) (show q ≤ 3 by omega)) (by decide)
          obtain ⟨p, hp⟩ : ∃ p, 2 ^ q = p := ⟨_, rfl⟩
          rw [hp] at hwq hP8
          obtain ⟨hx32, hx9, hx10, hj1⟩ := grow8 hx8 hP8 hlt2 hn
          have HX8 := Lib.hid hx9
          have HX10 := Lib.hid hx10
          have hl1 := less1 hlt2
          clear hx8 hx9 hx10
          cases hb : bitAt s j with
          | true =>
            obtain ⟨f1, f2⟩ := bit_on hb
            have HNX := Lib.hid (show renM names s (j + 1) = x + p by rw [renM_on hb hq HX.out, hp])
            have hxp := add_fact2 hx32 hP8
            obtain ⟨y, hy⟩ : ∃ y, x + p = y := ⟨_, rfl⟩
            rw [hy] at hxp HX8 HNX
            clear hb hq hp hx32 hP8 hy
            go_wp2_with fail
            go_roundw
            case rel => exact ⟨j + 1, y, hj1, rfl, by rw [hxp], HX8.out, HNX, by first | trivial | rfl⟩
            case measure => simpa [intOf] using hl1
          | false =>
            obtain ⟨f1, f2⟩ := bit_off hb
            have HNX := Lib.hid (renM_off hb HX.out)
            clear hb hq hp
            go_wp2_with fail
            go_roundw
            case rel => exact ⟨j + 1, x, hj1, rfl, rfl, HX10.out, HNX, by first | trivial | rfl⟩
            case measure => simpa [intOf] using hl1
        · obtain rfl : j = n := by omega
          obtain rfl : x = z := by rw [← HX.out, HE.out]
          obtain ⟨g, u, hgA, _, _, _, h2, h3⟩ := hown.at_ hz
          injection hgA with hgA
          injection hgA with hgA
          subst hgA
          have hown3 := hown.set_ (Value.bool true) hz
          rw [flV_set hz] at hown3
          have hb3 := hbl.setCell (p := ⟨w.heap.size, x, none⟩) (Nat.le_refl _) (.bool true)
          clear hown hbl
          go_wp2_with fail
          go_roundw
          case rel => exact ⟨k + 1, _, by omega, by go_num, hown3, hb3, HN⟩
          case measure => (simp [intOf] <;> omega)
    · obtain rfl : k = m := by omega
      have HF := Lib.hid (show renV names n set N = selL P N by unfold renV; rw [HL.out, HP.out])
      have hsz := hbl.size
      go_wp2_with fail
      go_loopw [13, 49] (fun lv iv w2 => ∃ j k : Nat, ∃ A c, lv = .slice A k c ∧ iv = .int .i64 j ∧ j ≤ N ∧ OwnI w2 wo.heap.size 3 A k c (selL P j) ∧ Below wo.heap.size wo w2) (fun _ iv _ => N - (intOf iv).toNat)
      case atStart => exact ⟨0, 0, _, _, rfl, rfl, Nat.zero_le _, own_empty wo _, below_alloc wo _⟩
      case round =>
        obtain ⟨j, k2, A2, c2, rfl, rfl, hj, ho, hb⟩ := hrel
        have hs2 := hb.size
        have hk2 := selL_le P j
        rw [ho.lenI] at hk2
        by_cases hlt2 : j < N
        · obtain ⟨g, u, hgA, _, _, hu, h2, h3⟩ := (hown.below hb).at_ hlt2
          injection hgA with hgA
          injection hgA with hgA
          subst hgA
          rw [flV_get hlt2] at hu
          injection hu with hu
          subst hu
          cases hp : P j with
          | true =>
            rw [hp] at h2
            have H := Lib.hid (selL_on hp)
            clear hp
            go_wp2_with (at_builtin; refine wpL_append1 _ rfl _ _ _ rfl wo.heap.size 3 (.int .i64 0) 8 Try.underlying28 intInfo rfl _ k2 _ _ rfl ho _ rfl rfl (by unfold maxLen; omega) (by omega) hs2 ?_)
            intro A6 c6 w6 ho6 hg6 hat6
            have hb6 := own_below ho hb hs2 hg6
            go_wp2_with fail
            go_roundw
            case rel => exact ⟨j + 1, k2 + 1, A6, c6, rfl, by go_num, by omega, by rw [OwnI, H.out]; simpa using ho6, hb6⟩
            case measure => (simp [intOf] <;> omega)
          | false =>
            rw [hp] at h2
            have H := Lib.hid (selL_off hp)
            clear hp
            go_wp2_with fail
            go_roundw
            case rel => exact ⟨j + 1, k2, A2, c2, rfl, by go_num, by omega, by rw [H.out]; exact ho, hb⟩
            case measure => (simp [intOf] <;> omega)
        · obtain rfl : j = N := by omega
          go_wp2_with fail
          go_ret
          exact ⟨A2, k2, c2, rfl, by rw [HF.out]; exact ho.more hsz, hbl.trans (hb.mono hsz)⟩
end Go.Proofs.Ytobdkfhmmpigiaa
