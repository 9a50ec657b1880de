/- Chapter 12: spec.l04All. -/
import Derived.Test.YtobdkfhmmpigiaaC12d
namespace Go.Proofs.Ytobdkfhmmpigiaa
open Go.RowKit Go.Deep
set_option linter.unusedVariables false
attribute [local go_sem] bits_and_one

theorem boolInfo : (Try.prog.info? 4).map (fun i => (i.zero, i.size, i.bytes)) = some (some (.bool false), 1, 1) := by kernel_rfl
def flV (N : Nat) (P : Nat → Bool) : List Value := (List.range N).map fun j => Value.bool (P j)
theorem flV_get {N : Nat} {P : Nat → Bool} {j : Nat} (h : j < N) : (flV N P)[j]? = some (.bool (P j)) := by
  simp [flV, h]
theorem flV_zero (N : Nat) : List.replicate N (Value.bool false) = flV N fun _ => false := by
  apply List.ext_getElem?
  intro j
  by_cases hj : j < N
  · rw [flV_get hj]; simp [hj]
  · simp [flV, hj]
theorem flV_set {N : Nat} {P : Nat → Bool} {z : Nat} (hn : z < N) : (flV N P).set z (.bool true) = flV N fun j => P j || j == z := by
  apply List.ext_getElem?
  intro j
  rw [List.getElem?_set]
  by_cases hj : j < N
  · rw [flV_get hj, flV_get hj]
    by_cases e : z = j
    · subst e; simp [flV, hn]
    · have h2 : (j == z) = false := by simp; omega
      simp [e, h2]
  · have h1 : (flV N P).length ≤ j := by simp [flV]; omega
    have h2 : (flV N fun j => P j || j == z).length ≤ j := by simp [flV]; omega
    rw [List.getElem?_eq_none h1, List.getElem?_eq_none h2]
    have : z ≠ j := by omega
    simp [this]
attribute [irreducible] flV
/-- The masks that the first k of a set lead to. -/
def img (zss : List (List Int)) (n : Nat) (set : List Int) : Nat → Nat → Bool
  | 0 => fun _ => false
  | k + 1 => fun j => img zss n set k j || j == bsTo zss (nth set k).toNat n
def allV (zss : List (List Int)) (n : Nat) (set : List Int) (N : Nat) : List Int := selL (img zss n set set.length) N
def MaskR (N m : Nat) (set : List Int) : Prop := ∀ k, k < m → ∃ s : Nat, nth set k = s ∧ s < N

set_option maxHeartbeats 4000000 in
theorem specAll (W n m : Nat) (A B : Option Addr) (c d : Nat) (zss : List (List Int)) (set : List Int) (w : World) (hR : PairR W n zss) (ha : RdM w A n zss) (hb : RdI w B m set) (hS : MaskR (2 ^ W) m set) (h4 : W ≤ 4) (hn : n ≤ 60) (hm : m ≤ 1048576) :
    Calls Try.prog 17 #[.int .i64 W, .slice A n c, .slice B m d] w fun e w' => ∃ A' m' c', e = .returned (.slice A' m' c') ∧ OwnI w' w.heap.size 3 A' m' c' (allV zss n set (2 ^ W)) ∧ Below w.heap.size w w' := by
  have HL := Lib.hid hb.lenI
  have HA := Lib.hid ha
  have HB := Lib.hid hb
  have CA := Lib.hid (fun (s : Nat) (w1 : World) (hbl : Below w.heap.size w w1) (hs : s < 2 ^ W) => specApply W n A c s zss w1 hR (HA.out.below hbl) h4 hs hn)
  have HZ := Lib.hid (fun (s : Nat) (hs : s < 2 ^ W) => bsTo_lt hR h4 hs n (Nat.le_refl _))
  have HS := Lib.hid hS
  clear ha hb hR hS
  obtain ⟨N, hN⟩ : ∃ N, 2 ^ W = N := ⟨_, rfl⟩
  have hw := wrap_pow W (by omega)
  have hN16 : N ≤ 16 := by rw [← hN]; exact Nat.pow_le_pow_right (n := 2) (by omega) h4
  rw [hN] at hw CA HZ HS ⊢
  clear hN
  go_enter Try.func17, Try.ntmps17
  go_wp2_with (at_make; refine wpL_make _ rfl _ _ 47 rfl 4 (.bool false) 1 Try.underlying47 boolInfo rfl _ _ _ _ N rfl rfl (by simp [go_sem, hw]) (by simp [go_sem, hw]) (by omega) (by unfold maxLen; omega) ?_)
  intro w1 hown hbl0 hsz0
  rw [flV_zero N] at hown
  go_wp2_with fail
  go_loopw [18] (fun i wr => ∃ k : Nat, ∃ P, k ≤ m ∧ i = .int .i64 k ∧ Own wr w.heap.size 4 (some ⟨w.heap.size, 0, none⟩) N N (flV N P) ∧ Below w.heap.size w wr ∧ Hid (img zss n set k = P)) (fun i _ => m - (intOf i).toNat)
  case atStart => exact ⟨0, _, Nat.zero_le _, rfl, hown, hbl0, Lib.hid rfl⟩
  case round =>
    clear hown hbl0 hsz0
    obtain ⟨k, P, hk, rfl, hown, hbl, HP⟩ := hrel
    by_cases hlt : k < m
    · obtain ⟨b1, rfl, _, l1⟩ := (HB.out.below hbl).at_ hlt
      obtain ⟨s, hs, hsN⟩ := HS.out k hlt
      rw [hs] at l1
      have hz := HZ.out s hsN
      obtain ⟨z, hze⟩ : ∃ z, bsTo zss s n = z := ⟨_, rfl⟩
      rw [hze] at hz
      have HN := Lib.hid (show img zss n set (k + 1) = fun j => P j || j == z by
        show (fun j => img zss n set k j || j == bsTo zss (nth set k).toNat n) = _
        rw [HP.out, hs, Int.toNat_natCast, hze])
      have HE := Lib.hid hze
      have HSN := Lib.hid hsN
      clear hs hze hsN
      go_wp2_with fail
      refine (CA.out s _ hbl HSN.out).mono ?_
      rintro e w2 ⟨rfl, hb2⟩
      rw [HE.out]
      have hown2 := hown.below hb2
      obtain ⟨g, u, hgA, _, _, _, h2, h3⟩ := hown2.at_ hz
      injection hgA with hgA
      injection hgA with hgA
      subst hgA
      have hown3 := hown2.set_ (Value.bool true) hz
      rw [flV_set hz] at hown3
      have hb3 := (hbl.trans (hb2.mono hbl.size)).setCell (p := ⟨w.heap.size, z, none⟩) (Nat.le_refl _) (.bool true)
      clear hown hown2 hbl
      go_wp2_with fail
      go_roundw
      case rel => exact ⟨k + 1, _, by omega, by go_num, hown3, hb3, HN⟩
      case measure => (simp [intOf] <;> omega)
    · obtain rfl : k = m := by omega
      obtain ⟨wo, hwo⟩ : ∃ x, x = wr := ⟨_, rfl⟩
      subst hwo
      have HF := Lib.hid (show allV zss n set N = selL P N by unfold allV; rw [HL.out, HP.out])
      have hsz := hbl.size
      have hgb : w.heap.size < wo.heap.size := (hown.blk_ w.heap.size rfl).2
      go_wp2_with fail
      go_loopw [10, 31] (fun lv iv w2 => ∃ j k : Nat, ∃ A c, lv = .slice A k c ∧ iv = .int .i64 j ∧ j ≤ N ∧ OwnI w2 wo.heap.size 3 A k c (selL P j) ∧ Below wo.heap.size wo w2) (fun _ iv _ => N - (intOf iv).toNat)
      case atStart => exact ⟨0, 0, _, _, rfl, rfl, Nat.zero_le _, own_empty wo _, below_alloc wo _⟩
      case round =>
        obtain ⟨j, k2, A2, c2, rfl, rfl, hj, ho, hb⟩ := hrel
        have hs2 := hb.size
        have hk2 := selL_le P j
        rw [ho.lenI] at hk2
        by_cases hlt2 : j < N
        · obtain ⟨g, u, hgA, _, _, hu, h2, h3⟩ := (hown.below hb).at_ hlt2
          injection hgA with hgA
          injection hgA with hgA
          subst hgA
          rw [flV_get hlt2] at hu
          injection hu with hu
          subst hu
          cases hp : P j with
          | true =>
            rw [hp] at h2
            have H := Lib.hid (selL_on hp)
            clear hp
            go_wp2_with (at_builtin; refine wpL_append1 _ rfl _ _ _ rfl wo.heap.size 3 (.int .i64 0) 8 Try.underlying28 intInfo rfl _ k2 _ _ rfl ho _ rfl rfl (by unfold maxLen; omega) (by omega) hs2 ?_)
            intro A6 c6 w6 ho6 hg6 hat6
            have hb6 := own_below ho hb hs2 hg6
            go_wp2_with fail
            go_roundw
            case rel => exact ⟨j + 1, k2 + 1, A6, c6, rfl, by go_num, by omega, by rw [OwnI, H.out]; simpa using ho6, hb6⟩
            case measure => (simp [intOf] <;> omega)
          | false =>
            rw [hp] at h2
            have H := Lib.hid (selL_off hp)
            clear hp
            go_wp2_with fail
            go_roundw
            case rel => exact ⟨j + 1, k2, A2, c2, rfl, by go_num, by omega, by rw [H.out]; exact ho, hb⟩
            case measure => (simp [intOf] <;> omega)
        · obtain rfl : j = N := by omega
          go_wp2_with fail
          go_ret
          exact ⟨A2, k2, c2, rfl, by rw [HF.out]; exact ho.more hsz, hbl.trans (hb.mono hsz)⟩
end Go.Proofs.Ytobdkfhmmpigiaa
