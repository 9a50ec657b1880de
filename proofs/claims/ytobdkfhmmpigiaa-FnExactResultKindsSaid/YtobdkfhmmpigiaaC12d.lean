/- Chapter 12: spec.l03Apply. -/
import Derived.Test.YtobdkfhmmpigiaaC12c
import Derived.Deep.RegionHeld3
namespace Go.Proofs.Ytobdkfhmmpigiaa
open Go.RowKit Go.Deep
set_option linter.unusedVariables false
attribute [local go_sem] bits_and_one

theorem add_one_ (a : Addr) : a.add 1 = ⟨a.block, a.off + 1, none⟩ := by unfold Addr.add; rw [if_neg (by omega)]
def bsTo (zss : List (List Int)) (s : Nat) : Nat → Nat
  | 0 => s
  | k + 1 => bst (bsTo zss s k) (nth (row zss k) 0).toNat (nth (row zss k) 1).toNat
/-- Every row is a comparator of W wires. -/
def PairR (W n : Nat) (zss : List (List Int)) : Prop := ∀ k, k < n → ∃ p q : Nat, row zss k = [(p : Int), (q : Int)] ∧ p < W ∧ q < W
theorem bsTo_lt {W n s : Nat} {zss : List (List Int)} (hR : PairR W n zss) (h4 : W ≤ 4) (hs : s < 2 ^ W) : ∀ k, k ≤ n → bsTo zss s k < 2 ^ W := by
  intro k
  induction k with
  | zero => intro _; exact hs
  | succ k ih =>
    intro hk
    obtain ⟨p, q, hrow, hp, hq⟩ := hR k (by omega)
    rw [bsTo, hrow]
    simpa [nth] using bst_w h4 (ih (by omega)) hp hq
theorem w16 {W s : Nat} (h4 : W ≤ 4) (hs : s < 2 ^ W) : s < 16 := by
  have : 2 ^ W ≤ 2 ^ 4 := Nat.pow_le_pow_right (by omega) h4
  omega
theorem move_fact {s p q : Nat} (hs : s < 16) (hp : p < 4) (hq : q < 4) (hb : bitAt s p = true) (hc : bitAt s q = false) : ∃ P Q : Nat, RowKit.wrap64 (2 ^ p) = (P : Int) ∧ RowKit.wrap64 (2 ^ q) = (Q : Int) ∧ P ≤ 8 ∧ Q ≤ 8 ∧ (s : Int) - (P : Int) + (Q : Int) = ((bst s p q : Nat) : Int) := by
  have h := sub_fact s hs p hp q hq
  rw [hb, hc] at h
  simp at h
  have hP : 2 ^ p ≤ 2 ^ 3 := Nat.pow_le_pow_right (by omega) (by omega)
  have hQ : 2 ^ q ≤ 2 ^ 3 := Nat.pow_le_pow_right (by omega) (by omega)
  refine ⟨2 ^ p, 2 ^ q, wrap_pow p (by omega), wrap_pow q (by omega), by omega, by omega, ?_⟩
  rw [Int.natCast_pow, Int.natCast_pow]
  exact h.1

set_option maxHeartbeats 2000000 in
theorem specApply (W n : Nat) (A : Option Addr) (c s : Nat) (zss : List (List Int)) (w : World) (hR : PairR W n zss) (ha : RdM w A n zss) (h4 : W ≤ 4) (hs : s < 2 ^ W) (hn : n ≤ 60) :
    Calls Try.prog 35 #[.slice A n c, .int .i64 s] w fun e w' => e = .returned (.int .i64 (bsTo zss s n : Nat)) ∧ Below w.heap.size w w' := by
  have HA := Lib.hid ha
  have HR := Lib.hid hR
  have HM := Lib.hid (fun k hk => bsTo_lt hR h4 hs k hk)
  clear ha hR hs
  go_enter Try.func35, Try.ntmps35
  go_wp2_with fail
  go_loopw [1, 9] (fun mv iv wr => ∃ k t : Nat, k ≤ n ∧ iv = .int .i64 k ∧ mv = .int .i64 (t : Nat) ∧ Hid (bsTo zss s k = t) ∧ Below w.heap.size w wr) (fun _ iv _ => n - (intOf iv).toNat)
  case atStart => exact ⟨0, s, Nat.zero_le _, rfl, rfl, Lib.hid rfl, Below.refl _ _⟩
  case round =>
    obtain ⟨k, t, hk, rfl, rfl, HT, hbl⟩ := hrel
    by_cases hlt : k < n
    · obtain ⟨p, q, hrow, hpW, hqW⟩ := HR.out k hlt
      obtain ⟨a1, B, md, dd, rfl, la, h1', hB, hmd, hd⟩ := (HA.out.below hbl).2 k hlt
      unfold maxLen at hd
      rw [hrow] at hB
      obtain rfl : 2 = md := by rw [← hB.lenI]; rfl
      obtain ⟨b, rfl, lb, p0⟩ := hB.at_ (show 0 < 2 by omega)
      obtain ⟨b', hb', _, p1⟩ := hB.at_ (show 1 < 2 by omega)
      injection hb' with hb'
      subst hb'
      have p0 : wr.cell? b = some (.int .i64 (p : Int)) := p0
      have p1 : wr.cell? ⟨b.block, b.off + 1, none⟩ = some (.int .i64 (q : Int)) := by rw [← add_one_]; exact p1
      have ht16 : t < 16 := by
        have := HM.out k hk
        rw [HT.out] at this
        exact w16 h4 this
      have HN := Lib.hid (show bsTo zss s (k + 1) = bst t p q by rw [bsTo, HT.out, hrow]; simp [nth])
      have hp4 : p < 4 := by omega
      have hq4 : q < 4 := by omega
      clear hrow hB hpW hqW
      cases hb : bitAt t p with
      | true =>
        obtain ⟨f1, f2⟩ := bit_on hb
        cases hc : bitAt t q with
        | true =>
          obtain ⟨g1, g2⟩ := bit_on hc
          have HE := Lib.hid (show bst t p q = t by rw [bst, if_neg (by rw [hc]; simp)])
          clear hb hc
          go_wp2_with fail
          go_roundw
          case rel => exact ⟨k + 1, t, by omega, by go_num, rfl, Lib.hid (by rw [HN.out, HE.out]), hbl⟩
          case measure => simp [intOf]; omega
        | false =>
          obtain ⟨g1, g2⟩ := bit_off hc
          obtain ⟨P, Q, hP, hQ, hP8, hQ8, hu⟩ := move_fact ht16 hp4 hq4 hb hc
          obtain ⟨u, hue⟩ : ∃ u, bst t p q = u := ⟨_, rfl⟩
          rw [hue] at hu
          have HE := Lib.hid hue
          have HU := Lib.hid hu
          clear hb hc hue hu
          go_wp2_with fail
          go_region
          all_goals
            go_wp2_with fail
            go_roundw
            case rel => exact ⟨k + 1, u, by omega, by go_num, by first | rw [HU.out] | (congr 1; have := HU.out; omega), Lib.hid (by rw [HN.out, HE.out]), hbl.drew⟩
            case measure => simp [intOf]; omega
      | false =>
        obtain ⟨f1, f2⟩ := bit_off hb
        have HE := Lib.hid (show bst t p q = t by rw [bst, if_neg (by rw [hb]; simp)])
        clear hb
        go_wp2_with fail
        go_roundw
        case rel => exact ⟨k + 1, t, by omega, by go_num, rfl, Lib.hid (by rw [HN.out, HE.out]), hbl⟩
        case measure => simp [intOf]; omega
    · obtain rfl : k = n := by omega
      go_wp2_with fail
      go_ret
      exact ⟨by rw [HT.out]; rfl, hbl⟩
end Go.Proofs.Ytobdkfhmmpigiaa
