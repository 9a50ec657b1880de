/- Chapter 12: spec.l03Ones, spec.l04Clusters. -/
import Derived.Test.YtobdkfhmmpigiaaC12g
import Derived.Test.YtobdkfhmmpigiaaC12h2
namespace Go.Proofs.Ytobdkfhmmpigiaa
open Go.RowKit Go.Deep
set_option linter.unusedVariables false
attribute [local go_sem] bits_and_one

set_option maxHeartbeats 1000000 in
theorem specOnes (w : World) (q : Nat) (hq : q < 256) :
    Calls Try.prog 36 #[.int .i64 q] w fun e w' => e = .returned (.int .i64 (pop q)) ∧ w = w' := by
  go_enter Try.func36, Try.ntmps36
  go_wp2
  go_loop [0, 3] (fun q' k => ∃ m c : Nat, m < 256 ∧ q' = .int .i64 m ∧ k = .int .i64 c ∧ c + pop m = pop q) (fun q' _ => (intOf q').toNat)
  case atStart => exact ⟨q, 0, hq, rfl, rfl, by omega⟩
  case round =>
    obtain ⟨m, c, hm, rfl, rfl, hc⟩ := hrel
    have h8 := pop_le q
    have hc8 : c ≤ 8 := by omega
    by_cases hpos : 0 < m
    · have H := Lib.hid (show c + m % 2 + pop (m / 2) = pop q by have := pop_step m hm; omega)
      clear hc h8
      go_wp2
      go_round
      case rel => exact ⟨m / 2, c + m % 2, by omega, by go_num, by go_num, H.out⟩
      case measure => simp [intOf]; omega
    · have h0 : m = 0 := by omega
      subst h0
      have H := Lib.hid (show (c : Int) = (pop q : Int) by have := pop_zero; omega)
      clear hc h8
      go_wp2
      go_ret
      exact ⟨ret_int H.out, rfl⟩

/-- How many of the first k masks have how many ones. -/
def cluTo (n : Nat) (set : List Int) : Nat → List Int
  | 0 => List.replicate (n + 1) 0
  | k + 1 => (cluTo n set k).set (pop (nth set k).toNat) (nth (cluTo n set k) (pop (nth set k).toNat) + 1)
def cluV (n : Nat) (set : List Int) : List Int := cluTo n set set.length
theorem cluTo_zero (n : Nat) (set : List Int) : cluTo n set 0 = List.replicate (n + 1) 0 := rfl
theorem cluTo_succ {n : Nat} {set : List Int} {k s p : Nat} (h : nth set k = s) (hp : pop s = p) : cluTo n set (k + 1) = (cluTo n set k).set p (nth (cluTo n set k) p + 1) := by
  subst hp
  rw [cluTo, h, Int.toNat_natCast]
theorem nth_set_ (l : List Int) (i : Nat) (v : Int) (p : Nat) : nth (l.set i v) p = nth l p ∨ nth (l.set i v) p = v := by
  unfold nth
  rw [List.getD_eq_getElem?_getD, List.getD_eq_getElem?_getD, List.getElem?_set]
  by_cases h : i = p
  · subst h
    by_cases h2 : i < l.length
    · right; simp [h2]
    · left; simp [h2]
  · left; simp [h]
theorem cluTo_bd (n : Nat) (set : List Int) : ∀ k p, 0 ≤ nth (cluTo n set k) p ∧ nth (cluTo n set k) p ≤ k := by
  intro k
  induction k with
  | zero =>
    intro p
    have : nth (cluTo n set 0) p = 0 := by
      rw [cluTo_zero]
      unfold nth
      rw [List.getD_eq_getElem?_getD, List.getElem?_replicate]
      split <;> rfl
    omega
  | succ k ih =>
    intro p
    have h1 := ih p
    have h2 := ih (pop (nth set k).toNat)
    rw [cluTo]
    rcases nth_set_ (cluTo n set k) (pop (nth set k).toNat) (nth (cluTo n set k) (pop (nth set k).toNat) + 1) p with h | h <;> rw [h] <;> omega
theorem cluTo_len (n : Nat) (set : List Int) : ∀ k, (cluTo n set k).length = n + 1 := by
  intro k
  induction k with
  | zero => simp [cluTo]
  | succ k ih => rw [cluTo, List.length_set, ih]
theorem cluV_bd (n : Nat) (set : List Int) (p : Nat) : 0 ≤ nth (cluV n set) p ∧ nth (cluV n set) p ≤ set.length := cluTo_bd n set _ p
theorem pop1_ : ∀ s : Nat, s < 2 → pop s ≤ 1 := by decide +kernel
theorem pop2_ : ∀ s : Nat, s < 4 → pop s ≤ 2 := by decide +kernel
theorem pop3_ : ∀ s : Nat, s < 8 → pop s ≤ 3 := by decide +kernel
theorem pop4_ : ∀ s : Nat, s < 16 → pop s ≤ 4 := by decide +kernel
theorem pop_below {n s : Nat} (h1 : 1 ≤ n) (h4 : n ≤ 4) (hs : s < 2 ^ n) : pop s < n + 1 := by
  have hc : n = 1 ∨ n = 2 ∨ n = 3 ∨ n = 4 := by omega
  rcases hc with rfl | rfl | rfl | rfl
  · have := pop1_ s hs; omega
  · have := pop2_ s hs; omega
  · have := pop3_ s hs; omega
  · have := pop4_ s hs; omega
attribute [irreducible] cluTo

set_option maxHeartbeats 2000000 in
theorem specClusters (n m : Nat) (B : Option Addr) (d : Nat) (set : List Int) (w : World) (hb : RdI w B m set) (hS : MaskR (2 ^ n) m set) (h1 : 1 ≤ n) (h4 : n ≤ 4) (hm : m ≤ 1048576) :
    Calls Try.prog 20 #[.int .i64 n, .slice B m d] w fun e w' => ∃ g, e = .returned (.slice (some ⟨g, 0, none⟩) (n + 1) (n + 1)) ∧ OwnI w' w.heap.size 3 (some ⟨g, 0, none⟩) (n + 1) (n + 1) (cluV n set) ∧ Below w.heap.size w w' := by
  have HL := Lib.hid hb.lenI
  have HB := Lib.hid hb
  have HS := Lib.hid hS
  clear hb hS
  go_enter Try.func20, Try.ntmps20
  go_wp2_with (at_make; refine wpL_make _ rfl _ _ 28 rfl 3 (.int .i64 0) 8 Try.underlying28 intInfo rfl _ _ _ _ (n + 1) rfl rfl (by simp) (by simp) (by omega) (by unfold maxLen; omega) ?_)
  intro w1 hown hbl0 hsz0
  have hown : OwnI w1 w.heap.size 3 (some ⟨w.heap.size, 0, none⟩) (n + 1) (n + 1) (cluTo n set 0) := by
    rw [cluTo_zero, OwnI, List.map_replicate]; exact hown
  go_wp2_with fail
  go_loopw [13] (fun i wr => ∃ k : Nat, ∃ ys, k ≤ m ∧ i = .int .i64 k ∧ OwnI wr w.heap.size 3 (some ⟨w.heap.size, 0, none⟩) (n + 1) (n + 1) ys ∧ Below w.heap.size w wr ∧ Hid (cluTo n set k = ys)) (fun i _ => m - (intOf i).toNat)
  case atStart => exact ⟨0, _, Nat.zero_le _, rfl, hown, hbl0, Lib.hid rfl⟩
  case round =>
    clear hown hbl0 hsz0
    obtain ⟨k, ys, hk, rfl, hown, hbl, HY⟩ := hrel
    by_cases hlt : k < m
    · obtain ⟨b1, rfl, _, l1⟩ := (HB.out.below hbl).at_ hlt
      obtain ⟨s, hs, hsN⟩ := HS.out k hlt
      rw [hs] at l1
      obtain ⟨p, hp⟩ : ∃ p, pop s = p := ⟨_, rfl⟩
      have hpn : p < n + 1 := by rw [← hp]; exact pop_below h1 h4 hsN
      have hs16 := w16 h4 hsN
      have CO := Lib.hid (fun wx => specOnes wx s (by omega))
      rw [hp] at CO
      have HN := Lib.hid (show cluTo n set (k + 1) = ys.set p (nth ys p + 1) by rw [cluTo_succ hs hp, HY.out])
      have hbd : 0 ≤ nth ys p ∧ nth ys p ≤ k := by rw [← HY.out]; exact cluTo_bd n set k p
      obtain ⟨v, hv⟩ : ∃ v, nth ys p = v := ⟨_, rfl⟩
      obtain ⟨g, u, hgA, _, _, _, hx4, h3⟩ := hown.at_ hpn
      clear hx4
      injection hgA with hgA
      injection hgA with hgA
      subst hgA
      obtain ⟨ad, had, _, h2⟩ := hown.rd.at_ hpn
      injection had with had
      subst had
      rw [add0_, hv] at h2
      rw [hv] at hbd HN
      have hown3 := hown.setI (x := v + 1) hpn
      have hb3 := hbl.setCell (p := ⟨w.heap.size, p, none⟩) (Nat.le_refl _) (.int .i64 (v + 1))
      have HO3 := Lib.hid hown3
      have HB3 := Lib.hid hb3
      clear hs hp hv hsN hown hbl hown3 hb3
      go_wp2_with fail
      refine (CO.out _).mono ?_
      rintro e w2 ⟨rfl, hww⟩
      obtain rfl := hww
      go_wp2_with fail
      go_roundw
      case rel => exact ⟨k + 1, _, by omega, by go_num, HO3.out, HB3.out, HN⟩
      case measure => (simp [intOf] <;> omega)
    · obtain rfl : k = m := by omega
      have HF := Lib.hid (show cluV n set = ys by unfold cluV; rw [HL.out, HY.out])
      go_wp2_with fail
      go_ret
      exact ⟨_, rfl, by rw [HF.out]; exact hown, hbl⟩
end Go.Proofs.Ytobdkfhmmpigiaa
