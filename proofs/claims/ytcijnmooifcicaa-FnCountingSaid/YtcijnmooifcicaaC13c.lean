/- Chapter 13: numbers of tokens. -/
import Derived.Test.YtcijnmooifcicaaNetOkI
namespace Go.Proofs.Ytcijnmooifcicaa
open Go.RowKit Go.Deep
set_option linter.unusedVariables false

def toksTo (ts : List Int) : Nat → Bool
  | 0 => true
  | k + 1 => toksTo ts k && decide (0 ≤ nth ts k ∧ nth ts k ≤ 1000)
def tokB (x : Int) (zss : List (List Int)) (ts : List Int) : Bool := netV x zss && (decide ((ts.length : Int) = x) && toksTo ts ts.length)
theorem toks_zero (ts : List Int) : toksTo ts 0 = true := rfl
theorem toks_on {ts : List Int} {k : Nat} (h : toksTo ts k = true) (h2 : 0 ≤ nth ts k ∧ nth ts k ≤ 1000) : toksTo ts (k + 1) = true := by rw [toksTo, h, decide_eq_true h2]; rfl
theorem toks_bad {ts : List Int} {k : Nat} (h2 : ¬ (0 ≤ nth ts k ∧ nth ts k ≤ 1000)) : ∀ m, k < m → toksTo ts m = false := by
  intro m
  induction m with
  | zero => intro h; omega
  | succ m ih =>
    intro hm
    by_cases e : k = m
    · subst e; rw [toksTo, decide_eq_false h2, Bool.and_false]
    · rw [toksTo, ih (by omega)]; rfl
theorem toks_at {ts : List Int} : ∀ n, toksTo ts n = true → ∀ k, k < n → 0 ≤ nth ts k ∧ nth ts k ≤ 1000 := by
  intro n
  induction n with
  | zero => intro _ k h; omega
  | succ n ih =>
    intro h k hk
    rw [toksTo, Bool.and_eq_true, decide_eq_true_eq] at h
    by_cases e : k = n
    · subst e; exact h.2
    · exact ih h.1 k (by omega)
attribute [irreducible] toksTo

set_option maxHeartbeats 2000000 in
theorem specTokensOk (x : Int) (A : Option Addr) (n c : Nat) (zss : List (List Int)) (S : Option Addr) (m d : Nat) (ts : List Int) (w : World) (ha : RdM w A n zss) (hn : n ≤ 1048576) (hs : RdI w S m ts) (hm : m ≤ 1048576) :
    Calls Try.prog 23 #[.agg #[.int .i64 x, .slice A n c], .slice S m d] w fun e w' => e = .returned (.bool (tokB x zss ts)) ∧ Below w.heap.size w w' := by
  have C := fun w' (h : RdM w' A n zss) => specNetOk x A n c zss w' h hn
  have HLS := Lib.hid hs.lenI
  cases hg : netV x zss with
  | false =>
    have H := Lib.hid (show tokB x zss ts = false by rw [tokB, hg]; rfl)
    rw [hg] at C
    have CC := Lib.hid C
    clear C hg
    go_enter Try.func23, Try.ntmps23
    go_wp2_with fail
    refine (CC.out _ (ha.below (below_alloc w _))).mono ?_
    rintro e w1 ⟨rfl, hb1⟩
    go_wp2_with fail
    go_ret
    exact ⟨ret_bool H.out.symm, (below_alloc w _).trans (hb1.mono (by simp))⟩
  | true =>
    have HG := Lib.hid hg
    rw [hg] at C
    have CC := Lib.hid C
    clear C hg
    go_enter Try.func23, Try.ntmps23
    go_wp2_with fail
    refine (CC.out _ (ha.below (below_alloc w _))).mono ?_
    rintro e w1 ⟨rfl, hb1⟩
    have hc := hb1.cell (p := ⟨w.heap.size, 0, none⟩) (by simp)
    have hc0 : w1.cell? ⟨w.heap.size, 0, none⟩ = some (.int .i64 x) := by rw [hc]; simp
    have hB1 := (below_alloc w (.cells #[.int .i64 x, .slice A n c] 35)).trans (hb1.mono (by simp))
    have hs1 := hs.below hB1
    clear hc hb1 CC
    by_cases he : (m : Int) = x
    · have HE := Lib.hid he
      have e0 : ((m : Int) != x) = false := by simp [he]
      clear he
      go_wp2_with fail
      go_loop [19] (fun i => ∃ k : Nat, k ≤ m ∧ i = .int .i64 k ∧ Hid (toksTo ts k = true)) (fun i => m - (intOf i).toNat)
      case atStart => exact ⟨0, Nat.zero_le _, rfl, Lib.hid (toks_zero _)⟩
      case round =>
        obtain ⟨k, hk, rfl, HK⟩ := hrel
        by_cases hlt : k < m
        · obtain ⟨a1, rfl, _, h1⟩ := hs1.at_ hlt
          by_cases hb : 0 ≤ nth ts k ∧ nth ts k ≤ 1000
          · have H := Lib.hid (toks_on HK.out hb)
            obtain ⟨hb1, hb2⟩ := hb
            go_wp2_with (go_at_call 47; refine (l01In_yes _ _ _ _ (by omega)).mono ?_; rintro e w' ⟨rfl, rfl⟩)
            go_round
            case rel => exact ⟨k + 1, by omega, by go_num, H⟩
            case measure => (simp [intOf] <;> omega)
          · have H := Lib.hid (show tokB x zss ts = false by rw [tokB, HG.out, HLS.out, decide_eq_true HE.out, toks_bad hb m hlt]; rfl)
            have HB := Lib.hid hb
            clear hb
            go_wp2_with (go_at_call 47; refine (l01In_no _ _ _ _ HB.out).mono ?_; rintro e w' ⟨rfl, rfl⟩)
            go_ret
            exact ⟨ret_bool H.out.symm, hB1⟩
        · obtain rfl : k = m := by omega
          have H := Lib.hid (show tokB x zss ts = true by rw [tokB, HG.out, HLS.out, decide_eq_true HE.out, HK.out]; rfl)
          go_wp2_with fail
          go_ret
          exact ⟨ret_bool H.out.symm, hB1⟩
    · have H := Lib.hid (show tokB x zss ts = false by rw [tokB, HG.out, HLS.out, decide_eq_false he]; rfl)
      have e0 : ((m : Int) != x) = true := by simp [he]
      clear he
      go_wp2_with fail
      go_ret
      exact ⟨ret_bool H.out.symm, hB1⟩

set_option maxHeartbeats 2000000 in
theorem implTokensOk (x : Int) (A : Option Addr) (n c : Nat) (zss : List (List Int)) (S : Option Addr) (m d : Nat) (ts : List Int) (w : World) (ha : RdM w A n zss) (hn : n ≤ 1048576) (hs : RdI w S m ts) (hm : m ≤ 1048576) :
    Calls Try.prog 25 #[.agg #[.int .i64 x, .slice A n c], .slice S m d] w fun e w' => e = .returned (.bool (tokB x zss ts)) ∧ Below w.heap.size w w' := by
  have C := fun w' (h : RdM w' A n zss) => implNetOk x A n c zss w' h hn
  have HLS := Lib.hid hs.lenI
  cases hg : netV x zss with
  | false =>
    have H := Lib.hid (show tokB x zss ts = false by rw [tokB, hg]; rfl)
    rw [hg] at C
    have CC := Lib.hid C
    clear C hg
    go_enter Try.func25, Try.ntmps25
    go_wp2_with fail
    refine (CC.out _ (ha.below (below_alloc w _))).mono ?_
    rintro e w1 ⟨rfl, hb1⟩
    go_wp2_with fail
    go_ret
    exact ⟨ret_bool H.out.symm, (below_alloc w _).trans (hb1.mono (by simp))⟩
  | true =>
    have HG := Lib.hid hg
    rw [hg] at C
    have CC := Lib.hid C
    clear C hg
    go_enter Try.func25, Try.ntmps25
    go_wp2_with fail
    refine (CC.out _ (ha.below (below_alloc w _))).mono ?_
    rintro e w1 ⟨rfl, hb1⟩
    have hc := hb1.cell (p := ⟨w.heap.size, 0, none⟩) (by simp)
    have hc0 : w1.cell? ⟨w.heap.size, 0, none⟩ = some (.int .i64 x) := by rw [hc]; simp
    have hB1 := (below_alloc w (.cells #[.int .i64 x, .slice A n c] 35)).trans (hb1.mono (by simp))
    have hs1 := hs.below hB1
    clear hc hb1 CC
    by_cases he : (m : Int) = x
    · have HE := Lib.hid he
      have e0 : ((m : Int) != x) = false := by simp [he]
      clear he
      go_wp2_with fail
      go_loop [19] (fun i => ∃ k : Nat, k ≤ m ∧ i = .int .i64 k ∧ Hid (toksTo ts k = true)) (fun i => m - (intOf i).toNat)
      case atStart => exact ⟨0, Nat.zero_le _, rfl, Lib.hid (toks_zero _)⟩
      case round =>
        obtain ⟨k, hk, rfl, HK⟩ := hrel
        by_cases hlt : k < m
        · obtain ⟨a1, rfl, _, h1⟩ := hs1.at_ hlt
          by_cases hb : 0 ≤ nth ts k ∧ nth ts k ≤ 1000
          · have H := Lib.hid (toks_on HK.out hb)
            obtain ⟨hb1, hb2⟩ := hb
            go_wp2_with fail
            go_round
            case rel => exact ⟨k + 1, by omega, by go_num, H⟩
            case measure => (simp [intOf] <;> omega)
          · have H := Lib.hid (show tokB x zss ts = false by rw [tokB, HG.out, HLS.out, decide_eq_true HE.out, toks_bad hb m hlt]; rfl)
            have HB := Lib.hid hb
            by_cases h0 : nth ts k < 0
            · clear hb
              go_wp2_with fail
              go_ret
              exact ⟨ret_bool H.out.symm, hB1⟩
            · have h1' : 1000 < nth ts k := by omega
              clear hb
              go_wp2_with fail
              go_ret
              exact ⟨ret_bool H.out.symm, hB1⟩
        · obtain rfl : k = m := by omega
          have H := Lib.hid (show tokB x zss ts = true by rw [tokB, HG.out, HLS.out, decide_eq_true HE.out, HK.out]; rfl)
          go_wp2_with fail
          go_ret
          exact ⟨ret_bool H.out.symm, hB1⟩
    · have H := Lib.hid (show tokB x zss ts = false by rw [tokB, HG.out, HLS.out, decide_eq_false he]; rfl)
      have e0 : ((m : Int) != x) = true := by simp [he]
      clear he
      go_wp2_with fail
      go_ret
      exact ⟨ret_bool H.out.symm, hB1⟩

end Go.Proofs.Ytcijnmooifcicaa
