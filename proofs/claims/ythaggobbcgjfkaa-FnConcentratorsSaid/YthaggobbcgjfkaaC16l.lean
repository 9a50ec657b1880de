/- Chapter 16: LeastCover of the reference and of the program, and the walk of its statement. -/
import Derived.Test.YthaggobbcgjfkaaC16j
import Derived.Test.YthaggobbcgjfkaaC16k
namespace Go.Proofs.Ythaggobbcgjfkaa
open Go.RowKit Go.Deep
set_option linter.unusedVariables false
attribute [local go_sem] bits_and_one

theorem quiet_left {P : Program} {f : FuncId} {args : Array Value} {w : World} {n : Nat} {v : Value}
    (h : Calls P f args (w.drewN n) fun e w' => e = .returned v ∧ w.drewN n = w') : Calls P f args (w.drewN n) fun e w'' => e = .returned v ∧ ∃ m, w'' = w.drewN m :=
  h.mono fun _ _ ⟨he, hm⟩ => ⟨he, n, hm.symm⟩
/-- The least of c(0), .. c(k - 1) and of d. -/
def leastTo (c : Nat → Nat) (d : Nat) : Nat → Nat
  | 0 => d
  | k + 1 => min (leastTo c d k) (c k)
theorem leastTo_zero (c : Nat → Nat) (d : Nat) : leastTo c d 0 = d := rfl
theorem leastTo_succ (c : Nat → Nat) (d k : Nat) : leastTo c d (k + 1) = min (leastTo c d k) (c k) := rfl
theorem leastTo_le (c : Nat → Nat) (d k : Nat) : leastTo c d k ≤ d := by
  induction k with
  | zero => exact Nat.le_refl _
  | succ k ih => exact Nat.le_trans (Nat.min_le_left _ _) ih
theorem leastTo_eq {c : Nat → Nat} {d v k : Nat} (hd : v ≤ d) (hle : ∀ j, j < k → v ≤ c j) (hex : v = d ∨ ∃ j, j < k ∧ v = c j) : leastTo c d k = v := by
  induction k with
  | zero => rcases hex with h | ⟨j, h, _⟩
            · exact h.symm
            · omega
  | succ k ih =>
    rw [leastTo_succ]
    have h1 := hle k (by omega)
    by_cases hk : v = c k
    · have h2 : v ≤ leastTo c d k := by
        clear ih hex
        have : ∀ m, m ≤ k → v ≤ leastTo c d m := by
          intro m
          induction m with
          | zero => intro _; exact hd
          | succ m ihm => intro hm; rw [leastTo_succ]; exact Nat.le_min.2 ⟨ihm (by omega), hle m (by omega)⟩
        exact this k (Nat.le_refl _)
      omega
    · rw [ih (fun j hj => hle j (by omega)) (by
        rcases hex with h | ⟨j, hj, h⟩
        · exact .inl h
        · right; exact ⟨j, by
            by_cases e : j = k
            · subst e; exact absurd h hk
            · omega, h⟩)]
      omega
attribute [irreducible] leastTo
def coverOf (zs : List Int) (N s : Nat) : Nat := pop s + pop (joined zs (N - 1 - s))
def coverV (zs : List Int) : Int := if planOk zs = true then (mat zs (2 ^ zs.length - 1) zs.length 63 : Int) else -1
theorem full_cnt : ∀ n, n < 7 → cnt n (2 ^ n - 1) n = n ∧ ∀ s, s < 2 ^ n → pop s + pop (2 ^ n - 1 - s) = n := by decide +kernel
theorem full_bits_b : ∀ n, n < 7 → ∀ s, s < 2 ^ n → ∀ j, j < 6 → (n ≤ j → bitAt s j = false) ∧ (j < n → bitAt (2 ^ n - 1) j = true) := by decide +kernel
theorem low_bits_b : ∀ n, n < 7 → ∀ s, s < 64 → (∀ j, j < 6 → n ≤ j → bitAt s j = false) → s < 2 ^ n := by decide +kernel
theorem cover_least {zs : List Int} (hp : planOk zs = true) : leastTo (coverOf zs (2 ^ zs.length)) zs.length (2 ^ zs.length) = mat zs (2 ^ zs.length - 1) zs.length 63 := by
  have h6 := (planOk_out hp).2.1
  obtain ⟨h1, T, hT, hE⟩ := konig hp (2 ^ zs.length - 1) zs.length (Nat.le_refl _) 63 (by omega)
  obtain ⟨f1, f2⟩ := full_cnt zs.length (by omega)
  have h63 : ∀ x, x < 64 → x &&& 63 = x := fun x hx => by rw [Nat.and_two_pow_sub_one_eq_mod x 6]; exact Nat.mod_eq_of_lt hx
  have hJ := fun T => h63 _ (joined64 hp T)
  rw [f1] at hE
  have hN64 : 2 ^ zs.length ≤ 64 := Nat.pow_le_pow_right (n := 2) (by omega) h6
  have h64 : ∀ s, s < 2 ^ zs.length → s < 64 := fun s hs => by omega
  have hAm : ∀ s, s < 2 ^ zs.length → Among zs (2 ^ zs.length - 1) zs.length s := fun s hs => ⟨h64 s hs, fun j hj => by
    rcases Nat.lt_or_ge j 6 with h7 | h7
    · have h8 := full_bits_b zs.length (by omega) s hs j h7
      have h9 : j < zs.length := by
        rcases Nat.lt_or_ge j zs.length with h | h
        · exact h
        · rw [h8.1 h] at hj; cases hj
      exact ⟨h8.2 h9, by omega, h9⟩
    · rw [bit_big (h64 s hs) h7] at hj; cases hj⟩
  have hTN : T < 2 ^ zs.length := low_bits_b zs.length (by omega) T hT.1 fun j hj hn => by
    cases hb : bitAt T j with
    | false => rfl
    | true => have := (hT.2 j hb).2.2; omega
  refine leastTo_eq ?_ ?_ ?_
  · have := mat_le zs (2 ^ zs.length - 1) zs.length 63; exact this
  · intro s hs
    have h2 := h1 (2 ^ zs.length - 1 - s) (hAm _ (by omega))
    have h3 := f2 s hs
    rw [f1, hJ] at h2
    unfold coverOf
    omega
  · right
    refine ⟨2 ^ zs.length - 1 - T, by omega, ?_⟩
    have h3 := f2 T hTN
    unfold coverOf
    rw [show 2 ^ zs.length - 1 - (2 ^ zs.length - 1 - T) = T by omega]
    rw [hJ] at hE
    omega

set_option maxHeartbeats 1000000 in
theorem implCover (A : Option Addr) (n c : Nat) (zs : List Int) (w : World) (ha : RdI w A n zs) (hn : n ≤ 1048576) :
    Calls Try.prog 24 #[.slice A n c] w fun e w' => e = .returned (.int .i64 (coverV zs)) ∧ Below w.heap.size w w' := by
  cases hp : planOk zs with
  | false =>
    have H := Lib.hid (show coverV zs = -1 by rw [coverV, if_neg (by simp [hp])])
    go_enter Try.func24, Try.ntmps24
    go_wp2_with (go_at_call 15; refine (implPlanOk A n c zs _ ha hn).mono ?_; rintro e w' ⟨rfl, rfl⟩)
    go_ret
    exact ⟨ret_int H.out.symm, Below.refl _ _⟩
  | true =>
    have hl := Lib.hid ha.lenI
    have h6 : n ≤ 6 := by have := (planOk_out hp).2.1; have := hl.out; omega
    obtain ⟨N, hN⟩ : ∃ N, 2 ^ n = N := ⟨_, rfl⟩
    have hw := wrap_pow n (by omega)
    have h64 := (pow6 h6)
    rw [hN] at hw h64
    have hN64 : N ≤ 64 := by omega
    have hN1 : 1 ≤ N := by omega
    have H := Lib.hid (show coverV zs = (mat zs (N - 1) n 63 : Int) by rw [coverV, if_pos hp, hl.out, hN])
    have C := implMatching A n c zs (N - 1) hp (by omega) n 0 63 w (by omega) (by omega) ha
    rw [show ((N - 1 : Nat) : Int) = (N : Int) - 1 by omega] at C
    have CC := Lib.hid C
    clear hN h64 C
    go_enter Try.func24, Try.ntmps24
    go_wp2_with (first | (go_at_call 15; refine (implPlanOk A n c zs _ ha hn).mono ?_; rintro e w' ⟨rfl, rfl⟩) | (go_at_call 46; refine CC.out.mono ?_; rintro e w' ⟨rfl, rfl⟩))
    go_ret
    exact ⟨ret_int (by rw [H.out]), Below.refl _ _⟩

end Go.Proofs.Ythaggobbcgjfkaa
