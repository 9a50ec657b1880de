/- Chapter 15: the positions of a path, of the reference and of the program. -/
import Derived.Test.YtaeabpmpfadkjaaC15b
namespace Go.Proofs.Ytaeabpmpfadkjaa
open Go.RowKit Go.Deep
set_option linter.unusedVariables false
attribute [local go_sem] bits_and_one

def shuf (n p : Nat) : Nat := if p < n / 2 then 2 * p else 2 * p + 1 - n
def nxt (n b i p : Nat) : Nat := shuf n p / 2 * 2 + b / 2 ^ i % 2
/-- The positions behind the last i stages, from position p on. -/
def pathR (n b : Nat) : Nat → Nat → List Int
  | 0, _ => []
  | i + 1, p => (nxt n b i p : Int) :: pathR n b i (nxt n b i p)
def pathL (n a b : Nat) : List Int := pathR n b (stgN n) a
theorem pathR_zero (n b p : Nat) : pathR n b 0 p = [] := rfl
theorem pathR_succ (n b i p : Nat) : pathR n b (i + 1) p = (nxt n b i p : Int) :: pathR n b i (nxt n b i p) := rfl
theorem shuf_lt {n p : Nat} (hn : n = 2 ∨ n = 4 ∨ n = 8) (hp : p < n) : shuf n p < n := by unfold shuf; split <;> omega
theorem nxt_lt {n p b i : Nat} (hn : n = 2 ∨ n = 4 ∨ n = 8) (hp : p < n) : nxt n b i p < n := by
  have := shuf_lt hn hp
  unfold nxt
  have h2 : b / 2 ^ i % 2 < 2 := Nat.mod_lt _ (by omega)
  omega
theorem pathR_len (n b : Nat) : ∀ i p, (pathR n b i p).length = i := by
  intro i
  induction i with
  | zero => intro p; rfl
  | succ i ih => intro p; simp [pathR_succ, ih]

set_option maxHeartbeats 1000000 in
theorem specShuffle (n p : Nat) (w : World) (hn : n = 2 ∨ n = 4 ∨ n = 8) (hp : p < n) :
    Calls Try.prog 62 #[.int .i64 n, .int .i64 p] w fun e w' => e = .returned (.int .i64 (shuf n p)) ∧ w = w' := by
  have hn8 : n ≤ 8 := by omega
  by_cases h : p < n / 2
  · have H := Lib.hid (show shuf n p = 2 * p by unfold shuf; rw [if_pos h])
    have h' : (p : Int) < (n : Int) / 2 := by omega
    clear hn
    go_enter Try.func62, Try.ntmps62
    go_wp2
    go_ret
    exact ⟨ret_int (by rw [H.out]; omega), rfl⟩
  · have H := Lib.hid (show shuf n p = 2 * p + 1 - n by unfold shuf; rw [if_neg h])
    have h' : ¬ (p : Int) < (n : Int) / 2 := by omega
    have h2 : n ≤ 2 * p + 1 := by omega
    clear hn
    go_enter Try.func62, Try.ntmps62
    go_wp2
    go_ret
    exact ⟨ret_int (by rw [H.out]; omega), rfl⟩

attribute [irreducible] shuf pathR nxt
theorem nxt_eq (n b i p q : Nat) (h : shuf n p = q) : (nxt n b i p : Int) = (q : Int) - (q : Int) % 2 + (b : Int) / 2 ^ i % 2 := by
  rw [bit_cast]
  unfold nxt
  rw [h]
  generalize b / 2 ^ i % 2 = t
  omega

set_option maxHeartbeats 1000000 in
theorem specPath (n a b : Nat) (w : World) (hn : n = 2 ∨ n = 4 ∨ n = 8) (ha : a < n) (hb : b < n) :
    Calls Try.prog 51 #[.int .i64 n, .int .i64 a, .int .i64 b] w fun e w' => ∃ A' n' c', e = .returned (.slice A' n' c') ∧ OwnI w' w.heap.size 3 A' n' c' (pathL n a b) ∧ Below w.heap.size w w' := by
  have hsg : 1 ≤ stgN n ∧ stgN n ≤ 3 := by rcases hn with rfl | rfl | rfl <;> decide
  obtain ⟨K, hK⟩ : ∃ K, stgN n = K := ⟨_, rfl⟩
  have hsg1 : 1 ≤ K := by omega
  have hsg2 : K ≤ 3 := by omega
  have HL := Lib.hid (show pathL n a b = pathR n b K a by rw [pathL, hK])
  have HK := Lib.hid hK
  have HN := Lib.hid hn
  have hn8 : n ≤ 8 := by omega
  clear hn hsg hK
  go_enter Try.func51, Try.ntmps51
  go_wp2_with (go_at_call 45; refine (specStages n _ HN.out).mono ?_; rw [HK.out]; rintro e w' ⟨rfl, rfl⟩)
  go_loopw [7, 8, 9] (fun v pv i wr => ∃ r p q : Nat, ∃ A' c' acc, r ≤ K ∧ i = .int .i64 ((r : Int) - 1) ∧ pv = .int .i64 p ∧ p < n ∧ q ≤ 3 ∧ v = .slice A' q c' ∧ OwnI wr w.heap.size 3 A' q c' acc ∧ Below w.heap.size w wr ∧ q + r = K ∧ acc ++ pathR n b r p = pathL n a b) (fun _ _ i _ => (intOf i + 1).toNat)
  case atStart => exact ⟨K, a, 0, _, _, [], Nat.le_refl _, rfl, rfl, ha, by omega, rfl, by simpa [OwnI] using own_empty w 3, below_alloc w _, by omega, by rw [HL.out]; rfl⟩
  case round =>
    obtain ⟨r, p, q, A', c', acc, hr, rfl, rfl, hp, hq, rfl, hown, hbl, hqr, hacc⟩ := hrel
    have hsz := hbl.size
    have HQR := Lib.hid hqr
    have HACC := Lib.hid hacc
    clear hqr hacc
    by_cases h0 : r = 0
    · subst h0
      rw [show (((0 : Nat) : Int) - 1) = -1 by rfl]
      have H := Lib.hid (show acc = pathL n a b by rw [← HACC.out, pathR_zero, List.append_nil])
      clear HL HACC HK
      go_wp2
      go_ret
      exact ⟨_, _, _, rfl, by rw [← H.out]; exact hown, hbl⟩
    · obtain ⟨r', rfl⟩ : ∃ r', r = r' + 1 := ⟨r - 1, by omega⟩
      rw [show (((r' + 1 : Nat) : Int) - 1) = (r' : Int) by omega]
      obtain ⟨t, ht⟩ : ∃ t, shuf n p = t := ⟨_, rfl⟩
      have htn := shuf_lt HN.out hp
      rw [ht] at htn
      have hnx := nxt_lt (b := b) (i := r') HN.out hp
      have HNX := Lib.hid (nxt_eq n b r' p t ht)
      have HACC2 := Lib.hid (show (acc ++ [(nxt n b r' p : Int)]) ++ pathR n b r' (nxt n b r' p) = pathL n a b by rw [← HACC.out, pathR_succ]; simp)
      have C := Lib.hid (specShuffle n p)
      have HT := Lib.hid ht
      have hbit : (b : Int) / 2 ^ r' % 2 < 2 := Int.emod_lt_of_pos _ (by omega)
      have hbit0 : 0 ≤ (b : Int) / 2 ^ r' % 2 := Int.emod_nonneg _ (by omega)
      clear HL HACC ht h0
      go_wp2_with (first | (go_at_call 62; refine (C.out _ HN.out hp).mono ?_; rw [HT.out]; rintro e w' ⟨rfl, rfl⟩) | (at_builtin; refine wpL_append1 _ rfl _ _ _ rfl w.heap.size 3 (.int .i64 0) 8 Try.underlying24 intInfo rfl _ q _ _ rfl hown _ rfl rfl (by unfold maxLen; omega) (by omega) hsz ?_))
      intro A2 c2 w2 ho2 hg2 hat2
      have hb2 := own_below hown hbl hsz hg2
      go_wp2
      go_roundw
      case rel => exact ⟨r', nxt n b r' p, q + 1, A2, c2, acc ++ [(nxt n b r' p : Int)], by omega, by go_num, int_eq HNX.out.symm, hnx, by have := HQR.out; omega, rfl, by rw [OwnI, List.map_append, HNX.out]; simpa using ho2, hb2, by have := HQR.out; omega, HACC2.out⟩
      case measure => (simp [intOf] <;> omega)

end Go.Proofs.Ytaeabpmpfadkjaa
