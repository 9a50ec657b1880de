/- Chapter 15: the program's 'path'. -/
import Derived.Test.YtaeabpmpfadkjaaC15c
namespace Go.Proofs.Ytaeabpmpfadkjaa
open Go.RowKit Go.Deep
set_option linter.unusedVariables false
attribute [local go_sem] bits_and_one

def crs (n b i p : Nat) : Nat := (shuf n p + b / 2 ^ i % 2) % 2
/-- What the switches of the last i stages do. -/
def crossR (n b : Nat) : Nat → Nat → List Int
  | 0, _ => []
  | i + 1, p => (crs n b i p : Int) :: crossR n b i (nxt n b i p)
def crossL (n a b : Nat) : List Int := crossR n b (stgN n) a
theorem crossR_zero (n b p : Nat) : crossR n b 0 p = [] := rfl
theorem crossR_succ (n b i p : Nat) : crossR n b (i + 1) p = (crs n b i p : Int) :: crossR n b i (nxt n b i p) := rfl
theorem crossR_len (n b : Nat) : ∀ i p, (crossR n b i p).length = i := by
  intro i
  induction i with
  | zero => intro p; rfl
  | succ i ih => intro p; simp [crossR_succ, ih]
attribute [irreducible] crs crossR
theorem q2 : ∀ p, p < 2 → bits .or .i64 (bits .and .i64 ((p : Nat) * 2 : Int) (((2 : Nat) : Int) - 1)) ((p : Int) / 2 ^ (1 - 1)) = (shuf 2 p : Int) := by decide +kernel
theorem q4 : ∀ p, p < 4 → bits .or .i64 (bits .and .i64 ((p : Nat) * 2 : Int) (((4 : Nat) : Int) - 1)) ((p : Int) / 2 ^ (2 - 1)) = (shuf 4 p : Int) := by decide +kernel
theorem q8 : ∀ p, p < 8 → bits .or .i64 (bits .and .i64 ((p : Nat) * 2 : Int) (((8 : Nat) : Int) - 1)) ((p : Int) / 2 ^ (3 - 1)) = (shuf 8 p : Int) := by decide +kernel
theorem q_any {n K p t : Nat} (hn : n = 2 ∨ n = 4 ∨ n = 8) (hK : stgN n = K) (hp : p < n) (ht : shuf n p = t) : bits .or .i64 (bits .and .i64 ((p : Int) * 2) ((n : Int) - 1)) ((p : Int) / 2 ^ (K - 1)) = (t : Int) := by
  subst ht hK
  rcases hn with rfl | rfl | rfl
  · exact q2 p hp
  · exact q4 p hp
  · exact q8 p hp
theorem xor_bit : ∀ t : Nat, t < 8 → ∀ β : Nat, β < 2 → bits .xor .i64 ((t : Int) % 2) (β : Int) = (((t + β) % 2 : Nat) : Int) := by decide +kernel
theorem or_bit : ∀ t : Nat, t < 8 → ∀ β : Nat, β < 2 → bits .or .i64 (bits .andNot .i64 (t : Int) 1) (β : Int) = ((t / 2 * 2 + β : Nat) : Int) := by decide +kernel

theorem append2_keep {wr w4 : World} {B : Nat} {e : TypeId} {A1 A2 : Option Addr} {n c : Nat} {xs : List Value} (ho : Own wr B e A1 n c xs) (hg : wr.grownBy w4 (blk A2)) (hsep : ∀ g, blk A1 = some g → blk A2 = some g → False) : Own w4 B e A1 n c xs :=
  ho.kept hg fun g h1 h2 => hsep g h1 h2.symm
/-- Behind an append the row lies where it lay, or beyond all that was. -/
theorem sep_append {wr : World} {B k : Nat} {e : TypeId} {A1 A2 A4 : Option Addr} {n c : Nat} {xs : List Value} (ho : Own wr B e A1 n c xs) (hsep : ∀ g, blk A1 = some g → blk A2 = some g → False) (hat : blk A4 = blk A2 ∨ blk A4 = some (wr.heap.size + k)) :
    ∀ g, blk A1 = some g → blk A4 = some g → False := fun g h1 h2 => by
  rcases hat with h | h
  · rw [h] at h2; exact hsep g h1 h2
  · rw [h] at h2; injection h2 with h2; have := (ho.blk_ g h1).2; omega

set_option maxHeartbeats 2000000 in
theorem implPath (n a b : Nat) (w : World) (hn : n = 2 ∨ n = 4 ∨ n = 8) (ha : a < n) (hb : b < n) :
    Calls Try.prog 52 #[.int .i64 n, .int .i64 a, .int .i64 b] w fun e w' => ∃ A' c' A2' c2' k, e = .returned (.tuple #[.slice A' k c', .slice A2' k c2']) ∧
      OwnI w' w.heap.size 3 A' k c' (pathL n a b) ∧ OwnI w' w.heap.size 3 A2' k c2' (crossL n a b) ∧ k = stgN n ∧ Below w.heap.size w w' := by
  have hsg : 1 ≤ stgN n ∧ stgN n ≤ 3 := by rcases hn with rfl | rfl | rfl <;> decide
  obtain ⟨K, hK⟩ : ∃ K, stgN n = K := ⟨_, rfl⟩
  have hsg1 : 1 ≤ K := by omega
  have hsg2 : K ≤ 3 := by omega
  have HL := Lib.hid (show pathL n a b = pathR n b K a by rw [pathL, hK])
  have HL2 := Lib.hid (show crossL n a b = crossR n b K a by rw [crossL, hK])
  have HK := Lib.hid hK
  have HN := Lib.hid hn
  have hn8 : n ≤ 8 := by omega
  clear hn hsg hK
  go_enter Try.func52, Try.ntmps52
  go_wp2_with (go_at_call 46; refine (implStages_yes n _ HN.out).mono ?_; rw [HK.out]; rintro e w' ⟨rfl, rfl⟩)
  go_loopw [1, 9, 10, 19] (fun pv v cv i wr => ∃ s r p : Nat, ∃ A1 c1 acc A2 c2 acx, s + r = K ∧ s ≤ K ∧ i = .int .i64 s ∧ pv = .int .i64 p ∧ p < n ∧ v = .slice A1 s c1 ∧ cv = .slice A2 s c2 ∧ OwnI wr w.heap.size 3 A1 s c1 acc ∧ OwnI wr w.heap.size 3 A2 s c2 acx ∧
      (∀ g, blk A1 = some g → blk A2 = some g → False) ∧ Below w.heap.size w wr ∧ acc ++ pathR n b r p = pathL n a b ∧ acx ++ crossR n b r p = crossL n a b) (fun _ _ _ i _ => K - (intOf i).toNat)
  case atStart =>
    refine ⟨0, K, a, _, _, [], _, _, [], by omega, by omega, rfl, rfl, ha, rfl, rfl, by simpa [OwnI] using (own_empty w 3).alloc _, by simpa [OwnI] using (own_empty (w.alloc (.cells #[] 3)) 3).more (b2 := w.heap.size) (by simp), ?_, (below_alloc w _).alloc (by simp) _, by rw [HL.out]; rfl, by rw [HL2.out]; rfl⟩
    intro g h1 h2
    simp [blk] at h1 h2
    omega
  case round =>
    obtain ⟨s, r, p, A1, c1, acc, A2, c2, acx, hsr, hs, rfl, rfl, hp, rfl, rfl, ho1, ho2, hsep, hbl, hacc, hacx⟩ := hrel
    have hsz := hbl.size
    have HSR := Lib.hid hsr
    have HACC := Lib.hid hacc
    have HACX := Lib.hid hacx
    have HSEP := Lib.hid hsep
    clear hsr hacc hacx hsep
    by_cases h0 : s < K
    · obtain ⟨r', rfl⟩ : ∃ r', r = r' + 1 := ⟨r - 1, by have := HSR.out; omega⟩
      obtain ⟨t, ht⟩ : ∃ t, shuf n p = t := ⟨_, rfl⟩
      have htn := shuf_lt HN.out hp
      rw [ht] at htn
      obtain ⟨β, hβ⟩ : ∃ β, b / 2 ^ r' % 2 = β := ⟨_, rfl⟩
      have hβ2 : β < 2 := by rw [← hβ]; exact Nat.mod_lt _ (by omega)
      have e1 := q_any HN.out HK.out hp ht
      have e2 : (b : Int) / 2 ^ (K - 1 - s) % 2 = (β : Int) := by rw [show K - 1 - s = r' by have := HSR.out; omega, bit_cast, hβ]
      obtain ⟨x, hx⟩ : ∃ x, (t + β) % 2 = x := ⟨_, rfl⟩
      obtain ⟨y, hy⟩ : ∃ y, t / 2 * 2 + β = y := ⟨_, rfl⟩
      have e3 := xor_bit t (by omega) β hβ2
      have e4 := or_bit t (by omega) β hβ2
      rw [hx] at e3
      rw [hy] at e4
      have hny : nxt n b r' p = y := by rw [nxt, ht, hβ, hy]
      have hcx : crs n b r' p = x := by rw [crs, ht, hβ, hx]
      have hyn : y < n := by rw [← hny]; exact nxt_lt HN.out hp
      have HA1 := Lib.hid (show (acc ++ [(y : Int)]) ++ pathR n b r' y = pathL n a b by rw [← HACC.out, pathR_succ, hny]; simp)
      have HA2 := Lib.hid (show (acx ++ [(x : Int)]) ++ crossR n b r' y = crossL n a b by rw [← HACX.out, crossR_succ, hny, hcx]; simp)
      clear HL HL2 HACC HACX ht hβ hx hy hny hcx
      go_wp2_with (at_builtin; refine wpL_append1 _ rfl (.tmp 40) (.tmp 45) _ rfl w.heap.size 3 (.int .i64 0) 8 Try.underlying24 intInfo rfl _ s _ _ rfl ho2 _ rfl rfl (by unfold maxLen; omega) (by omega) hsz ?_)
      intro A4 c4 w4 ho4 hg4 hat4
      have hb4 := own_below ho2 hbl hsz hg4
      have hsz4 := hb4.size
      have ho14 := append2_keep ho1 hg4 HSEP.out
      have HS4 := Lib.hid (sep_append ho1 HSEP.out hat4)
      clear ho1 ho2 hg4 hat4
      go_wp2_with (at_builtin; refine wpL_append1 _ rfl (.tmp 51) (.tmp 53) _ rfl w.heap.size 3 (.int .i64 0) 8 Try.underlying24 intInfo rfl _ s _ _ rfl ho14 _ rfl rfl (by unfold maxLen; omega) (by omega) hsz4 ?_)
      intro A5 c5 w5 ho5 hg5 hat5
      have hb5 := own_below ho14 hb4 hsz4 hg5
      have HS4' := Lib.hid (fun g (h1 : blk A4 = some g) (h2 : blk A1 = some g) => HS4.out g h2 h1)
      have ho45 := append2_keep ho4 hg5 HS4'.out
      have HS5 := Lib.hid (sep_append ho4 HS4'.out hat5)
      clear ho14 hg5 hat5 ho4
      go_wp2
      go_roundw
      case rel => exact ⟨s + 1, r', y, A5, c5, acc ++ [(y : Int)], A4, c4, acx ++ [(x : Int)], by have := HSR.out; omega, by omega, by go_num, rfl, hyn, rfl, rfl, by rw [OwnI, List.map_append]; simpa using ho5, by rw [OwnI, List.map_append]; simpa using ho45, fun g h1 h2 => HS5.out g h2 h1, hb5, HA1.out, HA2.out⟩
      case measure => (simp [intOf] <;> omega)
    · obtain rfl : s = K := by omega
      obtain rfl : r = 0 := by have := HSR.out; omega
      have H1 := Lib.hid (show acc = pathL n a b by rw [← HACC.out, pathR_zero, List.append_nil])
      have H2 := Lib.hid (show acx = crossL n a b by rw [← HACX.out, crossR_zero, List.append_nil])
      have HK2 := Lib.hid HK.out.symm
      clear HL HL2 HACC HACX HK
      go_wp2
      go_ret2
      exact ⟨_, _, _, _, s, rfl, by rw [← H1.out]; exact ho1, by rw [← H2.out]; exact ho2, HK2.out, hbl⟩

end Go.Proofs.Ytaeabpmpfadkjaa
