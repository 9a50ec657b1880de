/- Chapter 16: the law's own helpers: the members of a set, and whether a list has a number. -/
import Derived.Test.YthaggobbcgjfkaaC16n
namespace Go.Proofs.Ythaggobbcgjfkaa
open Go.RowKit Go.Deep
set_option linter.unusedVariables false
attribute [local go_sem] bits_and_one

theorem memL_le {s k : Nat} : (memL s k).length ≤ k := by
  unfold memL
  rw [List.length_map]
  have := List.length_filter_le (bitAt s) (List.range k)
  simpa using this
theorem bit_div {s k v : Nat} (h : s / 2 ^ k = v) : bitAt s k = (v % 2 == 1) := by rw [bitAt, h]
theorem div_next (s k : Nat) : s / 2 ^ (k + 1) = s / 2 ^ k / 2 := by rw [Nat.pow_succ, Nat.div_div_eq_div_mul]
theorem div_end : ∀ s, s < 64 → ∀ k, k < 7 → s / 2 ^ k ≠ 0 → k < 6 := by decide +kernel
set_option maxHeartbeats 2000000 in
theorem lawMembers (s : Nat) (w : World) (hs : s < 64) : Calls Try.prog 37 #[.int .i64 s] w fun e w' => ∃ A n c, n ≤ 6 ∧ e = .returned (.slice A n c) ∧ OwnI w' w.heap.size 3 A n c (memL s 6) ∧ Below w.heap.size w w' := by
  go_enter Try.func37, Try.ntmps37
  go_wp2_with fail
  go_loopw [0, 3, 4] (fun sv lv iv wr => ∃ k v m A c, sv = .int .i64 (v : Nat) ∧ lv = .slice A m c ∧ iv = .int .i64 (k : Nat) ∧ Hid (s / 2 ^ k = v) ∧ v < 64 ∧ k ≤ 6 ∧ m ≤ k ∧ OwnI wr w.heap.size 3 A m c (memL s k) ∧ Below w.heap.size w wr) (fun sv _ _ _ => (intOf sv).toNat)
  case atStart => exact ⟨0, s, 0, _, _, rfl, rfl, rfl, Lib.hid (by simp), hs, by omega, by omega, own_empty w _, below_alloc w _⟩
  case round =>
    obtain ⟨k, v, m, A, c, rfl, rfl, rfl, HV, hv, hk, hmk, hown, hbl⟩ := hrel
    have hsz := hbl.size
    by_cases h0 : 0 < v
    · have hk6 : k < 6 := div_end s hs k (by omega) (by rw [HV.out]; omega)
      have HV2 := Lib.hid (show s / 2 ^ (k + 1) = v / 2 by rw [div_next, HV.out])
      obtain ⟨v2, hv2⟩ : ∃ v2, v / 2 = v2 := ⟨_, rfl⟩
      rw [hv2] at HV2
      have hv3 : (v : Int) / 2 = (v2 : Int) := by omega
      have HM := Lib.hid (show v2 < v by omega)
      clear hv2
      cases hb : bitAt s k with
      | true =>
        have h1 : ((v : Int) % 2 == 1) = true := by
          have := bit_div HV.out
          rw [hb] at this
          have h2 : v % 2 = 1 := by simpa using this.symm
          rw [beq_iff_eq]; omega
        have H := Lib.hid (memL_on hb)
        clear hb
        go_wp2_with (at_builtin; refine wpL_append1 _ rfl _ _ _ rfl w.heap.size 3 (.int .i64 0) 8 Try.underlying22 intInfo rfl _ m _ _ rfl hown _ rfl rfl (by unfold maxLen; omega) (by omega) hsz ?_)
        intro A2 c2 w2 ho2 hg2 hat2
        have hb2 := own_below hown hbl hsz hg2
        go_wp2
        go_roundw
        case rel => exact ⟨k + 1, v2, m + 1, A2, c2, rfl, rfl, by go_num, HV2, by have := HM.out; omega, by omega, by omega, by rw [OwnI, H.out]; simpa using ho2, hb2⟩
        case measure => have := HM.out; simp [intOf]; omega
      | false =>
        have h1 : ((v : Int) % 2 == 1) = false := by
          have := bit_div HV.out
          rw [hb] at this
          have h2 : v % 2 ≠ 1 := by simpa using this.symm
          rw [beq_eq_false_iff_ne]; omega
        have H := Lib.hid (memL_off hb)
        clear hb
        go_wp2
        go_roundw
        case rel => exact ⟨k + 1, v2, m, A, c, rfl, rfl, by go_num, HV2, by have := HM.out; omega, by omega, by omega, by rw [H.out]; exact hown, hbl⟩
        case measure => have := HM.out; simp [intOf]; omega
    · obtain rfl : v = 0 := by omega
      have HE := Lib.hid (memL_end s hs k (by omega) HV.out)
      go_wp2
      go_ret
      exact ⟨A, m, c, by omega, rfl, by rw [← HE.out]; exact hown, hbl⟩

def hasTo (zs : List Int) (x : Int) (k : Nat) : Prop := ∀ j, j < k → nth zs j ≠ x
theorem has_yes {zs : List Int} {x : Int} {k : Nat} (hk : k < zs.length) (h : nth zs k = x) : zs.contains x = true := by
  rw [List.contains_iff_mem, ← h]; exact nth_mem hk
theorem has_no {zs : List Int} {x : Int} (h : hasTo zs x zs.length) : zs.contains x = false := by
  cases hc : zs.contains x with
  | false => rfl
  | true =>
    rw [List.contains_iff_mem] at hc
    obtain ⟨j, hj, e⟩ := List.getElem_of_mem hc
    exact absurd (by rw [nth_eq hj]; exact e) (h j hj)
set_option maxHeartbeats 2000000 in
theorem lawHas (A : Option Addr) (n c : Nat) (zs : List Int) (x : Int) (w : World) (ha : RdI w A n zs) (hn : n ≤ 1048576) : Calls Try.prog 38 #[.slice A n c, .int .i64 x] w fun e w' => e = .returned (.bool (zs.contains x)) ∧ w = w' := by
  have HL := Lib.hid ha.lenI
  go_enter Try.func38, Try.ntmps38
  go_wp2_with fail
  go_loopw [9] (fun iv wr => ∃ k : Nat, k ≤ n ∧ iv = .int .i64 k ∧ Hid (hasTo zs x k) ∧ w = wr) (fun iv _ => n - (intOf iv).toNat)
  case atStart => exact ⟨0, Nat.zero_le _, rfl, Lib.hid (fun j hj => by omega), rfl⟩
  case round =>
    obtain ⟨k, hk, rfl, HT, rfl⟩ := hrel
    by_cases hlt : k < n
    · obtain ⟨a1, rfl, _, h1⟩ := ha.at_ hlt
      by_cases he : nth zs k = x
      · have H := Lib.hid (has_yes (by rw [HL.out]; exact hlt) he)
        rw [he] at h1
        clear he
        go_wp2
        go_ret
        exact ⟨ret_bool H.out.symm, rfl⟩
      · have HE := Lib.hid he
        have e1 : (nth zs k == x) = false := by rw [beq_eq_false_iff_ne]; exact he
        clear he
        go_wp2
        go_roundw
        case rel => exact ⟨k + 1, by omega, by go_num, Lib.hid (fun j hj => by
          by_cases e : j = k
          · subst e; exact HE.out
          · exact HT.out j (by omega)), by first | rfl | trivial⟩
        case measure => simp [intOf]; omega
    · obtain rfl : k = n := by omega
      have H := Lib.hid (has_no (zs := zs) (x := x) (by rw [HL.out]; exact HT.out))
      go_wp2
      go_ret
      exact ⟨ret_bool H.out.symm, rfl⟩
end Go.Proofs.Ythaggobbcgjfkaa
