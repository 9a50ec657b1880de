/- Orders: lists with each number from 0 up to their length once: spec.l02Perm and impl.isOrder answer 'isOrd'. -/
import Derived.Test.YtaeabpmpfadkjaaIn
namespace Go.Proofs.Ytaeabpmpfadkjaa
open Go.RowKit Go.Deep
set_option linter.unusedVariables false

theorem boolInfo : (Try.prog.info? 4).map (fun i => (i.zero, i.size, i.bytes)) = some (some (.bool false), 1, 1) := by kernel_rfl
def inPfx (zs : List Int) (k j : Nat) : Bool := decide ((j : Int) ∈ zs.take k)
def seenL (n : Nat) (zs : List Int) (k : Nat) : List Value := (List.range n).map fun j => Value.bool (inPfx zs k j)
def ordTo (zs : List Int) : Nat → Bool
  | 0 => true
  | k + 1 => ordTo zs k && decide (0 ≤ nth zs k ∧ nth zs k < zs.length) && !inPfx zs k (nth zs k).toNat
def isOrd (zs : List Int) : Bool := ordTo zs zs.length
theorem seen_get {n : Nat} {zs : List Int} {k j : Nat} (h : j < n) : (seenL n zs k)[j]? = some (.bool (inPfx zs k j)) := by
  simp [seenL, h]
theorem inPfx_succ {zs : List Int} {k z : Nat} (hk : k < zs.length) (hz : nth zs k = z) (j : Nat) : inPfx zs (k + 1) j = (inPfx zs k j || j == z) := by
  unfold inPfx
  rw [take_nth hk, hz]
  rw [Bool.eq_iff_iff]
  simp only [decide_eq_true_eq, Bool.or_eq_true, beq_iff_eq, List.mem_append, List.mem_singleton]
  constructor
  · rintro (h | h)
    · exact .inl h
    · exact .inr (by omega)
  · rintro (h | h)
    · exact .inl h
    · exact .inr (by omega)
theorem seen_set {n : Nat} {zs : List Int} {k z : Nat} (hk : k < zs.length) (hz : nth zs k = z) (hn : z < n) : (seenL n zs k).set z (.bool true) = seenL n zs (k + 1) := by
  apply List.ext_getElem?
  intro j
  rw [List.getElem?_set]
  by_cases hj : j < n
  · rw [seen_get hj, seen_get hj, inPfx_succ hk hz]
    by_cases e : z = j
    · subst e; simp [seenL, hn]
    · have h2 : (j == z) = false := by simp; omega
      simp [e, h2]
  · have h1 : (seenL n zs k).length ≤ j := by simp [seenL]; omega
    have h2 : (seenL n zs (k + 1)).length ≤ j := by simp [seenL]; omega
    rw [List.getElem?_eq_none h1, List.getElem?_eq_none h2]
    have : z ≠ j := by omega
    simp [this]
theorem seen_zero (n : Nat) (zs : List Int) : List.replicate n (Value.bool false) = seenL n zs 0 := by
  apply List.ext_getElem?
  intro j
  by_cases hj : j < n
  · rw [seen_get hj]; simp [hj, inPfx]
  · simp [seenL, hj]
theorem ord_down {zs : List Int} {k : Nat} : ∀ m, k ≤ m → ordTo zs k = false → ordTo zs m = false := by
  intro m
  induction m with
  | zero => intro h1 h2; have : k = 0 := by omega
            subst this; exact h2
  | succ m ih =>
    intro h1 h2
    by_cases e : k = m + 1
    · subst e; exact h2
    · rw [ordTo, ih (by omega) h2]; rfl
theorem ord_bad {zs : List Int} {k : Nat} (hk : k < zs.length) (h : ordTo zs (k + 1) = false) : isOrd zs = false := ord_down zs.length (by omega) h
theorem ord_step {zs : List Int} {k z : Nat} (h : ordTo zs k = true) (hz : nth zs k = z) (hn : z < zs.length) (hs : inPfx zs k z = false) : ordTo zs (k + 1) = true := by
  rw [ordTo, h, hz, Int.toNat_natCast, hs]; simp; omega
theorem ord_seen {zs : List Int} {k z : Nat} (hz : nth zs k = z) (hs : inPfx zs k z = true) : ordTo zs (k + 1) = false := by
  rw [ordTo, hz, Int.toNat_natCast, hs]; simp
theorem ord_out {zs : List Int} {k : Nat} (hz : ¬ (0 ≤ nth zs k ∧ nth zs k < zs.length)) : ordTo zs (k + 1) = false := by
  rw [ordTo, decide_eq_false hz]; simp
theorem ord_all {zs : List Int} (h : isOrd zs = true) : ∀ k, k ≤ zs.length → ordTo zs k = true := by
  intro k hk
  cases hc : ordTo zs k with
  | true => rfl
  | false => rw [isOrd, ord_down zs.length hk hc] at h; cases h
theorem ord_get {zs : List Int} (h : isOrd zs = true) {k : Nat} (hk : k < zs.length) : ∃ z : Nat, nth zs k = z ∧ z < zs.length := by
  have h1 := ord_all h (k + 1) (by omega)
  rw [ordTo, Bool.and_eq_true, Bool.and_eq_true, decide_eq_true_eq] at h1
  obtain ⟨z, hz⟩ := Int.eq_ofNat_of_zero_le h1.1.2.1
  exact ⟨z, hz, by omega⟩
theorem ord_inj {zs : List Int} (h : isOrd zs = true) {i k : Nat} (hi : i < k) (hk : k < zs.length) : nth zs i ≠ nth zs k := by
  have h1 := ord_all h (k + 1) (by omega)
  obtain ⟨z, hz, hzn⟩ := ord_get h hk
  rw [ordTo, hz, Int.toNat_natCast, Bool.and_eq_true] at h1
  intro he
  have h2 : inPfx zs k z = true := by
    unfold inPfx
    rw [decide_eq_true_eq, ← hz, ← he, nth_eq (by omega)]
    exact List.mem_take_iff_getElem.2 ⟨i, by omega, rfl⟩
  rw [h2] at h1
  exact absurd h1.2 (by simp)
attribute [irreducible] isOrd ordTo inPfx seenL

set_option maxHeartbeats 2000000 in
theorem specPerm (A : Option Addr) (n c : Nat) (zs : List Int) (w : World) (ha : RdI w A n zs) (hn : n ≤ 1048576) :
    Calls Try.prog 71 #[.int .i64 n, .slice A n c] w fun e w' => e = .returned (.bool (isOrd zs)) ∧ Below w.heap.size w w' := by
  have hl := Lib.hid ha.lenI
  go_enter Try.func71, Try.ntmps71
  go_wp2_with (at_make; refine wpL_make _ rfl _ _ 70 rfl 4 (.bool false) 1 Try.underlying70 boolInfo rfl _ _ _ _ n rfl rfl rfl rfl (by omega) (by unfold maxLen; omega) ?_)
  intro w1 hown hbl0 hsz0
  rw [seen_zero n zs] at hown
  go_wp2
  go_loopw [16] (fun i wr => ∃ k : Nat, k ≤ n ∧ i = .int .i64 k ∧ Own wr w.heap.size 4 (some ⟨w.heap.size, 0, none⟩) n n (seenL n zs k) ∧ Below w.heap.size w wr ∧ ordTo zs k = true) (fun i _ => n - (intOf i).toNat)
  case atStart => exact ⟨0, Nat.zero_le _, rfl, hown, hbl0, by rw [ordTo]⟩
  case round =>
    clear hown hbl0 hsz0
    obtain ⟨k, hk, rfl, hown, hbl, hord⟩ := hrel
    have HO := Lib.hid hord
    clear hord
    by_cases hlt : k < n
    · obtain ⟨a1, rfl, _, h1⟩ := (ha.below hbl).at_ hlt
      by_cases hz : 0 ≤ nth zs k ∧ nth zs k < n
      · obtain ⟨z, hzz⟩ := Int.eq_ofNat_of_zero_le hz.1
        have hzn : z < n := by omega
        rw [hzz] at h1
        have HZ := Lib.hid hzz
        obtain ⟨g, u, hgA, _, _, hu, h2, h3⟩ := hown.at_ hzn
        injection hgA with hgA
        injection hgA with hgA
        subst hgA
        rw [seen_get hzn] at hu
        injection hu with hu
        subst hu
        clear hzz hz
        cases hs : inPfx zs k z with
        | true =>
          have H := Lib.hid (ord_bad (by rw [hl.out]; exact hlt) (ord_seen HZ.out hs))
          rw [hs] at h2
          clear hs hown
          go_wp2_with (go_at_call 47; refine (l01In_yes _ _ _ _ (by omega)).mono ?_; rintro e w' ⟨rfl, rfl⟩)
          go_ret
          exact ⟨ret_bool H.out.symm, hbl⟩
        | false =>
          have hown2 := hown.set_ (Value.bool true) hzn
          rw [seen_set (by rw [hl.out]; exact hlt) HZ.out hzn] at hown2
          have hb2 := hbl.setCell (p := ⟨w.heap.size, z, none⟩) (Nat.le_refl _) (.bool true)
          have H := Lib.hid (ord_step HO.out HZ.out (by rw [hl.out]; exact hzn) hs)
          rw [hs] at h2
          clear hs hown hbl
          go_wp2_with (go_at_call 47; refine (l01In_yes _ _ _ _ (by omega)).mono ?_; rintro e w' ⟨rfl, rfl⟩)
          go_roundw
          case rel => exact ⟨k + 1, by omega, by go_num, hown2, hb2, H.out⟩
          case measure => (simp [intOf] <;> omega)
      · have H := Lib.hid (ord_bad (by rw [hl.out]; exact hlt) (ord_out (by rw [hl.out]; exact hz)))
        by_cases hz0 : 0 ≤ nth zs k
        · have hz1 : (n : Int) ≤ nth zs k := by omega
          clear hz
          go_wp2_with (go_at_call 47; refine (l01In_no _ _ _ _ (by omega)).mono ?_; rintro e w' ⟨rfl, rfl⟩)
          go_ret
          exact ⟨ret_bool H.out.symm, hbl⟩
        · clear hz
          go_wp2_with (go_at_call 47; refine (l01In_no _ _ _ _ (by omega)).mono ?_; rintro e w' ⟨rfl, rfl⟩)
          go_ret
          exact ⟨ret_bool H.out.symm, hbl⟩
    · obtain rfl : k = n := by omega
      have H := Lib.hid (show isOrd zs = true by unfold isOrd; rw [hl.out]; exact HO.out)
      go_wp2
      go_ret
      exact ⟨ret_bool H.out.symm, hbl⟩

set_option maxHeartbeats 2000000 in
theorem implIsOrder (A : Option Addr) (n c : Nat) (zs : List Int) (w : World) (ha : RdI w A n zs) (hn : n ≤ 1048576) :
    Calls Try.prog 72 #[.slice A n c, .int .i64 n] w fun e w' => e = .returned (.bool (isOrd zs)) ∧ Below w.heap.size w w' := by
  have hl := Lib.hid ha.lenI
  go_enter Try.func72, Try.ntmps72
  go_wp2_with (at_make; refine wpL_make _ rfl _ _ 70 rfl 4 (.bool false) 1 Try.underlying70 boolInfo rfl _ _ _ _ n rfl rfl rfl rfl (by omega) (by unfold maxLen; omega) ?_)
  intro w1 hown hbl0 hsz0
  rw [seen_zero n zs] at hown
  go_wp2
  go_loopw [16] (fun i wr => ∃ k : Nat, k ≤ n ∧ i = .int .i64 k ∧ Own wr w.heap.size 4 (some ⟨w.heap.size, 0, none⟩) n n (seenL n zs k) ∧ Below w.heap.size w wr ∧ ordTo zs k = true) (fun i _ => n - (intOf i).toNat)
  case atStart => exact ⟨0, Nat.zero_le _, rfl, hown, hbl0, by rw [ordTo]⟩
  case round =>
    clear hown hbl0 hsz0
    obtain ⟨k, hk, rfl, hown, hbl, hord⟩ := hrel
    have HO := Lib.hid hord
    clear hord
    by_cases hlt : k < n
    · obtain ⟨a1, rfl, _, h1⟩ := (ha.below hbl).at_ hlt
      by_cases hz : 0 ≤ nth zs k ∧ nth zs k < n
      · obtain ⟨z, hzz⟩ := Int.eq_ofNat_of_zero_le hz.1
        have hzn : z < n := by omega
        rw [hzz] at h1
        have HZ := Lib.hid hzz
        obtain ⟨g, u, hgA, _, _, hu, h2, h3⟩ := hown.at_ hzn
        injection hgA with hgA
        injection hgA with hgA
        subst hgA
        rw [seen_get hzn] at hu
        injection hu with hu
        subst hu
        clear hzz hz
        cases hs : inPfx zs k z with
        | true =>
          have H := Lib.hid (ord_bad (by rw [hl.out]; exact hlt) (ord_seen HZ.out hs))
          rw [hs] at h2
          clear hs hown
          go_wp2
          go_ret
          exact ⟨ret_bool H.out.symm, hbl⟩
        | false =>
          have hown2 := hown.set_ (Value.bool true) hzn
          rw [seen_set (by rw [hl.out]; exact hlt) HZ.out hzn] at hown2
          have hb2 := hbl.setCell (p := ⟨w.heap.size, z, none⟩) (Nat.le_refl _) (.bool true)
          have H := Lib.hid (ord_step HO.out HZ.out (by rw [hl.out]; exact hzn) hs)
          rw [hs] at h2
          clear hs hown hbl
          go_wp2
          go_roundw
          case rel => exact ⟨k + 1, by omega, by go_num, hown2, hb2, H.out⟩
          case measure => (simp [intOf] <;> omega)
      · have H := Lib.hid (ord_bad (by rw [hl.out]; exact hlt) (ord_out (by rw [hl.out]; exact hz)))
        by_cases hz0 : 0 ≤ nth zs k
        · have hz1 : (n : Int) ≤ nth zs k := by omega
          clear hz
          go_wp2
          go_ret
          exact ⟨ret_bool H.out.symm, hbl⟩
        · clear hz
          go_wp2
          go_ret
          exact ⟨ret_bool H.out.symm, hbl⟩
    · obtain rfl : k = n := by omega
      have H := Lib.hid (show isOrd zs = true by unfold isOrd; rw [hl.out]; exact HO.out)
      go_wp2
      go_ret
      exact ⟨ret_bool H.out.symm, hbl⟩

end Go.Proofs.Ytaeabpmpfadkjaa
