/- Chapter 14: all settings of small orders. -/
import Derived.Test.YtchmmaokommnaaaC14h
import Derived.Test.YtchmmaokommnaaaMat3
namespace Go.Proofs.Ytchmmaokommnaaa
open Go.RowKit Go.Deep
set_option linter.unusedVariables false
attribute [local go_sem] bits_and_one

/-- The k lowest bits of a mask. -/
def bitTo (m : Nat) : Nat → List Int
  | 0 => []
  | i + 1 => bitTo m i ++ [((m / 2 ^ i % 2 : Nat) : Int)]
theorem bitTo_zero (m : Nat) : bitTo m 0 = [] := rfl
theorem bitTo_succ (m i : Nat) : bitTo m (i + 1) = bitTo m i ++ [((m / 2 ^ i % 2 : Nat) : Int)] := rfl
theorem bitTo_len (m i : Nat) : (bitTo m i).length = i := by
  induction i with
  | zero => rfl
  | succ i ih => rw [bitTo, List.length_append, ih]; rfl
theorem bitTo_nth {m k : Nat} : ∀ n, k < n → nth (bitTo m n) k = ((m / 2 ^ k % 2 : Nat) : Int) := by
  intro n
  induction n with
  | zero => intro h; omega
  | succ n ih =>
    intro h
    have hl := bitTo_len m n
    rw [bitTo_succ]
    by_cases e : k = n
    · subst e
      rw [nth_eq (by rw [List.length_append, hl]; simp), List.getElem_append_right (by omega)]
      simp [hl]
    · have h2 := ih (by omega)
      rw [nth_eq (by rw [hl]; omega)] at h2
      rw [nth_eq (by rw [List.length_append, hl]; simp; omega), List.getElem_append_left (by rw [hl]; omega)]
      exact h2
theorem bitTo_bits (m n : Nat) : Bits (bitTo m n) n := fun i hi => by
  rw [bitTo_nth n hi]
  have : m / 2 ^ i % 2 < 2 := Nat.mod_lt _ (by omega)
  omega
def good (n k : Nat) (zs : List Int) (m : Nat) : Bool := decide (fab n (bitTo m k) (marks 0 n) = zs)
def cntG (p : Nat → Bool) : Nat → Nat
  | 0 => 0
  | m + 1 => cntG p m + if p m = true then 1 else 0
theorem cntG_zero (p : Nat → Bool) : cntG p 0 = 0 := rfl
theorem cntG_on {p : Nat → Bool} {m : Nat} (h : p m = true) : cntG p (m + 1) = cntG p m + 1 := by rw [cntG, if_pos h]
theorem cntG_off {p : Nat → Bool} {m : Nat} (h : p m = false) : cntG p (m + 1) = cntG p m := by rw [cntG, h]; rfl
theorem cntG_le (p : Nat → Bool) (m : Nat) : cntG p m ≤ m := by
  induction m with
  | zero => exact Nat.le_refl _
  | succ m ih => rw [cntG]; split <;> omega
def eqTo (xs ys : List Int) : Nat → Bool
  | 0 => true
  | i + 1 => eqTo xs ys i && (nth xs i == nth ys i)
theorem eqTo_zero (xs ys : List Int) : eqTo xs ys 0 = true := rfl
theorem eqTo_succ (xs ys : List Int) (i : Nat) : eqTo xs ys (i + 1) = (eqTo xs ys i && (nth xs i == nth ys i)) := rfl
theorem eqTo_take {xs ys : List Int} : ∀ i, i ≤ xs.length → i ≤ ys.length → eqTo xs ys i = decide (xs.take i = ys.take i) := by
  intro i
  induction i with
  | zero => intro _ _; simp [eqTo]
  | succ i ih =>
    intro h1 h2
    rw [eqTo, ih (by omega) (by omega), take_nth h1, take_nth h2]
    rw [Bool.eq_iff_iff]
    simp only [Bool.and_eq_true, decide_eq_true_eq, beq_iff_eq]
    constructor
    · rintro ⟨a, b⟩; rw [a, b]
    · intro h
      have := List.append_inj h (by simp; omega)
      exact ⟨this.1, by simpa using this.2⟩
theorem eqTo_all {xs ys : List Int} {n : Nat} (h1 : xs.length = n) (h2 : ys.length = n) : eqTo xs ys n = decide (xs = ys) := by
  rw [eqTo_take n (by omega) (by omega), List.take_of_length_le (by omega), List.take_of_length_le (by omega)]
theorem eqTo_down {xs ys : List Int} {i : Nat} (h : eqTo xs ys i = false) : ∀ m, i ≤ m → eqTo xs ys m = false := by
  intro m
  induction m with
  | zero => intro hm; have : i = 0 := by omega
            subst this; exact h
  | succ m ih =>
    intro hm
    by_cases e : i = m + 1
    · subst e; exact h
    · rw [eqTo, ih (by omega)]; rfl
/-- The settings of the first m masks that have the order. -/
def allL (k : Nat) (p : Nat → Bool) : Nat → List (List Int)
  | 0 => []
  | m + 1 => allL k p m ++ if p m = true then [bitTo m k] else []
theorem allL_len (k : Nat) (p : Nat → Bool) (m : Nat) : (allL k p m).length = cntG p m := by
  induction m with
  | zero => rfl
  | succ m ih => rw [allL, cntG, List.length_append, ih]; split <;> rfl
theorem allL_off {k : Nat} {p : Nat → Bool} {m : Nat} (h : p m = false) : allL k p (m + 1) = allL k p m := by rw [allL, h]; simp
theorem allL_old {k : Nat} {p : Nat → Bool} {m j : Nat} (h : p m = true) (hj : j < cntG p m) : row (allL k p (m + 1)) j = row (allL k p m) j := by
  have hl := allL_len k p m
  rw [allL, if_pos h]
  unfold row
  simp [List.getD, List.getElem?_append_left (show j < (allL k p m).length by omega)]
theorem allL_new {k : Nat} {p : Nat → Bool} {m : Nat} (h : p m = true) : row (allL k p (m + 1)) (cntG p m) = bitTo m k := by
  have hl := allL_len k p m
  rw [allL, if_pos h, ← hl]
  unfold row
  simp [List.getD]
attribute [irreducible] bitTo good cntG eqTo allL

set_option maxHeartbeats 1000000 in
theorem implEqual (A B : Option Addr) (n c d : Nat) (xs ys : List Int) (w : World) (ha : RdI w A n xs) (hb : RdI w B n ys) (hn : n ≤ 1048576) :
    Calls Try.prog 63 #[.slice A n c, .slice B n d] w fun e w' => e = .returned (.bool (decide (xs = ys))) ∧ Below w.heap.size w w' := by
  have HX := Lib.hid ha.lenI
  have HY := Lib.hid hb.lenI
  have HE := Lib.hid (eqTo_all HX.out HY.out)
  go_enter Try.func63, Try.ntmps63
  go_wp2
  go_loopw [13] (fun i wr => ∃ k : Nat, k ≤ n ∧ i = .int .i64 k ∧ Hid (eqTo xs ys k = true) ∧ Below w.heap.size w wr) (fun i _ => n - (intOf i).toNat)
  case atStart => exact ⟨0, Nat.zero_le _, rfl, Lib.hid (eqTo_zero _ _), Below.refl _ _⟩
  case round =>
    obtain ⟨k, hk, rfl, HK, hbl⟩ := hrel
    by_cases hlt : k < n
    · obtain ⟨a1, rfl, _, h1⟩ := (ha.below hbl).at_ hlt
      obtain ⟨a2, rfl, _, h2⟩ := (hb.below hbl).at_ hlt
      by_cases he : nth xs k = nth ys k
      · have H := Lib.hid (show eqTo xs ys (k + 1) = true by rw [eqTo_succ, HK.out, he]; simp)
        have e1 : (nth xs k != nth ys k) = false := by simp [he]
        clear he
        go_wp2
        go_region
        all_goals
          go_wp2
          go_roundw
          case rel => exact ⟨k + 1, by omega, by go_num, H, hbl.drew⟩
          case measure => (simp [intOf] <;> omega)
      · have H := Lib.hid (show decide (xs = ys) = false by rw [← HE.out]; exact eqTo_down (i := k + 1) (by rw [eqTo_succ]; simp [he]) n (by omega))
        have e1 : (nth xs k != nth ys k) = true := by simp [he]
        clear he
        go_wp2
        go_region
        all_goals
          go_wp2
          go_ret
          exact ⟨ret_bool H.out.symm, hbl.drew⟩
    · obtain rfl : k = n := by omega
      have H := Lib.hid (show decide (xs = ys) = true by rw [← HE.out]; exact HK.out)
      go_wp2
      go_ret
      exact ⟨ret_bool H.out.symm, hbl⟩

set_option maxHeartbeats 8000000 in
theorem specAll1None (A : Option Addr) (c : Nat) (zs : List Int) (w : World) (ha : RdI w A 1 zs) :
    Calls Try.prog 53 #[.slice A 1 c, .int .i64 (-1), .int .i64 0] w fun e w' => e = .returned (.int .i64 (cntG (good 1 0 zs) 1)) ∧ Below w.heap.size w w' := by
  have HL := Lib.hid ha.lenI
  have CF := Lib.hid (show ∀ w, Calls Try.prog 47 #[.int .i64 1] w fun e w' => ∃ A' c', e = .returned (.slice A' 1 c') ∧ OwnI w' w.heap.size 3 A' 1 c' (marks 0 1) ∧ Below w.heap.size w w' from fun w => specFirst 1 w (by omega))
  have CA := Lib.hid (show ∀ (S : Option Addr) (d : Nat) (s : List Int) (A : Option Addr) (c : Nat) (l : List Int) (w : World), RdI w S 0 s → 0 ≤ d → d ≤ maxLen → Bits s 0 → RdI w A 1 l →
    Calls Try.prog 45 #[.int .i64 1, .slice S 0 d, .slice A 1 c] w fun e w' => ∃ A' c', e = .returned (.slice A' 1 c') ∧ OwnI w' w.heap.size 3 A' 1 c' (fab1 s l) ∧ Below w.heap.size w w' from specFab1)
  have CN := Lib.hid (specCnt 1)
  go_enter Try.func53, Try.ntmps53
  go_wp2_with fail
  refine (CN.out _ (by unfold IsP; omega)).mono ?_
  rintro e w' ⟨rfl, rfl⟩
  rw [show swN 1 = 0 from rfl]
  go_wp2_with fail
  go_loopw [9, 10] (fun cv i wr => ∃ m : Nat, m ≤ 1 ∧ i = .int .i64 m ∧ cv = .int .i64 (cntG (good 1 0 zs) m) ∧ Below w.heap.size w wr) (fun _ i _ => 1 - (intOf i).toNat)
  case atStart => exact ⟨0, Nat.zero_le _, rfl, by rw [cntG_zero]; rfl, Below.refl _ _⟩
  case round =>
    obtain ⟨m, hm, rfl, rfl, hbl⟩ := hrel
    have hsz := hbl.size
    have hcm := cntG_le (good 1 0 zs) m
    by_cases hlt : m < 1
    · have dm : decide ((m : Int) < 1) = true := by simp; omega
      go_wp2_with fail
      go_loopw [11, 12] (fun v' i w3 => ∃ q : Nat, ∃ A' c', q ≤ 0 ∧ i = .int .i64 q ∧ v' = .slice A' q c' ∧ OwnI w3 wr.heap.size 3 A' q c' (bitTo m q) ∧ Below wr.heap.size wr w3) (fun _ i _ => 0 - (intOf i).toNat)
      case atStart => exact ⟨0, _, _, Nat.zero_le _, rfl, rfl, by simpa [OwnI, bitTo_zero] using own_empty wr 3, below_alloc wr _⟩
      case round =>
        obtain ⟨q, A1, c1, hq, rfl, rfl, o1, hb1⟩ := hrel
        have hs1 := hb1.size
        by_cases hqk : q < 0
        · exact absurd hqk (by omega)
        · obtain rfl : q = 0 := by omega
          have hbl1 := hbl.trans (hb1.mono hsz)
          have hs2 := hbl1.size
          go_wp2_with fail
          refine (CF.out _).mono ?_
          rintro e w4 ⟨A4, c4, rfl, o4, hb4⟩
          have hs4 := hb4.size
          go_wp2_with fail
          refine (CA.out A1 c1 (bitTo m 0) A4 c4 _ w4 (o1.rd.below hb4) o1.cap.1 o1.cap.2 (bitTo_bits m 0) o4.rd).mono ?_
          rintro e w5 ⟨A5, c5, rfl, o5, hb5⟩
          have hbl5 := (hbl1.trans (hb4.mono hs2)).trans (hb5.mono (by omega))
          have hs5 := hbl5.size
          obtain ⟨X, hX⟩ : ∃ X, fab1 (bitTo m 0) (marks 0 1) = X := ⟨_, rfl⟩
          rw [hX] at o5
          have HX := Lib.hid (show good 1 0 zs m = eqTo X zs 1 by
            rw [eqTo_all o5.lenI HL.out, ← hX]
            unfold good
            rfl)
          have r5 := o5.rd
          clear hX o1 o4 o5 hb1 hb4 hb5 hbl1
          go_wp2_with fail
          go_loop [13, 55] (fun sv i => ∃ t : Nat, t ≤ 1 ∧ i = .int .i64 t ∧ sv = .bool (eqTo X zs t)) (fun _ i => 1 - (intOf i).toNat)
          case atStart => exact ⟨0, Nat.zero_le _, rfl, by rw [eqTo_zero]⟩
          case round =>
            obtain ⟨t, ht, rfl, rfl⟩ := hrel
            by_cases htn : t < 1
            · obtain ⟨a5, rfl, _, h1⟩ := r5.at_ htn
              obtain ⟨a0, rfl, _, h2⟩ := (ha.below hbl5).at_ htn
              have HT := Lib.hid (eqTo_succ X zs t)
              cases he : eqTo X zs t with
              | true =>
                have HE := Lib.hid (show eqTo X zs (t + 1) = (nth X t == nth zs t) by rw [HT.out, he, Bool.true_and])
                clear he
                go_wp2
                all_goals
                  go_round
                  case rel => exact ⟨t + 1, by omega, by go_num, by first | rw [HE.out] | (rw [HE.out]; simp_all) ⟩
                  case measure => (simp [intOf] <;> omega)
              | false =>
                have HE := Lib.hid (show eqTo X zs (t + 1) = false by rw [HT.out, he]; rfl)
                clear he
                go_wp2
                go_round
                case rel => exact ⟨t + 1, by omega, by go_num, by rw [HE.out]⟩
                case measure => (simp [intOf] <;> omega)
            · obtain rfl : t = 1 := by omega
              cases he : eqTo X zs 1 with
              | true =>
                have H := Lib.hid (cntG_on (p := good 1 0 zs) (m := m) (by rw [HX.out]; exact he))
                clear he
                go_wp2_with fail
                go_roundw
                case rel => exact ⟨m + 1, by omega, by go_num, int_eq (by rw [H.out]; omega), hbl5⟩
                case measure => (simp [intOf] <;> omega)
              | false =>
                have H := Lib.hid (cntG_off (p := good 1 0 zs) (m := m) (by rw [HX.out]; exact he))
                clear he
                go_wp2_with fail
                go_roundw
                case rel => exact ⟨m + 1, by omega, by go_num, int_eq (by rw [H.out]), hbl5⟩
                case measure => (simp [intOf] <;> omega)
    · obtain rfl : m = 1 := by omega
      go_wp2_with fail
      go_ret
      exact ⟨rfl, hbl⟩

set_option maxHeartbeats 8000000 in
theorem specAll2None (A : Option Addr) (c : Nat) (zs : List Int) (w : World) (ha : RdI w A 2 zs) :
    Calls Try.prog 53 #[.slice A 2 c, .int .i64 (-1), .int .i64 0] w fun e w' => e = .returned (.int .i64 (cntG (good 2 1 zs) 2)) ∧ Below w.heap.size w w' := by
  have HL := Lib.hid ha.lenI
  have CF := Lib.hid (show ∀ w, Calls Try.prog 47 #[.int .i64 2] w fun e w' => ∃ A' c', e = .returned (.slice A' 2 c') ∧ OwnI w' w.heap.size 3 A' 2 c' (marks 0 2) ∧ Below w.heap.size w w' from fun w => specFirst 2 w (by omega))
  have CA := Lib.hid (show ∀ (S : Option Addr) (d : Nat) (s : List Int) (A : Option Addr) (c : Nat) (l : List Int) (w : World), RdI w S 1 s → 1 ≤ d → d ≤ maxLen → Bits s 1 → RdI w A 2 l →
    Calls Try.prog 45 #[.int .i64 2, .slice S 1 d, .slice A 2 c] w fun e w' => ∃ A' c', e = .returned (.slice A' 2 c') ∧ OwnI w' w.heap.size 3 A' 2 c' (fab2 s l) ∧ Below w.heap.size w w' from specFab2)
  have CN := Lib.hid (specCnt 2)
  go_enter Try.func53, Try.ntmps53
  go_wp2_with fail
  refine (CN.out _ (by unfold IsP; omega)).mono ?_
  rintro e w' ⟨rfl, rfl⟩
  rw [show swN 2 = 1 from rfl]
  go_wp2_with fail
  go_loopw [9, 10] (fun cv i wr => ∃ m : Nat, m ≤ 2 ∧ i = .int .i64 m ∧ cv = .int .i64 (cntG (good 2 1 zs) m) ∧ Below w.heap.size w wr) (fun _ i _ => 2 - (intOf i).toNat)
  case atStart => exact ⟨0, Nat.zero_le _, rfl, by rw [cntG_zero]; rfl, Below.refl _ _⟩
  case round =>
    obtain ⟨m, hm, rfl, rfl, hbl⟩ := hrel
    have hsz := hbl.size
    have hcm := cntG_le (good 2 1 zs) m
    by_cases hlt : m < 2
    · have dm : decide ((m : Int) < 2) = true := by simp; omega
      go_wp2_with fail
      go_loopw [11, 12] (fun v' i w3 => ∃ q : Nat, ∃ A' c', q ≤ 1 ∧ i = .int .i64 q ∧ v' = .slice A' q c' ∧ OwnI w3 wr.heap.size 3 A' q c' (bitTo m q) ∧ Below wr.heap.size wr w3) (fun _ i _ => 1 - (intOf i).toNat)
      case atStart => exact ⟨0, _, _, Nat.zero_le _, rfl, rfl, by simpa [OwnI, bitTo_zero] using own_empty wr 3, below_alloc wr _⟩
      case round =>
        obtain ⟨q, A1, c1, hq, rfl, rfl, o1, hb1⟩ := hrel
        have hs1 := hb1.size
        by_cases hqk : q < 1
        · have HQ := Lib.hid (bitTo_succ m q)
          have hbit : (m : Int) / 2 ^ q % 2 < 2 := Int.emod_lt_of_pos _ (by omega)
          have hbit0 : 0 ≤ (m : Int) / 2 ^ q % 2 := Int.emod_nonneg _ (by omega)
          go_wp2_with (at_builtin; refine wpL_append1 _ rfl _ _ _ rfl _ 3 (.int .i64 0) 8 Try.underlying24 intInfo rfl _ q _ _ rfl o1 _ rfl rfl (by unfold maxLen; omega) (by omega) hs1 ?_)
          intro A2 c2 w2 ho2 hg2 hat2
          have hb2 := own_below o1 hb1 hs1 hg2
          go_wp2
          go_roundw
          case rel => exact ⟨q + 1, A2, c2, by omega, by go_num, rfl, by rw [OwnI, HQ.out, List.map_append]; simpa using ho2, hb2⟩
          case measure => (simp [intOf] <;> omega)
        · obtain rfl : q = 1 := by omega
          have hbl1 := hbl.trans (hb1.mono hsz)
          have hs2 := hbl1.size
          go_wp2_with fail
          refine (CF.out _).mono ?_
          rintro e w4 ⟨A4, c4, rfl, o4, hb4⟩
          have hs4 := hb4.size
          go_wp2_with fail
          refine (CA.out A1 c1 (bitTo m 1) A4 c4 _ w4 (o1.rd.below hb4) o1.cap.1 o1.cap.2 (bitTo_bits m 1) o4.rd).mono ?_
          rintro e w5 ⟨A5, c5, rfl, o5, hb5⟩
          have hbl5 := (hbl1.trans (hb4.mono hs2)).trans (hb5.mono (by omega))
          have hs5 := hbl5.size
          obtain ⟨X, hX⟩ : ∃ X, fab2 (bitTo m 1) (marks 0 2) = X := ⟨_, rfl⟩
          rw [hX] at o5
          have HX := Lib.hid (show good 2 1 zs m = eqTo X zs 2 by
            rw [eqTo_all o5.lenI HL.out, ← hX]
            unfold good
            rfl)
          have r5 := o5.rd
          clear hX o1 o4 o5 hb1 hb4 hb5 hbl1
          go_wp2_with fail
          go_loop [13, 55] (fun sv i => ∃ t : Nat, t ≤ 2 ∧ i = .int .i64 t ∧ sv = .bool (eqTo X zs t)) (fun _ i => 2 - (intOf i).toNat)
          case atStart => exact ⟨0, Nat.zero_le _, rfl, by rw [eqTo_zero]⟩
          case round =>
            obtain ⟨t, ht, rfl, rfl⟩ := hrel
            by_cases htn : t < 2
            · obtain ⟨a5, rfl, _, h1⟩ := r5.at_ htn
              obtain ⟨a0, rfl, _, h2⟩ := (ha.below hbl5).at_ htn
              have HT := Lib.hid (eqTo_succ X zs t)
              cases he : eqTo X zs t with
              | true =>
                have HE := Lib.hid (show eqTo X zs (t + 1) = (nth X t == nth zs t) by rw [HT.out, he, Bool.true_and])
                clear he
                go_wp2
                all_goals
                  go_round
                  case rel => exact ⟨t + 1, by omega, by go_num, by first | rw [HE.out] | (rw [HE.out]; simp_all) ⟩
                  case measure => (simp [intOf] <;> omega)
              | false =>
                have HE := Lib.hid (show eqTo X zs (t + 1) = false by rw [HT.out, he]; rfl)
                clear he
                go_wp2
                go_round
                case rel => exact ⟨t + 1, by omega, by go_num, by rw [HE.out]⟩
                case measure => (simp [intOf] <;> omega)
            · obtain rfl : t = 2 := by omega
              cases he : eqTo X zs 2 with
              | true =>
                have H := Lib.hid (cntG_on (p := good 2 1 zs) (m := m) (by rw [HX.out]; exact he))
                clear he
                go_wp2_with fail
                go_roundw
                case rel => exact ⟨m + 1, by omega, by go_num, int_eq (by rw [H.out]; omega), hbl5⟩
                case measure => (simp [intOf] <;> omega)
              | false =>
                have H := Lib.hid (cntG_off (p := good 2 1 zs) (m := m) (by rw [HX.out]; exact he))
                clear he
                go_wp2_with fail
                go_roundw
                case rel => exact ⟨m + 1, by omega, by go_num, int_eq (by rw [H.out]), hbl5⟩
                case measure => (simp [intOf] <;> omega)
    · obtain rfl : m = 2 := by omega
      go_wp2_with fail
      go_ret
      exact ⟨rfl, hbl⟩

set_option maxHeartbeats 8000000 in
theorem specAll4None (A : Option Addr) (c : Nat) (zs : List Int) (w : World) (ha : RdI w A 4 zs) :
    Calls Try.prog 53 #[.slice A 4 c, .int .i64 (-1), .int .i64 0] w fun e w' => e = .returned (.int .i64 (cntG (good 4 6 zs) 64)) ∧ Below w.heap.size w w' := by
  have HL := Lib.hid ha.lenI
  have CF := Lib.hid (show ∀ w, Calls Try.prog 47 #[.int .i64 4] w fun e w' => ∃ A' c', e = .returned (.slice A' 4 c') ∧ OwnI w' w.heap.size 3 A' 4 c' (marks 0 4) ∧ Below w.heap.size w w' from fun w => specFirst 4 w (by omega))
  have CA := Lib.hid (show ∀ (S : Option Addr) (d : Nat) (s : List Int) (A : Option Addr) (c : Nat) (l : List Int) (w : World), RdI w S 6 s → 6 ≤ d → d ≤ maxLen → Bits s 6 → RdI w A 4 l →
    Calls Try.prog 45 #[.int .i64 4, .slice S 6 d, .slice A 4 c] w fun e w' => ∃ A' c', e = .returned (.slice A' 4 c') ∧ OwnI w' w.heap.size 3 A' 4 c' (fab4 s l) ∧ Below w.heap.size w w' from specFab4)
  have CN := Lib.hid (specCnt 4)
  go_enter Try.func53, Try.ntmps53
  go_wp2_with fail
  refine (CN.out _ (by unfold IsP; omega)).mono ?_
  rintro e w' ⟨rfl, rfl⟩
  rw [show swN 4 = 6 from rfl]
  go_wp2_with fail
  go_loopw [9, 10] (fun cv i wr => ∃ m : Nat, m ≤ 64 ∧ i = .int .i64 m ∧ cv = .int .i64 (cntG (good 4 6 zs) m) ∧ Below w.heap.size w wr) (fun _ i _ => 64 - (intOf i).toNat)
  case atStart => exact ⟨0, Nat.zero_le _, rfl, by rw [cntG_zero]; rfl, Below.refl _ _⟩
  case round =>
    obtain ⟨m, hm, rfl, rfl, hbl⟩ := hrel
    have hsz := hbl.size
    have hcm := cntG_le (good 4 6 zs) m
    by_cases hlt : m < 64
    · have dm : decide ((m : Int) < 64) = true := by simp; omega
      go_wp2_with fail
      go_loopw [11, 12] (fun v' i w3 => ∃ q : Nat, ∃ A' c', q ≤ 6 ∧ i = .int .i64 q ∧ v' = .slice A' q c' ∧ OwnI w3 wr.heap.size 3 A' q c' (bitTo m q) ∧ Below wr.heap.size wr w3) (fun _ i _ => 6 - (intOf i).toNat)
      case atStart => exact ⟨0, _, _, Nat.zero_le _, rfl, rfl, by simpa [OwnI, bitTo_zero] using own_empty wr 3, below_alloc wr _⟩
      case round =>
        obtain ⟨q, A1, c1, hq, rfl, rfl, o1, hb1⟩ := hrel
        have hs1 := hb1.size
        by_cases hqk : q < 6
        · have HQ := Lib.hid (bitTo_succ m q)
          have hbit : (m : Int) / 2 ^ q % 2 < 2 := Int.emod_lt_of_pos _ (by omega)
          have hbit0 : 0 ≤ (m : Int) / 2 ^ q % 2 := Int.emod_nonneg _ (by omega)
          go_wp2_with (at_builtin; refine wpL_append1 _ rfl _ _ _ rfl _ 3 (.int .i64 0) 8 Try.underlying24 intInfo rfl _ q _ _ rfl o1 _ rfl rfl (by unfold maxLen; omega) (by omega) hs1 ?_)
          intro A2 c2 w2 ho2 hg2 hat2
          have hb2 := own_below o1 hb1 hs1 hg2
          go_wp2
          go_roundw
          case rel => exact ⟨q + 1, A2, c2, by omega, by go_num, rfl, by rw [OwnI, HQ.out, List.map_append]; simpa using ho2, hb2⟩
          case measure => (simp [intOf] <;> omega)
        · obtain rfl : q = 6 := by omega
          have hbl1 := hbl.trans (hb1.mono hsz)
          have hs2 := hbl1.size
          go_wp2_with fail
          refine (CF.out _).mono ?_
          rintro e w4 ⟨A4, c4, rfl, o4, hb4⟩
          have hs4 := hb4.size
          go_wp2_with fail
          refine (CA.out A1 c1 (bitTo m 6) A4 c4 _ w4 (o1.rd.below hb4) o1.cap.1 o1.cap.2 (bitTo_bits m 6) o4.rd).mono ?_
          rintro e w5 ⟨A5, c5, rfl, o5, hb5⟩
          have hbl5 := (hbl1.trans (hb4.mono hs2)).trans (hb5.mono (by omega))
          have hs5 := hbl5.size
          obtain ⟨X, hX⟩ : ∃ X, fab4 (bitTo m 6) (marks 0 4) = X := ⟨_, rfl⟩
          rw [hX] at o5
          have HX := Lib.hid (show good 4 6 zs m = eqTo X zs 4 by
            rw [eqTo_all o5.lenI HL.out, ← hX]
            unfold good
            rfl)
          have r5 := o5.rd
          clear hX o1 o4 o5 hb1 hb4 hb5 hbl1
          go_wp2_with fail
          go_loop [13, 55] (fun sv i => ∃ t : Nat, t ≤ 4 ∧ i = .int .i64 t ∧ sv = .bool (eqTo X zs t)) (fun _ i => 4 - (intOf i).toNat)
          case atStart => exact ⟨0, Nat.zero_le _, rfl, by rw [eqTo_zero]⟩
          case round =>
            obtain ⟨t, ht, rfl, rfl⟩ := hrel
            by_cases htn : t < 4
            · obtain ⟨a5, rfl, _, h1⟩ := r5.at_ htn
              obtain ⟨a0, rfl, _, h2⟩ := (ha.below hbl5).at_ htn
              have HT := Lib.hid (eqTo_succ X zs t)
              cases he : eqTo X zs t with
              | true =>
                have HE := Lib.hid (show eqTo X zs (t + 1) = (nth X t == nth zs t) by rw [HT.out, he, Bool.true_and])
                clear he
                go_wp2
                all_goals
                  go_round
                  case rel => exact ⟨t + 1, by omega, by go_num, by first | rw [HE.out] | (rw [HE.out]; simp_all) ⟩
                  case measure => (simp [intOf] <;> omega)
              | false =>
                have HE := Lib.hid (show eqTo X zs (t + 1) = false by rw [HT.out, he]; rfl)
                clear he
                go_wp2
                go_round
                case rel => exact ⟨t + 1, by omega, by go_num, by rw [HE.out]⟩
                case measure => (simp [intOf] <;> omega)
            · obtain rfl : t = 4 := by omega
              cases he : eqTo X zs 4 with
              | true =>
                have H := Lib.hid (cntG_on (p := good 4 6 zs) (m := m) (by rw [HX.out]; exact he))
                clear he
                go_wp2_with fail
                go_roundw
                case rel => exact ⟨m + 1, by omega, by go_num, int_eq (by rw [H.out]; omega), hbl5⟩
                case measure => (simp [intOf] <;> omega)
              | false =>
                have H := Lib.hid (cntG_off (p := good 4 6 zs) (m := m) (by rw [HX.out]; exact he))
                clear he
                go_wp2_with fail
                go_roundw
                case rel => exact ⟨m + 1, by omega, by go_num, int_eq (by rw [H.out]), hbl5⟩
                case measure => (simp [intOf] <;> omega)
    · obtain rfl : m = 64 := by omega
      go_wp2_with fail
      go_ret
      exact ⟨rfl, hbl⟩

end Go.Proofs.Ytchmmaokommnaaa
