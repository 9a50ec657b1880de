/- Chapter 14: CanRouteWith. -/
import Derived.Test.YtchmmaokommnaaaC14k
import Derived.Deep.RegionHeld3
namespace Go.Proofs.Ytchmmaokommnaaa
open Go.RowKit Go.Deep
set_option linter.unusedVariables false
attribute [local go_sem] bits_and_one

/-- The settings that have the order and the value v at the place ix. -/
def okAt (n k : Nat) (zs : List Int) (ix v : Nat) (m : Nat) : Bool := decide (m / 2 ^ ix % 2 = v) && good n k zs m
attribute [irreducible] okAt

set_option maxHeartbeats 8000000 in
theorem specAll2Some (A : Option Addr) (c : Nat) (zs : List Int) (ix v : Nat) (hix : ix < 1) (hv : v ≤ 1) (w : World) (ha : RdI w A 2 zs) :
    Calls Try.prog 53 #[.slice A 2 c, .int .i64 ix, .int .i64 v] w fun e w' => e = .returned (.int .i64 (cntG (okAt 2 1 zs ix v) 2)) ∧ Below w.heap.size w w' := by
  have HL := Lib.hid ha.lenI
  have CF := Lib.hid (show ∀ w, Calls Try.prog 47 #[.int .i64 2] w fun e w' => ∃ A' c', e = .returned (.slice A' 2 c') ∧ OwnI w' w.heap.size 3 A' 2 c' (marks 0 2) ∧ Below w.heap.size w w' from fun w => specFirst 2 w (by omega))
  have CA := Lib.hid (show ∀ (S : Option Addr) (d : Nat) (s : List Int) (A : Option Addr) (c : Nat) (l : List Int) (w : World), RdI w S 1 s → 1 ≤ d → d ≤ maxLen → Bits s 1 → RdI w A 2 l →
    Calls Try.prog 45 #[.int .i64 2, .slice S 1 d, .slice A 2 c] w fun e w' => ∃ A' c', e = .returned (.slice A' 2 c') ∧ OwnI w' w.heap.size 3 A' 2 c' (fab2 s l) ∧ Below w.heap.size w w' from specFab2)
  have CN := Lib.hid (specCnt 2)
  go_enter Try.func53, Try.ntmps53
  go_wp2_with fail
  refine (CN.out _ (by unfold IsP; omega)).mono ?_
  rintro e w' ⟨rfl, rfl⟩
  rw [show swN 2 = 1 from rfl]
  go_wp2_with fail
  go_loopw [9, 10] (fun cv i wr => ∃ m : Nat, m ≤ 2 ∧ i = .int .i64 m ∧ cv = .int .i64 (cntG (okAt 2 1 zs ix v) m) ∧ Below w.heap.size w wr) (fun _ i _ => 2 - (intOf i).toNat)
  case atStart => exact ⟨0, Nat.zero_le _, rfl, by rw [cntG_zero]; rfl, Below.refl _ _⟩
  case round =>
    obtain ⟨m, hm, rfl, rfl, hbl⟩ := hrel
    have hsz := hbl.size
    have hcm := cntG_le (okAt 2 1 zs ix v) m
    by_cases hlt : m < 2
    · have dm : decide ((m : Int) < 2) = true := by simp; omega
      obtain ⟨tb, htb⟩ : ∃ tb, m / 2 ^ ix % 2 = tb := ⟨_, rfl⟩
      have eb : (m : Int) / 2 ^ ix % 2 = (tb : Int) := by rw [bit_cast, htb]
      have ht2 : tb < 2 := by rw [← htb]; exact Nat.mod_lt _ (by omega)
      have HTB := Lib.hid htb
      have e0 : decide ((0 : Int) ≤ (ix : Int)) = true := by simp
      clear htb
      by_cases hsk : tb = v
      · have HSK := Lib.hid (show decide (m / 2 ^ ix % 2 = v) = true by rw [HTB.out]; simp [hsk])
        have e1 : ((tb : Int) != (v : Int)) = false := by simp; omega
        clear hsk
        go_wp2_with fail
        go_loopw [11, 12] (fun v' i w3 => ∃ q : Nat, ∃ A' c', q ≤ 1 ∧ i = .int .i64 q ∧ v' = .slice A' q c' ∧ OwnI w3 wr.heap.size 3 A' q c' (bitTo m q) ∧ Below wr.heap.size wr w3) (fun _ i _ => 1 - (intOf i).toNat)
        case atStart => exact ⟨0, _, _, Nat.zero_le _, rfl, rfl, by simpa [OwnI, bitTo_zero] using own_empty wr 3, below_alloc wr _⟩
        case round =>
          obtain ⟨q, A1, c1, hq, rfl, rfl, o1, hb1⟩ := hrel
          have hs1 := hb1.size
          by_cases hqk : q < 1
          · have HQ := Lib.hid (bitTo_succ m q)
            have hbit : (m : Int) / 2 ^ q % 2 < 2 := Int.emod_lt_of_pos _ (by omega)
            have hbit0 : 0 ≤ (m : Int) / 2 ^ q % 2 := Int.emod_nonneg _ (by omega)
            go_wp2_with (at_builtin; refine wpL_append1 _ rfl _ _ _ rfl _ 3 (.int .i64 0) 8 Try.underlying24 intInfo rfl _ q _ _ rfl o1 _ rfl rfl (by unfold maxLen; omega) (by omega) hs1 ?_)
            intro A2 c2 w2 ho2 hg2 hat2
            have hb2 := own_below o1 hb1 hs1 hg2
            go_wp2
            go_roundw
            case rel => exact ⟨q + 1, A2, c2, by omega, by go_num, rfl, by rw [OwnI, HQ.out, List.map_append]; simpa using ho2, hb2⟩
            case measure => (simp [intOf] <;> omega)
          · obtain rfl : q = 1 := by omega
            have hbl1 := hbl.trans (hb1.mono hsz)
            have hs2 := hbl1.size
            go_wp2_with fail
            refine (CF.out _).mono ?_
            rintro e w4 ⟨A4, c4, rfl, o4, hb4⟩
            have hs4 := hb4.size
            go_wp2_with fail
            refine (CA.out A1 c1 (bitTo m 1) A4 c4 _ w4 (o1.rd.below hb4) o1.cap.1 o1.cap.2 (bitTo_bits m 1) o4.rd).mono ?_
            rintro e w5 ⟨A5, c5, rfl, o5, hb5⟩
            have hbl5 := (hbl1.trans (hb4.mono hs2)).trans (hb5.mono (by omega))
            have hs5 := hbl5.size
            obtain ⟨X, hX⟩ : ∃ X, fab2 (bitTo m 1) (marks 0 2) = X := ⟨_, rfl⟩
            rw [hX] at o5
            have HX := Lib.hid (show good 2 1 zs m = eqTo X zs 2 by
              rw [eqTo_all o5.lenI HL.out, ← hX]
              unfold good
              rfl)
            have r5 := o5.rd
            clear hX o1 o4 o5 hb1 hb4 hb5 hbl1
            go_wp2_with fail
            go_loop [13, 55] (fun sv i => ∃ t : Nat, t ≤ 2 ∧ i = .int .i64 t ∧ sv = .bool (eqTo X zs t)) (fun _ i => 2 - (intOf i).toNat)
            case atStart => exact ⟨0, Nat.zero_le _, rfl, by rw [eqTo_zero]⟩
            case round =>
              obtain ⟨t, ht, rfl, rfl⟩ := hrel
              by_cases htn : t < 2
              · obtain ⟨a5, rfl, _, h1⟩ := r5.at_ htn
                obtain ⟨a0, rfl, _, h2⟩ := (ha.below hbl5).at_ htn
                have HT := Lib.hid (eqTo_succ X zs t)
                cases he : eqTo X zs t with
                | true =>
                  have HE := Lib.hid (show eqTo X zs (t + 1) = (nth X t == nth zs t) by rw [HT.out, he, Bool.true_and])
                  clear he
                  go_wp2
                  all_goals
                    go_round
                    case rel => exact ⟨t + 1, by omega, by go_num, by first | rw [HE.out] | (rw [HE.out]; simp_all) ⟩
                    case measure => (simp [intOf] <;> omega)
                | false =>
                  have HE := Lib.hid (show eqTo X zs (t + 1) = false by rw [HT.out, he]; rfl)
                  clear he
                  go_wp2
                  go_round
                  case rel => exact ⟨t + 1, by omega, by go_num, by rw [HE.out]⟩
                  case measure => (simp [intOf] <;> omega)
              · obtain rfl : t = 2 := by omega
                cases he : eqTo X zs 2 with
                | true =>
                  have H := Lib.hid (cntG_on (p := okAt 2 1 zs ix v) (m := m) (by rw [okAt, HSK.out, HX.out, he]; rfl))
                  clear he
                  go_wp2_with fail
                  go_roundw
                  case rel => exact ⟨m + 1, by omega, by go_num, int_eq (by rw [H.out]; omega), hbl5⟩
                  case measure => (simp [intOf] <;> omega)
                | false =>
                  have H := Lib.hid (cntG_off (p := okAt 2 1 zs ix v) (m := m) (by rw [okAt, HX.out, he, Bool.and_false]))
                  clear he
                  go_wp2_with fail
                  go_roundw
                  case rel => exact ⟨m + 1, by omega, by go_num, int_eq (by rw [H.out]), hbl5⟩
                  case measure => (simp [intOf] <;> omega)
      · have H := Lib.hid (cntG_off (p := okAt 2 1 zs ix v) (m := m) (by rw [okAt, HTB.out, decide_eq_false hsk]; rfl))
        have e1 : ((tb : Int) != (v : Int)) = true := by simp; omega
        clear hsk
        go_wp2_with fail
        go_roundw
        case rel => exact ⟨m + 1, by omega, by go_num, int_eq (by rw [H.out]), hbl⟩
        case measure => (simp [intOf] <;> omega)
    · obtain rfl : m = 2 := by omega
      go_wp2_with fail
      go_ret
      exact ⟨rfl, hbl⟩

set_option maxHeartbeats 8000000 in
theorem specAll4Some (A : Option Addr) (c : Nat) (zs : List Int) (ix v : Nat) (hix : ix < 6) (hv : v ≤ 1) (w : World) (ha : RdI w A 4 zs) :
    Calls Try.prog 53 #[.slice A 4 c, .int .i64 ix, .int .i64 v] w fun e w' => e = .returned (.int .i64 (cntG (okAt 4 6 zs ix v) 64)) ∧ Below w.heap.size w w' := by
  have HL := Lib.hid ha.lenI
  have CF := Lib.hid (show ∀ w, Calls Try.prog 47 #[.int .i64 4] w fun e w' => ∃ A' c', e = .returned (.slice A' 4 c') ∧ OwnI w' w.heap.size 3 A' 4 c' (marks 0 4) ∧ Below w.heap.size w w' from fun w => specFirst 4 w (by omega))
  have CA := Lib.hid (show ∀ (S : Option Addr) (d : Nat) (s : List Int) (A : Option Addr) (c : Nat) (l : List Int) (w : World), RdI w S 6 s → 6 ≤ d → d ≤ maxLen → Bits s 6 → RdI w A 4 l →
    Calls Try.prog 45 #[.int .i64 4, .slice S 6 d, .slice A 4 c] w fun e w' => ∃ A' c', e = .returned (.slice A' 4 c') ∧ OwnI w' w.heap.size 3 A' 4 c' (fab4 s l) ∧ Below w.heap.size w w' from specFab4)
  have CN := Lib.hid (specCnt 4)
  go_enter Try.func53, Try.ntmps53
  go_wp2_with fail
  refine (CN.out _ (by unfold IsP; omega)).mono ?_
  rintro e w' ⟨rfl, rfl⟩
  rw [show swN 4 = 6 from rfl]
  go_wp2_with fail
  go_loopw [9, 10] (fun cv i wr => ∃ m : Nat, m ≤ 64 ∧ i = .int .i64 m ∧ cv = .int .i64 (cntG (okAt 4 6 zs ix v) m) ∧ Below w.heap.size w wr) (fun _ i _ => 64 - (intOf i).toNat)
  case atStart => exact ⟨0, Nat.zero_le _, rfl, by rw [cntG_zero]; rfl, Below.refl _ _⟩
  case round =>
    obtain ⟨m, hm, rfl, rfl, hbl⟩ := hrel
    have hsz := hbl.size
    have hcm := cntG_le (okAt 4 6 zs ix v) m
    by_cases hlt : m < 64
    · have dm : decide ((m : Int) < 64) = true := by simp; omega
      obtain ⟨tb, htb⟩ : ∃ tb, m / 2 ^ ix % 2 = tb := ⟨_, rfl⟩
      have eb : (m : Int) / 2 ^ ix % 2 = (tb : Int) := by rw [bit_cast, htb]
      have ht2 : tb < 2 := by rw [← htb]; exact Nat.mod_lt _ (by omega)
      have HTB := Lib.hid htb
      have e0 : decide ((0 : Int) ≤ (ix : Int)) = true := by simp
      clear htb
      by_cases hsk : tb = v
      · have HSK := Lib.hid (show decide (m / 2 ^ ix % 2 = v) = true by rw [HTB.out]; simp [hsk])
        have e1 : ((tb : Int) != (v : Int)) = false := by simp; omega
        clear hsk
        go_wp2_with fail
        go_loopw [11, 12] (fun v' i w3 => ∃ q : Nat, ∃ A' c', q ≤ 6 ∧ i = .int .i64 q ∧ v' = .slice A' q c' ∧ OwnI w3 wr.heap.size 3 A' q c' (bitTo m q) ∧ Below wr.heap.size wr w3) (fun _ i _ => 6 - (intOf i).toNat)
        case atStart => exact ⟨0, _, _, Nat.zero_le _, rfl, rfl, by simpa [OwnI, bitTo_zero] using own_empty wr 3, below_alloc wr _⟩
        case round =>
          obtain ⟨q, A1, c1, hq, rfl, rfl, o1, hb1⟩ := hrel
          have hs1 := hb1.size
          by_cases hqk : q < 6
          · have HQ := Lib.hid (bitTo_succ m q)
            have hbit : (m : Int) / 2 ^ q % 2 < 2 := Int.emod_lt_of_pos _ (by omega)
            have hbit0 : 0 ≤ (m : Int) / 2 ^ q % 2 := Int.emod_nonneg _ (by omega)
            go_wp2_with (at_builtin; refine wpL_append1 _ rfl _ _ _ rfl _ 3 (.int .i64 0) 8 Try.underlying24 intInfo rfl _ q _ _ rfl o1 _ rfl rfl (by unfold maxLen; omega) (by omega) hs1 ?_)
            intro A2 c2 w2 ho2 hg2 hat2
            have hb2 := own_below o1 hb1 hs1 hg2
            go_wp2
            go_roundw
            case rel => exact ⟨q + 1, A2, c2, by omega, by go_num, rfl, by rw [OwnI, HQ.out, List.map_append]; simpa using ho2, hb2⟩
            case measure => (simp [intOf] <;> omega)
          · obtain rfl : q = 6 := by omega
            have hbl1 := hbl.trans (hb1.mono hsz)
            have hs2 := hbl1.size
            go_wp2_with fail
            refine (CF.out _).mono ?_
            rintro e w4 ⟨A4, c4, rfl, o4, hb4⟩
            have hs4 := hb4.size
            go_wp2_with fail
            refine (CA.out A1 c1 (bitTo m 6) A4 c4 _ w4 (o1.rd.below hb4) o1.cap.1 o1.cap.2 (bitTo_bits m 6) o4.rd).mono ?_
            rintro e w5 ⟨A5, c5, rfl, o5, hb5⟩
            have hbl5 := (hbl1.trans (hb4.mono hs2)).trans (hb5.mono (by omega))
            have hs5 := hbl5.size
            obtain ⟨X, hX⟩ : ∃ X, fab4 (bitTo m 6) (marks 0 4) = X := ⟨_, rfl⟩
            rw [hX] at o5
            have HX := Lib.hid (show good 4 6 zs m = eqTo X zs 4 by
              rw [eqTo_all o5.lenI HL.out, ← hX]
              unfold good
              rfl)
            have r5 := o5.rd
            clear hX o1 o4 o5 hb1 hb4 hb5 hbl1
            go_wp2_with fail
            go_loop [13, 55] (fun sv i => ∃ t : Nat, t ≤ 4 ∧ i = .int .i64 t ∧ sv = .bool (eqTo X zs t)) (fun _ i => 4 - (intOf i).toNat)
            case atStart => exact ⟨0, Nat.zero_le _, rfl, by rw [eqTo_zero]⟩
            case round =>
              obtain ⟨t, ht, rfl, rfl⟩ := hrel
              by_cases htn : t < 4
              · obtain ⟨a5, rfl, _, h1⟩ := r5.at_ htn
                obtain ⟨a0, rfl, _, h2⟩ := (ha.below hbl5).at_ htn
                have HT := Lib.hid (eqTo_succ X zs t)
                cases he : eqTo X zs t with
                | true =>
                  have HE := Lib.hid (show eqTo X zs (t + 1) = (nth X t == nth zs t) by rw [HT.out, he, Bool.true_and])
                  clear he
                  go_wp2
                  all_goals
                    go_round
                    case rel => exact ⟨t + 1, by omega, by go_num, by first | rw [HE.out] | (rw [HE.out]; simp_all) ⟩
                    case measure => (simp [intOf] <;> omega)
                | false =>
                  have HE := Lib.hid (show eqTo X zs (t + 1) = false by rw [HT.out, he]; rfl)
                  clear he
                  go_wp2
                  go_round
                  case rel => exact ⟨t + 1, by omega, by go_num, by rw [HE.out]⟩
                  case measure => (simp [intOf] <;> omega)
              · obtain rfl : t = 4 := by omega
                cases he : eqTo X zs 4 with
                | true =>
                  have H := Lib.hid (cntG_on (p := okAt 4 6 zs ix v) (m := m) (by rw [okAt, HSK.out, HX.out, he]; rfl))
                  clear he
                  go_wp2_with fail
                  go_roundw
                  case rel => exact ⟨m + 1, by omega, by go_num, int_eq (by rw [H.out]; omega), hbl5⟩
                  case measure => (simp [intOf] <;> omega)
                | false =>
                  have H := Lib.hid (cntG_off (p := okAt 4 6 zs ix v) (m := m) (by rw [okAt, HX.out, he, Bool.and_false]))
                  clear he
                  go_wp2_with fail
                  go_roundw
                  case rel => exact ⟨m + 1, by omega, by go_num, int_eq (by rw [H.out]), hbl5⟩
                  case measure => (simp [intOf] <;> omega)
      · have H := Lib.hid (cntG_off (p := okAt 4 6 zs ix v) (m := m) (by rw [okAt, HTB.out, decide_eq_false hsk]; rfl))
        have e1 : ((tb : Int) != (v : Int)) = true := by simp; omega
        clear hsk
        go_wp2_with fail
        go_roundw
        case rel => exact ⟨m + 1, by omega, by go_num, int_eq (by rw [H.out]), hbl⟩
        case measure => (simp [intOf] <;> omega)
    · obtain rfl : m = 64 := by omega
      go_wp2_with fail
      go_ret
      exact ⟨rfl, hbl⟩


theorem specAllSome {n : Nat} (hn : n = 2 ∨ n = 4) (A : Option Addr) (c : Nat) (zs : List Int) (ix v : Nat) (hix : ix < swc n) (hv : v ≤ 1) (w : World) (ha : RdI w A n zs) :
    Calls Try.prog 53 #[.slice A n c, .int .i64 ix, .int .i64 v] w fun e w' => e = .returned (.int .i64 (cntG (okAt n (swc n) zs ix v) (2 ^ swc n))) ∧ Below w.heap.size w w' := by
  rcases hn with rfl | rfl
  · exact specAll2Some A c zs ix v hix hv w ha
  · exact specAll4Some A c zs ix v hix hv w ha
/-- Is there one among the first m masks? -/
def someTo (p : Nat → Bool) (m : Nat) : Bool := decide (0 < cntG p m)
def crV (zs : List Int) (ix v : Int) : Bool :=
  sm14 zs && (decide (0 ≤ ix ∧ ix < swN zs.length) && (decide (0 ≤ v ∧ v ≤ 1) && decide (0 < cntG (okAt zs.length (swc zs.length) zs ix.toNat v.toNat) (2 ^ swc zs.length))))
theorem crV_small {zs : List Int} {ix v : Int} (h : sm14 zs = false) : crV zs ix v = false := by rw [crV, h]; rfl
theorem crV_ix {zs : List Int} {n : Nat} {ix v : Int} (hl : zs.length = n) (h : ¬ (0 ≤ ix ∧ ix < swN n)) : crV zs ix v = false := by rw [crV, hl, decide_eq_false h]; simp
theorem crV_v {zs : List Int} {ix v : Int} (h : ¬ (0 ≤ v ∧ v ≤ 1)) : crV zs ix v = false := by rw [crV, decide_eq_false h]; simp
theorem crV_is {zs : List Int} {n ix v : Nat} (hl : zs.length = n) (h : sm14 zs = true) (h1 : (ix : Int) < swN n) (h2 : v ≤ 1) : crV zs ix v = decide (0 < cntG (okAt n (swc n) zs ix v) (2 ^ swc n)) := by
  rw [crV, hl, h, decide_eq_true (by omega), decide_eq_true (by omega)]; simp
theorem swN_small {n : Nat} (h : n = 1 ∨ n = 2 ∨ n = 4) : swN n = (swc n : Int) ∧ swc n ≤ 6 ∧ (swc n = 0 ∨ n = 2 ∨ n = 4) := by
  rcases h with rfl | rfl | rfl <;> decide
theorem isP_small {n : Nat} (h : n = 1 ∨ n = 2 ∨ n = 4) : IsP (n : Int) := by
  rcases h with rfl | rfl | rfl <;> decide

set_option maxHeartbeats 2000000 in
theorem specCanRouteWith (A : Option Addr) (n c : Nat) (zs : List Int) (ix v : Int) (w : World) (ha : RdI w A n zs) (hn : n ≤ 1048576) :
    Calls Try.prog 32 #[.slice A n c, .int .i64 ix, .int .i64 v] w fun e w' => e = .returned (.bool (crV zs ix v)) ∧ Below w.heap.size w w' := by
  have hl := ha.lenI
  have C := specOrder14 A n c zs w ha hn
  cases ho : o14 zs with
  | false =>
    have H := Lib.hid (crV_small (ix := ix) (v := v) (show sm14 zs = false by rw [sm14, ho]; rfl))
    rw [ho] at C
    have CC := Lib.hid C
    clear C ho hl
    go_enter Try.func32, Try.ntmps32
    go_wp2_with fail
    refine CC.out.mono ?_
    rintro e w1 ⟨rfl, hb1⟩
    go_wp2_with fail
    go_ret
    exact ⟨ret_bool H.out.symm, hb1⟩
  | true =>
    rw [ho] at C
    have CC := Lib.hid C
    by_cases h4 : n ≤ 4
    · have hs : sm14 zs = true := by rw [sm14, ho, hl]; simpa using h4
      have hn3 := sm_out hl hs
      obtain ⟨hsw, hsw6, hsw0⟩ := swN_small hn3
      have CN := Lib.hid (fun w' => specCnt (n : Int) w' (isP_small hn3))
      rw [hsw] at CN
      by_cases hix : 0 ≤ ix ∧ ix < swN n
      · obtain ⟨i, rfl⟩ := Int.eq_ofNat_of_zero_le hix.1
        have hi : i < swc n := by omega
        have hwr : IntKind.i64.wrap (((swc n : Nat) : Int) - 1) = ((swc n : Nat) : Int) - 1 := IntWalk.i64_in _ (by omega)
        by_cases hv : 0 ≤ v ∧ v ≤ 1
        · obtain ⟨b, rfl⟩ := Int.eq_ofNat_of_zero_le hv.1
          have hb : b ≤ 1 := by omega
          have H := Lib.hid (crV_is (ix := i) hl hs (by rw [hsw]; omega) hb)
          have CA := Lib.hid (fun w' h => specAllSome (by rcases hsw0 with h0 | h0; omega; exact h0) A c zs i b hi hb w' h)
          obtain ⟨q, hq⟩ : ∃ q, cntG (okAt n (swc n) zs i b) (2 ^ swc n) = q := ⟨_, rfl⟩
          rw [hq] at CA H
          obtain ⟨k, hk⟩ : ∃ k, swc n = k := ⟨_, rfl⟩
          rw [hk] at CN hi hsw6 hwr
          clear C ho hl hs hix hv hsw hsw0 hn3 hq hk
          go_enter Try.func32, Try.ntmps32
          go_wp2_with fail
          refine CC.out.mono ?_
          rintro e w1 ⟨rfl, hb1⟩
          go_wp2_with fail
          refine (CN.out _).mono ?_
          rintro e w' ⟨rfl, rfl⟩
          go_wp2_with fail
          refine (l01In_yes (i : Int) 0 ((k : Int) - 1) _ (by omega)).mono ?_
          rintro e w' ⟨rfl, rfl⟩
          go_wp2_with fail
          refine (l01In_yes (b : Int) 0 1 _ (by omega)).mono ?_
          rintro e w' ⟨rfl, rfl⟩
          go_wp2_with fail
          refine (CA.out _ (ha.below hb1)).mono ?_
          rintro e w2 ⟨rfl, hb2⟩
          go_wp2_with fail
          go_ret
          exact ⟨ret_bool (by rw [H.out] <;> simp), hb1.trans (hb2.mono hb1.size)⟩
        · have H := Lib.hid (crV_v (zs := zs) (ix := (i : Int)) hv)
          obtain ⟨k, hk⟩ : ∃ k, swc n = k := ⟨_, rfl⟩
          rw [hk] at CN hi hsw6 hwr
          clear C ho hl hs hix hsw hsw0 hn3 hk
          have HV := Lib.hid hv
          clear hv
          go_enter Try.func32, Try.ntmps32
          go_wp2_with fail
          refine CC.out.mono ?_
          rintro e w1 ⟨rfl, hb1⟩
          go_wp2_with fail
          refine (CN.out _).mono ?_
          rintro e w' ⟨rfl, rfl⟩
          go_wp2_with fail
          refine (l01In_yes (i : Int) 0 ((k : Int) - 1) _ (by omega)).mono ?_
          rintro e w' ⟨rfl, rfl⟩
          go_wp2_with fail
          refine (l01In_no v 0 1 _ HV.out).mono ?_
          rintro e w' ⟨rfl, rfl⟩
          go_wp2_with fail
          go_ret
          exact ⟨ret_bool H.out.symm, hb1⟩
      · have H := Lib.hid (crV_ix (v := v) hl hix)
        have hwr : IntKind.i64.wrap (((swc n : Nat) : Int) - 1) = ((swc n : Nat) : Int) - 1 := IntWalk.i64_in _ (by omega)
        have hix2 := Lib.hid (show ¬ (0 ≤ ix ∧ ix ≤ ((swc n : Nat) : Int) - 1) by omega)
        obtain ⟨k, hk⟩ : ∃ k, swc n = k := ⟨_, rfl⟩
        rw [hk] at CN hsw6 hwr hix2
        clear C ho hl hs hix hsw hsw0 hn3 hk
        go_enter Try.func32, Try.ntmps32
        go_wp2_with fail
        refine CC.out.mono ?_
        rintro e w1 ⟨rfl, hb1⟩
        go_wp2_with fail
        refine (CN.out _).mono ?_
        rintro e w' ⟨rfl, rfl⟩
        go_wp2_with fail
        refine (l01In_no ix 0 ((k : Int) - 1) _ hix2.out).mono ?_
        rintro e w' ⟨rfl, rfl⟩
        go_wp2_with fail
        go_ret
        exact ⟨ret_bool H.out.symm, hb1⟩
    · have H := Lib.hid (crV_small (ix := ix) (v := v) (show sm14 zs = false by rw [sm14, hl, decide_eq_false h4]; simp))
      have h5 : 4 < n := by omega
      clear C ho hl h4
      go_enter Try.func32, Try.ntmps32
      go_wp2_with fail
      refine CC.out.mono ?_
      rintro e w1 ⟨rfl, hb1⟩
      go_wp2_with fail
      go_ret
      exact ⟨ret_bool H.out.symm, hb1⟩

/-- Does the setting have the value at the place? -/
theorem implAt (A : Option Addr) (n c : Nat) (zs : List Int) (i : Nat) (v : Int) (p q : Addr) (w : World) (ha : RdI w A n zs) (hn : n ≤ 1048576) (hi : i < n) (hp : w.cell? p = some (.int .i64 i)) (hq : w.cell? q = some (.int .i64 v)) :
    Calls Try.prog 57 #[.slice A n c, .pointer (some p), .pointer (some q)] w fun e w' => e = .returned (.bool (nth zs i == v)) ∧ ∃ m, w' = w.drewN m := by
  obtain ⟨ad, rfl, _, h1⟩ := ha.at_ hi
  have h2 : (0 : Int) ≤ (i : Int) := by omega
  have h3 : (i : Int) < (n : Int) := by omega
  go_enter Try.func57, Try.ntmps57
  go_wp2_with fail
  go_quiet (fail)
  go_wp2_with fail
  go_ret
  exact ⟨rfl, _, rfl⟩
/-- Do the first k rows lack the value at the place? -/
def noAt (zss : List (List Int)) (i : Nat) (v : Int) : Nat → Bool
  | 0 => true
  | k + 1 => noAt zss i v k && !(nth (row zss k) i == v)
theorem noAt_zero (zss : List (List Int)) (i : Nat) (v : Int) : noAt zss i v 0 = true := rfl
theorem noAt_on {zss : List (List Int)} {i k : Nat} {v : Int} (h : noAt zss i v k = true) (h2 : (nth (row zss k) i == v) = false) : noAt zss i v (k + 1) = true := by rw [noAt, h, h2]; rfl
theorem noAt_bad {zss : List (List Int)} {i k : Nat} {v : Int} (h2 : (nth (row zss k) i == v) = true) : ∀ m, k < m → noAt zss i v m = false := by
  intro m
  induction m with
  | zero => intro h; omega
  | succ m ih =>
    intro hm
    by_cases e : k = m
    · subst e; rw [noAt, h2]; simp
    · rw [noAt, ih (by omega)]; rfl
theorem noAt_all {zss : List (List Int)} {i : Nat} {v : Int} : ∀ n, noAt zss i v n = true ↔ ∀ k, k < n → ¬ nth (row zss k) i = v := by
  intro n
  induction n with
  | zero => exact ⟨fun _ k h => by omega, fun _ => rfl⟩
  | succ n ih =>
    rw [noAt, Bool.and_eq_true, ih]
    constructor
    · rintro ⟨h1, h2⟩ k hk
      by_cases e : k = n
      · subst e; simpa using h2
      · exact h1 k (by omega)
    · intro h
      exact ⟨fun k hk => h k (by omega), by simpa using h n (by omega)⟩
attribute [irreducible] noAt

set_option maxHeartbeats 1000000 in
theorem implIndexAt (A : Option Addr) (n c : Nat) (zss : List (List Int)) (i : Nat) (v : Int) (p q : Addr) (w : World) (ha : RdM w A n zss) (hn : n ≤ 1048576) (hrl : ∀ k, k < n → i < (row zss k).length ∧ (row zss k).length ≤ 1048576) (hp : w.cell? p = some (.int .i64 i)) (hq : w.cell? q = some (.int .i64 v)) :
    Calls Try.prog 64 #[.slice A n c, .func (.func 57) #[] #[.pointer (some p), .pointer (some q)]] w fun e w' => ∃ r : Int, e = .returned (.int .i64 r) ∧ (0 ≤ r → noAt zss i v n = false) ∧ (r < 0 → noAt zss i v n = true) ∧ ∃ m, w' = w.drewN m := by
  have HRL := Lib.hid hrl
  clear hrl
  go_enter Try.func64, Try.ntmps64
  go_wp2
  go_loopw [8] (fun j wr => ∃ k t : Nat, k ≤ n ∧ j = .int .i64 k ∧ Hid (noAt zss i v k = true) ∧ wr = w.drewN t) (fun j _ => n - (intOf j).toNat)
  case atStart => exact ⟨0, 0, Nat.zero_le _, rfl, Lib.hid (noAt_zero _ _ _), rfl⟩
  case round =>
    obtain ⟨k, t, hk, rfl, HK, rfl⟩ := hrel
    by_cases hlt : k < n
    · obtain ⟨a1, B, m, d, rfl, _, h1, hB, hqd, hd⟩ := ha.2 k hlt
      have HQ := Lib.hid hB.lenI
      have hm : m ≤ 1048576 := by rw [← HQ.out]; exact (HRL.out k hlt).2
      have him : i < m := by rw [← HQ.out]; exact (HRL.out k hlt).1
      have C := implAt B m d (row zss k) i v p q (w.drewN t) (hB.drewN t) hm him hp hq
      cases hb : (nth (row zss k) i == v) with
      | false =>
        have H := Lib.hid (noAt_on HK.out hb)
        rw [hb] at C
        have CC := Lib.hid C
        clear hb C
        go_wp2_with fail
        refine CC.out.mono ?_
        rintro e w' ⟨rfl, t2, rfl⟩
        go_wp2
        go_roundw
        case rel => exact ⟨k + 1, t + t2, by omega, by go_num, H, (by first | rfl | exact drewN_add _ _ _)⟩
        case measure => (simp [intOf] <;> omega)
      | true =>
        have H := Lib.hid (noAt_bad hb n hlt)
        rw [hb] at C
        have CC := Lib.hid C
        clear hb C
        go_wp2_with fail
        refine CC.out.mono ?_
        rintro e w' ⟨rfl, t2, rfl⟩
        go_wp2
        go_ret
        exact ⟨_, rfl, fun _ => H.out, fun h => by omega, t + t2, (by first | rfl | exact drewN_add _ _ _)⟩
    · obtain rfl : k = n := by omega
      go_wp2
      go_ret
      exact ⟨_, rfl, fun h => by omega, fun _ => HK.out, t, rfl⟩
theorem implContainsAt (A : Option Addr) (n c : Nat) (zss : List (List Int)) (i : Nat) (v : Int) (p q : Addr) (w : World) (ha : RdM w A n zss) (hn : n ≤ 1048576) (hrl : ∀ k, k < n → i < (row zss k).length ∧ (row zss k).length ≤ 1048576) (hp : w.cell? p = some (.int .i64 i)) (hq : w.cell? q = some (.int .i64 v)) :
    Calls Try.prog 56 #[.slice A n c, .func (.func 57) #[] #[.pointer (some p), .pointer (some q)]] w fun e w' => e = .returned (.bool (!noAt zss i v n)) ∧ Below w.heap.size w w' := by
  have C := Lib.hid (implIndexAt A n c zss i v p q w ha hn hrl hp hq)
  go_enter Try.func56, Try.ntmps56
  go_wp2_with fail
  refine C.out.mono ?_
  rintro e w' ⟨r, rfl, h1, h2, t, rfl⟩
  by_cases hr : 0 ≤ r
  · have H := Lib.hid (h1 hr)
    clear h1 h2
    go_wp2
    go_ret
    exact ⟨ret_bool (by rw [H.out]; (simp <;> omega)), below_drewN (Below.refl _ _) _⟩
  · have H := Lib.hid (h2 (by omega))
    clear h1 h2
    go_wp2
    go_ret
    exact ⟨ret_bool (by rw [H.out]; (simp <;> omega)), below_drewN (Below.refl _ _) _⟩

/-- The program's list has a row with the value exactly if there is such a mask. -/
theorem allL_rows {k : Nat} {p : Nat → Bool} : ∀ m j, j < cntG p m → ∃ b, b < m ∧ p b = true ∧ row (allL k p m) j = bitTo b k := by
  intro m
  induction m with
  | zero => intro j h; rw [cntG_zero] at h; omega
  | succ m ih =>
    intro j h
    cases hp : p m with
    | false =>
      rw [cntG_off hp] at h
      obtain ⟨b, h1, h2, h3⟩ := ih j h
      exact ⟨b, by omega, h2, by rw [allL_off hp]; exact h3⟩
    | true =>
      rw [cntG_on hp] at h
      by_cases e : j = cntG p m
      · subst e
        exact ⟨m, by omega, hp, allL_new hp⟩
      · obtain ⟨b, h1, h2, h3⟩ := ih j (by omega)
        exact ⟨b, by omega, h2, by rw [allL_old hp (by omega)]; exact h3⟩
theorem allL_has {k : Nat} {p : Nat → Bool} : ∀ m b, b < m → p b = true → ∃ j, j < cntG p m ∧ row (allL k p m) j = bitTo b k := by
  intro m
  induction m with
  | zero => intro b h; omega
  | succ m ih =>
    intro b h hb
    cases hp : p m with
    | false =>
      by_cases e : b = m
      · subst e; rw [hp] at hb; cases hb
      · obtain ⟨j, h1, h2⟩ := ih b (by omega) hb
        exact ⟨j, by rw [cntG_off hp]; exact h1, by rw [allL_off hp]; exact h2⟩
    | true =>
      by_cases e : b = m
      · subst e
        exact ⟨cntG p b, by rw [cntG_on hp]; omega, allL_new hp⟩
      · obtain ⟨j, h1, h2⟩ := ih b (by omega) hb
        exact ⟨j, by rw [cntG_on hp]; omega, by rw [allL_old hp h1]; exact h2⟩
theorem cntG_pos {p : Nat → Bool} : ∀ m, 0 < cntG p m ↔ ∃ b, b < m ∧ p b = true := by
  intro m
  induction m with
  | zero => rw [cntG_zero]; exact ⟨fun h => by omega, fun ⟨b, h, _⟩ => by omega⟩
  | succ m ih =>
    cases hp : p m with
    | false =>
      rw [cntG_off hp, ih]
      constructor
      · rintro ⟨b, h1, h2⟩; exact ⟨b, by omega, h2⟩
      · rintro ⟨b, h1, h2⟩
        by_cases e : b = m
        · subst e; rw [hp] at h2; cases h2
        · exact ⟨b, by omega, h2⟩
    | true =>
      rw [cntG_on hp]
      exact ⟨fun _ => ⟨m, by omega, hp⟩, fun _ => by omega⟩
theorem has_is {n k : Nat} {zs : List Int} {i : Nat} (hi : i < k) (v : Int) : (!noAt (allL k (good n k zs) (2 ^ k)) i v (cntG (good n k zs) (2 ^ k))) = true ↔ ∃ b, b < 2 ^ k ∧ good n k zs b = true ∧ ((b / 2 ^ i % 2 : Nat) : Int) = v := by
  rw [Bool.not_eq_true', ← Bool.not_eq_true, noAt_all]
  constructor
  · intro h
    have h2 : ∃ j, j < cntG (good n k zs) (2 ^ k) ∧ nth (row (allL k (good n k zs) (2 ^ k)) j) i = v := by
      refine Classical.byContradiction fun hc => h fun j hj hv => hc ⟨j, hj, hv⟩
    obtain ⟨j, hj, hv⟩ := h2
    obtain ⟨b, h3, h4, h5⟩ := allL_rows _ j hj
    rw [h5, bitTo_nth k hi] at hv
    exact ⟨b, h3, h4, hv⟩
  · rintro ⟨b, h1, h2, h3⟩ h
    obtain ⟨j, hj, hr⟩ := allL_has (k := k) _ b h1 h2
    exact h j hj (by rw [hr, bitTo_nth k hi]; exact h3)
theorem has_eq {n : Nat} {zs : List Int} {i : Nat} {v : Int} (hl : zs.length = n) (hs : sm14 zs = true) (hsw : swN n = (swc n : Int)) (hi : i < swc n) :
    (!noAt (allL (swc n) (good n (swc n) zs) (2 ^ swc n)) i v (cntG (good n (swc n) zs) (2 ^ swc n))) = crV zs i v := by
  rw [Bool.eq_iff_iff, has_is hi]
  by_cases hv : 0 ≤ v ∧ v ≤ 1
  · obtain ⟨b, rfl⟩ := Int.eq_ofNat_of_zero_le hv.1
    rw [crV_is hl hs (by rw [hsw]; omega) (by omega), decide_eq_true_eq, cntG_pos]
    constructor
    · rintro ⟨m, h1, h2, h3⟩
      refine ⟨m, h1, ?_⟩
      rw [okAt, h2, Bool.and_true, decide_eq_true_eq]
      omega
    · rintro ⟨m, h1, h2⟩
      rw [okAt, Bool.and_eq_true, decide_eq_true_eq] at h2
      exact ⟨m, h1, h2.2, by omega⟩
  · rw [crV_v hv]
    constructor
    · rintro ⟨m, _, _, h3⟩
      have : m / 2 ^ i % 2 < 2 := Nat.mod_lt _ (by omega)
      omega
    · intro h; cases h

set_option maxHeartbeats 4000000 in
theorem implCanRouteWith (A : Option Addr) (n c : Nat) (zs : List Int) (ix v : Int) (w : World) (ha : RdI w A n zs) (hn : n ≤ 1048576) :
    Calls Try.prog 33 #[.slice A n c, .int .i64 ix, .int .i64 v] w fun e w' => e = .returned (.bool (crV zs ix v)) ∧ Below w.heap.size w w' := by
  have hl := ha.lenI
  have C := fun w' h => implSmall14 A n c zs w' h hn
  cases hs : sm14 zs with
  | false =>
    have H := Lib.hid (crV_small (ix := ix) (v := v) hs)
    rw [hs] at C
    have CC := Lib.hid C
    clear C hs hl
    have hal : Below w.heap.size w ((w.alloc (.cells #[.int .i64 ix] 3)).alloc (.cells #[.int .i64 v] 3)) := (below_alloc w _).alloc (by simp) _
    have q0 : ((w.alloc (.cells #[.int .i64 ix] 3)).alloc (.cells #[.int .i64 v] 3)).cell? ⟨w.heap.size, 0, none⟩ = some (.int .i64 ix) := by simp
    have q1 : ((w.alloc (.cells #[.int .i64 ix] 3)).alloc (.cells #[.int .i64 v] 3)).cell? ⟨w.heap.size + 1, 0, none⟩ = some (.int .i64 v) := by simp
    go_enter Try.func33, Try.ntmps33
    go_wp2_with fail
    refine wp_region_held_drew (S := (fun w' => w'.cell? ⟨w.heap.size, 0, none⟩ = some (.int .i64 ix) ∧ w'.cell? ⟨w.heap.size + 1, 0, none⟩ = some (.int .i64 v))) (by kernel_rfl) ?_ (fun hHeld => ?_)
    · go_keep
    refine wpAnyH_take (i := 0) (oi := { dst := _, op := _, type := _, pos := _, after := _, guard := none }) (v := ?_) rfl (by kernel_rfl) (by kernel_rfl) (by kernel_rfl) (fun _ _ _ h => h) (Or.inl ⟨by rfl, ?_⟩) (by assumption) ?_
    rotate_left
    · intro w hSw; (try dsimp only at hSw); go_simp; (try with_reducible rfl)
    try simp only [Act.put, List.setIfInBounds_toArray, List.set_cons_zero, List.set_cons_succ]
    refine wpAnyH_ready (rs := [1]) (by kernel_rfl) (by simp) ?_
    refine AllReadyH.cons rfl (fun K hK => ?_) AllReadyH.nil
    go_simp
    refine (CC.out _ ((ha.below hal).drewN 1)).mono ?_
    rintro e wA ⟨rfl, hbA⟩
    have s1 := (hbA.cell (p := ⟨w.heap.size, 0, none⟩) (by show w.heap.size < _; simp; try omega)).trans q0
    have s2 := (hbA.cell (p := ⟨w.heap.size + 1, 0, none⟩) (by show w.heap.size + 1 < _; simp)).trans q1
    try go_simp
    refine hK.out _ _ ⟨s1, s2⟩ (fun hHeld1 => ?_)
    clear hK K
    try simp only [Act.put, List.setIfInBounds_toArray, List.set_cons_zero, List.set_cons_succ]
    refine wpAnyH_take (i := 2) (oi := { dst := _, op := _, type := _, pos := _, after := _, guard := none }) (v := ?_) rfl (by kernel_rfl) (by kernel_rfl) (by kernel_rfl) (fun _ _ _ h => h) (Or.inl ⟨by rfl, ?_⟩) (by assumption) ?_
    rotate_left
    · intro w hSw; (try dsimp only at hSw); go_simp; (try with_reducible rfl)
    try simp only [Act.put, List.setIfInBounds_toArray, List.set_cons_zero, List.set_cons_succ]
    refine wpAnyH_take (i := 3) (oi := { dst := _, op := _, type := _, pos := _, after := _, guard := some (2, true) }) (v := undef) rfl (by kernel_rfl) (by kernel_rfl) (by kernel_rfl) (fun _ _ _ h => h) (Or.inr ⟨by rfl, rfl⟩) (by assumption) ?_
    try simp only [Act.put, List.setIfInBounds_toArray, List.set_cons_zero, List.set_cons_succ]
    refine wpAnyH_take (i := 4) (oi := { dst := _, op := _, type := _, pos := _, after := _, guard := some (2, true) }) (v := undef) rfl (by kernel_rfl) (by kernel_rfl) (by kernel_rfl) (fun _ _ _ h => h) (Or.inr ⟨by rfl, rfl⟩) (by assumption) ?_
    try simp only [Act.put, List.setIfInBounds_toArray, List.set_cons_zero, List.set_cons_succ]
    refine wpAnyH_take (i := 5) (oi := { dst := _, op := _, type := _, pos := _, after := _, guard := none }) (v := ?_) rfl (by kernel_rfl) (by kernel_rfl) (by kernel_rfl) (fun _ _ _ h => h) (Or.inl ⟨by rfl, ?_⟩) (by assumption) ?_
    rotate_left
    · intro w hSw; (try dsimp only at hSw); go_simp; (try with_reducible rfl)
    try simp only [Act.put, List.setIfInBounds_toArray, List.set_cons_zero, List.set_cons_succ]
    refine wpAnyH_take (i := 6) (oi := { dst := _, op := _, type := _, pos := _, after := _, guard := none }) (v := ?_) rfl (by kernel_rfl) (by kernel_rfl) (by kernel_rfl) (fun _ _ _ h => h) (Or.inl ⟨by rfl, ?_⟩) (by assumption) ?_
    rotate_left
    · intro w hSw; (try dsimp only at hSw); go_simp; (try with_reducible rfl)
    try simp only [Act.put, List.setIfInBounds_toArray, List.set_cons_zero, List.set_cons_succ]
    refine wpAnyH_take (i := 7) (oi := { dst := _, op := _, type := _, pos := _, after := _, guard := some (6, true) }) (v := undef) rfl (by kernel_rfl) (by kernel_rfl) (by kernel_rfl) (fun _ _ _ h => h) (Or.inr ⟨by rfl, rfl⟩) (by assumption) ?_
    try simp only [Act.put, List.setIfInBounds_toArray, List.set_cons_zero, List.set_cons_succ]
    refine wpAnyH_take (i := 8) (oi := { dst := _, op := _, type := _, pos := _, after := _, guard := some (6, true) }) (v := undef) rfl (by kernel_rfl) (by kernel_rfl) (by kernel_rfl) (fun _ _ _ h => h) (Or.inr ⟨by rfl, rfl⟩) (by assumption) ?_
    try simp only [Act.put, List.setIfInBounds_toArray, List.set_cons_zero, List.set_cons_succ]
    refine wpAnyH_take (i := 9) (oi := { dst := _, op := _, type := _, pos := _, after := _, guard := some (6, true) }) (v := undef) rfl (by kernel_rfl) (by kernel_rfl) (by kernel_rfl) (fun _ _ _ h => h) (Or.inr ⟨by rfl, rfl⟩) (by assumption) ?_
    try simp only [Act.put, List.setIfInBounds_toArray, List.set_cons_zero, List.set_cons_succ]
    refine wpAnyH_take (i := 10) (oi := { dst := _, op := _, type := _, pos := _, after := _, guard := some (6, true) }) (v := undef) rfl (by kernel_rfl) (by kernel_rfl) (by kernel_rfl) (fun _ _ _ h => h) (Or.inr ⟨by rfl, rfl⟩) (by assumption) ?_
    try simp only [Act.put, List.setIfInBounds_toArray, List.set_cons_zero, List.set_cons_succ]
    refine wpAnyH_take (i := 11) (oi := { dst := _, op := _, type := _, pos := _, after := _, guard := some (6, true) }) (v := undef) rfl (by kernel_rfl) (by kernel_rfl) (by kernel_rfl) (fun _ _ _ h => h) (Or.inr ⟨by rfl, rfl⟩) (by assumption) ?_
    try simp only [Act.put, List.setIfInBounds_toArray, List.set_cons_zero, List.set_cons_succ]
    refine wpAnyH_take (i := 12) (oi := { dst := _, op := _, type := _, pos := _, after := _, guard := none }) (v := ?_) rfl (by kernel_rfl) (by kernel_rfl) (by kernel_rfl) (fun _ _ _ h => h) (Or.inl ⟨by rfl, ?_⟩) (by assumption) ?_
    rotate_left
    · intro w hSw; (try dsimp only at hSw); go_simp; (try with_reducible rfl)
    try simp only [Act.put, List.setIfInBounds_toArray, List.set_cons_zero, List.set_cons_succ]
    refine wpAnyH_take (i := 13) (oi := { dst := _, op := _, type := _, pos := _, after := _, guard := none }) (v := ?_) rfl (by kernel_rfl) (by kernel_rfl) (by kernel_rfl) (fun _ _ _ h => h) (Or.inl ⟨by rfl, ?_⟩) (by assumption) ?_
    rotate_left
    · intro w hSw; (try dsimp only at hSw); go_simp; (try with_reducible rfl)
    try simp only [Act.put, List.setIfInBounds_toArray, List.set_cons_zero, List.set_cons_succ]
    refine wpAnyH_take (i := 14) (oi := { dst := _, op := _, type := _, pos := _, after := _, guard := some (13, true) }) (v := undef) rfl (by kernel_rfl) (by kernel_rfl) (by kernel_rfl) (fun _ _ _ h => h) (Or.inr ⟨by rfl, rfl⟩) (by assumption) ?_
    try simp only [Act.put, List.setIfInBounds_toArray, List.set_cons_zero, List.set_cons_succ]
    refine wpAnyH_take (i := 15) (oi := { dst := _, op := _, type := _, pos := _, after := _, guard := some (13, true) }) (v := undef) rfl (by kernel_rfl) (by kernel_rfl) (by kernel_rfl) (fun _ _ _ h => h) (Or.inr ⟨by rfl, rfl⟩) (by assumption) ?_
    try simp only [Act.put, List.setIfInBounds_toArray, List.set_cons_zero, List.set_cons_succ]
    refine wpAnyH_take (i := 16) (oi := { dst := _, op := _, type := _, pos := _, after := _, guard := some (13, true) }) (v := undef) rfl (by kernel_rfl) (by kernel_rfl) (by kernel_rfl) (fun _ _ _ h => h) (Or.inr ⟨by rfl, rfl⟩) (by assumption) ?_
    try simp only [Act.put, List.setIfInBounds_toArray, List.set_cons_zero, List.set_cons_succ]
    refine wpAnyH_take (i := 17) (oi := { dst := _, op := _, type := _, pos := _, after := _, guard := some (13, true) }) (v := undef) rfl (by kernel_rfl) (by kernel_rfl) (by kernel_rfl) (fun _ _ _ h => h) (Or.inr ⟨by rfl, rfl⟩) (by assumption) ?_
    try simp only [Act.put, List.setIfInBounds_toArray, List.set_cons_zero, List.set_cons_succ]
    refine wpAnyH_take (i := 18) (oi := { dst := _, op := _, type := _, pos := _, after := _, guard := none }) (v := ?_) rfl (by kernel_rfl) (by kernel_rfl) (by kernel_rfl) (fun _ _ _ h => h) (Or.inl ⟨by rfl, ?_⟩) (by assumption) ?_
    rotate_left
    · intro w hSw; (try dsimp only at hSw); go_simp; (try with_reducible rfl)
    try simp only [Act.put, List.setIfInBounds_toArray, List.set_cons_zero, List.set_cons_succ]
    refine wpAnyH_take (i := 19) (oi := { dst := _, op := _, type := _, pos := _, after := _, guard := none }) (v := ?_) rfl (by kernel_rfl) (by kernel_rfl) (by kernel_rfl) (fun _ _ _ h => h) (Or.inl ⟨by rfl, ?_⟩) (by assumption) ?_
    rotate_left
    · intro w hSw; (try dsimp only at hSw); go_simp; (try with_reducible rfl)
    try simp only [Act.put, List.setIfInBounds_toArray, List.set_cons_zero, List.set_cons_succ]
    refine wpAnyH_done (by kernel_rfl) ?_ _
    go_wp2_with fail
    go_ret
    exact ⟨ret_bool H.out.symm, hal.trans ((((Below.refl _ _ : Below w.heap.size ((w.alloc (.cells #[.int .i64 ix] 3)).alloc (.cells #[.int .i64 v] 3)) _).drew)).trans (hbA.mono (by simp; omega)))⟩
  | true =>
    have hn3 := sm_out hl hs
    obtain ⟨hsw, hsw6, hsw0⟩ := swN_small hn3
    have CN := (fun w' => implCnt (n : Int) w' (isP_small hn3))
    rw [hsw] at CN
    rw [hs] at C
    have CC := Lib.hid C
    by_cases h0 : 0 ≤ ix
    · by_cases h1 : ix < swc n
      · obtain ⟨i, rfl⟩ := Int.eq_ofNat_of_zero_le h0
        have hi : i < swc n := by omega
        have H := Lib.hid (has_eq (v := v) hl hs hsw hi)
        have CA := Lib.hid (fun w' h => implAllAny hn3 A c zs w' h)
        have HB := Lib.hid (show ∀ m, (bitTo m (swc n)).length = swc n from fun m => bitTo_len m _)
        obtain ⟨k, hk⟩ : ∃ k, swc n = k := ⟨_, rfl⟩
        rw [hk] at CN hi hsw6 H CA h1 HB
        replace CN := Lib.hid CN
        have d2 : decide ((i : Int) < (k : Int)) = true := by simp; omega
        have hcl := cntG_le (good n k zs) (2 ^ k)
        have hpk : 2 ^ k ≤ 64 := Nat.le_trans (Nat.pow_le_pow_right (by omega) hsw6) (by decide)
        have hcn : cntG (good n k zs) (2 ^ k) ≤ 64 := Nat.le_trans hcl hpk
        have HCN := Lib.hid hcn
        have HRL := Lib.hid (show ∀ j, j < cntG (good n k zs) (2 ^ k) → i < (row (allL k (good n k zs) (2 ^ k)) j).length ∧ (row (allL k (good n k zs) (2 ^ k)) j).length ≤ 1048576 from fun j hj => by
          obtain ⟨b, _, _, hr⟩ := allL_rows _ j hj
          rw [hr, bitTo_len]; omega)
        clear C hs hl hsw hsw0 hn3 hk h0 h1 hcl hpk hcn HB
        have hal : Below w.heap.size w ((w.alloc (.cells #[.int .i64 (i : Int)] 3)).alloc (.cells #[.int .i64 v] 3)) := (below_alloc w _).alloc (by simp) _
        have q0 : ((w.alloc (.cells #[.int .i64 (i : Int)] 3)).alloc (.cells #[.int .i64 v] 3)).cell? ⟨w.heap.size, 0, none⟩ = some (.int .i64 (i : Int)) := by simp
        have q1 : ((w.alloc (.cells #[.int .i64 (i : Int)] 3)).alloc (.cells #[.int .i64 v] 3)).cell? ⟨w.heap.size + 1, 0, none⟩ = some (.int .i64 v) := by simp
        go_enter Try.func33, Try.ntmps33
        go_wp2_with fail
        refine wp_region_held_drew (S := (fun w' => w'.cell? ⟨w.heap.size, 0, none⟩ = some (.int .i64 (i : Int)) ∧ w'.cell? ⟨w.heap.size + 1, 0, none⟩ = some (.int .i64 v))) (by kernel_rfl) ?_ (fun hHeld => ?_)
        · go_keep
        refine wpAnyH_take (i := 0) (oi := { dst := _, op := _, type := _, pos := _, after := _, guard := none }) (v := ?_) rfl (by kernel_rfl) (by kernel_rfl) (by kernel_rfl) (fun _ _ _ h => h) (Or.inl ⟨by rfl, ?_⟩) (by assumption) ?_
        rotate_left
        · intro w hSw; (try dsimp only at hSw); go_simp; (try with_reducible rfl)
        try simp only [Act.put, List.setIfInBounds_toArray, List.set_cons_zero, List.set_cons_succ]
        refine wpAnyH_ready (rs := [1]) (by kernel_rfl) (by simp) ?_
        refine AllReadyH.cons rfl (fun K hK => ?_) AllReadyH.nil
        go_simp
        refine (CC.out _ ((ha.below hal).drewN 1)).mono ?_
        rintro e wA ⟨rfl, hbA⟩
        have s1 := (hbA.cell (p := ⟨w.heap.size, 0, none⟩) (by show w.heap.size < _; simp; try omega)).trans q0
        have s2 := (hbA.cell (p := ⟨w.heap.size + 1, 0, none⟩) (by show w.heap.size + 1 < _; simp)).trans q1
        try go_simp
        refine hK.out _ _ ⟨s1, s2⟩ (fun hHeld1 => ?_)
        clear hK K
        try simp only [Act.put, List.setIfInBounds_toArray, List.set_cons_zero, List.set_cons_succ]
        refine wpAnyH_take (i := 2) (oi := { dst := _, op := _, type := _, pos := _, after := _, guard := none }) (v := ?_) rfl (by kernel_rfl) (by kernel_rfl) (by kernel_rfl) (fun _ _ _ h => h) (Or.inl ⟨by rfl, ?_⟩) (by assumption) ?_
        rotate_left
        · intro w hSw; (try dsimp only at hSw); go_simp; (try with_reducible rfl)
        try simp only [Act.put, List.setIfInBounds_toArray, List.set_cons_zero, List.set_cons_succ]
        refine wpAnyH_take (i := 3) (oi := { dst := _, op := _, type := _, pos := _, after := _, guard := some (2, true) }) (v := ?_) rfl (by kernel_rfl) (by kernel_rfl) (by kernel_rfl) (fun _ _ _ h => h) (Or.inl ⟨by rfl, ?_⟩) (by assumption) ?_
        rotate_left
        · intro w hSw; (try dsimp only at hSw); go_simp; (try with_reducible rfl)
        try simp only [Act.put, List.setIfInBounds_toArray, List.set_cons_zero, List.set_cons_succ]
        refine wpAnyH_take (i := 4) (oi := { dst := _, op := _, type := _, pos := _, after := _, guard := some (2, true) }) (v := ?_) rfl (by kernel_rfl) (by kernel_rfl) (by kernel_rfl) (fun _ _ _ h => h) (Or.inl ⟨by rfl, ?_⟩) (by assumption) ?_
        rotate_left
        · intro w hSw; (try dsimp only at hSw); go_simp; (try with_reducible rfl)
        try simp only [Act.put, List.setIfInBounds_toArray, List.set_cons_zero, List.set_cons_succ]
        refine wpAnyH_take (i := 5) (oi := { dst := _, op := _, type := _, pos := _, after := _, guard := none }) (v := ?_) rfl (by kernel_rfl) (by kernel_rfl) (by kernel_rfl) (fun _ _ _ h => h) (Or.inl ⟨by rfl, ?_⟩) (by assumption) ?_
        rotate_left
        · intro w hSw; (try dsimp only at hSw); go_simp; (try with_reducible rfl)
        try simp only [Act.put, List.setIfInBounds_toArray, List.set_cons_zero, List.set_cons_succ]
        refine wpAnyH_take (i := 6) (oi := { dst := _, op := _, type := _, pos := _, after := _, guard := none }) (v := ?_) rfl (by kernel_rfl) (by kernel_rfl) (by kernel_rfl) (fun _ _ _ h => h) (Or.inl ⟨by rfl, ?_⟩) (by assumption) ?_
        rotate_left
        · intro w hSw; (try dsimp only at hSw); go_simp; (try with_reducible rfl)
        try simp only [Act.put, List.setIfInBounds_toArray, List.set_cons_zero, List.set_cons_succ]
        refine wpAnyH_take (i := 7) (oi := { dst := _, op := _, type := _, pos := _, after := _, guard := some (6, true) }) (v := ?_) rfl (by kernel_rfl) (by kernel_rfl) (by kernel_rfl) (fun _ _ _ h => h) (Or.inl ⟨by rfl, ?_⟩) (by assumption) ?_
        rotate_left
        · intro w hSw; (try dsimp only at hSw); go_simp; (try with_reducible rfl)
        try simp only [Act.put, List.setIfInBounds_toArray, List.set_cons_zero, List.set_cons_succ]
        refine wpAnyH_take (i := 8) (oi := { dst := _, op := _, type := _, pos := _, after := _, guard := some (6, true) }) (v := ?_) rfl (by kernel_rfl) (by kernel_rfl) (by kernel_rfl) (fun _ _ _ h => h) (Or.inl ⟨by rfl, ?_⟩) (by assumption) ?_
        rotate_left
        · intro w hSw; (try dsimp only at hSw); go_simp; (try with_reducible rfl)
        try simp only [Act.put, List.setIfInBounds_toArray, List.set_cons_zero, List.set_cons_succ]
        refine wpAnyH_take (i := 9) (oi := { dst := _, op := _, type := _, pos := _, after := _, guard := some (6, true) }) (v := ?_) rfl (by kernel_rfl) (by kernel_rfl) (by kernel_rfl) (fun _ _ _ h => h) (Or.inl ⟨by rfl, ?_⟩) (by assumption) ?_
        rotate_left
        · intro w hSw; (try dsimp only at hSw); go_simp; (try with_reducible rfl)
        try simp only [Act.put, List.setIfInBounds_toArray, List.set_cons_zero, List.set_cons_succ]
        refine wpAnyH_ready (rs := [10]) (by kernel_rfl) (by simp) ?_
        refine AllReadyH.cons rfl (fun K hK => ?_) AllReadyH.nil
        go_simp
        refine (CN.out _).mono ?_
        rintro e wB ⟨rfl, hbB⟩
        have s3 := (hbB.cell (p := ⟨w.heap.size, 0, none⟩) (by have := hbA.size; simp at this; show w.heap.size < wA.heap.size; omega)).trans s1
        have s4 := (hbB.cell (p := ⟨w.heap.size + 1, 0, none⟩) (by have := hbA.size; simp at this; show w.heap.size + 1 < wA.heap.size; omega)).trans s2
        try go_simp
        refine hK.out _ _ ⟨s3, s4⟩ (fun hHeld10 => ?_)
        clear hK K
        try simp only [Act.put, List.setIfInBounds_toArray, List.set_cons_zero, List.set_cons_succ]
        refine wpAnyH_take (i := 11) (oi := { dst := _, op := _, type := _, pos := _, after := _, guard := some (6, true) }) (v := ?_) rfl (by kernel_rfl) (by kernel_rfl) (by kernel_rfl) (fun _ _ _ h => h) (Or.inl ⟨by rfl, ?_⟩) (by assumption) ?_
        rotate_left
        · intro w hSw; (try dsimp only at hSw); go_simp; (try with_reducible rfl)
        try simp only [Act.put, List.setIfInBounds_toArray, List.set_cons_zero, List.set_cons_succ]
        refine wpAnyH_take (i := 12) (oi := { dst := _, op := _, type := _, pos := _, after := _, guard := none }) (v := ?_) rfl (by kernel_rfl) (by kernel_rfl) (by kernel_rfl) (fun _ _ _ h => h) (Or.inl ⟨by rfl, ?_⟩) (by assumption) ?_
        rotate_left
        · intro w hSw; (try dsimp only at hSw); go_simp; (try with_reducible rfl)
        try simp only [Act.put, List.setIfInBounds_toArray, List.set_cons_zero, List.set_cons_succ]
        refine wpAnyH_take (i := 13) (oi := { dst := _, op := _, type := _, pos := _, after := _, guard := none }) (v := ?_) rfl (by kernel_rfl) (by kernel_rfl) (by kernel_rfl) (fun _ _ _ h => h) (Or.inl ⟨by rfl, ?_⟩) (by assumption) ?_
        rotate_left
        · intro w hSw; (try dsimp only at hSw); go_simp; (try with_reducible rfl)
        try simp only [Act.put, List.setIfInBounds_toArray, List.set_cons_zero, List.set_cons_succ]
        refine wpAnyH_take (i := 14) (oi := { dst := _, op := _, type := _, pos := _, after := _, guard := some (13, true) }) (v := ?_) rfl (by kernel_rfl) (by kernel_rfl) (by kernel_rfl) (fun _ _ _ h => h) (Or.inl ⟨by rfl, ?_⟩) (by assumption) ?_
        rotate_left
        · intro w hSw; (try dsimp only at hSw); go_simp; (try with_reducible rfl)
        try simp only [Act.put, List.setIfInBounds_toArray, List.set_cons_zero, List.set_cons_succ]
        refine wpAnyH_take (i := 16) (oi := { dst := _, op := _, type := _, pos := _, after := _, guard := some (13, true) }) (v := ?_) rfl (by kernel_rfl) (by kernel_rfl) (by kernel_rfl) (fun _ _ _ h => h) (Or.inl ⟨by rfl, ?_⟩) (by assumption) ?_
        rotate_left
        · intro w hSw; (try dsimp only at hSw); go_simp; (try with_reducible rfl)
        try simp only [Act.put, List.setIfInBounds_toArray, List.set_cons_zero, List.set_cons_succ]
        refine wpAnyH_ready (rs := [15]) (by kernel_rfl) (by simp) ?_
        refine AllReadyH.cons rfl (fun K hK => ?_) AllReadyH.nil
        go_simp
        refine (CA.out _ (((((ha.below hal).drewN 1).below hbA)).below hbB)).mono ?_
        rintro e wC ⟨A2, n2, c2, vs, rfl, hn2, oC, hrC, hbC⟩
        have HN2 := Lib.hid hn2
        clear hn2
        have s5 := (hbC.cell (p := ⟨w.heap.size, 0, none⟩) (by show w.heap.size < wB.heap.size; have h1 := hbA.size; have h2 := hbB.size; simp at h1; omega)).trans s3
        have s6 := (hbC.cell (p := ⟨w.heap.size + 1, 0, none⟩) (by show w.heap.size + 1 < wB.heap.size; have h1 := hbA.size; have h2 := hbB.size; simp at h1; omega)).trans s4
        try go_simp
        refine hK.out _ _ ⟨s5, s6⟩ (fun hHeld16 => ?_)
        clear hK K
        try simp only [Act.put, List.setIfInBounds_toArray, List.set_cons_zero, List.set_cons_succ]
        refine wpAnyH_ready (rs := [17]) (by kernel_rfl) (by simp) ?_
        refine AllReadyH.cons rfl (fun K hK => ?_) AllReadyH.nil
        go_simp
        refine (implContainsAt A2 n2 c2 _ i v ⟨w.heap.size, 0, none⟩ ⟨w.heap.size + 1, 0, none⟩ _ (OwnR.rd (lo := wB.heap.size) (hi := wC.heap.size) (c := c2) (zss := allL k (good n k zs) (2 ^ k)) ⟨by rw [allL_len, HN2.out], vs, oC, fun g hg => (oC.blk_ g hg).2, hrC⟩) (by rw [HN2.out]; exact Nat.le_trans HCN.out (by omega)) (by rw [HN2.out]; exact HRL.out) s5 s6).mono ?_
        rintro e wD ⟨rfl, hbD⟩
        have s7 := (hbD.cell (p := ⟨w.heap.size, 0, none⟩) (by show w.heap.size < wC.heap.size; have h1 := hbA.size; have h2 := hbB.size; have h3 := hbC.size; simp at h1; omega)).trans s5
        have s8 := (hbD.cell (p := ⟨w.heap.size + 1, 0, none⟩) (by show w.heap.size + 1 < wC.heap.size; have h1 := hbA.size; have h2 := hbB.size; have h3 := hbC.size; simp at h1; omega)).trans s6
        try go_simp
        refine hK.out _ _ ⟨s7, s8⟩ (fun hHeld17 => ?_)
        clear hK K
        try simp only [Act.put, List.setIfInBounds_toArray, List.set_cons_zero, List.set_cons_succ]
        refine wpAnyH_take (i := 18) (oi := { dst := _, op := _, type := _, pos := _, after := _, guard := none }) (v := ?_) rfl (by kernel_rfl) (by kernel_rfl) (by kernel_rfl) (fun _ _ _ h => h) (Or.inl ⟨by rfl, ?_⟩) (by assumption) ?_
        rotate_left
        · intro w hSw; (try dsimp only at hSw); go_simp; (try with_reducible rfl)
        try simp only [Act.put, List.setIfInBounds_toArray, List.set_cons_zero, List.set_cons_succ]
        refine wpAnyH_take (i := 19) (oi := { dst := _, op := _, type := _, pos := _, after := _, guard := none }) (v := ?_) rfl (by kernel_rfl) (by kernel_rfl) (by kernel_rfl) (fun _ _ _ h => h) (Or.inl ⟨by rfl, ?_⟩) (by assumption) ?_
        rotate_left
        · intro w hSw; (try dsimp only at hSw); go_simp; (try with_reducible rfl)
        try simp only [Act.put, List.setIfInBounds_toArray, List.set_cons_zero, List.set_cons_succ]
        refine wpAnyH_done (by kernel_rfl) ?_ _
        go_wp2_with fail
        go_ret
        exact ⟨ret_bool (by rw [HN2.out]; exact H.out), (((hal.trans ((((Below.refl _ _ : Below w.heap.size ((w.alloc (.cells #[.int .i64 (i : Int)] 3)).alloc (.cells #[.int .i64 v] 3)) _).drew)).trans (hbA.mono (by simp; omega)))).trans (hbB.mono (by have := hbA.size; simp at this; omega))).trans (hbC.mono (by have h1 := hbA.size; have h2 := hbB.size; simp at h1; omega))).trans (hbD.mono (by have h1 := hbA.size; have h2 := hbB.size; have h3 := hbC.size; simp at h1; omega))⟩
      · have H := Lib.hid (crV_ix (v := v) hl (show ¬ (0 ≤ ix ∧ ix < swN n) by rw [hsw]; omega))
        have CN := Lib.hid CN
        obtain ⟨k, hk⟩ : ∃ k, swc n = k := ⟨_, rfl⟩
        rw [hk] at CN h1
        have d1 : decide (0 ≤ ix) = true := by simp; omega
        have d2 : decide (ix < (k : Int)) = false := by simp; omega
        clear C hs hl hsw hsw0 hn3 hsw6 hk
        have hal : Below w.heap.size w ((w.alloc (.cells #[.int .i64 ix] 3)).alloc (.cells #[.int .i64 v] 3)) := (below_alloc w _).alloc (by simp) _
        have q0 : ((w.alloc (.cells #[.int .i64 ix] 3)).alloc (.cells #[.int .i64 v] 3)).cell? ⟨w.heap.size, 0, none⟩ = some (.int .i64 ix) := by simp
        have q1 : ((w.alloc (.cells #[.int .i64 ix] 3)).alloc (.cells #[.int .i64 v] 3)).cell? ⟨w.heap.size + 1, 0, none⟩ = some (.int .i64 v) := by simp
        go_enter Try.func33, Try.ntmps33
        go_wp2_with fail
        refine wp_region_held_drew (S := (fun w' => w'.cell? ⟨w.heap.size, 0, none⟩ = some (.int .i64 ix) ∧ w'.cell? ⟨w.heap.size + 1, 0, none⟩ = some (.int .i64 v))) (by kernel_rfl) ?_ (fun hHeld => ?_)
        · go_keep
        refine wpAnyH_take (i := 0) (oi := { dst := _, op := _, type := _, pos := _, after := _, guard := none }) (v := ?_) rfl (by kernel_rfl) (by kernel_rfl) (by kernel_rfl) (fun _ _ _ h => h) (Or.inl ⟨by rfl, ?_⟩) (by assumption) ?_
        rotate_left
        · intro w hSw; (try dsimp only at hSw); go_simp; (try with_reducible rfl)
        try simp only [Act.put, List.setIfInBounds_toArray, List.set_cons_zero, List.set_cons_succ]
        refine wpAnyH_ready (rs := [1]) (by kernel_rfl) (by simp) ?_
        refine AllReadyH.cons rfl (fun K hK => ?_) AllReadyH.nil
        go_simp
        refine (CC.out _ ((ha.below hal).drewN 1)).mono ?_
        rintro e wA ⟨rfl, hbA⟩
        have s1 := (hbA.cell (p := ⟨w.heap.size, 0, none⟩) (by show w.heap.size < _; simp; try omega)).trans q0
        have s2 := (hbA.cell (p := ⟨w.heap.size + 1, 0, none⟩) (by show w.heap.size + 1 < _; simp)).trans q1
        try go_simp
        refine hK.out _ _ ⟨s1, s2⟩ (fun hHeld1 => ?_)
        clear hK K
        try simp only [Act.put, List.setIfInBounds_toArray, List.set_cons_zero, List.set_cons_succ]
        refine wpAnyH_take (i := 2) (oi := { dst := _, op := _, type := _, pos := _, after := _, guard := none }) (v := ?_) rfl (by kernel_rfl) (by kernel_rfl) (by kernel_rfl) (fun _ _ _ h => h) (Or.inl ⟨by rfl, ?_⟩) (by assumption) ?_
        rotate_left
        · intro w hSw; (try dsimp only at hSw); go_simp; (try with_reducible rfl)
        try simp only [Act.put, List.setIfInBounds_toArray, List.set_cons_zero, List.set_cons_succ]
        refine wpAnyH_take (i := 3) (oi := { dst := _, op := _, type := _, pos := _, after := _, guard := some (2, true) }) (v := ?_) rfl (by kernel_rfl) (by kernel_rfl) (by kernel_rfl) (fun _ _ _ h => h) (Or.inl ⟨by rfl, ?_⟩) (by assumption) ?_
        rotate_left
        · intro w hSw; (try dsimp only at hSw); go_simp; (try with_reducible rfl)
        try simp only [Act.put, List.setIfInBounds_toArray, List.set_cons_zero, List.set_cons_succ]
        refine wpAnyH_take (i := 4) (oi := { dst := _, op := _, type := _, pos := _, after := _, guard := some (2, true) }) (v := ?_) rfl (by kernel_rfl) (by kernel_rfl) (by kernel_rfl) (fun _ _ _ h => h) (Or.inl ⟨by rfl, ?_⟩) (by assumption) ?_
        rotate_left
        · intro w hSw; (try dsimp only at hSw); go_simp; (try with_reducible rfl)
        try simp only [Act.put, List.setIfInBounds_toArray, List.set_cons_zero, List.set_cons_succ]
        refine wpAnyH_take (i := 5) (oi := { dst := _, op := _, type := _, pos := _, after := _, guard := none }) (v := ?_) rfl (by kernel_rfl) (by kernel_rfl) (by kernel_rfl) (fun _ _ _ h => h) (Or.inl ⟨by rfl, ?_⟩) (by assumption) ?_
        rotate_left
        · intro w hSw; (try dsimp only at hSw); go_simp; (try with_reducible rfl)
        try simp only [Act.put, List.setIfInBounds_toArray, List.set_cons_zero, List.set_cons_succ]
        refine wpAnyH_take (i := 6) (oi := { dst := _, op := _, type := _, pos := _, after := _, guard := none }) (v := ?_) rfl (by kernel_rfl) (by kernel_rfl) (by kernel_rfl) (fun _ _ _ h => h) (Or.inl ⟨by rfl, ?_⟩) (by assumption) ?_
        rotate_left
        · intro w hSw; (try dsimp only at hSw); go_simp; (try with_reducible rfl)
        try simp only [Act.put, List.setIfInBounds_toArray, List.set_cons_zero, List.set_cons_succ]
        refine wpAnyH_take (i := 7) (oi := { dst := _, op := _, type := _, pos := _, after := _, guard := some (6, true) }) (v := ?_) rfl (by kernel_rfl) (by kernel_rfl) (by kernel_rfl) (fun _ _ _ h => h) (Or.inl ⟨by rfl, ?_⟩) (by assumption) ?_
        rotate_left
        · intro w hSw; (try dsimp only at hSw); go_simp; (try with_reducible rfl)
        try simp only [Act.put, List.setIfInBounds_toArray, List.set_cons_zero, List.set_cons_succ]
        refine wpAnyH_take (i := 8) (oi := { dst := _, op := _, type := _, pos := _, after := _, guard := some (6, true) }) (v := ?_) rfl (by kernel_rfl) (by kernel_rfl) (by kernel_rfl) (fun _ _ _ h => h) (Or.inl ⟨by rfl, ?_⟩) (by assumption) ?_
        rotate_left
        · intro w hSw; (try dsimp only at hSw); go_simp; (try with_reducible rfl)
        try simp only [Act.put, List.setIfInBounds_toArray, List.set_cons_zero, List.set_cons_succ]
        refine wpAnyH_take (i := 9) (oi := { dst := _, op := _, type := _, pos := _, after := _, guard := some (6, true) }) (v := ?_) rfl (by kernel_rfl) (by kernel_rfl) (by kernel_rfl) (fun _ _ _ h => h) (Or.inl ⟨by rfl, ?_⟩) (by assumption) ?_
        rotate_left
        · intro w hSw; (try dsimp only at hSw); go_simp; (try with_reducible rfl)
        try simp only [Act.put, List.setIfInBounds_toArray, List.set_cons_zero, List.set_cons_succ]
        refine wpAnyH_ready (rs := [10]) (by kernel_rfl) (by simp) ?_
        refine AllReadyH.cons rfl (fun K hK => ?_) AllReadyH.nil
        go_simp
        refine (CN.out _).mono ?_
        rintro e wB ⟨rfl, hbB⟩
        have s3 := (hbB.cell (p := ⟨w.heap.size, 0, none⟩) (by have := hbA.size; simp at this; show w.heap.size < wA.heap.size; omega)).trans s1
        have s4 := (hbB.cell (p := ⟨w.heap.size + 1, 0, none⟩) (by have := hbA.size; simp at this; show w.heap.size + 1 < wA.heap.size; omega)).trans s2
        try go_simp
        refine hK.out _ _ ⟨s3, s4⟩ (fun hHeld10 => ?_)
        clear hK K
        try simp only [Act.put, List.setIfInBounds_toArray, List.set_cons_zero, List.set_cons_succ]
        refine wpAnyH_take (i := 11) (oi := { dst := _, op := _, type := _, pos := _, after := _, guard := some (6, true) }) (v := ?_) rfl (by kernel_rfl) (by kernel_rfl) (by kernel_rfl) (fun _ _ _ h => h) (Or.inl ⟨by rfl, ?_⟩) (by assumption) ?_
        rotate_left
        · intro w hSw; (try dsimp only at hSw); go_simp; (try with_reducible rfl)
        try simp only [Act.put, List.setIfInBounds_toArray, List.set_cons_zero, List.set_cons_succ]
        refine wpAnyH_take (i := 12) (oi := { dst := _, op := _, type := _, pos := _, after := _, guard := none }) (v := ?_) rfl (by kernel_rfl) (by kernel_rfl) (by kernel_rfl) (fun _ _ _ h => h) (Or.inl ⟨by rfl, ?_⟩) (by assumption) ?_
        rotate_left
        · intro w hSw; (try dsimp only at hSw); go_simp; (try with_reducible rfl)
        try simp only [Act.put, List.setIfInBounds_toArray, List.set_cons_zero, List.set_cons_succ]
        refine wpAnyH_take (i := 13) (oi := { dst := _, op := _, type := _, pos := _, after := _, guard := none }) (v := ?_) rfl (by kernel_rfl) (by kernel_rfl) (by kernel_rfl) (fun _ _ _ h => h) (Or.inl ⟨by rfl, ?_⟩) (by assumption) ?_
        rotate_left
        · intro w hSw; (try dsimp only at hSw); go_simp; (try with_reducible rfl)
        try simp only [Act.put, List.setIfInBounds_toArray, List.set_cons_zero, List.set_cons_succ]
        refine wpAnyH_take (i := 14) (oi := { dst := _, op := _, type := _, pos := _, after := _, guard := some (13, true) }) (v := undef) rfl (by kernel_rfl) (by kernel_rfl) (by kernel_rfl) (fun _ _ _ h => h) (Or.inr ⟨by rfl, rfl⟩) (by assumption) ?_
        try simp only [Act.put, List.setIfInBounds_toArray, List.set_cons_zero, List.set_cons_succ]
        refine wpAnyH_take (i := 15) (oi := { dst := _, op := _, type := _, pos := _, after := _, guard := some (13, true) }) (v := undef) rfl (by kernel_rfl) (by kernel_rfl) (by kernel_rfl) (fun _ _ _ h => h) (Or.inr ⟨by rfl, rfl⟩) (by assumption) ?_
        try simp only [Act.put, List.setIfInBounds_toArray, List.set_cons_zero, List.set_cons_succ]
        refine wpAnyH_take (i := 16) (oi := { dst := _, op := _, type := _, pos := _, after := _, guard := some (13, true) }) (v := undef) rfl (by kernel_rfl) (by kernel_rfl) (by kernel_rfl) (fun _ _ _ h => h) (Or.inr ⟨by rfl, rfl⟩) (by assumption) ?_
        try simp only [Act.put, List.setIfInBounds_toArray, List.set_cons_zero, List.set_cons_succ]
        refine wpAnyH_take (i := 17) (oi := { dst := _, op := _, type := _, pos := _, after := _, guard := some (13, true) }) (v := undef) rfl (by kernel_rfl) (by kernel_rfl) (by kernel_rfl) (fun _ _ _ h => h) (Or.inr ⟨by rfl, rfl⟩) (by assumption) ?_
        try simp only [Act.put, List.setIfInBounds_toArray, List.set_cons_zero, List.set_cons_succ]
        refine wpAnyH_take (i := 18) (oi := { dst := _, op := _, type := _, pos := _, after := _, guard := none }) (v := ?_) rfl (by kernel_rfl) (by kernel_rfl) (by kernel_rfl) (fun _ _ _ h => h) (Or.inl ⟨by rfl, ?_⟩) (by assumption) ?_
        rotate_left
        · intro w hSw; (try dsimp only at hSw); go_simp; (try with_reducible rfl)
        try simp only [Act.put, List.setIfInBounds_toArray, List.set_cons_zero, List.set_cons_succ]
        refine wpAnyH_take (i := 19) (oi := { dst := _, op := _, type := _, pos := _, after := _, guard := none }) (v := ?_) rfl (by kernel_rfl) (by kernel_rfl) (by kernel_rfl) (fun _ _ _ h => h) (Or.inl ⟨by rfl, ?_⟩) (by assumption) ?_
        rotate_left
        · intro w hSw; (try dsimp only at hSw); go_simp; (try with_reducible rfl)
        try simp only [Act.put, List.setIfInBounds_toArray, List.set_cons_zero, List.set_cons_succ]
        refine wpAnyH_done (by kernel_rfl) ?_ _
        go_wp2_with fail
        go_ret
        exact ⟨ret_bool H.out.symm, (hal.trans ((((Below.refl _ _ : Below w.heap.size ((w.alloc (.cells #[.int .i64 ix] 3)).alloc (.cells #[.int .i64 v] 3)) _).drew)).trans (hbA.mono (by simp; omega)))).trans (hbB.mono (by have := hbA.size; simp at this; omega))⟩
    · have H := Lib.hid (crV_ix (v := v) hl (show ¬ (0 ≤ ix ∧ ix < swN n) by omega))
      have d1 : decide (0 ≤ ix) = false := by simp; omega
      clear C CN hs hl hsw hsw0 hn3 hsw6
      have hal : Below w.heap.size w ((w.alloc (.cells #[.int .i64 ix] 3)).alloc (.cells #[.int .i64 v] 3)) := (below_alloc w _).alloc (by simp) _
      have q0 : ((w.alloc (.cells #[.int .i64 ix] 3)).alloc (.cells #[.int .i64 v] 3)).cell? ⟨w.heap.size, 0, none⟩ = some (.int .i64 ix) := by simp
      have q1 : ((w.alloc (.cells #[.int .i64 ix] 3)).alloc (.cells #[.int .i64 v] 3)).cell? ⟨w.heap.size + 1, 0, none⟩ = some (.int .i64 v) := by simp
      go_enter Try.func33, Try.ntmps33
      go_wp2_with fail
      refine wp_region_held_drew (S := (fun w' => w'.cell? ⟨w.heap.size, 0, none⟩ = some (.int .i64 ix) ∧ w'.cell? ⟨w.heap.size + 1, 0, none⟩ = some (.int .i64 v))) (by kernel_rfl) ?_ (fun hHeld => ?_)
      · go_keep
      refine wpAnyH_take (i := 0) (oi := { dst := _, op := _, type := _, pos := _, after := _, guard := none }) (v := ?_) rfl (by kernel_rfl) (by kernel_rfl) (by kernel_rfl) (fun _ _ _ h => h) (Or.inl ⟨by rfl, ?_⟩) (by assumption) ?_
      rotate_left
      · intro w hSw; (try dsimp only at hSw); go_simp; (try with_reducible rfl)
      try simp only [Act.put, List.setIfInBounds_toArray, List.set_cons_zero, List.set_cons_succ]
      refine wpAnyH_ready (rs := [1]) (by kernel_rfl) (by simp) ?_
      refine AllReadyH.cons rfl (fun K hK => ?_) AllReadyH.nil
      go_simp
      refine (CC.out _ ((ha.below hal).drewN 1)).mono ?_
      rintro e wA ⟨rfl, hbA⟩
      have s1 := (hbA.cell (p := ⟨w.heap.size, 0, none⟩) (by show w.heap.size < _; simp; try omega)).trans q0
      have s2 := (hbA.cell (p := ⟨w.heap.size + 1, 0, none⟩) (by show w.heap.size + 1 < _; simp)).trans q1
      try go_simp
      refine hK.out _ _ ⟨s1, s2⟩ (fun hHeld1 => ?_)
      clear hK K
      try simp only [Act.put, List.setIfInBounds_toArray, List.set_cons_zero, List.set_cons_succ]
      refine wpAnyH_take (i := 2) (oi := { dst := _, op := _, type := _, pos := _, after := _, guard := none }) (v := ?_) rfl (by kernel_rfl) (by kernel_rfl) (by kernel_rfl) (fun _ _ _ h => h) (Or.inl ⟨by rfl, ?_⟩) (by assumption) ?_
      rotate_left
      · intro w hSw; (try dsimp only at hSw); go_simp; (try with_reducible rfl)
      try simp only [Act.put, List.setIfInBounds_toArray, List.set_cons_zero, List.set_cons_succ]
      refine wpAnyH_take (i := 3) (oi := { dst := _, op := _, type := _, pos := _, after := _, guard := some (2, true) }) (v := ?_) rfl (by kernel_rfl) (by kernel_rfl) (by kernel_rfl) (fun _ _ _ h => h) (Or.inl ⟨by rfl, ?_⟩) (by assumption) ?_
      rotate_left
      · intro w hSw; (try dsimp only at hSw); go_simp; (try with_reducible rfl)
      try simp only [Act.put, List.setIfInBounds_toArray, List.set_cons_zero, List.set_cons_succ]
      refine wpAnyH_take (i := 4) (oi := { dst := _, op := _, type := _, pos := _, after := _, guard := some (2, true) }) (v := ?_) rfl (by kernel_rfl) (by kernel_rfl) (by kernel_rfl) (fun _ _ _ h => h) (Or.inl ⟨by rfl, ?_⟩) (by assumption) ?_
      rotate_left
      · intro w hSw; (try dsimp only at hSw); go_simp; (try with_reducible rfl)
      try simp only [Act.put, List.setIfInBounds_toArray, List.set_cons_zero, List.set_cons_succ]
      refine wpAnyH_take (i := 5) (oi := { dst := _, op := _, type := _, pos := _, after := _, guard := none }) (v := ?_) rfl (by kernel_rfl) (by kernel_rfl) (by kernel_rfl) (fun _ _ _ h => h) (Or.inl ⟨by rfl, ?_⟩) (by assumption) ?_
      rotate_left
      · intro w hSw; (try dsimp only at hSw); go_simp; (try with_reducible rfl)
      try simp only [Act.put, List.setIfInBounds_toArray, List.set_cons_zero, List.set_cons_succ]
      refine wpAnyH_take (i := 6) (oi := { dst := _, op := _, type := _, pos := _, after := _, guard := none }) (v := ?_) rfl (by kernel_rfl) (by kernel_rfl) (by kernel_rfl) (fun _ _ _ h => h) (Or.inl ⟨by rfl, ?_⟩) (by assumption) ?_
      rotate_left
      · intro w hSw; (try dsimp only at hSw); go_simp; (try with_reducible rfl)
      try simp only [Act.put, List.setIfInBounds_toArray, List.set_cons_zero, List.set_cons_succ]
      refine wpAnyH_take (i := 7) (oi := { dst := _, op := _, type := _, pos := _, after := _, guard := some (6, true) }) (v := undef) rfl (by kernel_rfl) (by kernel_rfl) (by kernel_rfl) (fun _ _ _ h => h) (Or.inr ⟨by rfl, rfl⟩) (by assumption) ?_
      try simp only [Act.put, List.setIfInBounds_toArray, List.set_cons_zero, List.set_cons_succ]
      refine wpAnyH_take (i := 8) (oi := { dst := _, op := _, type := _, pos := _, after := _, guard := some (6, true) }) (v := undef) rfl (by kernel_rfl) (by kernel_rfl) (by kernel_rfl) (fun _ _ _ h => h) (Or.inr ⟨by rfl, rfl⟩) (by assumption) ?_
      try simp only [Act.put, List.setIfInBounds_toArray, List.set_cons_zero, List.set_cons_succ]
      refine wpAnyH_take (i := 9) (oi := { dst := _, op := _, type := _, pos := _, after := _, guard := some (6, true) }) (v := undef) rfl (by kernel_rfl) (by kernel_rfl) (by kernel_rfl) (fun _ _ _ h => h) (Or.inr ⟨by rfl, rfl⟩) (by assumption) ?_
      try simp only [Act.put, List.setIfInBounds_toArray, List.set_cons_zero, List.set_cons_succ]
      refine wpAnyH_take (i := 10) (oi := { dst := _, op := _, type := _, pos := _, after := _, guard := some (6, true) }) (v := undef) rfl (by kernel_rfl) (by kernel_rfl) (by kernel_rfl) (fun _ _ _ h => h) (Or.inr ⟨by rfl, rfl⟩) (by assumption) ?_
      try simp only [Act.put, List.setIfInBounds_toArray, List.set_cons_zero, List.set_cons_succ]
      refine wpAnyH_take (i := 11) (oi := { dst := _, op := _, type := _, pos := _, after := _, guard := some (6, true) }) (v := undef) rfl (by kernel_rfl) (by kernel_rfl) (by kernel_rfl) (fun _ _ _ h => h) (Or.inr ⟨by rfl, rfl⟩) (by assumption) ?_
      try simp only [Act.put, List.setIfInBounds_toArray, List.set_cons_zero, List.set_cons_succ]
      refine wpAnyH_take (i := 12) (oi := { dst := _, op := _, type := _, pos := _, after := _, guard := none }) (v := ?_) rfl (by kernel_rfl) (by kernel_rfl) (by kernel_rfl) (fun _ _ _ h => h) (Or.inl ⟨by rfl, ?_⟩) (by assumption) ?_
      rotate_left
      · intro w hSw; (try dsimp only at hSw); go_simp; (try with_reducible rfl)
      try simp only [Act.put, List.setIfInBounds_toArray, List.set_cons_zero, List.set_cons_succ]
      refine wpAnyH_take (i := 13) (oi := { dst := _, op := _, type := _, pos := _, after := _, guard := none }) (v := ?_) rfl (by kernel_rfl) (by kernel_rfl) (by kernel_rfl) (fun _ _ _ h => h) (Or.inl ⟨by rfl, ?_⟩) (by assumption) ?_
      rotate_left
      · intro w hSw; (try dsimp only at hSw); go_simp; (try with_reducible rfl)
      try simp only [Act.put, List.setIfInBounds_toArray, List.set_cons_zero, List.set_cons_succ]
      refine wpAnyH_take (i := 14) (oi := { dst := _, op := _, type := _, pos := _, after := _, guard := some (13, true) }) (v := undef) rfl (by kernel_rfl) (by kernel_rfl) (by kernel_rfl) (fun _ _ _ h => h) (Or.inr ⟨by rfl, rfl⟩) (by assumption) ?_
      try simp only [Act.put, List.setIfInBounds_toArray, List.set_cons_zero, List.set_cons_succ]
      refine wpAnyH_take (i := 15) (oi := { dst := _, op := _, type := _, pos := _, after := _, guard := some (13, true) }) (v := undef) rfl (by kernel_rfl) (by kernel_rfl) (by kernel_rfl) (fun _ _ _ h => h) (Or.inr ⟨by rfl, rfl⟩) (by assumption) ?_
      try simp only [Act.put, List.setIfInBounds_toArray, List.set_cons_zero, List.set_cons_succ]
      refine wpAnyH_take (i := 16) (oi := { dst := _, op := _, type := _, pos := _, after := _, guard := some (13, true) }) (v := undef) rfl (by kernel_rfl) (by kernel_rfl) (by kernel_rfl) (fun _ _ _ h => h) (Or.inr ⟨by rfl, rfl⟩) (by assumption) ?_
      try simp only [Act.put, List.setIfInBounds_toArray, List.set_cons_zero, List.set_cons_succ]
      refine wpAnyH_take (i := 17) (oi := { dst := _, op := _, type := _, pos := _, after := _, guard := some (13, true) }) (v := undef) rfl (by kernel_rfl) (by kernel_rfl) (by kernel_rfl) (fun _ _ _ h => h) (Or.inr ⟨by rfl, rfl⟩) (by assumption) ?_
      try simp only [Act.put, List.setIfInBounds_toArray, List.set_cons_zero, List.set_cons_succ]
      refine wpAnyH_take (i := 18) (oi := { dst := _, op := _, type := _, pos := _, after := _, guard := none }) (v := ?_) rfl (by kernel_rfl) (by kernel_rfl) (by kernel_rfl) (fun _ _ _ h => h) (Or.inl ⟨by rfl, ?_⟩) (by assumption) ?_
      rotate_left
      · intro w hSw; (try dsimp only at hSw); go_simp; (try with_reducible rfl)
      try simp only [Act.put, List.setIfInBounds_toArray, List.set_cons_zero, List.set_cons_succ]
      refine wpAnyH_take (i := 19) (oi := { dst := _, op := _, type := _, pos := _, after := _, guard := none }) (v := ?_) rfl (by kernel_rfl) (by kernel_rfl) (by kernel_rfl) (fun _ _ _ h => h) (Or.inl ⟨by rfl, ?_⟩) (by assumption) ?_
      rotate_left
      · intro w hSw; (try dsimp only at hSw); go_simp; (try with_reducible rfl)
      try simp only [Act.put, List.setIfInBounds_toArray, List.set_cons_zero, List.set_cons_succ]
      refine wpAnyH_done (by kernel_rfl) ?_ _
      go_wp2_with fail
      go_ret
      exact ⟨ret_bool H.out.symm, hal.trans ((((Below.refl _ _ : Below w.heap.size ((w.alloc (.cells #[.int .i64 ix] 3)).alloc (.cells #[.int .i64 v] 3)) _).drew)).trans (hbA.mono (by simp; omega)))⟩

end Go.Proofs.Ytchmmaokommnaaa
