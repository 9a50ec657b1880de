/- Chapter 15: runs of stages. -/
import Derived.Test.YtaeabpmpfadkjaaC15e
import Derived.Test.YtaeabpmpfadkjaaBits
import Derived.Test.YtaeabpmpfadkjaaFirst
import Derived.Test.YtaeabpmpfadkjaaMat
namespace Go.Proofs.Ytaeabpmpfadkjaa
open Go.RowKit Go.Deep
set_option linter.unusedVariables false

/-- Where the value at place p goes, behind a stage with switches l. -/
def tgt (n : Nat) (l : List Int) (p : Nat) : Nat := shuf n p ^^^ (nth l (shuf n p / 2)).toNat
def stageTo (n : Nat) (l now : List Int) : Nat → List Int
  | 0 => List.replicate n 0
  | p + 1 => (stageTo n l now p).set (tgt n l p) (nth now p)
def runTo (n : Nat) (zss : List (List Int)) : Nat → List Int
  | 0 => marks 0 n
  | k + 1 => stageTo n (row zss k) (runTo n zss k) n
def rowsB (zss : List (List Int)) (h : Nat) : Nat → Bool
  | 0 => true
  | k + 1 => rowsB zss h k && bitRow (row zss k).length (row zss k) h
def runOk (x : Int) (zss : List (List Int)) : Bool := decide (IsN x) && (decide (zss.length = stgN x.toNat) && rowsB zss (x.toNat / 2) zss.length)
def runV (x : Int) (zss : List (List Int)) : List Int := if runOk x zss = true then runTo x.toNat zss zss.length else []
theorem stage_len (n : Nat) (l now : List Int) (p : Nat) : (stageTo n l now p).length = n := by
  induction p with
  | zero => simp [stageTo]
  | succ p ih => rw [stageTo, List.length_set, ih]
theorem run_len (n : Nat) (zss : List (List Int)) (k : Nat) : (runTo n zss k).length = n := by
  cases k with
  | zero => exact marks_len _ _
  | succ k => exact stage_len _ _ _ _
theorem stage_zero (n : Nat) (l now : List Int) : stageTo n l now 0 = List.replicate n 0 := rfl
theorem stage_succ (n : Nat) (l now : List Int) (p : Nat) : stageTo n l now (p + 1) = (stageTo n l now p).set (tgt n l p) (nth now p) := rfl
theorem run_zero (n : Nat) (zss : List (List Int)) : runTo n zss 0 = marks 0 n := rfl
theorem run_succ (n : Nat) (zss : List (List Int)) (k : Nat) : runTo n zss (k + 1) = stageTo n (row zss k) (runTo n zss k) n := rfl
theorem rowsB_zero (zss : List (List Int)) (h : Nat) : rowsB zss h 0 = true := rfl
theorem rowsB_on {zss : List (List Int)} {h k : Nat} (h1 : rowsB zss h k = true) (h2 : bitRow (row zss k).length (row zss k) h = true) : rowsB zss h (k + 1) = true := by rw [rowsB, h1, h2]; rfl
theorem rowsB_bad {zss : List (List Int)} {h k : Nat} (h2 : bitRow (row zss k).length (row zss k) h = false) : ∀ m, k < m → rowsB zss h m = false := by
  intro m
  induction m with
  | zero => intro h; omega
  | succ m ih =>
    intro hm
    by_cases e : k = m
    · subst e; rw [rowsB, h2, Bool.and_false]
    · rw [rowsB, ih (by omega)]; rfl
theorem rowsB_row {zss : List (List Int)} {h : Nat} : ∀ n, rowsB zss h n = true → ∀ k, k < n → bitRow (row zss k).length (row zss k) h = true := by
  intro n
  induction n with
  | zero => intro _ k hk; omega
  | succ n ih =>
    intro h1 k hk
    rw [rowsB, Bool.and_eq_true] at h1
    by_cases e : k = n
    · subst e; exact h1.2
    · exact ih h1.1 k (by omega)
theorem runV_no {x : Int} {zss : List (List Int)} (h : runOk x zss = false) : runV x zss = [] := by rw [runV, h]; rfl
theorem runV_yes {n : Nat} {zss : List (List Int)} (h : runOk n zss = true) : runV n zss = runTo n zss zss.length := by rw [runV, h, Int.toNat_natCast]; rfl
theorem runOk_n {x : Int} {zss : List (List Int)} (h : ¬ IsN x) : runOk x zss = false := by rw [runOk, decide_eq_false h]; rfl
theorem runOk_len {x : Int} {zss : List (List Int)} (h : zss.length ≠ stgN x.toNat) : runOk x zss = false := by rw [runOk, decide_eq_false h]; simp
theorem runOk_row {n k m : Nat} {zss : List (List Int)} (hl : zss.length = m) (hk : k < m) (h : bitRow (row zss k).length (row zss k) (n / 2 : Nat) = false) : runOk n zss = false := by
  rw [runOk, Int.toNat_natCast, hl, rowsB_bad h m hk]; simp
theorem runOk_yes {n m : Nat} {zss : List (List Int)} (h : IsN n) (hl : zss.length = m) (hm : m = stgN n) (hr : rowsB zss (n / 2) m = true) : runOk n zss = true := by
  rw [runOk, Int.toNat_natCast, decide_eq_true h, hl, hr, decide_eq_true hm]; rfl
theorem bitRow_all {n m : Nat} {l : List Int} (hl : l.length = m) (h : bitRow m l (n : Nat) = true) : m = n ∧ ∀ j, j < m → isBit (nth l j) = true := by
  rw [bitRow, Bool.and_eq_true, decide_eq_true_eq] at h
  refine ⟨by omega, fun j hj => ?_⟩
  cases hb : isBit (nth l j) with
  | true => rfl
  | false => rw [bits_bad hb m hj] at h; exact absurd h.2 (by simp)
theorem bitRow_no {n m j : Nat} {l : List Int} (hj : j < m) (hb : isBit (nth l j) = false) : bitRow m l (n : Nat) = false := by rw [bitRow, bits_bad hb m hj, Bool.and_false]
theorem bitRow_len {n m : Nat} {l : List Int} (h : m ≠ n) : bitRow m l (n : Nat) = false := by rw [bitRow, decide_eq_false (by omega)]; rfl
theorem bitsTo_of {l : List Int} : ∀ m, (∀ j, j < m → isBit (nth l j) = true) → bitsTo l m = true := by
  intro m
  induction m with
  | zero => intro _; exact bitsTo_zero _
  | succ m ih => intro h; exact bits_on (ih (fun j hj => h j (by omega))) (h m (by omega))
theorem bitRow_of {n : Nat} {l : List Int} (h : ∀ j, j < n → isBit (nth l j) = true) : bitRow n l (n : Nat) = true := by rw [bitRow, bitsTo_of n h]; simp
theorem xor8 : ∀ q : Nat, q < 8 → ∀ b : Nat, b < 2 → bits .xor .i64 (q : Int) (b : Int) = ((q ^^^ b : Nat) : Int) := by decide +kernel
theorem xor_lt {n q b : Nat} (hn : n = 2 ∨ n = 4 ∨ n = 8) (hq : q < n) (hb : b < 2) : q ^^^ b < n := by
  rcases hn with rfl | rfl | rfl
  · exact Nat.xor_lt_two_pow (n := 1) hq hb
  · exact Nat.xor_lt_two_pow (n := 2) hq (by omega)
  · exact Nat.xor_lt_two_pow (n := 3) hq (by omega)
/-- What one step of a stage wants to know. -/
theorem tgt_out {n p q : Nat} {l : List Int} (hn : n = 2 ∨ n = 4 ∨ n = 8) (hq : shuf n p = q) (hqn : q < n) (hb : isBit (nth l (q / 2)) = true) :
    ∃ b t : Nat, nth l (q / 2) = b ∧ b < 2 ∧ tgt n l p = t ∧ t < n ∧ bits .xor .i64 (q : Int) (b : Int) = (t : Int) := by
  obtain ⟨h1, h2⟩ := isBit_yes hb
  obtain ⟨b, hb'⟩ := Int.eq_ofNat_of_zero_le h1
  refine ⟨b, q ^^^ b, hb', by omega, ?_, xor_lt hn hqn (by omega), xor8 q (by omega) b (by omega)⟩
  rw [tgt, hq, hb']
  rfl
theorem shuf_onto {n j : Nat} (hn : n = 2 ∨ n = 4 ∨ n = 8) (hj : j < n / 2) : ∃ p, p < n ∧ shuf n p / 2 = j := by
  have h2 : ∀ j, j < 1 → ∃ p, p < 2 ∧ shuf 2 p / 2 = j := by decide +kernel
  have h4 : ∀ j, j < 2 → ∃ p, p < 4 ∧ shuf 4 p / 2 = j := by decide +kernel
  have h8 : ∀ j, j < 4 → ∃ p, p < 8 ∧ shuf 8 p / 2 = j := by decide +kernel
  rcases hn with rfl | rfl | rfl
  · exact h2 j hj
  · exact h4 j hj
  · exact h8 j hj
theorem rows_le {zss : List (List Int)} {n : Nat} (h : n + tot zss n ≤ 1048576) : ∀ k, k < n → (row zss k).length ≤ 1048576 := fun k hk => by
  have := tot_row (zss := zss) n hk
  omega
theorem runV_le (x : Int) (zss : List (List Int)) : (runV x zss).length ≤ 1048576 := by
  cases h : runOk x zss with
  | false => rw [runV_no h]; simp
  | true =>
    have h' := h
    simp only [runOk, Bool.and_eq_true, decide_eq_true_eq] at h'
    obtain ⟨m, rfl, hm⟩ := isN_nat h'.1
    rw [runV_yes h, run_len]
    omega
attribute [irreducible] tgt stageTo runTo rowsB

set_option maxHeartbeats 4000000 in
theorem specRunStages (x : Int) (A : Option Addr) (n c : Nat) (zss : List (List Int)) (w : World) (ha : RdM w A n zss) (hn : n ≤ 1048576) (hrl : ∀ k, k < n → (row zss k).length ≤ 1048576) :
    Calls Try.prog 32 #[.int .i64 x, .slice A n c] w fun e w' => ∃ A' n' c', e = .returned (.slice A' n' c') ∧ OwnI w' w.heap.size 3 A' n' c' (runV x zss) ∧ Below w.heap.size w w' := by
  have hl := ha.1
  clear hrl
  by_cases h : IsN x
  · obtain ⟨m, rfl, hm⟩ := isN_nat h
    have hm8 : m ≤ 8 := by omega
    have hm2 : 2 ≤ m := by omega
    have hsg := stg_le hm
    obtain ⟨K, hK⟩ : ∃ K, stgN m = K := ⟨_, rfl⟩
    have hK3 : K ≤ 3 := by omega
    have C1 := Lib.hid (fun w' => specN_yes (m : Int) w' h)
    have C2 := specStages m w hm
    rw [hK] at C2
    have CC2 := Lib.hid C2
    by_cases hnK : n = K
    · subst hnK
      have HL := Lib.hid hl
      have HM := Lib.hid hm
      have HN := Lib.hid h
      have HK := Lib.hid hK
      have CF := Lib.hid (specFirst m w (by omega))
      have CS := Lib.hid (fun p w' hp => specShuffle m p w' hm hp)
      clear C2 hl hm h hK hsg
      go_enter Try.func32, Try.ntmps32
      go_wp2_with fail
      refine (C1.out _).mono ?_
      rintro e w' ⟨rfl, rfl⟩
      go_wp2_with fail
      refine CC2.out.mono ?_
      rintro e w' ⟨rfl, rfl⟩
      go_wp2_with fail
      refine CF.out.mono ?_
      rintro e w1 ⟨A1, c1, rfl, o1, hb1⟩
      rw [← run_zero m zss] at o1
      clear C1 CC2 CF
      go_wp2_with fail
      go_loopw [5, 27] (fun v i wr => ∃ k : Nat, ∃ A' c', k ≤ n ∧ i = .int .i64 k ∧ v = .slice A' m c' ∧ OwnI wr w.heap.size 3 A' m c' (runTo m zss k) ∧ Hid (rowsB zss (m / 2) k = true) ∧ Below w.heap.size w wr) (fun _ i _ => n - (intOf i).toNat)
      case atStart => exact ⟨0, _, _, Nat.zero_le _, rfl, rfl, o1, Lib.hid (rowsB_zero _ _), hb1⟩
      case round =>
        clear o1 hb1
        obtain ⟨k, A2, c2, hk, rfl, rfl, own, HB, hbl⟩ := hrel
        have hsz := hbl.size
        by_cases hlt : k < n
        · obtain ⟨a1, B, q, d, rfl, _, h1, hB, hqd, hd⟩ := (ha.below hbl).2 k hlt
          unfold maxLen at hd
          have HQ := Lib.hid hB.lenI
          by_cases hq : q = m / 2
          · have e0 : ((q : Int) != (m : Int) / 2) = false := by simp; omega
            have hq2 : q = m / 2 := hq
            have HQ2 := Lib.hid hq
            clear hq hq2
            go_wp2_with (at_make; refine wpL_make _ rfl _ _ 24 rfl 3 (.int .i64 0) 8 Try.underlying24 intInfo rfl _ _ _ _ m rfl rfl rfl rfl (by omega) (by unfold maxLen; omega) ?_)
            intro w2 hown hb2 hs2
            have hs2' := hb2.size
            go_wp2_with fail
            go_loopw [40] (fun i w3 => ∃ p : Nat, p ≤ m ∧ i = .int .i64 p ∧ OwnI w3 wr.heap.size 3 (some ⟨wr.heap.size, 0, none⟩) m m (stageTo m (row zss k) (runTo m zss k) p) ∧ Hid (∀ p', p' < p → isBit (nth (row zss k) (shuf m p' / 2)) = true) ∧ Below wr.heap.size wr w3) (fun i _ => m - (intOf i).toNat)
            case atStart => exact ⟨0, Nat.zero_le _, rfl, by simpa [OwnI, stage_zero, List.map_replicate] using hown, Lib.hid (fun p' h => by omega), hb2⟩
            case round =>
              clear hown hb2 hs2 hs2'
              obtain ⟨p, hp, rfl, o3, HP, hb3⟩ := hrel
              have hs3 := hb3.size
              by_cases hpm : p < m
              · obtain ⟨a2, rfl, _, h2⟩ := (own.rd.below hb3).at_ hpm
                obtain ⟨s, hs⟩ : ∃ s, shuf m p = s := ⟨_, rfl⟩
                have hsm : s < m := by rw [← hs]; exact shuf_lt HM.out hpm
                have hsq : s / 2 < q := by have := HQ2.out; have := HM.out; omega
                obtain ⟨a3, rfl, _, h3⟩ := (hB.below hb3).at_ hsq
                have C := CS.out p wr hpm
                rw [hs] at C
                have CC := Lib.hid C
                cases hbit : isBit (nth (row zss k) (s / 2)) with
                | true =>
                  obtain ⟨b, t, e1, hb2, e2, ht, e3⟩ := tgt_out HM.out hs hsm hbit
                  obtain ⟨g, u, hgA, _, _, _, h4, h5⟩ := o3.at_ ht
                  injection hgA with hgA
                  injection hgA with hgA
                  subst hgA
                  have o4 := o3.setI (x := nth (runTo m zss k) p) ht
                  rw [← e2, ← stage_succ, e2] at o4
                  have hb4 := hb3.setCell (p := ⟨_, t, none⟩) (Nat.le_refl _) (.int .i64 (nth (runTo m zss k) p))
                  have HP2 := Lib.hid (show ∀ p', p' < p + 1 → isBit (nth (row zss k) (shuf m p' / 2)) = true from fun p' hp' => by
                    by_cases e : p' = p
                    · subst e; rw [hs]; exact hbit
                    · exact HP.out p' (by omega))
                  rw [e1] at h3
                  clear C hs hbit e1 e2 o3 hb3 HP
                  go_wp2_with (first | (go_at_call 62; refine CC.out.mono ?_; rintro e w' ⟨rfl, rfl⟩) | (go_at_call 47; refine (l01In_yes _ _ _ _ (by omega)).mono ?_; rintro e w' ⟨rfl, rfl⟩))
                  go_roundw
                  case rel => exact ⟨p + 1, by omega, by go_num, o4, HP2, hb4⟩
                  case measure => (simp [intOf] <;> omega)
                | false =>
                  have H := Lib.hid (runV_no (runOk_row (n := m) HL.out hlt (by rw [HQ.out, HQ2.out]; exact bitRow_no (by rw [← HQ2.out]; exact hsq) hbit)))
                  have hno := isBit_no hbit
                  have CN := Lib.hid (l01In_no _ 0 1 wr hno)
                  have hbl3 := hbl.trans (hb3.mono hsz)
                  clear C hs hbit hno
                  go_wp2_with (first | (go_at_call 62; refine CC.out.mono ?_; rintro e w' ⟨rfl, rfl⟩) | (go_at_call 47; refine CN.out.mono ?_; rintro e w' ⟨rfl, rfl⟩))
                  go_ret
                  exact ⟨_, _, _, rfl, by rw [H.out]; exact Own.nil_ _ _ _, hbl3⟩
              · obtain rfl : p = m := by omega
                have HB2 := Lib.hid (rowsB_on HB.out (show bitRow (row zss k).length (row zss k) (p / 2 : Nat) = true by
                  rw [HQ.out, HQ2.out]
                  refine bitRow_of fun j hj => ?_
                  obtain ⟨p', hp', e⟩ := shuf_onto HM.out hj
                  have := HP.out p' hp'
                  rwa [e] at this))
                rw [← run_succ] at o3
                have o4 := o3.more hsz
                have hbl3 := hbl.trans (hb3.mono hsz)
                clear o3 HP HB own
                go_wp2_with fail
                go_roundw
                case rel => exact ⟨k + 1, _, _, by omega, by go_num, rfl, o4, HB2, hbl3⟩
                case measure => (simp [intOf] <;> omega)
          · have H := Lib.hid (runV_no (runOk_row (n := m) HL.out hlt (by rw [HQ.out]; exact bitRow_len hq)))
            have e0 : ((q : Int) != (m : Int) / 2) = true := by simp; omega
            clear hq
            go_wp2_with fail
            go_ret
            exact ⟨_, _, _, rfl, by rw [H.out]; exact Own.nil_ _ _ _, hbl⟩
        · obtain rfl : k = n := by omega
          have H := Lib.hid (runV_yes (runOk_yes HN.out HL.out HK.out.symm HB.out))
          rw [HL.out] at H
          go_wp2_with fail
          go_ret
          exact ⟨_, _, _, rfl, by rw [H.out]; exact own, hbl⟩
    · have H := Lib.hid (runV_no (runOk_len (x := (m : Int)) (zss := zss) (by rw [Int.toNat_natCast, hl, hK]; exact hnK)))
      have e0 : ((n : Int) != (K : Int)) = true := by simp; omega
      clear C2 hl hm h hK hsg hnK
      go_enter Try.func32, Try.ntmps32
      go_wp2_with fail
      refine (C1.out _).mono ?_
      rintro e w' ⟨rfl, rfl⟩
      go_wp2_with fail
      refine CC2.out.mono ?_
      rintro e w' ⟨rfl, rfl⟩
      go_wp2_with fail
      go_ret
      exact ⟨_, _, _, rfl, by rw [H.out]; exact Own.nil_ _ _ _, Below.refl _ _⟩
  · have H := Lib.hid (runV_no (runOk_n (zss := zss) h))
    have C1 := Lib.hid (fun w' => specN_no x w' h)
    clear h hl
    go_enter Try.func32, Try.ntmps32
    go_wp2_with fail
    refine (C1.out _).mono ?_
    rintro e w' ⟨rfl, rfl⟩
    go_wp2_with fail
    go_ret
    exact ⟨_, _, _, rfl, by rw [H.out]; exact Own.nil_ _ _ _, Below.refl _ _⟩

theorem implRowBits (B : Option Addr) (q d : Nat) (l : List Int) (m : Nat) (p : Addr) (w : World) (hB : RdI w B q l) (hq : q ≤ 1048576) (hp : w.cell? p = some (.int .i64 m)) (hm : m ≤ 8) :
    Calls Try.prog 64 #[.slice B q d, .pointer (some p)] w fun e w' => e = .returned (.bool (!bitRow q l (m / 2 : Nat))) ∧ w = w' := by
  have C := implAreBits B q d l (m / 2) w hB hq
  have e0 : ((m / 2 : Nat) : Int) = (m : Int) / 2 := by simp
  obtain ⟨b, hb⟩ : ∃ b, bitRow q l (m / 2 : Nat) = b := ⟨_, rfl⟩
  rw [hb] at C ⊢
  rw [e0] at C
  have CC := Lib.hid C
  clear C hb e0
  go_enter Try.func64, Try.ntmps64
  go_wp2_with fail
  refine CC.out.mono ?_
  rintro e w' ⟨rfl, rfl⟩
  go_wp2_with fail
  go_ret
  exact ⟨rfl, rfl⟩

set_option maxHeartbeats 1000000 in
theorem implIndexRow (A : Option Addr) (n c : Nat) (zss : List (List Int)) (m : Nat) (p : Addr) (w : World) (ha : RdM w A n zss) (hn : n ≤ 8) (hrl : ∀ k, k < n → (row zss k).length ≤ 1048576) (hp : w.cell? p = some (.int .i64 m)) (hm : m ≤ 8) :
    Calls Try.prog 56 #[.slice A n c, .func (.func 64) #[] #[.pointer (some p)]] w fun e w' => ∃ r : Int, e = .returned (.int .i64 r) ∧ (0 ≤ r → rowsB zss (m / 2) n = false) ∧ (r < 0 → rowsB zss (m / 2) n = true) ∧ w = w' := by
  have HRL := Lib.hid hrl
  clear hrl
  go_enter Try.func56, Try.ntmps56
  go_wp2
  go_loop [8] (fun i => ∃ k : Nat, k ≤ n ∧ i = .int .i64 k ∧ Hid (rowsB zss (m / 2) k = true)) (fun i => n - (intOf i).toNat)
  case atStart => exact ⟨0, Nat.zero_le _, rfl, Lib.hid (rowsB_zero _ _)⟩
  case round =>
    obtain ⟨k, hk, rfl, HK⟩ := hrel
    by_cases hlt : k < n
    · obtain ⟨a1, B, q, d, rfl, _, h1, hB, hqd, hd⟩ := ha.2 k hlt
      have HQ := Lib.hid hB.lenI
      have hq : q ≤ 1048576 := by rw [← HQ.out]; exact HRL.out k hlt
      have C := implRowBits B q d (row zss k) m p w hB hq hp hm
      cases hb : bitRow q (row zss k) (m / 2 : Nat) with
      | true =>
        have H := Lib.hid (rowsB_on (h := m / 2) HK.out (by rw [HQ.out]; exact hb))
        rw [hb] at C
        have CC := Lib.hid C
        clear hb C
        go_wp2_with fail
        refine CC.out.mono ?_
        rintro e w' ⟨rfl, rfl⟩
        go_wp2
        go_round
        case rel => exact ⟨k + 1, by omega, by go_num, H⟩
        case measure => (simp [intOf] <;> omega)
      | false =>
        have H := Lib.hid (rowsB_bad (h := m / 2) (by rw [HQ.out]; exact hb) n hlt)
        rw [hb] at C
        have CC := Lib.hid C
        clear hb C
        go_wp2_with fail
        refine CC.out.mono ?_
        rintro e w' ⟨rfl, rfl⟩
        go_wp2
        go_ret
        exact ⟨_, rfl, fun _ => H.out, fun h => by omega, rfl⟩
    · obtain rfl : k = n := by omega
      go_wp2
      go_ret
      exact ⟨_, rfl, fun h => by omega, fun _ => HK.out, rfl⟩
theorem implContainsRow (A : Option Addr) (n c : Nat) (zss : List (List Int)) (m : Nat) (p : Addr) (w : World) (ha : RdM w A n zss) (hn : n ≤ 8) (hrl : ∀ k, k < n → (row zss k).length ≤ 1048576) (hp : w.cell? p = some (.int .i64 m)) (hm : m ≤ 8) :
    Calls Try.prog 63 #[.slice A n c, .func (.func 64) #[] #[.pointer (some p)]] w fun e w' => e = .returned (.bool (!rowsB zss (m / 2) n)) ∧ w = w' := by
  have C := Lib.hid (implIndexRow A n c zss m p w ha hn hrl hp hm)
  go_enter Try.func63, Try.ntmps63
  go_wp2_with fail
  refine C.out.mono ?_
  rintro e w' ⟨r, rfl, h1, h2, rfl⟩
  by_cases hr : 0 ≤ r
  · have H := Lib.hid (h1 hr)
    clear h1 h2
    go_wp2
    go_ret
    exact ⟨ret_bool (by rw [H.out]; (simp <;> omega)), rfl⟩
  · have H := Lib.hid (h2 (by omega))
    clear h1 h2
    go_wp2
    go_ret
    exact ⟨ret_bool (by rw [H.out]; (simp <;> omega)), rfl⟩

set_option maxHeartbeats 4000000 in
theorem implRunStages (x : Int) (A : Option Addr) (n c : Nat) (zss : List (List Int)) (w : World) (ha : RdM w A n zss) (hn : n ≤ 1048576) (hrl : ∀ k, k < n → (row zss k).length ≤ 1048576) :
    Calls Try.prog 34 #[.int .i64 x, .slice A n c] w fun e w' => ∃ A' n' c', e = .returned (.slice A' n' c') ∧ OwnI w' w.heap.size 3 A' n' c' (runV x zss) ∧ Below w.heap.size w w' := by
  have hl := ha.1
  have HRL := Lib.hid hrl
  clear hrl
  by_cases h : IsN x
  · obtain ⟨m, rfl, hm⟩ := isN_nat h
    have hm8 : m ≤ 8 := by omega
    have hm2 : 2 ≤ m := by omega
    have hsg := stg_le hm
    obtain ⟨K, hK⟩ : ∃ K, stgN m = K := ⟨_, rfl⟩
    have hK3 : K ≤ 3 := by omega
    have C2 := fun w' => implStages_yes m w' hm
    rw [hK] at C2
    have CC2 := Lib.hid C2
    by_cases hnK : n = K
    · subst hnK
      have HL := Lib.hid hl
      have HM := Lib.hid hm
      have HN := Lib.hid h
      have HK := Lib.hid hK
      have CF := Lib.hid (fun w' => implFirst m w' (by omega))
      have CR := fun w' (h1 : RdM w' A n zss) (h2 : w'.cell? ⟨w.heap.size, 0, none⟩ = some (.int .i64 m)) => implContainsRow A n c zss m ⟨w.heap.size, 0, none⟩ w' h1 (by omega) HRL.out h2 hm8
      have hal := ha.below (below_alloc w (.cells #[.int .i64 m] 3))
      cases hrb : rowsB zss (m / 2) n with
      | false =>
        rw [hrb] at CR
        have CCR := Lib.hid CR
        have H := Lib.hid (show runV m zss = [] from runV_no (by rw [runOk, Int.toNat_natCast, hl, hrb]; simp))
        clear C2 hl hm h hK hsg CR hrb
        go_enter Try.func34, Try.ntmps34
        go_wp2_with fail
        refine (CC2.out _).mono ?_
        rintro e w' ⟨rfl, rfl⟩
        go_wp2_with fail
        refine (CCR.out _ hal (by simp)).mono ?_
        rintro e w' ⟨rfl, rfl⟩
        go_wp2_with fail
        go_ret
        exact ⟨_, _, _, rfl, by rw [H.out]; exact Own.nil_ _ _ _, below_alloc w _⟩
      | true =>
        rw [hrb] at CR
        have CCR := Lib.hid CR
        have HRB := Lib.hid hrb
        clear C2 hl hm h hK hsg CR hrb
        go_enter Try.func34, Try.ntmps34
        go_wp2_with fail
        refine (CC2.out _).mono ?_
        rintro e w' ⟨rfl, rfl⟩
        go_wp2_with fail
        refine (CCR.out _ hal (by simp)).mono ?_
        rintro e w' ⟨rfl, rfl⟩
        go_wp2_with fail
        refine (CF.out _).mono ?_
        rintro e w1 ⟨A1, c1, rfl, o1, hb1⟩
        rw [← run_zero m zss] at o1
        have hs1 := hb1.size
        have hc1 := hb1.cell (p := ⟨w.heap.size, 0, none⟩) (by simp)
        have HC1 := Lib.hid (show w1.cell? ⟨w.heap.size, 0, none⟩ = some (.int .i64 m) by rw [hc1]; simp)
        have hB1 := (below_alloc w (.cells #[.int .i64 m] 3)).trans (hb1.mono (by simp))
        replace hc1 := HC1.out
        simp at hs1
        replace o1 := o1.more (b2 := w.heap.size + 1) (by simp)
        clear CC2 CF CCR hb1
        go_wp2_with fail
        go_loopw [5, 26] (fun v i wr => ∃ k : Nat, ∃ A' c', k ≤ n ∧ i = .int .i64 k ∧ v = .slice A' m c' ∧ OwnI wr (w.heap.size + 1) 3 A' m c' (runTo m zss k) ∧ Hid (wr.cell? ⟨w.heap.size, 0, none⟩ = some (.int .i64 m)) ∧ w.heap.size + 1 ≤ wr.heap.size ∧ Below w.heap.size w wr) (fun _ i _ => n - (intOf i).toNat)
        case atStart => exact ⟨0, _, _, Nat.zero_le _, rfl, rfl, o1, HC1, hs1, hB1⟩
        case round =>
          clear o1 hs1 hc1 HC1 hB1
          obtain ⟨k, A2, c2, hk, rfl, rfl, own, HC, hsz, hbl⟩ := hrel
          have hc := HC.out
          by_cases hlt : k < n
          · obtain ⟨a1, B, q, d, rfl, _, h1, hB, hqd, hd⟩ := (ha.below hbl).2 k hlt
            unfold maxLen at hd
            have hbr := rowsB_row n HRB.out k hlt
            rw [hB.lenI] at hbr
            obtain ⟨hq, hbits⟩ := bitRow_all hB.lenI hbr
            have HQ2 := Lib.hid hq
            have HBT := Lib.hid hbits
            clear hbr hq hbits
            go_wp2_with (at_make; refine wpL_make _ rfl _ _ 24 rfl 3 (.int .i64 0) 8 Try.underlying24 intInfo rfl _ _ _ _ m rfl rfl rfl rfl (by omega) (by unfold maxLen; omega) ?_)
            intro w2 hown hb2 hs2
            have hs2' := hb2.size
            go_wp2_with fail
            go_loopw [34] (fun i w3 => ∃ p : Nat, p ≤ m ∧ i = .int .i64 p ∧ OwnI w3 wr.heap.size 3 (some ⟨wr.heap.size, 0, none⟩) m m (stageTo m (row zss k) (runTo m zss k) p) ∧ Below wr.heap.size wr w3) (fun i _ => m - (intOf i).toNat)
            case atStart => exact ⟨0, Nat.zero_le _, rfl, by simpa [OwnI, stage_zero, List.map_replicate] using hown, hb2⟩
            case round =>
              clear hown hb2 hs2 hs2'
              obtain ⟨p, hp, rfl, o3, hb3⟩ := hrel
              have hs3 := hb3.size
              have hc3 : wr.cell? ⟨w.heap.size, 0, none⟩ = some (.int .i64 m) := (hb3.cell (p := ⟨w.heap.size, 0, none⟩) hsz).trans hc
              by_cases hpm : p < m
              · obtain ⟨a2, rfl, _, h2⟩ := (own.rd.below hb3).at_ hpm
                obtain ⟨s, hs⟩ : ∃ s, shuf m p = s := ⟨_, rfl⟩
                have hsm : s < m := by rw [← hs]; exact shuf_lt HM.out hpm
                have hsq : s / 2 < q := by have := HQ2.out; have := HM.out; omega
                obtain ⟨a3, rfl, _, h3⟩ := (hB.below hb3).at_ hsq
                have hbit := HBT.out (s / 2) hsq
                obtain ⟨b, t, e1, hb2, e2, ht, e3⟩ := tgt_out HM.out hs hsm hbit
                obtain ⟨g, u, hgA, _, _, _, h4, h5⟩ := o3.at_ ht
                injection hgA with hgA
                injection hgA with hgA
                subst hgA
                have o4 := o3.setI (x := nth (runTo m zss k) p) ht
                rw [← e2, ← stage_succ, e2] at o4
                have hb4 := hb3.setCell (p := ⟨_, t, none⟩) (Nat.le_refl _) (.int .i64 (nth (runTo m zss k) p))
                rw [e1] at h3
                obtain ⟨z, hz⟩ : ∃ z, 2 * p = z := ⟨_, rfl⟩
                have ez : 2 * (p : Int) = (z : Int) := by omega
                by_cases hph : p < m / 2
                · have hzs : z = s := by rw [← hs, ← hz]; unfold shuf; rw [if_pos hph]
                  rw [hzs] at ez
                  have h' : (p : Int) < (m : Int) / 2 := by omega
                  clear hs hbit e1 e2 o3 hb3 hz hzs hph
                  go_wp2_with fail
                  go_roundw
                  case rel => exact ⟨p + 1, by omega, by go_num, o4, hb4⟩
                  case measure => (simp [intOf] <;> omega)
                · have hzs : (z : Int) + (1 - (m : Int)) = (s : Int) := by
                    have : s = 2 * p + 1 - m := by rw [← hs]; unfold shuf; rw [if_neg hph]
                    have := HM.out
                    omega
                  have h' : ¬ (p : Int) < (m : Int) / 2 := by omega
                  have hz16 : z < 16 := by omega
                  clear hs hbit e1 e2 o3 hb3 hz hph
                  go_wp2_with fail
                  go_roundw
                  case rel => exact ⟨p + 1, by omega, by go_num, o4, hb4⟩
                  case measure => (simp [intOf] <;> omega)
              · obtain rfl : p = m := by omega
                rw [← run_succ] at o3
                have o4 := o3.more hsz
                have hbl3 := hbl.trans (hb3.mono (by omega))
                clear o3 own
                go_wp2_with fail
                go_roundw
                case rel => exact ⟨k + 1, _, _, by omega, by go_num, rfl, o4, Lib.hid hc3, by omega, hbl3⟩
                case measure => (simp [intOf] <;> omega)
          · obtain rfl : k = n := by omega
            have H := Lib.hid (runV_yes (runOk_yes HN.out HL.out HK.out.symm HRB.out))
            rw [HL.out] at H
            have own' := own.more (b2 := w.heap.size) (by omega)
            go_wp2_with fail
            go_ret
            exact ⟨_, _, _, rfl, by rw [H.out]; exact own', hbl⟩
    · have H := Lib.hid (runV_no (runOk_len (x := (m : Int)) (zss := zss) (by rw [Int.toNat_natCast, hl, hK]; exact hnK)))
      have e0 : ((n : Int) != (K : Int)) = true := by simp; omega
      clear C2 hl hm h hK hsg hnK
      go_enter Try.func34, Try.ntmps34
      go_wp2_with fail
      refine (CC2.out _).mono ?_
      rintro e w' ⟨rfl, rfl⟩
      go_wp2_with fail
      go_ret
      exact ⟨_, _, _, rfl, by rw [H.out]; exact Own.nil_ _ _ _, below_alloc w _⟩
  · have H := Lib.hid (runV_no (runOk_n (zss := zss) h))
    have C1 := Lib.hid (fun w' => implStages_no x w' h)
    have e0 : ((n : Int) != (-1 : Int)) = true := by simp
    clear h hl
    go_enter Try.func34, Try.ntmps34
    go_wp2_with fail
    refine (C1.out _).mono ?_
    rintro e w' ⟨rfl, rfl⟩
    go_wp2_with fail
    go_ret
    exact ⟨_, _, _, rfl, by rw [H.out]; exact Own.nil_ _ _ _, below_alloc w _⟩

end Go.Proofs.Ytaeabpmpfadkjaa
