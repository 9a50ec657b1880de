/- Chapter 12: spec.ResultKinds. -/
import Derived.Test.YtobdkfhmmpigiaaC12i3
namespace Go.Proofs.Ytobdkfhmmpigiaa
open Go.RowKit Go.Deep
set_option linter.unusedVariables false

theorem specN (n : Int) (w : World) : Calls Try.prog 6 #[.int .i64 n] w fun e w' => e = .returned (.bool (decide (1 ≤ n ∧ n ≤ 4))) ∧ w = w' := by
  go_enter Try.func6, Try.ntmps6
  go_wp2_with fail
  refine (l01In_any n 1 4 _).mono ?_
  rintro e w' ⟨rfl, hww⟩
  obtain rfl := hww
  go_wp2_with fail
  go_ret
  exact ⟨ret_bool (by simp), rfl⟩

/-- Is a set, by other names, one of the first i that are left? -/
def knT (n : Nat) (set : List Int) (left : List (List Int)) : Nat → Bool
  | 0 => false
  | i + 1 => knT n set left i || ((row left i).length == set.length && fitV n (row left i) set)
def kinTo (n : Nat) (S : List (List Int)) : Nat → List (List Int)
  | 0 => []
  | j + 1 => if knT n (row S j) (kinTo n S j) (kinTo n S j).length = true then kinTo n S j else kinTo n S j ++ [row S j]
/-- How many results there are that are no others by other names. -/
def kindsS (n K : Nat) : Nat := (kinTo n (lvl n K) (lvl n K).length).length
theorem knT_zero (n : Nat) (set : List Int) (left : List (List Int)) : knT n set left 0 = false := rfl
theorem knT_succ (n : Nat) (set : List Int) (left : List (List Int)) (i : Nat) : knT n set left (i + 1) = (knT n set left i || ((row left i).length == set.length && fitV n (row left i) set)) := rfl
theorem kinTo_zero (n : Nat) (S : List (List Int)) : kinTo n S 0 = [] := rfl
theorem kinTo_old {n : Nat} {S z : List (List Int)} {j k : Nat} (h : kinTo n S j = z) (hl : z.length = k) (hk : knT n (row S j) z k = true) : kinTo n S (j + 1) = z := by
  rw [kinTo, h, hl, if_pos hk]
theorem kinTo_new {n : Nat} {S z : List (List Int)} {j k : Nat} (h : kinTo n S j = z) (hl : z.length = k) (hk : knT n (row S j) z k = false) : kinTo n S (j + 1) = z ++ [row S j] := by
  rw [kinTo, h, hl, if_neg (by rw [hk]; simp)]
theorem pair_sets (n : Nat) (set : List Int) : ∀ (k : Nat) (z : List (List Int)), SetsR (2 ^ n) z → SetsR (2 ^ n) (pairTo n set z k) := by
  intro k
  induction k with
  | zero => intro z h; exact h
  | succ k ih =>
    intro z h
    rw [pairTo]
    obtain ⟨P, hP⟩ := all_set [row (stdL n) k] 1 set (2 ^ n)
    rw [hP]
    exact (ih z h).add P
theorem set_sets (n : Nat) (now : List (List Int)) : ∀ j, SetsR (2 ^ n) (setTo n now j) := by
  intro j
  induction j with
  | zero => exact SetsR.nil_ _
  | succ j ih => rw [setTo]; exact pair_sets _ _ _ _ ih
theorem lvl_sets (n : Nat) : ∀ i, SetsR (2 ^ n) (lvl n i) := by
  intro i
  cases i with
  | zero => intro x hx; simp [lvl] at hx; subst hx; exact ⟨_, marks_sel _⟩
  | succ i => rw [lvl_succ]; exact set_sets _ _ _
theorem SetsR.snoc {N : Nat} {z : List (List Int)} (h : SetsR N z) {x : List Int} (hx : ∃ P, x = selL P N) : SetsR N (z ++ [x]) := by
  intro y hy
  rcases List.mem_append.1 hy with hy | hy
  · exact h y hy
  · simp at hy; subst hy; exact hx
attribute [irreducible] knT kinTo

theorem OwnS.keep {w w' : World} {lo : Nat} {A : Option Addr} {n c : Nat} {zss : List (List Int)} (h : OwnS w lo A n c zss) (hk : ∀ g, lo ≤ g → g < w.heap.size → w'.heap[g]? = w.heap[g]?) : OwnS w' lo A n c zss := by
  obtain ⟨hl, vs, ho, hr⟩ := h
  exact ⟨hl, vs, ho.keepAt fun g hg => hk g (ho.blk_ g hg).1 (ho.blk_ g hg).2, hr.mono fun v z k => k.keep fun g h1 h2 hd => ⟨hk g h1 h2, hd⟩⟩
theorem OwnS.at_ {w : World} {lo : Nat} {A : Option Addr} {n c : Nat} {zss : List (List Int)} (h : OwnS w lo A n c zss) {j : Nat} (hj : j < n) : ∃ ad B m d, A = some ad ∧ w.cell? (ad.add j) = some (.slice B m d) ∧ OwnI w lo 3 B m d (row zss j) := by
  obtain ⟨hl, vs, ho, hr⟩ := h
  obtain ⟨v, hv, B, m, d, rfl, hB, _⟩ := hr.at_ j (by omega)
  obtain ⟨ad, hA, hlt, hc⟩ := ho.rd.atV hv
  exact ⟨ad, B, m, d, hA, hc, hB⟩
/-- The list that is kept: its headers in block b or in blocks behind w1, its rows in w1. -/
def LeftL (w1 wr : World) (b : Nat) (A : Option Addr) (k c : Nat) (zss : List (List Int)) : Prop :=
  zss.length = k ∧ (∀ g, blk A = some g → g = b ∨ w1.heap.size ≤ g) ∧ Chg b (b + 1) w1 wr ∧ ∃ vs, Own wr b 28 A k c vs ∧ All2 (Rw wr (b + 1) fun g => g < w1.heap.size) vs zss
section
variable {w1 wr wr' : World} {b k c : Nat} {A : Option Addr} {zss : List (List Int)}
theorem LeftL.rd (h : LeftL w1 wr b A k c zss) : RdM wr A k zss := by
  obtain ⟨hl, _, _, vs, ho, hr⟩ := h
  refine ⟨hl, fun j hj => ?_⟩
  obtain ⟨v, hv, B, m, d, rfl, hB, _⟩ := hr.at_ j (by omega)
  obtain ⟨ad, hA, hlt, hc⟩ := ho.rd.atV hv
  exact ⟨ad, B, m, d, hA, hlt, hc, hB.rd, hB.cap.1, hB.cap.2⟩
theorem LeftL.below (h : LeftL w1 wr b A k c zss) (hb : Below wr.heap.size wr wr') : LeftL w1 wr' b A k c zss := by
  obtain ⟨hl, hA, hc, vs, ho, hr⟩ := h
  exact ⟨hl, hA, hc.trans ⟨hb.os, hb.tape, hb.output, hb.size, fun g hg _ => hb.block g hg⟩, vs, ho.below hb, hr.mono fun v z k => k.keep fun g _ hg hd => ⟨hb.block g hg, hd⟩⟩
theorem LeftL.push {w6 : World} {A6 Bx : Option Addr} {c6 mx dx : Nat} {x : List Int} {vs : List Value} (h : LeftL w1 wr b A k c zss) (hv : Own wr b 28 A k c vs) (hr : All2 (Rw wr (b + 1) fun g => g < w1.heap.size) vs zss) (hx : OwnI w1 (b + 1) 3 Bx mx dx x)
    (ho : Own w6 b 28 A6 (k + 1) c6 (vs ++ [.slice Bx mx dx])) (hg : wr.grownBy w6 (blk A)) (hat : blk A6 = blk A ∨ blk A6 = some (wr.heap.size + 1)) : LeftL w1 w6 b A6 (k + 1) c6 (zss ++ [x]) := by
  obtain ⟨hl, hA, hc, _⟩ := h
  have hs := hc.size
  have hc6 : Chg b (b + 1) w1 w6 := by
    refine ⟨hg.os.trans hc.os, hg.tape.trans hc.tape, hg.output.trans hc.output, Nat.le_trans hc.size hg.size, fun g hg1 hd => ?_⟩
    rw [hg.block g (by omega) (fun e => by rcases hA g e.symm with h | h <;> omega)]
    exact hc.block g hg1 hd
  have hne : ∀ g, b + 1 ≤ g → g < w1.heap.size → some g ≠ blk A := fun g h1 h2 e => by rcases hA g e.symm with h | h <;> omega
  refine ⟨by simp [hl], fun g e => ?_, hc6, _, ho, (hr.mono fun v z q => q.keep fun g h1 h2 h3 => ⟨hg.block g h2 (hne g h1 h3), h3⟩).append (All2.one ⟨Bx, mx, dx, rfl, ?_, fun g hg1 => (hx.blk_ g hg1).2⟩)⟩
  · rcases hat with h | h
    · rw [h] at e; exact hA g e
    · rw [h] at e; injection e with e; right; omega
  · exact hx.keepAt fun g hg1 => hc6.block g (hx.blk_ g hg1).2 (.inr (hx.blk_ g hg1).1)
end

set_option maxHeartbeats 4000000 in
theorem specKindsBad (N K : Int) (w : World) (h : ¬ ((1 ≤ N ∧ N ≤ 4) ∧ 0 ≤ K ∧ K ≤ 5)) : Calls Try.prog 4 #[.int .i64 N, .int .i64 K] w fun e w' => e = .returned (.int .i64 (-1)) ∧ Below w.heap.size w w' := by
  have CN := Lib.hid (specN N)
  have CI := Lib.hid (l01In_any K 0 5)
  by_cases hN : 1 ≤ N ∧ N ≤ 4
  · have HD := Lib.hid (show decide (1 ≤ N ∧ N ≤ 4) = true from decide_eq_true hN)
    have HK := Lib.hid (show decide (0 ≤ K ∧ K ≤ 5) = false from decide_eq_false fun q => h ⟨hN, q⟩)
    clear h hN
    go_enter Try.func4, Try.ntmps4
    go_wp2_with fail
    refine (CN.out _).mono ?_
    rintro e w' ⟨rfl, hww⟩
    obtain rfl := hww
    rw [HD.out]
    go_wp2_with fail
    refine (CI.out _).mono ?_
    rintro e w' ⟨rfl, hww⟩
    obtain rfl := hww
    rw [HK.out]
    go_wp2_with fail
    go_ret
    exact ⟨rfl, Below.refl _ _⟩
  · have HD := Lib.hid (show decide (1 ≤ N ∧ N ≤ 4) = false from decide_eq_false hN)
    clear h hN
    go_enter Try.func4, Try.ntmps4
    go_wp2_with fail
    refine (CN.out _).mono ?_
    rintro e w' ⟨rfl, hww⟩
    obtain rfl := hww
    rw [HD.out]
    go_wp2_with fail
    go_ret
    exact ⟨rfl, Below.refl _ _⟩

set_option maxHeartbeats 4000000 in
theorem specKinds (n K : Nat) (w : World) (h1 : 1 ≤ n) (h4 : n ≤ 4) (hK : K ≤ 5) : Calls Try.prog 4 #[.int .i64 n, .int .i64 K] w fun e w' => e = .returned (.int .i64 (kindsS n K)) ∧ Below w.heap.size w w' := by
  have CN := Lib.hid (specN (n : Int))
  have CI := Lib.hid (l01In_any (K : Int) 0 5)
  have HD := Lib.hid (show decide ((1 : Int) ≤ n ∧ (n : Int) ≤ 4) = true from decide_eq_true (by omega))
  have HK := Lib.hid (show decide ((0 : Int) ≤ K ∧ (K : Int) ≤ 5) = true from decide_eq_true (by omega))
  obtain ⟨b, hb⟩ : ∃ b, w.heap.size = b := ⟨_, rfl⟩
  have HB := Lib.hid hb
  have HE := Lib.hid (show Own (w.alloc (.cells #[] 28)) b 28 (some ⟨w.heap.size, 0, none⟩) 0 0 [] from hb ▸ own_empty w _)
  have HEB := Lib.hid (show Below b w (w.alloc (.cells #[] 28)) from hb ▸ below_alloc w _)
  have CS := Lib.hid (specSets n K (w.alloc (.cells #[] 28)) h4 hK)
  rw [hb]
  clear hb
  go_enter Try.func4, Try.ntmps4
  go_wp2_with fail
  refine (CN.out _).mono ?_
  rintro e w' ⟨rfl, hww⟩
  obtain rfl := hww
  rw [HD.out]
  go_wp2_with fail
  refine (CI.out _).mono ?_
  rintro e w' ⟨rfl, hww⟩
  obtain rfl := hww
  rw [HK.out]
  go_wp2_with fail
  refine CS.out.mono ?_
  rintro e w1 ⟨As, ms, cs, rfl, hms, hos, hb1⟩
  obtain ⟨S, hS⟩ : ∃ S, lvl n K = S := ⟨_, rfl⟩
  have HSR := Lib.hid (lvl_sets n K)
  have HSS := Lib.hid hS
  rw [hS] at hos HSR
  have hsz0 : (w.alloc (.cells #[] 28)).heap.size = b + 1 := by simp [HB.out]
  rw [hsz0] at hos hb1
  have hs1 := hb1.size
  rw [hsz0] at hs1
  have HOS := Lib.hid hos
  have HLS := Lib.hid hos.1
  have HB1 := Lib.hid (HEB.out.trans (hb1.mono (by omega)))
  have HL0 := Lib.hid (show LeftL w1 w1 b (some ⟨w.heap.size, 0, none⟩) 0 0 [] from ⟨rfl, fun g e => by simp [blk] at e; left; rw [← e]; exact HB.out, Chg.refl _ _ _, [], HE.out.keepAt (fun g e => by
    simp [blk] at e
    exact hb1.block g (by have := HB.out; omega)), trivial⟩)
  clear hos hb1 hS HE HEB CS CN CI
  go_wp2_with fail
  go_loopw [5, 24] (fun lv iv wr => ∃ j k : Nat, ∃ A c zss, lv = .slice A k c ∧ iv = .int .i64 (j : Nat) ∧ j ≤ ms ∧ k ≤ j ∧ Hid (kinTo n S j = zss) ∧ Hid (SetsR (2 ^ n) zss) ∧ LeftL w1 wr b A k c zss) (fun _ iv _ => ms - (intOf iv).toNat)
  case atStart => exact ⟨0, 0, _, _, [], rfl, rfl, Nat.zero_le _, Nat.zero_le _, Lib.hid (kinTo_zero _ _), Lib.hid (SetsR.nil_ _), HL0.out⟩
  case round =>
    clear HL0
    obtain ⟨j, k, A, c, zss, rfl, rfl, hj, hkj, HZ, HSZ, hl⟩ := hrel
    obtain ⟨wo, hwo⟩ : ∃ x, x = wr := ⟨_, rfl⟩
    subst hwo
    have HC := Lib.hid hl.2.2.1
    have hsw := HC.out.size
    by_cases hlt : j < ms
    · obtain ⟨ad, BS, mS, dS, rfl, hcS, hoS⟩ := (HOS.out.keep (w' := wo) fun g h1 h2 => HC.out.block g h2 (.inr h1)).at_ hlt
      obtain ⟨ad2, B2, m2, d2, had, hcS2, hoS2⟩ := HOS.out.at_ hlt
      injection had with had
      subst had
      have hjl : j < S.length := by rw [HLS.out]; exact hlt
      obtain ⟨P, hP⟩ := HSR.out.at_ hjl
      have HPX := Lib.hid (show ∃ P, row S j = selL P (2 ^ n) from ⟨P, hP⟩)
      have hm16 : mS ≤ 16 := by rw [← hoS.lenI, hP]; exact Nat.le_trans (selL_le _ _) (pow16 h4)
      have HMS := Lib.hid (show MaskR (2 ^ n) mS (row S j) by
        have h1 := hoS.lenI
        rw [hP] at h1 ⊢
        exact selL_maskR P _ _ h1)
      have HOX := Lib.hid (show OwnI w1 (b + 1) 3 BS mS dS (row S j) by
        obtain ⟨_, vs, ho, hr⟩ := HOS.out
        obtain ⟨v, hv, B3, m3, d3, rfl, hB, _⟩ := hr.at_ j hjl
        obtain ⟨ad3, hA3, hlt3, hc3⟩ := ho.rd.atV hv
        injection hA3 with hA3
        subst hA3
        have hcw : wo.cell? (ad.add j) = w1.cell? (ad.add j) := World.cell?_of_block (w := w1) (by rw [block_of_add]; exact HC.out.block _ hlt3 (.inr (ho.blk_ _ rfl).1))
        rw [hcS, hc3] at hcw
        injection hcw with hcw
        injection hcw with e1 e2 e3
        subst e1 e2 e3
        exact hB)
      have HRS := Lib.hid hoS.rd
      have HMX := Lib.hid hoS.lenI
      have HL := Lib.hid hl
      have HLL := Lib.hid hl.1
      have HSJ := Lib.hid hcS2
      clear hoS hcS2 hoS2 hl hP hjl
      go_wp2_with fail
      go_loopw [8, 30] (fun kv qv wr => ∃ q : Nat, qv = .int .i64 (q : Nat) ∧ q ≤ k ∧ kv = .bool (knT n (row S j) zss q) ∧ Below wo.heap.size wo wr) (fun _ qv _ => k - (intOf qv).toNat)
      case atStart => exact ⟨0, rfl, Nat.zero_le _, by rw [knT_zero], Below.refl _ _⟩
      case round =>
        obtain ⟨q, rfl, hq, rfl, hbl⟩ := hrel
        have hsr := hbl.size
        have HLR := Lib.hid (HL.out.below hbl)
        by_cases hlt2 : q < k
        · obtain ⟨aq, BQ, mq, dq, rfl, _, hcq, hBQ, hmq, hdq⟩ := HLR.out.rd.2 q hlt2
          have HKS := Lib.hid (knT_succ n (row S j) zss q)
          have HBQL := Lib.hid hBQ.lenI
          cases hkn : knT n (row S j) zss q with
          | true =>
            have HN := Lib.hid (show knT n (row S j) zss (q + 1) = true by rw [HKS.out, hkn]; rfl)
            clear hkn hBQ
            go_wp2_with fail
            go_roundw
            case rel => exact ⟨q + 1, by go_num, by omega, by rw [HN.out], hbl⟩
            case measure => (simp [intOf] <;> omega)
          | false =>
            by_cases hmm : mq = mS
            · have HN := Lib.hid (show knT n (row S j) zss (q + 1) = fitV n (row zss q) (row S j) by rw [HKS.out, hkn, HBQL.out, HMX.out]; simp [hmm])
              obtain rfl := hmm
              have HMQ := Lib.hid (show MaskR (2 ^ n) mq (row zss q) by
                obtain ⟨PQ, hPQ⟩ := HSZ.out.at_ (show q < zss.length by rw [HLL.out]; exact hlt2)
                have h1 := HBQL.out
                rw [hPQ] at h1 ⊢
                exact selL_maskR PQ _ _ h1)
              have CF := Lib.hid (specFits n mq mq BQ BS dq dS (row zss q) (row S j) wr hBQ (HRS.out.below hbl) HMQ.out HMS.out h1 h4 hm16 hm16)
              have HBL := Lib.hid hbl
              clear hkn hBQ hbl
              go_wp2_with fail
              refine CF.out.mono ?_
              rintro e w5 ⟨rfl, hb5⟩
              have hb6 := HBL.out.trans (hb5.mono hsr)
              go_wp2_with fail
              go_roundw
              case rel => exact ⟨q + 1, by go_num, by omega, by rw [HN.out], hb6⟩
              case measure => (simp [intOf] <;> omega)
            · have HN := Lib.hid (show knT n (row S j) zss (q + 1) = false by rw [HKS.out, hkn, HBQL.out, HMX.out]; simp [hmm])
              clear hkn hBQ
              go_wp2_with fail
              go_roundw
              case rel => exact ⟨q + 1, by go_num, by omega, by rw [HN.out], hbl⟩
              case measure => (simp [intOf] <;> omega)
        · obtain rfl : q = k := by omega
          cases hkn : knT n (row S j) zss q with
          | true =>
            have HN := Lib.hid (kinTo_old HZ.out HLL.out hkn)
            clear hkn hbl
            go_wp2_with fail
            go_roundw
            case rel => exact ⟨j + 1, q, A, c, zss, rfl, by go_num, by omega, by omega, HN, HSZ, HLR.out⟩
            case measure => (simp [intOf] <;> omega)
          | false =>
            have HN := Lib.hid (kinTo_new HZ.out HLL.out hkn)
            have HSN := Lib.hid (HSZ.out.snoc HPX.out)
            obtain ⟨vs, hov, har⟩ := HLR.out.2.2.2
            have HOV := Lib.hid hov
            have HAR := Lib.hid har
            have hbr : b ≤ wr.heap.size := by omega
            clear hkn hbl hov har
            go_wp2_with (at_builtin; refine wpL_append1 _ rfl _ _ _ rfl b 28 (.slice none 0 0) 24 Try.underlying26 sliceInfo rfl _ q _ _ rfl HOV.out (.slice BS mS dS) rfl rfl (by unfold maxLen; omega) (by omega) hbr ?_)
            intro A6 c6 w6 ho6 hg6 hat6
            have hl6 := HLR.out.push HOV.out HAR.out HOX.out ho6 hg6 hat6
            go_wp2_with fail
            go_roundw
            case rel => exact ⟨j + 1, q + 1, A6, c6, _, rfl, by go_num, by omega, by omega, HN, HSN, hl6⟩
            case measure => (simp [intOf] <;> omega)
    · obtain rfl : j = ms := by omega
      have HF := Lib.hid (show kindsS n K = k by unfold kindsS; rw [HSS.out, HLS.out, HZ.out, hl.1])
      go_wp2_with fail
      go_ret
      exact ⟨by rw [HF.out]; rfl, HB1.out.trans (HC.out.below (Nat.le_refl _) (by omega))⟩
end Go.Proofs.Ytobdkfhmmpigiaa
