/- Chapter 12: spec.l12Sets, the walk. -/
import Derived.Test.YtobdkfhmmpigiaaC12h1
namespace Go.Proofs.Ytobdkfhmmpigiaa
open Go.RowKit Go.Deep
set_option linter.unusedVariables false

theorem rdV_to {w : World} {A : Option Addr} {n k : Nat} {vs : List Value} (h : Rd w A n vs) (hk : k ≤ n) : Rd w A k (vs.take k) := by
  refine ⟨by rw [List.length_take, h.1]; omega, fun h0 => ?_⟩
  obtain ⟨ad, e, hb, hc⟩ := h.2 (by omega)
  refine ⟨ad, e, hb, fun j u hu => hc j u ?_⟩
  have hj := (List.getElem?_eq_some_iff.1 hu).1
  rw [List.length_take] at hj
  rw [List.getElem?_take, if_pos (by omega)] at hu
  exact hu
theorem rdV_from {w : World} {g n k : Nat} {vs : List Value} (h : Rd w (some ⟨g, 0, none⟩) n vs) (hk : k ≤ n) : Rd w (some ⟨g, k, none⟩) (n - k) (vs.drop k) := by
  refine ⟨by rw [List.length_drop, h.1], fun h0 => ?_⟩
  obtain ⟨ad, e, hb, hc⟩ := h.2 (by omega)
  injection e with e
  subst e
  refine ⟨_, rfl, hb, fun j u hu => ?_⟩
  rw [List.getElem?_drop] at hu
  have h1 := hc (k + j) u hu
  rw [← h1]
  congr 1
  unfold Addr.add
  by_cases e1 : j = 0 <;> by_cases e2 : k = 0 <;> simp [e1, e2]
theorem rdV_end {w : World} {g n k : Nat} {vs : List Value} (h : Rd w (some ⟨g, 0, none⟩) n vs) (hk : n = k) : Rd w (some ⟨g, 0, none⟩) (n - k) (vs.drop k) := by
  subst hk
  rw [Nat.sub_self, List.drop_of_length_le (by rw [h.1]; exact Nat.le_refl _)]
  exact Rd.nil_
theorem all2_one {R : Value → List Int → Prop} {vs : List Value} {zs : List (List Int)} (h : All2 R vs zs) (hR : ∀ v z, R v z → v.oneCell' = true) : ∀ u ∈ vs, u.oneCell' = true := by
  intro u hu
  obtain ⟨j, hj, rfl⟩ := List.getElem_of_mem hu
  obtain ⟨v, h1, h2⟩ := h.at_ j (by rw [← h.len]; exact hj)
  rw [List.getElem?_eq_getElem hj] at h1
  injection h1 with h1
  rw [h1]
  exact hR _ _ h2
theorem own_some_ {w : World} {base : Nat} {e : TypeId} {A : Option Addr} {n c : Nat} {xs : List Value} (h : Own w base e A n c xs) (hn : 0 < n) : ∃ g, A = some ⟨g, 0, none⟩ := by
  obtain ⟨g, u, hA, _⟩ := h.at_ hn
  exact ⟨g, hA⟩
theorem pairR_lit {n : Nat} (h : n ≤ 4) {k : Nat} (hk : k < (stdL n).length) : PairR n 1 [row (stdL n) k] := by
  intro j hj
  obtain rfl : j = 0 := by omega
  obtain ⟨p, q, h1, h2, h3⟩ := stdL_row h k hk
  exact ⟨p, q, by rw [← h1]; unfold row; rfl, h2, h3⟩
/-- A literal of one row that is read. -/
theorem rdM_lit {w : World} {B : Option Addr} {m d : Nat} {z : List Int} (h : RdI w B m z) (hc : m ≤ d ∧ d ≤ maxLen) : RdM (w.alloc (.cells #[.slice B m d] 28)) (some ⟨w.heap.size, 0, none⟩) 1 [z] := by
  refine ⟨rfl, fun j hj => ?_⟩
  obtain rfl : j = 0 := by omega
  obtain ⟨ad, e, hb, hcell⟩ := (rd_one (w := w) (.slice B m d) 28).2 (by omega)
  injection e with e
  subst e
  exact ⟨_, B, m, d, rfl, hb, hcell 0 _ rfl, by have : row [z] 0 = z := by unfold row; rfl
                                                rw [this]; exact h.alloc _, hc.1, hc.2⟩
theorem pair_len (n : Nat) (set : List Int) (z : List (List Int)) : ∀ k, (pairTo n set z k).length ≤ z.length + k
  | 0 => Nat.le_refl _
  | k + 1 => by have := pair_len n set z k; have := addL_len (pairTo n set z k) (allV [row (stdL n) k] 1 set (2 ^ n)); rw [pairTo]; omega
theorem sets_len {n : Nat} (h : n ≤ 4) (now : List (List Int)) : ∀ j, (setTo n now j).length ≤ 6 * j
  | 0 => Nat.le_refl _
  | j + 1 => by have := sets_len h now j; have := pair_len n (row now j) (setTo n now j) (stdL n).length; have := stdL_len h; rw [setTo]; omega
theorem lvl_len {n : Nat} (h : n ≤ 4) : ∀ i, i ≤ 5 → (lvl n i).length ≤ 7776 := by
  have key : ∀ i, (lvl n i).length ≤ 6 ^ i := by
    intro i
    induction i with
    | zero => exact Nat.le_refl _
    | succ i ih => have := sets_len h (lvl n i) (lvl n i).length; rw [lvl_succ, Nat.pow_succ]; omega
  intro i hi
  exact Nat.le_trans (key i) (Nat.le_trans (Nat.pow_le_pow_right (n := 6) (by omega) hi) (by decide))
theorem all_set (zss : List (List Int)) (n : Nat) (set : List Int) (N : Nat) : ∃ P, allV zss n set N = selL P N := ⟨_, rfl⟩
theorem sel_len {N : Nat} {x : List Int} {z : List (List Int)} (h : SetsR N z) (hN : N ≤ 16) {j : Nat} (hj : j < z.length) : (row z j).length ≤ 16 := by
  obtain ⟨P, hP⟩ := h.at_ hj
  rw [hP]
  exact Nat.le_trans (selL_le P N) hN
theorem SetsR.nil_ (N : Nat) : SetsR N [] := fun x hx => by simp at hx
theorem add0_ (g q : Nat) : (⟨g, 0, none⟩ : Addr).add q = ⟨g, q, none⟩ := by unfold Addr.add; by_cases e : q = 0 <;> simp [e]
theorem pow16 {n : Nat} (h : n ≤ 4) : 2 ^ n ≤ 16 := Nat.pow_le_pow_right (n := 2) (by omega) h

/-- A set put into its place: the list of headers behind three appends. -/
theorem sets_ins {w4 w8 : World} {C D g2 g8 m2 c8 q mx cx : Nat} {Ax : Option Addr} {vs : List Value} {z2 : List (List Int)} {x : List Int}
    (har : All2 (Rw w4 C fun g => blk (some ⟨g2, 0, none⟩) ≠ some g) vs z2) (hox : OwnI w4 C 3 Ax mx cx x) (hD : w4.heap.size = D) (hb8 : Below D w4 w8)
    (ho8 : Own w8 D 28 (some ⟨g8, 0, none⟩) (m2 + 1) c8 (vs.take q ++ (.slice Ax mx cx) :: vs.drop q)) (hlz : z2.length = m2) (hq : q ≤ m2) (hCD : C ≤ D) :
    OwnS w8 C (some ⟨g8, 0, none⟩) (m2 + 1) c8 (z2.take q ++ [x] ++ z2.drop q) := by
  have hg8 := (ho8.blk_ g8 rfl).1
  refine ⟨by simp; omega, _, ho8.more hCD, ?_⟩
  have har' : All2 (Rw w8 C fun g => blk (some ⟨g8, 0, none⟩) ≠ some g) vs z2 := har.mono fun v z k => k.keep fun g h1 h2 h3 => ⟨hb8.block g (by omega), fun e => by simp [blk] at e; omega⟩
  have hx' : Rw w8 C (fun g => blk (some ⟨g8, 0, none⟩) ≠ some g) (.slice Ax mx cx) x :=
    ⟨Ax, mx, cx, rfl, hox.keepAt fun g hg => hb8.block g (by have := (hox.blk_ g hg).2; omega), fun g hg e => by
      have := (hox.blk_ g hg).2
      simp [blk] at e; omega⟩
  rw [List.append_assoc]
  exact (har'.take q).append ⟨hx', har'.drop q⟩

set_option maxHeartbeats 8000000 in
theorem specSets (n K : Nat) (w : World) (hn : n ≤ 4) (hK : K ≤ 5) : Calls Try.prog 8 #[.int .i64 n, .int .i64 K] w fun e w' => ∃ A m c, e = .returned (.slice A m c) ∧ m ≤ 7776 ∧ OwnS w' w.heap.size A m c (lvl n K) ∧ Below w.heap.size w w' := by
  obtain ⟨B, hB⟩ : ∃ B, w.heap.size = B := ⟨_, rfl⟩
  have HB := Lib.hid hB
  have HW0 := Lib.hid (Below.refl w.heap.size w)
  have CM := Lib.hid (specMasks n w hn)
  rw [hB] at HW0 CM ⊢
  clear hB
  go_enter Try.func8, Try.ntmps8
  go_wp2_with fail
  refine CM.out.mono ?_
  rintro e w1 ⟨A0, m0, c0, rfl, ho0, hb0⟩
  have hsz0 := hb0.size
  rw [HB.out] at hsz0
  have HO0 := Lib.hid ho0
  have HL0 := Lib.hid hb0
  clear ho0 hb0 CM
  go_wp2_with fail
  go_loopw [5, 6] (fun nv iv wr => ∃ i m : Nat, ∃ A c zss, nv = .slice A m c ∧ iv = .int .i64 (i : Nat) ∧ i ≤ K ∧ m ≤ 7776 ∧ Hid (lvl n i = zss) ∧ OwnS wr B A m c zss ∧ Hid (SetsR (2 ^ n) zss) ∧ Below B w wr) (fun _ iv _ => K - (intOf iv).toNat)
  case atStart =>
    refine ⟨0, 1, _, _, [marks 0 (2 ^ n)], rfl, rfl, Nat.zero_le _, by omega, Lib.hid (lvl_zero n), ⟨rfl, [.slice A0 m0 c0], ?_, All2.one ⟨A0, m0, c0, rfl, (HO0.out.alloc _), fun g hg => ?_⟩⟩, Lib.hid (fun x hx => ?_), HL0.out.alloc hsz0 _⟩
    · exact World.ownsRow_lit (base := B) (e := 28) (size := 1) w1 #[.slice A0 m0 c0] 1 hsz0 (by unfold maxLen; omega) rfl
    · have := (HO0.out.blk_ g hg).2
      simp [blk]; omega
    · simp at hx; subst hx; exact ⟨_, marks_sel _⟩
  case round =>
    clear HO0 HL0 hsz0
    obtain ⟨i, m, A, c, zss, rfl, rfl, hi, hm, HZ, hown, HS, hbl⟩ := hrel
    obtain ⟨wo, hwo⟩ : ∃ x, x = wr := ⟨_, rfl⟩
    subst hwo
    have hszo := hbl.size
    rw [HB.out] at hszo
    by_cases hlt : i < K
    · have HO := Lib.hid hown
      have HM := Lib.hid hown.1
      have HL := Lib.hid hbl
      clear hown hbl
      obtain ⟨C, hC⟩ : ∃ C, wo.heap.size = C := ⟨_, rfl⟩
      have HC := Lib.hid hC
      have HE0 := Lib.hid (show Own (wo.alloc (.cells #[] 28)) C 28 (some ⟨wo.heap.size, 0, none⟩) 0 0 [] from hC ▸ own_empty wo _)
      have HLE := Lib.hid (show Below C wo (wo.alloc (.cells #[] 28)) from hC ▸ below_alloc wo _)
      have hCB : B ≤ C := by omega
      clear hC
      go_wp2_with fail
      go_loopw [7, 26] (fun xv jv wr => ∃ j m2 g2 c2 : Nat, ∃ z, xv = .slice (some ⟨g2, 0, none⟩) m2 c2 ∧ jv = .int .i64 (j : Nat) ∧ j ≤ m ∧ m2 ≤ 6 * j ∧ Hid (setTo n zss j = z) ∧ OwnS wr C (some ⟨g2, 0, none⟩) m2 c2 z ∧ Hid (SetsR (2 ^ n) z) ∧ Below C wo wr) (fun _ jv _ => m - (intOf jv).toNat)
      case atStart => exact ⟨0, 0, _, 0, [], rfl, rfl, Nat.zero_le _, by omega, Lib.hid (setTo_zero _ _), ⟨rfl, [], HE0.out, trivial⟩, Lib.hid (SetsR.nil_ _), HLE.out⟩
      case round =>
        clear HE0 HLE
        obtain ⟨j, m2, g2, c2, z, rfl, rfl, hj, hm2, HZ2, hown2, HS2, hbl2⟩ := hrel
        obtain ⟨wp, hwp⟩ : ∃ x, x = wr := ⟨_, rfl⟩
        subst hwp
        have hszp := hbl2.size
        rw [HC.out] at hszp
        by_cases hlt2 : j < m
        · have HOP := Lib.hid (HO.out.below (by rw [HC.out]; exact hbl2)).rd
          obtain ⟨ad, BS, ms, ds, rfl, _, hcs, hBS, hms, hds⟩ := HOP.out.2 j hlt2
          obtain ⟨PS, hPS⟩ := HS.out.at_ (show j < zss.length by rw [HM.out]; exact hlt2)
          have hBS16 : ms ≤ 16 := by rw [← hBS.lenI, hPS]; exact Nat.le_trans (selL_le _ _) (pow16 hn)
          have HMR := Lib.hid (show MaskR (2 ^ n) ms (row zss j) by
            have h1 := hBS.lenI
            rw [hPS] at h1 ⊢
            exact selL_maskR PS _ _ h1)
          have HBS := Lib.hid hBS
          have HO2 := Lib.hid hown2
          have HL2 := Lib.hid hbl2
          have CA := Lib.hid (specStd n wp hn)
          clear hBS hown2 hbl2 hPS
          go_wp2_with fail
          refine CA.out.mono ?_
          rintro e w3 ⟨A3, m3, c3, rfl, hm16, ho3, hb3⟩
          have HST := Lib.hid ho3.rd
          have HO3 := Lib.hid (HO2.out.below hb3)
          have HB3 := Lib.hid (HBS.out.below hb3)
          have HL3 := Lib.hid (HL2.out.trans (hb3.mono hszp))
          have hs3 := hb3.size
          have HSL := Lib.hid ho3.1
          have hm6 : m3 ≤ 6 := by have h1 := stdL_len hn; rw [ho3.1] at h1; exact h1
          clear ho3 hb3 HO2 HBS HL2 CA HOP
          go_wp2_with fail
          go_loopw [7, 33] (fun xv kv wr => ∃ k m2 g2 c2 : Nat, ∃ z2, xv = .slice (some ⟨g2, 0, none⟩) m2 c2 ∧ kv = .int .i64 (k : Nat) ∧ k ≤ m3 ∧ m2 ≤ 6 * j + k ∧ Hid (pairTo n (row zss j) z k = z2) ∧ OwnS wr C (some ⟨g2, 0, none⟩) m2 c2 z2 ∧ Hid (SetsR (2 ^ n) z2) ∧ Below w3.heap.size w3 wr) (fun _ kv _ => m3 - (intOf kv).toNat)
          case atStart => exact ⟨0, m2, g2, c2, z, rfl, rfl, Nat.zero_le _, by omega, Lib.hid (pairTo_zero _ _ _), HO3.out, HS2, Below.refl _ _⟩
          case round =>
            clear HO3 HS2 hm2
            obtain ⟨k, m2, g2, c2, z2, rfl, rfl, hk, hm2, HZ3, hown3, HS3, hbl3⟩ := hrel
            have hszr := hbl3.size
            by_cases hlt3 : k < m3
            · obtain ⟨ap, BP, mp, dp, rfl, _, hcp, hBP, hmp, hdp⟩ := (HST.out.below hbl3).2 k hlt3
              have hkl : k < (stdL n).length := by rw [HSL.out]; exact hlt3
              have HRL := Lib.hid (rdM_lit hBP ⟨hmp, hdp⟩)
              have HAL := Lib.hid (below_alloc wr (.cells #[.slice BP mp dp] 28))
              have HSB := Lib.hid ((HB3.out.below hbl3).alloc (.cells #[.slice BP mp dp] 28))
              have HON := Lib.hid hown3
              have HBL := Lib.hid hbl3
              have CX := Lib.hid (fun wx => fun (h1 : RdM wx (some ⟨wr.heap.size, 0, none⟩) 1 [row (stdL n) k]) (h2 : RdI wx BS ms (row zss j)) => specAll n 1 ms (some ⟨wr.heap.size, 0, none⟩) BS 1 ds [row (stdL n) k] (row zss j) wx (pairR_lit hn hkl) h1 h2 HMR.out hn (by omega) (by omega))
              clear hBP hown3 hbl3 hkl
              go_wp2_with fail
              refine (CX.out _ HRL.out HSB.out).mono ?_
              rintro e w4 ⟨Ax, mx, cx, rfl, hox, hbx⟩
              have hbw := HAL.out.trans (hbx.mono (by simp))
              have hox := hox.more (show C ≤ _ by simp; omega)
              have HON4 := Lib.hid (HON.out.below hbw)
              have HBL4 := Lib.hid (HBL.out.trans (hbw.mono hszr))
              have hs4 := hbw.size
              obtain ⟨PX, hPX⟩ := all_set [row (stdL n) k] 1 (row zss j) (2 ^ n)
              obtain ⟨x, hx⟩ : ∃ x, allV [row (stdL n) k] 1 (row zss j) (2 ^ n) = x := ⟨_, rfl⟩
              rw [hx] at hox hPX
              have hmx : mx ≤ 16 := by rw [← hox.lenI, hPX]; exact Nat.le_trans (selL_le _ _) (pow16 hn)
              have HX := Lib.hid hx
              have HPX := Lib.hid hPX
              have HSN := Lib.hid (show SetsR (2 ^ n) (addL z2 x) by rw [hPX]; exact HS3.out.add PX)
              have HNX := Lib.hid (show pairTo n (row zss j) z (k + 1) = addL z2 x by rw [pairTo_succ, HZ3.out, hx])
              have HOX := Lib.hid hox
              clear HRL HAL HSB HON HBL CX hbx hbw hPX hx
              have CH := Lib.hid (specHas (some ⟨g2, 0, none⟩) Ax m2 mx c2 cx z2 x w4 HON4.out.rd HOX.out.rd (by omega) (by omega) (fun q hq => Nat.le_trans (sel_len (x := x) HS3.out (pow16 hn) (by rw [HON4.out.1]; exact hq)) (by omega)))
              have HLZ := Lib.hid HON4.out.1
              clear hox
              go_wp2_with fail
              refine CH.out.mono ?_
              rintro e w5 ⟨rfl, hw45⟩
              obtain rfl := hw45
              clear CH
              cases hh : hasV z2 x with
              | true =>
                have HE := Lib.hid (show pairTo n (row zss j) z (k + 1) = z2 by rw [HNX.out, addL_has hh])
                have HSE := Lib.hid (show SetsR (2 ^ n) z2 from HS3.out)
                clear hh
                go_wp2_with fail
                go_roundw
                case rel => exact ⟨k + 1, m2, g2, c2, z2, rfl, by go_num, by omega, by omega, HE, HON4.out, HSE, HBL4.out⟩
                case measure => (simp [intOf] <;> omega)
              | false =>
                have HH := Lib.hid hh
                have HP0 := Lib.hid (posL_start z2 x)
                clear hh
                go_wp2_with fail
                go_loopw [13] (fun qv wr => ∃ q : Nat, qv = .int .i64 (q : Nat) ∧ q ≤ m2 ∧ Hid (posL z2 x = q + posL (z2.drop q) x) ∧ w4 = wr) (fun qv _ => m2 - (intOf qv).toNat)
                case atStart => exact ⟨0, rfl, Nat.zero_le _, HP0, rfl⟩
                case round =>
                  clear HP0
                  obtain ⟨q, rfl, hq, HP, hww⟩ := hrel
                  obtain rfl := hww
                  by_cases hlt4 : q < m2
                  · obtain ⟨aq, BQ, mq, dq, haq, _, hcq, hBQ, hmq, hdq⟩ := HON4.out.rd.2 q hlt4
                    injection haq with haq
                    subst haq
                    rw [add0_] at hcq
                    have hrq : (row z2 q).length ≤ 16 := sel_len (x := x) HS3.out (pow16 hn) (by rw [HLZ.out]; exact hlt4)
                    rw [hBQ.lenI] at hrq
                    have CL := Lib.hid (specLess BQ Ax mq mx dq cx (row z2 q) x w4 hBQ HOX.out.rd (by omega) (by omega))
                    clear hBQ
                    cases hl : lessV (row z2 q) x with
                    | true =>
                      have HPN := Lib.hid (posL_on (by rw [HLZ.out]; exact hlt4) hl HP.out)
                      rw [hl] at CL
                      clear hl
                      go_wp2_with fail
                      refine CL.out.mono ?_
                      rintro e w6 ⟨rfl, hw46⟩
                      obtain rfl := hw46
                      go_wp2_with fail
                      go_roundw
                      case rel => exact ⟨q + 1, by go_num, by omega, HPN, by first | trivial | rfl⟩
                      case measure => (simp [intOf] <;> omega)
                    | false =>
                      have HPE := Lib.hid (posL_off (by rw [HLZ.out]; exact hlt4) hl HP.out)
                      rw [hl] at CL
                      clear hl HP
                      have hck : ¬ c2 = q := by have := HON4.out.cap; omega
                      go_wp2_with fail
                      refine CL.out.mono ?_
                      rintro e w6 ⟨rfl, hw46⟩
                      obtain rfl := hw46
                      obtain ⟨hlz, vs, hov, har⟩ := HON4.out
                      have hcap := hov.cap
                      unfold maxLen at hcap
                      obtain ⟨D, hD⟩ : ∃ D, w4.heap.size = D := ⟨_, rfl⟩
                      have HD := Lib.hid hD
                      have HY0 := Lib.hid (show Own (w4.alloc (.cells #[] 28)) D 28 (some ⟨w4.heap.size, 0, none⟩) 0 0 [] from hD ▸ own_empty w4 _)
                      have HYB := Lib.hid (show Below D w4 (w4.alloc (.cells #[] 28)) from hD ▸ below_alloc w4 _)
                      have HR1 := Lib.hid (rdV_to (hov.rd.alloc (.cells #[] 28)) (show q ≤ m2 by omega))
                      have HV := Lib.hid hov
                      have HAR := Lib.hid har
                      have H1A := Lib.hid (all2_one (har.take q) (fun _ _ h => h.one))
                      have H1B := Lib.hid (all2_one (har.drop q) (fun _ _ h => h.one))
                      have HAL := Lib.hid (addL_new HH.out HPE.out)
                      have hCD : C ≤ D := by omega
                      clear hov har hD HON4 HPE
                      go_wp2_with (at_builtin; refine wpL_append _ rfl _ _ _ rfl D 28 (.slice none 0 0) 24 Try.underlying26 sliceInfo rfl _ 0 _ [] rfl HY0.out _ q _ _ rfl HR1.out H1A.out (by unfold maxLen; omega) (by omega) (by simp; have := HD.out; omega) ?_)
                      intro A6 c6 w6 ho6 hg6 hat6
                      have hb6 := own_below HY0.out HYB.out (by simp; have := HD.out; omega) hg6
                      have hs6 : D ≤ w6.heap.size := by have h1 := hb6.size; have := HD.out; omega
                      have HO6 := Lib.hid ho6
                      have HB6 := Lib.hid hb6
                      clear ho6 hb6 hg6 hat6 HR1 H1A HYB HY0
                      go_wp2_with (at_builtin; refine wpL_append1 _ rfl _ _ _ rfl D 28 (.slice none 0 0) 24 Try.underlying26 sliceInfo rfl _ q _ _ rfl HO6.out (.slice Ax mx cx) rfl rfl (by unfold maxLen; omega) (by omega) hs6 ?_)
                      intro A7 c7 w7 ho7 hg7 hat7
                      have hb7 := own_below HO6.out HB6.out hs6 hg7
                      have hs7 : D ≤ w7.heap.size := by have h1 := hb7.size; have := HD.out; omega
                      have HR2 := Lib.hid (rdV_from (HV.out.below (HD.out.symm ▸ hb7)).rd (show q ≤ m2 by omega))
                      have HO7 := Lib.hid ho7
                      have HB7 := Lib.hid hb7
                      clear ho7 hb7 hg7 hat7
                      go_wp2_with (at_builtin; refine wpL_append _ rfl _ _ _ rfl D 28 (.slice none 0 0) 24 Try.underlying26 sliceInfo rfl _ (q + 1) _ _ rfl HO7.out _ (m2 - q) _ _ rfl HR2.out H1B.out (by unfold maxLen; omega) (by omega) hs7 ?_)
                      intro A8 c8 w8 ho8 hg8 hat8
                      have hb8 := own_below HO7.out HB7.out hs7 hg8
                      have hl8 : q + 1 + (m2 - q) = m2 + 1 := by omega
                      rw [hl8] at ho8 ⊢
                      obtain ⟨g8, rfl⟩ := own_some_ ho8 (by omega)
                      have HOS := Lib.hid (sets_ins HAR.out HOX.out HD.out hb8 ho8 hlz (by omega) hCD)
                      rw [← HAL.out] at HOS
                      have HBF := Lib.hid (HBL4.out.trans (hb8.mono (by have := HD.out; omega)))
                      clear ho8 hb8 hg8 hat8 hl8
                      go_wp2_with fail
                      go_roundw
                      case rel => exact ⟨k + 1, m2 + 1, g8, c8, _, rfl, by go_num, by omega, by omega, HNX, HOS.out, HSN, HBF.out⟩
                      case measure => (simp [intOf] <;> omega)
                  · obtain rfl : q = m2 := by omega
                    have HPE := Lib.hid (posL_end HLZ.out HP.out)
                    clear HP
                    by_cases hck : c2 = q
                    · obtain ⟨hlz, vs, hov, har⟩ := HON4.out
                      have hcap := hov.cap
                      unfold maxLen at hcap
                      obtain ⟨D, hD⟩ : ∃ D, w4.heap.size = D := ⟨_, rfl⟩
                      have HD := Lib.hid hD
                      have HY0 := Lib.hid (show Own (w4.alloc (.cells #[] 28)) D 28 (some ⟨w4.heap.size, 0, none⟩) 0 0 [] from hD ▸ own_empty w4 _)
                      have HYB := Lib.hid (show Below D w4 (w4.alloc (.cells #[] 28)) from hD ▸ below_alloc w4 _)
                      have HR1 := Lib.hid (rdV_to (hov.rd.alloc (.cells #[] 28)) (show q ≤ q by omega))
                      have HV := Lib.hid hov
                      have HAR := Lib.hid har
                      have H1A := Lib.hid (all2_one (har.take q) (fun _ _ h => h.one))
                      have H1B := Lib.hid (show vs.drop q = [] from List.drop_of_length_le (by rw [hov.len]; exact Nat.le_refl _))
                      have HAL := Lib.hid (addL_new HH.out HPE.out)
                      have hCD : C ≤ D := by omega
                      clear hov har hD HON4 HPE
                      go_wp2_with (at_builtin; refine wpL_append _ rfl _ _ _ rfl D 28 (.slice none 0 0) 24 Try.underlying26 sliceInfo rfl _ 0 _ [] rfl HY0.out _ q _ _ rfl HR1.out H1A.out (by unfold maxLen; omega) (by omega) (by simp; have := HD.out; omega) ?_)
                      intro A6 c6 w6 ho6 hg6 hat6
                      have hb6 := own_below HY0.out HYB.out (by simp; have := HD.out; omega) hg6
                      have hs6 : D ≤ w6.heap.size := by have h1 := hb6.size; have := HD.out; omega
                      have HO6 := Lib.hid ho6
                      have HB6 := Lib.hid hb6
                      clear ho6 hb6 hg6 hat6 HR1 H1A HYB HY0
                      go_wp2_with (at_builtin; refine wpL_append1 _ rfl _ _ _ rfl D 28 (.slice none 0 0) 24 Try.underlying26 sliceInfo rfl _ q _ _ rfl HO6.out (.slice Ax mx cx) rfl rfl (by unfold maxLen; omega) (by omega) hs6 ?_)
                      intro A7 c7 w7 ho7 hg7 hat7
                      have hb7 := own_below HO6.out HB6.out hs6 hg7
                      have hs7 : D ≤ w7.heap.size := by have h1 := hb7.size; have := HD.out; omega
                      have HO7 := Lib.hid ho7
                      have HB7 := Lib.hid hb7
                      clear ho7 hb7 hg7 hat7
                      go_wp2_with (at_builtin; refine wpL_append _ rfl _ _ _ rfl D 28 (.slice none 0 0) 24 Try.underlying26 sliceInfo rfl _ (q + 1) _ _ rfl HO7.out _ 0 _ [] rfl Rd.nil_ (fun u hu => by simp at hu) (by unfold maxLen; omega) (by omega) hs7 ?_)
                      intro A8 c8 w8 ho8 hg8 hat8
                      have hb8 := own_below HO7.out HB7.out hs7 hg8
                      obtain ⟨g8, rfl⟩ := own_some_ ho8 (by omega)
                      have HOS := Lib.hid (sets_ins HAR.out HOX.out HD.out hb8 (show Own w8 D 28 (some ⟨g8, 0, none⟩) (q + 1) c8 (vs.take q ++ (.slice Ax mx cx) :: vs.drop q) by rw [H1B.out]; simpa using ho8) hlz (by omega) hCD)
                      rw [← HAL.out] at HOS
                      have HBF := Lib.hid (HBL4.out.trans (hb8.mono (by have := HD.out; omega)))
                      clear ho8 hb8 hg8 hat8
                      go_wp2_with fail
                      go_roundw
                      case rel => exact ⟨k + 1, q + 1, g8, c8, _, rfl, by go_num, by omega, by omega, HNX, HOS.out, HSN, HBF.out⟩
                      case measure => (simp [intOf] <;> omega)
                    · obtain ⟨hlz, vs, hov, har⟩ := HON4.out
                      have hcap := hov.cap
                      unfold maxLen at hcap
                      obtain ⟨D, hD⟩ : ∃ D, w4.heap.size = D := ⟨_, rfl⟩
                      have HD := Lib.hid hD
                      have HY0 := Lib.hid (show Own (w4.alloc (.cells #[] 28)) D 28 (some ⟨w4.heap.size, 0, none⟩) 0 0 [] from hD ▸ own_empty w4 _)
                      have HYB := Lib.hid (show Below D w4 (w4.alloc (.cells #[] 28)) from hD ▸ below_alloc w4 _)
                      have HR1 := Lib.hid (rdV_to (hov.rd.alloc (.cells #[] 28)) (show q ≤ q by omega))
                      have HV := Lib.hid hov
                      have HAR := Lib.hid har
                      have H1A := Lib.hid (all2_one (har.take q) (fun _ _ h => h.one))
                      have H1B := Lib.hid (show vs.drop q = [] from List.drop_of_length_le (by rw [hov.len]; exact Nat.le_refl _))
                      have HAL := Lib.hid (addL_new HH.out HPE.out)
                      have hCD : C ≤ D := by omega
                      clear hov har hD HON4 HPE
                      go_wp2_with (at_builtin; refine wpL_append _ rfl _ _ _ rfl D 28 (.slice none 0 0) 24 Try.underlying26 sliceInfo rfl _ 0 _ [] rfl HY0.out _ q _ _ rfl HR1.out H1A.out (by unfold maxLen; omega) (by omega) (by simp; have := HD.out; omega) ?_)
                      intro A6 c6 w6 ho6 hg6 hat6
                      have hb6 := own_below HY0.out HYB.out (by simp; have := HD.out; omega) hg6
                      have hs6 : D ≤ w6.heap.size := by have h1 := hb6.size; have := HD.out; omega
                      have HO6 := Lib.hid ho6
                      have HB6 := Lib.hid hb6
                      clear ho6 hb6 hg6 hat6 HR1 H1A HYB HY0
                      go_wp2_with (at_builtin; refine wpL_append1 _ rfl _ _ _ rfl D 28 (.slice none 0 0) 24 Try.underlying26 sliceInfo rfl _ q _ _ rfl HO6.out (.slice Ax mx cx) rfl rfl (by unfold maxLen; omega) (by omega) hs6 ?_)
                      intro A7 c7 w7 ho7 hg7 hat7
                      have hb7 := own_below HO6.out HB6.out hs6 hg7
                      have hs7 : D ≤ w7.heap.size := by have h1 := hb7.size; have := HD.out; omega
                      have HO7 := Lib.hid ho7
                      have HB7 := Lib.hid hb7
                      clear ho7 hb7 hg7 hat7
                      go_wp2_with (at_builtin; refine wpL_append _ rfl _ _ _ rfl D 28 (.slice none 0 0) 24 Try.underlying26 sliceInfo rfl _ (q + 1) _ _ rfl HO7.out _ 0 _ [] rfl Rd.nil_ (fun u hu => by simp at hu) (by unfold maxLen; omega) (by omega) hs7 ?_)
                      intro A8 c8 w8 ho8 hg8 hat8
                      have hb8 := own_below HO7.out HB7.out hs7 hg8
                      obtain ⟨g8, rfl⟩ := own_some_ ho8 (by omega)
                      have HOS := Lib.hid (sets_ins HAR.out HOX.out HD.out hb8 (show Own w8 D 28 (some ⟨g8, 0, none⟩) (q + 1) c8 (vs.take q ++ (.slice Ax mx cx) :: vs.drop q) by rw [H1B.out]; simpa using ho8) hlz (by omega) hCD)
                      rw [← HAL.out] at HOS
                      have HBF := Lib.hid (HBL4.out.trans (hb8.mono (by have := HD.out; omega)))
                      clear ho8 hb8 hg8 hat8
                      go_wp2_with fail
                      go_roundw
                      case rel => exact ⟨k + 1, q + 1, g8, c8, _, rfl, by go_num, by omega, by omega, HNX, HOS.out, HSN, HBF.out⟩
                      case measure => (simp [intOf] <;> omega)
            · obtain rfl : k = m3 := by omega
              have HN := Lib.hid (show setTo n zss (j + 1) = z2 by rw [setTo_succ, HZ2.out, HSL.out, HZ3.out])
              go_wp2_with fail
              go_roundw
              case rel => exact ⟨j + 1, m2, g2, c2, z2, rfl, by go_num, by omega, by omega, HN, hown3, HS3, HL3.out.trans (hbl3.mono (by omega))⟩
              case measure => (simp [intOf] <;> omega)
        · obtain rfl : j = m := by omega
          have HN := Lib.hid (show lvl n (i + 1) = z by rw [lvl_succ, HZ.out, HM.out, HZ2.out])
          have HLN := Lib.hid (lvl_len hn (i + 1) (by omega))
          have hm7 : m2 ≤ 7776 := by have h1 := HLN.out; rw [HN.out, hown2.1] at h1; exact h1
          go_wp2_with fail
          go_roundw
          case rel => exact ⟨i + 1, m2, _, c2, z, rfl, by go_num, by omega, hm7, HN, hown2.more hCB, HS2, HL.out.trans (hbl2.mono hCB)⟩
          case measure => (simp [intOf] <;> omega)
    · obtain rfl : i = K := by omega
      go_wp2_with fail
      go_ret
      exact ⟨A, m, c, rfl, hm, by rw [HZ.out]; exact hown, hbl⟩
end Go.Proofs.Ytobdkfhmmpigiaa
