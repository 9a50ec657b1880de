/- Chapter 16: the law of concentrators, walked. -/
import Derived.Test.YthaggobbcgjfkaaC16p
namespace Go.Proofs.Ythaggobbcgjfkaa
open Go.RowKit Go.Deep
set_option linter.unusedVariables false
attribute [local go_sem] bits_and_one

theorem specSize0 (A : Option Addr) (n c N D : Nat) (zs : List Int) (w : World) (ha : RdU w A n zs) (hz : ∀ z ∈ zs, 0 ≤ z ∧ z < 256) (hn : n ≤ 1048576) (hN : N ≤ 1000) (hD2 : D ≤ 50) :
    Calls Try.prog 39 #[.slice A n c, .int .i64 N, .int .i64 0, .int .i64 D] w fun e w' => ∃ x : Nat, x ≤ D ∧ e = .returned (.int .i64 x) ∧ Below w.heap.size w w' := by
  refine (specSize A n c N D 0 D zs w ha hz hn hN (by omega) hD2 (by omega) (by omega)).mono ?_
  rintro e w' ⟨x, hx, rfl, hb⟩
  exact ⟨x, hx, by rw [Int.zero_add], hb⟩
theorem inputs_yes {zs : List Int} {s : Nat} (hp : planOk zs = true) (hs : s < 2 ^ zs.length) : inputsOk zs (s : Int) = true := by
  rw [inputsOk, hp, Bool.true_and, decide_eq_true_eq]; omega
theorem joinedV_nat {zs : List Int} {s : Nat} (hp : planOk zs = true) (hs : s < 2 ^ zs.length) : joinedWithV zs (s : Int) = (joined zs s : Int) := by
  rw [joinedWithV, if_pos (inputs_yes hp hs), Int.toNat_natCast]
theorem matchV_nat {zs : List Int} {s : Nat} (hp : planOk zs = true) (hs : s < 2 ^ zs.length) : matchV zs (s : Int) = (mat zs s zs.length 63 : Int) := by
  rw [matchV, if_pos (inputs_yes hp hs), Int.toNat_natCast]
theorem tightV_nat {zs : List Int} {s : Nat} (hp : planOk zs = true) (hs : s < 2 ^ zs.length) : tightV zs (s : Int) = (tight zs s : Int) := by
  rw [tightV, if_pos (inputs_yes hp hs), Int.toNat_natCast]
theorem leadB_nat {zs : List Int} {s : Nat} (hp : planOk zs = true) (hs : s < 2 ^ zs.length) : leadB zs (s : Int) = (lead zs s zs.length 63).isSome := by
  rw [leadB, inputs_yes hp hs, Int.toNat_natCast, Bool.true_and]
theorem leadV_nat {zs : List Int} {s : Nat} (hp : planOk zs = true) (hs : s < 2 ^ zs.length) : leadV zs (s : Int) = (lead zs s zs.length 63).getD [] := by
  rw [leadV, if_pos (inputs_yes hp hs), Int.toNat_natCast]
/-- A plan without an output. -/
structure Less (zs : List Int) (m F M x : Nat) : Prop where
  len : (without zs x).length = m
  size : ∃ L : Nat, matchV (without zs x) F = (L : Int) ∧ L ≤ M ∧ M ≤ L + 1
  join : ∃ j1 j2 : Nat, joinedWithV (without zs x) F = (j1 : Int) ∧ joinedWithV zs F = (j2 : Int) ∧ bits .andNot .i64 (j1 : Int) (j2 : Int) = 0
/-- What the law's calls give that do not look at the set. -/
structure Plain (zs : List Int) (m F M G : Nat) : Prop where
  most : matchV zs F = (M : Int)
  cover : coverV zs = (M : Int)
  great : greatV zs = (G : Int)
  gm : G ≤ M
  mm : M ≤ m
  conc : ∀ k : Nat, k ≤ m → concV zs k = decide (k ≤ G)
  less : ∀ x, x < 6 → Less zs m F M x
theorem plain_of {zs : List Int} {m F : Nat} (hp : planOk zs = true) (hl : zs.length = m) (hF : 2 ^ m - 1 = F) : ∃ M G, Plain zs m F M G := by
  subst hl
  subst hF
  have h7 : zs.length < 7 := by have := (planOk_out hp).2.1; omega
  have hf := (full64 h7).2.1
  refine ⟨mat zs (2 ^ zs.length - 1) zs.length 63, great zs, matchV_nat hp hf, by rw [coverV, if_pos hp], by rw [greatV, if_pos hp], great_most hp, mat_le _ _ _ _, fun k hk => ?_, fun x hx => ?_⟩
  · rw [concV, hp, Int.toNat_natCast, (great_spec hp).2.2 k hk, decide_eq_true (show 0 ≤ (k : Int) ∧ (k : Int) ≤ zs.length by omega)]; rfl
  · have hwl := without_len hp hx
    have hwp := without_ok hp hx
    have hwf : 2 ^ zs.length - 1 < 2 ^ (without zs (x : Int)).length := by rw [hwl]; exact hf
    refine ⟨hwl, ⟨_, matchV_nat hwp hwf, ?_, ?_⟩, _, _, joinedV_nat hwp hwf, joinedV_nat hp hf, ?_⟩
    · rw [hwl]; exact (less_most hp hx).1
    · rw [hwl]; exact (less_most hp hx).2
    · have := joined_less hp hx (2 ^ zs.length - 1)
      unfold isSub at this
      exact beq_iff_eq.1 this
/-- What they give for a set that can be led. -/
structure Led (zs : List Int) (m s : Nat) (r : List Int) : Prop where
  ok : leadB zs s = true
  val : leadV zs s = r
  len : r.length = m
  tight : tightV zs s = 0
  size : matchV zs s = (pop s : Int)
  out : ∀ k, k < m → (nth r k = -1 ∧ (memL s 6).contains (k : Int) = false) ∨
    ∃ q : Nat, q < 6 ∧ nth r k = q ∧ (memL s 6).contains (k : Int) = true ∧ bitAt (nth zs k).toNat q = true ∧ (seenO r k).contains (q : Int) = false
structure NotLed (zs : List Int) (m s : Nat) (t j : Nat) : Prop where
  ok : leadB zs s = false
  tight : tightV zs s = (t : Int)
  pos : 1 ≤ t
  t64 : t < 64
  j64 : j < 64
  size : ∃ z : Nat, matchV zs s = (z : Int) ∧ z < pop s
  sub : bits .andNot .i64 (t : Int) (s : Int) = 0
  join : joinedWithV zs t = (j : Int)
  few : pop j < pop t
theorem led_of {zs : List Int} {m s : Nat} (hp : planOk zs = true) (hl : zs.length = m) (hs : s < 2 ^ m) : (∃ r, Led zs m s r) ∨ ∃ t j, NotLed zs m s t j := by
  subst hl
  have h64 := pow_le64 hp
  have h6 := (planOk_out hp).2.1
  cases hL : lead zs s zs.length 63 with
  | some r =>
    left
    have hsome : (lead zs s zs.length 63).isSome = true := by rw [hL]; rfl
    have hsh := lead_shape hp s zs.length (Nat.le_refl _) 63 (by omega) r hL
    have hrl := lead_len hp s zs.length (Nat.le_refl _) 63 r hL
    refine ⟨r, by rw [leadB_nat hp hs, hsome], by rw [leadV_nat hp hs, hL]; rfl, hrl, by rw [tightV_nat hp hs, hall_yes hp hs hsome]; rfl, by rw [matchV_nat hp hs, (lead_full hp hs).2.1 hsome], fun k hk => ?_⟩
    have hk2 := hsh k hk
    rw [Nat.sub_self, Nat.zero_add] at hk2
    rcases hk2 with ⟨h1, h2⟩ | ⟨h1, q, h2, h3, h4, _, h5⟩
    · refine .inl ⟨h2, ?_⟩
      cases hc : (memL s 6).contains (k : Int) with
      | false => rfl
      | true =>
        rw [List.contains_iff_mem, memL_mem, h1] at hc
        cases hc.2
    · refine .inr ⟨q, h2, h3, ?_, h4, ?_⟩
      · rw [List.contains_iff_mem, memL_mem]; exact ⟨by omega, h1⟩
      · cases hc : (seenO r k).contains (q : Int) with
        | false => rfl
        | true =>
          rw [List.contains_iff_mem] at hc
          obtain ⟨i, hi, e⟩ := seenO_mem hc
          exact absurd e (h5 i hi)
  | none =>
    right
    have hnone : (lead zs s zs.length 63).isSome = false := by rw [hL]; rfl
    obtain ⟨h1, h2, h3, h4⟩ := hall_no hp hs hnone
    have hm := lead_full hp hs
    refine ⟨tight zs s, joined zs (tight zs s), by rw [leadB_nat hp hs, hnone], tightV_nat hp hs, h1, by omega, joined64 hp _, ⟨_, matchV_nat hp hs, ?_⟩, by unfold isSub at h3; exact beq_iff_eq.1 h3, joinedV_nat hp (by omega), h4⟩
    rcases Nat.lt_or_ge (mat zs s zs.length 63) (pop s) with h5 | h5
    · exact h5
    · rw [hm.2.2 (by omega)] at hnone; cases hnone
theorem set_fact {x F m : Nat} (hx : x < 65536) (hF : 2 ^ m - 1 = F) (hm : m ≤ 5) : ∃ s : Nat, bits .and .i64 (x : Int) (F : Int) = (s : Int) ∧ s < 2 ^ m := by
  have h1 : 2 ^ m ≤ 2 ^ 5 := Nat.pow_le_pow_right (by omega) hm
  have h0 : 0 < 2 ^ m := Nat.two_pow_pos _
  have h2 := bits_and_small (a := (x : Int)) (b := (F : Int)) (by omega) (by omega) (by omega) (by omega)
  refine ⟨x &&& F, by simpa using h2, ?_⟩
  have : x &&& F ≤ F := Nat.and_le_right
  omega

set_option maxHeartbeats 16000000 in
set_option maxRecDepth 100000 in
theorem lawConcentrators (w : World) (A0 : Option Addr) (n0 c0 : Nat) (bs : List Int) (ha : RdU w A0 n0 bs) (hz : ∀ z ∈ bs, 0 ≤ z ∧ z < 256) :
    Calls Try.prog 12 #[.slice A0 n0 c0] w fun e w' => e = .returned (.bool true) ∧ Below w.heap.size w w' := by
  have HA := Lib.hid ha
  have HZ := Lib.hid hz
  clear ha hz
  by_cases hn0 : 1048576 < n0
  · go_enter Try.func12, Try.ntmps12
    go_wp2
    go_ret
    exact ⟨rfl, Below.refl _ _⟩
  replace hn0 : n0 ≤ 1048576 := by omega
  go_enter Try.func12, Try.ntmps12
  go_wp2_with fail
  refine (specPlan A0 n0 c0 0 bs w HA.out HZ.out hn0 (by omega)).mono ?_
  rintro e w1 ⟨A1, m, c1, zs, rfl, hm1, hm5, oP, hpo, hB1⟩
  have hm6 : m ≤ 1048576 := by omega
  obtain ⟨N, hN⟩ : ∃ N, 2 ^ m = N := ⟨_, rfl⟩
  have hw := wrap_pow m (by omega)
  have h64 := (pow6 (show m ≤ 6 by omega)).2
  have h00 : 0 < 2 ^ m := Nat.two_pow_pos _
  rw [hN] at hw h64 h00
  have hN64 : N ≤ 64 := by omega
  obtain ⟨F, hF⟩ : ∃ F, N - 1 = F := ⟨_, rfl⟩
  have eF : (N : Int) - 1 = (F : Int) := by omega
  have HP := Lib.hid hpo
  have HF := Lib.hid (show 2 ^ m - 1 = F by rw [hN]; exact hF)
  have HN := Lib.hid hN
  obtain ⟨M, G, hV⟩ := plain_of hpo oP.lenI HF.out
  have hGM := hV.gm
  have hMM : M ≤ 5 := Nat.le_trans hV.mm hm5
  have HV := Lib.hid hV
  clear hN h64 h00 hF hpo hV
  go_wp2_with fail
  refine (specNum A0 n0 c0 20 bs _ (HA.out.below hB1) HZ.out hn0 (by omega)).mono ?_
  rintro e w2 ⟨x, hx, rfl, hb2⟩
  obtain ⟨s, hs, hsN⟩ := set_fact hx HF.out hm5
  have hs64 : s < 64 := by have := HN.out; omega
  have hB2 := hB1.trans (hb2.mono hB1.size)
  have hP2 := hb2
  clear hb2 hB1
  have HLED := Lib.hid (led_of HP.out oP.lenI hsN)
  clear hsN
  go_wp2_with fail
  refine (implMatchingOf A1 m c1 zs s _ (oP.rd.below hP2) hm6).mono ?_
  rintro e w3 ⟨A3, n3, c3, rfl, o3, hb3⟩
  have hB3 := hB2.trans (hb3.mono hB2.size)
  have hP3 := hP2.trans (hb3.mono hP2.size)
  clear hB2 hP2 hb3
  rcases HLED.out with ⟨r, hr⟩ | ⟨t, j, hr⟩
  · have HR := Lib.hid hr
    clear HLED hr
    rw [HR.out.ok]
    rw [HR.out.val] at o3
    obtain rfl : n3 = m := by rw [← o3.lenI, HR.out.len]
    obtain ⟨pp, hpp⟩ : ∃ pp, pop s = pp := ⟨_, rfl⟩
    have HPP := Lib.hid hpp
    have HSZ := Lib.hid (show matchV zs s = (pp : Int) by rw [HR.out.size, hpp])
    clear hpp
    go_wp2_with fail
    refine (implTightSet A1 n3 c1 zs s _ (oP.rd.below hP3) hm6).mono ?_
    rintro e w' ⟨rfl, rfl⟩
    rw [HR.out.tight]
    go_wp2_with fail
    refine (implMatchingSize A1 n3 c1 zs s _ (oP.rd.below hP3) hm6).mono ?_
    rintro e w' ⟨rfl, rfl⟩
    rw [HSZ.out]
    go_wp2_with fail
    refine (lawMembers s w3 hs64).mono ?_
    rintro e w4 ⟨A4, n4, c4, hn4, rfl, o4, hb4⟩
    obtain rfl : n4 = pp := by rw [← o4.lenI, memL_len s hs64, HPP.out]
    have hB4 := hB3.trans (hb4.mono hB3.size)
    have hP4 := hP3.trans (hb4.mono hP3.size)
    replace o3 := o3.below hb4
    clear hB3 hP3 hb4 o4
    go_wp2_with fail
    refine (implMatchingSize A1 n3 c1 zs F _ (oP.rd.below hP4) hm6).mono ?_
    rintro e w' ⟨rfl, rfl⟩
    rw [HV.out.most]
    go_wp2_with fail
    refine (implCover A1 n3 c1 zs _ (oP.rd.below hP4) hm6).mono ?_
    rintro e w5 ⟨rfl, hb5⟩
    rw [HV.out.cover]
    have hB5 := hB4.trans (hb5.mono hB4.size)
    have hP5 := hP4.trans (hb5.mono hP4.size)
    replace o3 := o3.below hb5
    clear hB4 hP4 hb5
    go_wp2_with fail
    refine (implPlanOk A1 n3 c1 zs _ (oP.rd.below hP5) hm6).mono ?_
    rintro e w' ⟨rfl, rfl⟩
    rw [HP.out]
    have HRL := Lib.hid HR.out.len
    obtain ⟨B5, hB5e⟩ : ∃ B5, w5.heap.size = B5 := ⟨_, rfl⟩
    have HS5 := Lib.hid (show w.heap.size ≤ B5 from hB5e ▸ hB5.size)
    have HSP := Lib.hid (show w1.heap.size ≤ B5 from hB5e ▸ hP5.size)
    have HO5 := Lib.hid (show OwnI (w5.alloc (.cells #[] 3)) B5 3 (some ⟨B5, 0, none⟩) 0 0 [] from hB5e ▸ own_empty w5 3)
    have HB5 := Lib.hid (hB5.alloc hB5.size (.cells #[] 3))
    have HP5 := Lib.hid (hP5.alloc hP5.size (.cells #[] 3))
    have HO3 := Lib.hid o3.rd
    have HR3 := Lib.hid (show Below B5 w5 (w5.alloc (.cells #[] 3)) from hB5e ▸ below_alloc w5 (.cells #[] 3))
    have HB5E := Lib.hid hB5e
    clear o3 hB5 hP5 hB5e
    go_wp2_with fail
    rw [HB5E.out]
    go_loopw [11, 83] (fun sv iv wr => ∃ k j A c, sv = .slice A j c ∧ iv = .int .i64 (k : Nat) ∧ k ≤ n3 ∧ j ≤ k ∧ OwnI wr B5 3 A j c (seenO r k) ∧ Below B5 w5 wr ∧ Below w.heap.size w wr ∧ Below w1.heap.size w1 wr) (fun _ iv _ => n3 - (intOf iv).toNat)
    case atStart => exact ⟨0, 0, _, _, rfl, rfl, Nat.zero_le _, Nat.le_refl _, HO5.out, HR3.out, HB5.out, HP5.out⟩
    case round =>
      obtain ⟨k, j, A, c, rfl, rfl, hk, hjk, hown, hR, hB, hPr⟩ := hrel
      by_cases hlt : k < n3
      · have HOUT := Lib.hid (HR.out.out k hlt)
        have hszr : B5 ≤ wr.heap.size := by have := hR.size; rw [HB5E.out] at this; exact this
        obtain ⟨a3, rfl, _, l1⟩ := (HO3.out.below (by rw [HB5E.out]; exact hR)).at_ hlt
        rcases HOUT.out with ⟨h1, h2⟩ | ⟨q, h1, h2, h3, h4, h5⟩
        · rw [h1] at l1
          have HC := Lib.hid h2
          have HSE := Lib.hid (show seenO r (k + 1) = seenO r k by rw [seenO_succ (by rw [HRL.out]; exact hlt), h1]; simp)
          clear h1 h2 HOUT
          go_wp2_with fail
          refine (lawMembers s wr hs64).mono ?_
          rintro e w6 ⟨A4, n4, c4, hn4, rfl, o4, hb4⟩
          have hown6 := hown.below hb4
          have hR6 := hR.trans (hb4.mono hszr)
          have hB6 := hB.trans (hb4.mono hB.size)
          have hP6 := hPr.trans (hb4.mono hPr.size)
          clear hown hR hB hPr hb4
          go_wp2_with fail
          refine (lawHas A4 n4 c4 (memL s 6) k w6 o4.rd (by omega)).mono ?_
          rintro e w' ⟨rfl, rfl⟩
          rw [HC.out]
          go_wp2_with fail
          go_roundw
          case rel => exact ⟨k + 1, j, A, c, rfl, by go_num, by omega, by omega, by rw [HSE.out]; exact hown6, hR6, hB6, hP6⟩
          case measure => simp [intOf]; omega
        · have hzr := (planOk_out HP.out).2.2 k (by rw [oP.lenI]; exact hlt)
          obtain ⟨z, hz⟩ : ∃ z : Nat, (nth zs k).toNat = z := ⟨_, rfl⟩
          have hzk : nth zs k = (z : Int) := by omega
          rw [hz] at h4
          obtain ⟨e1, e2⟩ := bit_on h4
          rw [h2] at l1
          have HC := Lib.hid h3
          have HC2 := Lib.hid h5
          have HZK := Lib.hid hzk
          have HSE := Lib.hid (show seenO r (k + 1) = seenO r k ++ [(q : Int)] by rw [seenO_succ (by rw [HRL.out]; exact hlt), h2, if_pos (by omega)])
          clear h2 h3 h4 h5 hz hzk hzr HOUT
          go_wp2_with fail
          refine (lawMembers s wr hs64).mono ?_
          rintro e w6 ⟨A4, n4, c4, hn4, rfl, o4, hb4⟩
          have hown6 := hown.below hb4
          have hR6 := hR.trans (hb4.mono hszr)
          have hB6 := hB.trans (hb4.mono hB.size)
          have hP6 := hPr.trans (hb4.mono hPr.size)
          have hsz6 : B5 ≤ w6.heap.size := Nat.le_trans hszr hb4.size
          clear hown hR hB hPr hb4
          obtain ⟨a1, ha1, _, l2⟩ := (oP.rd.below hP6).at_ hlt
          subst ha1
          rw [HZK.out] at l2
          go_wp2_with fail
          refine (lawHas A4 n4 c4 (memL s 6) k w6 o4.rd (by omega)).mono ?_
          rintro e w' ⟨rfl, rfl⟩
          rw [HC.out]
          clear o4
          go_wp2_with fail
          refine (lawHas A j c (seenO r k) q w6 hown6.rd (by omega)).mono ?_
          rintro e w' ⟨rfl, rfl⟩
          rw [HC2.out]
          go_wp2_with (at_builtin; refine wpL_append1 _ rfl _ _ _ rfl B5 3 (.int .i64 0) 8 Try.underlying22 intInfo rfl _ j _ _ rfl hown6 _ rfl rfl (by unfold maxLen; omega) (by omega) hsz6 ?_)
          intro A7 c7 w7 ho7 hg7 hat7
          have hR7 := own_below hown6 hR6 hsz6 hg7
          have hB7 := below_of_grown hB6 hg7 hB6.size (fun g e => by have := (hown6.blk_ g e).1; have := HS5.out; omega)
          have hP7 := below_of_grown hP6 hg7 hP6.size (fun g e => by have := (hown6.blk_ g e).1; have := HSP.out; omega)
          go_wp2_with fail
          go_roundw
          case rel => exact ⟨k + 1, j + 1, A7, c7, rfl, by go_num, by omega, by omega, by rw [OwnI, HSE.out]; simpa using ho7, hR7, hB7, hP7⟩
          case measure => simp [intOf]; omega
      · obtain rfl : k = n3 := by omega
        obtain ⟨m, rfl⟩ : ∃ m, m = k := ⟨_, rfl⟩
        clear hown
        have hB9 := hB
        have hP9 := hPr
        clear hB hPr hR
        have HBT := Lib.hid hB9
        go_wp2_with fail
        refine (implGreat A1 m c1 zs _ (oP.rd.below hP9) hm6).mono ?_
        rintro e v1 ⟨rfl, hv1⟩
        rw [HV.out.great] at *
        have hB1 := hB9.trans (hv1.mono hB9.size)
        have hP1 := hP9.trans (hv1.mono hP9.size)
        clear hB9 hP9 hv1
        go_wp2_with fail
        go_loopw [15] (fun kv wr => ∃ k : Nat, k ≤ m + 1 ∧ kv = .int .i64 k ∧ Below w.heap.size w wr ∧ Below w1.heap.size w1 wr) (fun kv _ => m + 1 - (intOf kv).toNat)
        case atStart => exact ⟨0, Nat.zero_le _, rfl, hB1, hP1⟩
        case round =>
          clear hB1 hP1
          obtain ⟨k, hk, rfl, hB1, hP1⟩ := hrel
          by_cases hkm : k ≤ m
          · have hkm2 : (k : Int) ≤ (m : Int) := by omega
            have HC := Lib.hid (HV.out.conc k hkm)
            by_cases hkg : k ≤ G
            · have hkg2 : (k : Int) ≤ (G : Int) := by omega
              go_wp2_with fail
              refine (implIsConc A1 m c1 zs k _ (oP.rd.below hP1) hm6).mono ?_
              rintro e v2 ⟨rfl, hv2⟩
              rw [HC.out, decide_eq_true hkg]
              have hB2 := hB1.trans (hv2.mono hB1.size)
              have hP2 := hP1.trans (hv2.mono hP1.size)
              clear hB1 hP1 hv2
              go_wp2_with fail
              go_roundw
              case rel => exact ⟨k + 1, by omega, by go_num, hB2, hP2⟩
              case measure => simp [intOf]; omega
            · have hkg2 : ¬ (k : Int) ≤ (G : Int) := by omega
              go_wp2_with fail
              refine (implIsConc A1 m c1 zs k _ (oP.rd.below hP1) hm6).mono ?_
              rintro e v2 ⟨rfl, hv2⟩
              rw [HC.out, decide_eq_false hkg]
              have hB2 := hB1.trans (hv2.mono hB1.size)
              have hP2 := hP1.trans (hv2.mono hP1.size)
              clear hB1 hP1 hv2
              go_wp2_with fail
              go_roundw
              case rel => exact ⟨k + 1, by omega, by go_num, hB2, hP2⟩
              case measure => simp [intOf]; omega
          · have hkm2 : ¬ (k : Int) ≤ (m : Int) := by omega
            go_wp2_with fail
            refine (specSize0 A0 n0 c0 40 5 bs _ (HA.out.below hB1) HZ.out hn0 (by omega) (by omega)).mono ?_
            rintro e v2 ⟨x, hx, rfl, hv2⟩
            have hB2 := hB1.trans (hv2.mono hB1.size)
            have hP2 := hP1.trans (hv2.mono hP1.size)
            clear hB1 hP1 hv2
            have HLX := Lib.hid (HV.out.less x (by omega))
            go_wp2_with fail
            refine (implWithout A1 m c1 zs x _ (oP.rd.below hP2) hm6).mono ?_
            rintro e v3 ⟨A3, n3, c3, rfl, o3, hv3⟩
            obtain rfl : n3 = m := by rw [← o3.lenI, HLX.out.len]
            have hB3 := hB2.trans (hv3.mono hB2.size)
            have hP3 := hP2.trans (hv3.mono hP2.size)
            clear hB2 hP2 hv3
            obtain ⟨L, hL1, hL2, hL3⟩ := HLX.out.size
            obtain ⟨j1, j2, hj1, hj2, hj3⟩ := HLX.out.join
            have HL1 := Lib.hid hL1
            have HJ1 := Lib.hid hj1
            have HJ2 := Lib.hid hj2
            have eL1 : (L : Int) ≤ (M : Int) := by omega
            have eL2 : (M : Int) - 1 ≤ (L : Int) := by omega
            have eG : (G : Int) ≤ (M : Int) := by omega
            clear hL1 hj1 hj2 hL2 hL3
            go_wp2_with fail
            refine (implMatchingSize A3 n3 c3 (without zs x) F _ o3.rd hm6).mono ?_
            rintro e w' ⟨rfl, rfl⟩
            rw [HL1.out]
            go_wp2_with fail
            refine (implMatchingSize A1 n3 c1 zs F _ (oP.rd.below hP3) hm6).mono ?_
            rintro e w' ⟨rfl, rfl⟩
            rw [HV.out.most]
            go_wp2_with fail
            refine (implJoinedWith A3 n3 c3 (without zs x) F _ o3.rd hm6).mono ?_
            rintro e w' ⟨rfl, rfl⟩
            rw [HJ1.out]
            go_wp2_with fail
            refine (implJoinedWith A1 n3 c1 zs F _ (oP.rd.below hP3) hm6).mono ?_
            rintro e w' ⟨rfl, rfl⟩
            rw [HJ2.out]
            go_wp2_with fail
            go_ret
            exact ⟨rfl, hB3⟩

  · have HR := Lib.hid hr
    clear HLED hr o3
    rw [HR.out.ok]
    obtain ⟨z, hz1, hz2⟩ := HR.out.size
    have hpos := HR.out.pos
    have et : ((t : Int) == 0) = false := by rw [beq_eq_false_iff_ne]; omega
    obtain ⟨pp, hpp⟩ : ∃ pp, pop s = pp := ⟨_, rfl⟩
    rw [hpp] at hz2
    have ez : ((z : Int) == (pp : Int)) = false := by rw [beq_eq_false_iff_ne]; omega
    have HPP := Lib.hid hpp
    have HSZ := Lib.hid hz1
    have eb := HR.out.sub
    clear hpp hz1 hz2
    go_wp2_with fail
    refine (implTightSet A1 m c1 zs s _ (oP.rd.below hP3) hm6).mono ?_
    rintro e w' ⟨rfl, rfl⟩
    rw [HR.out.tight]
    go_wp2_with fail
    refine (implMatchingSize A1 m c1 zs s _ (oP.rd.below hP3) hm6).mono ?_
    rintro e w' ⟨rfl, rfl⟩
    rw [HSZ.out]
    go_wp2_with fail
    refine (lawMembers s w3 hs64).mono ?_
    rintro e w4 ⟨A4, n4, c4, hn4, rfl, o4, hb4⟩
    obtain rfl : n4 = pp := by rw [← o4.lenI, memL_len s hs64, HPP.out]
    have hB4 := hB3.trans (hb4.mono hB3.size)
    have hP4 := hP3.trans (hb4.mono hP3.size)
    clear hB3 hP3 hb4 o4
    go_wp2_with fail
    refine (implMatchingSize A1 m c1 zs F _ (oP.rd.below hP4) hm6).mono ?_
    rintro e w' ⟨rfl, rfl⟩
    rw [HV.out.most]
    go_wp2_with fail
    refine (implCover A1 m c1 zs _ (oP.rd.below hP4) hm6).mono ?_
    rintro e w5 ⟨rfl, hb5⟩
    rw [HV.out.cover]
    have hB5 := hB4.trans (hb5.mono hB4.size)
    have hP5 := hP4.trans (hb5.mono hP4.size)
    clear hB4 hP4 hb5
    go_wp2_with fail
    refine (implPlanOk A1 m c1 zs _ (oP.rd.below hP5) hm6).mono ?_
    rintro e w' ⟨rfl, rfl⟩
    rw [HP.out]
    go_wp2_with fail
    refine (implJoinedWith A1 m c1 zs t _ (oP.rd.below hP5) hm6).mono ?_
    rintro e w' ⟨rfl, rfl⟩
    rw [HR.out.join]
    go_wp2_with fail
    refine (lawMembers j w5 HR.out.j64).mono ?_
    rintro e w6 ⟨A6, n6, c6, hn6, rfl, o6, hb6⟩
    have hB6 := hB5.trans (hb6.mono hB5.size)
    have hP6 := hP5.trans (hb6.mono hP5.size)
    have l6 := o6.lenI
    clear hB5 hP5 hb6 o6
    go_wp2_with fail
    refine (lawMembers t w6 HR.out.t64).mono ?_
    rintro e w7 ⟨A7, n7, c7, hn7, rfl, o7, hb7⟩
    have hB7 := hB6.trans (hb7.mono hB6.size)
    have hP7 := hP6.trans (hb7.mono hP6.size)
    have e67 : (n6 : Int) < (n7 : Int) := by
      have l7 := o7.lenI
      rw [memL_len _ HR.out.j64] at l6
      rw [memL_len _ HR.out.t64] at l7
      have := HR.out.few
      omega
    clear hB6 hP6 hb7 o7 l6
    have HBT := Lib.hid hB7
    go_wp2_with fail
    refine (implGreat A1 m c1 zs _ (oP.rd.below hP7) hm6).mono ?_
    rintro e v1 ⟨rfl, hv1⟩
    rw [HV.out.great] at *
    have hB1 := hB7.trans (hv1.mono hB7.size)
    have hP1 := hP7.trans (hv1.mono hP7.size)
    clear hB7 hP7 hv1
    go_wp2_with fail
    go_loopw [15] (fun kv wr => ∃ k : Nat, k ≤ m + 1 ∧ kv = .int .i64 k ∧ Below w.heap.size w wr ∧ Below w1.heap.size w1 wr) (fun kv _ => m + 1 - (intOf kv).toNat)
    case atStart => exact ⟨0, Nat.zero_le _, rfl, hB1, hP1⟩
    case round =>
      clear hB1 hP1
      obtain ⟨k, hk, rfl, hB1, hP1⟩ := hrel
      by_cases hkm : k ≤ m
      · have hkm2 : (k : Int) ≤ (m : Int) := by omega
        have HC := Lib.hid (HV.out.conc k hkm)
        by_cases hkg : k ≤ G
        · have hkg2 : (k : Int) ≤ (G : Int) := by omega
          go_wp2_with fail
          refine (implIsConc A1 m c1 zs k _ (oP.rd.below hP1) hm6).mono ?_
          rintro e v2 ⟨rfl, hv2⟩
          rw [HC.out, decide_eq_true hkg]
          have hB2 := hB1.trans (hv2.mono hB1.size)
          have hP2 := hP1.trans (hv2.mono hP1.size)
          clear hB1 hP1 hv2
          go_wp2_with fail
          go_roundw
          case rel => exact ⟨k + 1, by omega, by go_num, hB2, hP2⟩
          case measure => simp [intOf]; omega
        · have hkg2 : ¬ (k : Int) ≤ (G : Int) := by omega
          go_wp2_with fail
          refine (implIsConc A1 m c1 zs k _ (oP.rd.below hP1) hm6).mono ?_
          rintro e v2 ⟨rfl, hv2⟩
          rw [HC.out, decide_eq_false hkg]
          have hB2 := hB1.trans (hv2.mono hB1.size)
          have hP2 := hP1.trans (hv2.mono hP1.size)
          clear hB1 hP1 hv2
          go_wp2_with fail
          go_roundw
          case rel => exact ⟨k + 1, by omega, by go_num, hB2, hP2⟩
          case measure => simp [intOf]; omega
      · have hkm2 : ¬ (k : Int) ≤ (m : Int) := by omega
        go_wp2_with fail
        refine (specSize0 A0 n0 c0 40 5 bs _ (HA.out.below hB1) HZ.out hn0 (by omega) (by omega)).mono ?_
        rintro e v2 ⟨x, hx, rfl, hv2⟩
        have hB2 := hB1.trans (hv2.mono hB1.size)
        have hP2 := hP1.trans (hv2.mono hP1.size)
        clear hB1 hP1 hv2
        have HLX := Lib.hid (HV.out.less x (by omega))
        go_wp2_with fail
        refine (implWithout A1 m c1 zs x _ (oP.rd.below hP2) hm6).mono ?_
        rintro e v3 ⟨A3, n3, c3, rfl, o3, hv3⟩
        obtain rfl : n3 = m := by rw [← o3.lenI, HLX.out.len]
        have hB3 := hB2.trans (hv3.mono hB2.size)
        have hP3 := hP2.trans (hv3.mono hP2.size)
        clear hB2 hP2 hv3
        obtain ⟨L, hL1, hL2, hL3⟩ := HLX.out.size
        obtain ⟨j1, j2, hj1, hj2, hj3⟩ := HLX.out.join
        have HL1 := Lib.hid hL1
        have HJ1 := Lib.hid hj1
        have HJ2 := Lib.hid hj2
        have eL1 : (L : Int) ≤ (M : Int) := by omega
        have eL2 : (M : Int) - 1 ≤ (L : Int) := by omega
        have eG : (G : Int) ≤ (M : Int) := by omega
        clear hL1 hj1 hj2 hL2 hL3
        go_wp2_with fail
        refine (implMatchingSize A3 n3 c3 (without zs x) F _ o3.rd hm6).mono ?_
        rintro e w' ⟨rfl, rfl⟩
        rw [HL1.out]
        go_wp2_with fail
        refine (implMatchingSize A1 n3 c1 zs F _ (oP.rd.below hP3) hm6).mono ?_
        rintro e w' ⟨rfl, rfl⟩
        rw [HV.out.most]
        go_wp2_with fail
        refine (implJoinedWith A3 n3 c3 (without zs x) F _ o3.rd hm6).mono ?_
        rintro e w' ⟨rfl, rfl⟩
        rw [HJ1.out]
        go_wp2_with fail
        refine (implJoinedWith A1 n3 c1 zs F _ (oP.rd.below hP3) hm6).mono ?_
        rintro e w' ⟨rfl, rfl⟩
        rw [HJ2.out]
        go_wp2_with fail
        go_ret
        exact ⟨rfl, hB3⟩

end Go.Proofs.Ythaggobbcgjfkaa
