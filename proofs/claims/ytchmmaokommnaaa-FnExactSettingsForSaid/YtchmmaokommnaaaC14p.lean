/- Chapter 14: SettingsFor, the program's side. -/
import Derived.Test.YtchmmaokommnaaaC14o
import Derived.Deep.DeepCutAuto
namespace Go.Proofs.Ytchmmaokommnaaa
open Go.RowKit Go.Deep
set_option linter.unusedVariables false

def ForI (n m : Nat) (G : List Int → List Int) : Prop :=
  ∀ (A : Option Addr) (c : Nat) (zs : List Int) (w : World), RdI w A n zs → isOrd zs = true →
    Calls Try.prog 52 #[.slice A n c] w fun e w' => ∃ A' c', e = .returned (.slice A' m c') ∧ OwnI w' w.heap.size 3 A' m c' (G zs) ∧ Below w.heap.size w w'
theorem implFor1 : ForI 1 0 sf1 := by
  intro A c zs w ha _
  go_enter Try.func52, Try.ntmps52
  go_wp2
  go_ret
  exact ⟨_, _, rfl, own_empty w 3, below_alloc w _⟩
theorem implFor2 : ForI 2 1 sf2 := by
  intro A c zs w ha _
  obtain ⟨a1, rfl, _, h1⟩ := ha.at_ (show 0 < 2 by omega)
  replace h1 : w.cell? a1 = some (.int .i64 (nth zs 0)) := h1
  clear ha
  go_enter Try.func52, Try.ntmps52
  go_wp2
  go_ret
  exact ⟨_, _, rfl, World.ownsRow_lit (base := w.heap.size) (e := 3) (size := 1) w #[.int .i64 (nth zs 0)] 1 (Nat.le_refl _) (by unfold maxLen; omega) rfl, below_alloc w _⟩
/-- Two rows of zeros, made one behind the other. -/
theorem made_two {w : World} {h g : Nat} {C : Array Value} (hg : w.heap.size = g) (hC : C.toList = (List.replicate h (0 : Int)).map (Value.int .i64)) (hh : h ≤ 4) :
    (∀ x, x = g ∨ x = g + 1 → OwnI ((w.alloc (.cells C 3)).alloc (.cells C 3)) g 3 (some ⟨x, 0, none⟩) h h (List.replicate h 0)) ∧ Below g w ((w.alloc (.cells C 3)).alloc (.cells C 3)) ∧ ((w.alloc (.cells C 3)).alloc (.cells C 3)).heap.size = g + 2 := by
  have hs : C.size = h := by rw [← Array.length_toList, hC]; simp
  have o1 := World.ownsRow_lit (base := w.heap.size) (e := 3) (size := 1) w C h (Nat.le_refl _) (by unfold maxLen; omega) (by omega)
  have o2 := World.ownsRow_lit (base := (w.alloc (.cells C 3)).heap.size) (e := 3) (size := 1) (w.alloc (.cells C 3)) C h (Nat.le_refl _) (by unfold maxLen; omega) (by omega)
  rw [hC] at o1 o2
  rw [hg] at o1
  rw [show (w.alloc (.cells C 3)).heap.size = g + 1 by simp; omega] at o2
  refine ⟨?_, ((Below.refl g w).alloc (by omega) _).alloc (by simp; omega) _, by simp; omega⟩
  rintro x (rfl | rfl)
  · exact Own.alloc o1 _
  · exact Own.more o2 (by omega)
theorem cat_four {a b c d : List Int} : catTo [a, b, c, d] 4 = a ++ b ++ c ++ d := by
  rw [catTo_succ, catTo_succ, catTo_succ, catTo_succ, catTo_zero]
  simp [row]
theorem tot_four {a b c d : List Int} : tot [a, b, c, d] 4 = a.length + b.length + c.length + d.length := by
  rw [← catTo_len, cat_four]
  simp; omega

/-- A box of four slices that read. -/
theorem rdM_four {w : World} {Z : Nat} (hZ : w.heap.size = Z) {A1 A2 A3 A4 : Option Addr} {n1 n2 n3 n4 c1 c2 c3 c4 : Nat} {x1 x2 x3 x4 : List Int}
    (r1 : RdI w A1 n1 x1) (h1 : n1 ≤ c1 ∧ c1 ≤ maxLen) (r2 : RdI w A2 n2 x2) (h2 : n2 ≤ c2 ∧ c2 ≤ maxLen) (r3 : RdI w A3 n3 x3) (h3 : n3 ≤ c3 ∧ c3 ≤ maxLen) (r4 : RdI w A4 n4 x4) (h4 : n4 ≤ c4 ∧ c4 ≤ maxLen) :
    RdM (w.alloc (.cells #[.slice A1 n1 c1, .slice A2 n2 c2, .slice A3 n3 c3, .slice A4 n4 c4] 24)) (some ⟨Z, 0, none⟩) 4 [x1, x2, x3, x4] := by
  subst hZ
  have ho : Own (w.alloc (.cells #[.slice A1 n1 c1, .slice A2 n2 c2, .slice A3 n3 c3, .slice A4 n4 c4] 24)) w.heap.size 24 (some ⟨w.heap.size, 0, none⟩) 4 4 [.slice A1 n1 c1, .slice A2 n2 c2, .slice A3 n3 c3, .slice A4 n4 c4] :=
    World.ownsRow_lit (base := w.heap.size) (e := 24) (size := 1) w #[.slice A1 n1 c1, .slice A2 n2 c2, .slice A3 n3 c3, .slice A4 n4 c4] 4 (Nat.le_refl _) (by unfold maxLen; omega) rfl
  obtain ⟨ad, e, hlt, hc⟩ := ho.rd.2 (by omega)
  have e0 : row [x1, x2, x3, x4] 0 = x1 := by simp [row]
  have e1 : row [x1, x2, x3, x4] 1 = x2 := by simp [row]
  have e2 : row [x1, x2, x3, x4] 2 = x3 := by simp [row]
  have e3 : row [x1, x2, x3, x4] 3 = x4 := by simp [row]
  refine ⟨rfl, fun j hj => ?_⟩
  match j, hj with
  | 0, _ => exact ⟨ad, _, _, _, e, hlt, hc 0 _ rfl, by rw [e0]; exact r1.alloc _, h1.1, h1.2⟩
  | 1, _ => exact ⟨ad, _, _, _, e, hlt, hc 1 _ rfl, by rw [e1]; exact r2.alloc _, h2.1, h2.2⟩
  | 2, _ => exact ⟨ad, _, _, _, e, hlt, hc 2 _ rfl, by rw [e2]; exact r3.alloc _, h3.1, h3.2⟩
  | 3, _ => exact ⟨ad, _, _, _, e, hlt, hc 3 _ rfl, by rw [e3]; exact r4.alloc _, h4.1, h4.2⟩

set_option maxHeartbeats 8000000 in
set_option maxRecDepth 100000 in
theorem implForN (h : Nat) (hh : h = 2 ∨ h = 4) (m : Nat) (hm : m ≤ 6) (F : List Int → List Int) (hF : ForI h m F) : ForI (2 * h) (h + m + m + h) (sfN h F) := by
  intro A c zs w ha0 ho
  obtain ⟨n, hn⟩ : ∃ n, 2 * h = n := ⟨_, rfl⟩
  rw [hn] at ha0 ⊢
  have HPQ := Lib.hid (pq_of (show zs.length = 2 * h by rw [ha0.lenI, hn]) ho)
  have HO := Lib.hid ho
  have HN := Lib.hid hn
  have HL := Lib.hid ha0.lenI
  have HA := Lib.hid ha0
  have HF := Lib.hid hF
  have hn8 : n ≤ 8 := by omega
  have hn4 : 4 ≤ n := by omega
  have hh4 : h ≤ 4 := by omega
  have hh2 : 2 ≤ h := by omega
  have e1 : ((n : Int) == 1) = false := by rw [beq_eq_false_iff_ne]; omega
  have e2 : ((n : Int) == 2) = false := by rw [beq_eq_false_iff_ne]; omega
  have e3 : (n : Int) / 2 = (h : Int) := by omega
  have hlt0 : n ≤ 1048576 := by omega
  obtain ⟨a1, rfl, _, _⟩ := ha0.at_ (show 0 < n by omega)
  obtain ⟨C, hC⟩ : ∃ C, madeCells #[Value.int .i64 0] h = C := ⟨_, rfl⟩
  have hmk : ∀ w, (Instr.makeSlice 24 (.int .i64 (h : Int)) (.int .i64 (h : Int))).run Try.prog w = .ok (.slice (some ⟨w.heap.size, 0, none⟩) h h) (w.alloc (.cells C 3)) := fun w => by
    rw [← hC]
    exact run_make_row' (P := Try.prog) 24 3 (.int .i64 0) 8 Try.underlying24 intInfo rfl .i64 .i64 h (by omega) (by omega) w
  have HC := Lib.hid (show C.toList = (List.replicate h (0 : Int)).map (Value.int .i64) by rw [← hC, toList_madeCells_one, List.map_replicate])
  clear hn ho ha0 hF hh hC
  go_enter Try.func52, Try.ntmps52
  go_wp2_with fail
  refine (implInvRow (some a1) n c zs _ HA.out hlt0 HO).mono ?_
  rintro e w1 ⟨Ai, ni, ci, rfl, oi, hbi⟩
  obtain rfl : ni = n := by rw [← oi.lenI, inv_len, HL.out]
  have HIR := Lib.hid (show RdI w1 Ai ni (invTo zs zs.length) by rw [HL.out]; exact oi.rd)
  have HA1 := Lib.hid (HA.out.below hbi)
  have HB1 := Lib.hid hbi
  obtain ⟨ai, rfl, _, _⟩ := oi.rd.at_ (show 0 < ni by omega)
  clear oi hbi
  obtain ⟨g, hg⟩ : ∃ g, w1.heap.size = g := ⟨_, rfl⟩
  have HG := Lib.hid hg
  obtain ⟨m1, m2, m3⟩ := made_two hg HC.out hh4
  obtain ⟨w2, hw2⟩ : ∃ w2, (w1.alloc (.cells C 3)).alloc (.cells C 3) = w2 := ⟨_, rfl⟩
  rw [hw2] at m1 m2 m3
  obtain ⟨n1, n2, n3⟩ := made_two m3 HC.out hh4
  have HW2 := Lib.hid hw2
  have M1 := Lib.hid m1
  have M2 := Lib.hid m2
  have M3 := Lib.hid m3
  have N1 := Lib.hid n1
  have N2 := Lib.hid n2
  have N3 := Lib.hid n3
  clear hg hw2 m1 m2 m3 n1 n2 n3
  go_upto_region 9 with fail
  go_cut [6, 7] (fun u v wx => ∃ x y : Nat, u = .slice (some ⟨x, 0, none⟩) h h ∧ v = .slice (some ⟨y, 0, none⟩) h h ∧ Hid ((x = g ∨ x = g + 1) ∧ (y = g ∨ y = g + 1) ∧ x ≠ y ∧ wx = w2.drew))
  case first =>
    go_region
    all_goals
      go_wp2_with fail
      go_meet
      case rel => exact ⟨_, _, rfl, rfl, Lib.hid ⟨by first | exact .inl HG.out | exact .inr (by simp [HG.out]), by first | exact .inl HG.out | exact .inr (by simp [HG.out]), by simp, by rw [← HW2.out]⟩⟩
  case rest =>
    obtain ⟨bf, bl, rfl, rfl, HX1⟩ := hcut
    obtain ⟨hx1, hx2, hx3, hx4⟩ := HX1.out
    subst hx4
    clear HX1
    go_upto_region 10 with fail
    go_cut [8, 9] (fun u v wx => ∃ x y : Nat, u = .slice (some ⟨x, 0, none⟩) h h ∧ v = .slice (some ⟨y, 0, none⟩) h h ∧ Hid ((x = g + 2 ∨ x = g + 2 + 1) ∧ (y = g + 2 ∨ y = g + 2 + 1) ∧ x ≠ y ∧ wx = ((w2.alloc (.cells C 3)).alloc (.cells C 3)).drew.drew))
    case first =>
      go_region
      all_goals
        go_wp2_with fail
        go_meet
        case rel => exact ⟨_, _, rfl, rfl, Lib.hid ⟨by first | exact .inl M3.out | exact .inr (by simp [M3.out]), by first | exact .inl M3.out | exact .inr (by simp [M3.out]), by simp, rfl⟩⟩
    case rest =>
      obtain ⟨bu, bw, rfl, rfl, HX1⟩ := hcut
      obtain ⟨hy1, hy2, hy3, hy4⟩ := HX1.out
      subst hy4
      clear HX1
      obtain ⟨w3, hw3⟩ : ∃ w3, ((w2.alloc (.cells C 3)).alloc (.cells C 3)).drew.drew = w3 := ⟨_, rfl⟩
      have o1 : OwnI w3 g 3 (some ⟨bf, 0, none⟩) h h (sfInit h).f := by rw [← hw3]; exact ((M1.out bf hx1).below (by rw [M3.out]; exact N2.out)).drew.drew
      have o2 : OwnI w3 g 3 (some ⟨bl, 0, none⟩) h h (sfInit h).l := by rw [← hw3]; exact ((M1.out bl hx2).below (by rw [M3.out]; exact N2.out)).drew.drew
      have o3 : OwnI w3 g 3 (some ⟨bu, 0, none⟩) h h (sfInit h).u := by rw [← hw3]; exact ((N1.out bu hy1).more (by omega)).drew.drew
      have o4 : OwnI w3 g 3 (some ⟨bw, 0, none⟩) h h (sfInit h).w := by rw [← hw3]; exact ((N1.out bw hy2).more (by omega)).drew.drew
      have hb3 : Below g w1 w3 := by rw [← hw3]; exact (M2.out.trans (N2.out.mono (by omega))).drew.drew
      have HS3 := Lib.hid (show w3.heap.size = g + 4 by rw [← hw3]; exact N3.out)
      rw [hw3]
      clear hw3 M1 M2 M3 N1 N2 N3 HW2
      clear w2
      go_wp2_with (at_make; refine wpL_make _ rfl _ _ 48 rfl 4 (.bool false) 1 Try.underlying48 boolInfo rfl _ _ _ _ h rfl rfl rfl rfl (by omega) (by unfold maxLen; omega) ?_)
      intro w4 o5 hb4 hs4
      rw [HS3.out] at o5 hb4 hs4 ⊢
      have P1 := Lib.hid (o1.below (by rw [HS3.out]; exact hb4))
      have P2 := Lib.hid (o2.below (by rw [HS3.out]; exact hb4))
      have P3 := Lib.hid (o3.below (by rw [HS3.out]; exact hb4))
      have P4 := Lib.hid (o4.below (by rw [HS3.out]; exact hb4))
      have P5 := Lib.hid (show Own w4 g 4 (some ⟨g + 4, 0, none⟩) h h (bV (sfInit h).d) from (show Own w4 (g + 4) 4 (some ⟨g + 4, 0, none⟩) h h (bV (List.replicate h false)) by rw [bV, List.map_replicate]; exact o5).more (by omega))
      have P6 := Lib.hid (hb3.trans (hb4.mono (by omega)))
      have hgf : g ≤ bf ∧ bf < g + 2 := by omega
      have hgl : g ≤ bl ∧ bl < g + 2 := by omega
      have hgu : g + 2 ≤ bu ∧ bu < g + 4 := by omega
      have hgw : g + 2 ≤ bw ∧ bw < g + 4 := by omega
      clear o1 o2 o3 o4 o5 hb3 hb4 hs4 hx1 hx2 hy1 hy2 hmk HC
      go_wp2_with fail
      go_loopw [43] (fun i wr => ∃ k : Nat, ∃ s : SfS, k ≤ h ∧ i = .int .i64 k ∧ Hid (sfRun zs h k = s) ∧ OwnI wr g 3 (some ⟨bf, 0, none⟩) h h s.f ∧ OwnI wr g 3 (some ⟨bl, 0, none⟩) h h s.l ∧ OwnI wr g 3 (some ⟨bu, 0, none⟩) h h s.u ∧ OwnI wr g 3 (some ⟨bw, 0, none⟩) h h s.w ∧ Own wr g 4 (some ⟨g + 4, 0, none⟩) h h (bV s.d) ∧ Below g w1 wr) (fun i _ => h - (intOf i).toNat)
      case atStart => exact ⟨0, sfInit h, Nat.zero_le _, rfl, Lib.hid rfl, P1.out, P2.out, P3.out, P4.out, P5.out, P6.out⟩
      case round =>
        obtain ⟨k, s, hk, rfl, HS, q1, q2, q3, q4, q5, hbl⟩ := hrel
        by_cases hlt : k < h
        · have HSL := Lib.hid (show SfL h s by rw [← HS.out]; exact (run_rest HPQ.out k hk).1)
          obtain ⟨R, hR⟩ : ∃ R, sfLoop zs h s (2 * k) = R := ⟨_, rfl⟩
          have HN2 := Lib.hid (show sfRun zs h (k + 1) = R by rw [sfRun, HS.out]; exact hR)
          have HR := Lib.hid hR
          clear hR
          go_wp2_with fail
          go_loopg [12, 13] (h + 1) (fun gk kv cv wr => ∃ j q r : Nat, ∃ s : SfS, kv = .int .i64 q ∧ cv = .int .i64 r ∧ q < h ∧ r < 2 ∧ Hid (gk = j + 1 ∧ und s.d ≤ j ∧ SfL h s ∧ sfLoop zs j s (2 * q + r) = R) ∧ OwnI wr g 3 (some ⟨bf, 0, none⟩) h h s.f ∧ OwnI wr g 3 (some ⟨bl, 0, none⟩) h h s.l ∧ OwnI wr g 3 (some ⟨bu, 0, none⟩) h h s.u ∧ OwnI wr g 3 (some ⟨bw, 0, none⟩) h h s.w ∧ Own wr g 4 (some ⟨g + 4, 0, none⟩) h h (bV s.d) ∧ Below g w1 wr)
          case atStart => exact ⟨h, k, 0, s, rfl, rfl, hlt, by omega, Lib.hid ⟨rfl, by have := und_le s.d; have := HSL.out.2.2.2.2; omega, HSL.out, HR.out⟩, q1, q2, q3, q4, q5, hbl⟩
          case round =>
            clear q1 q2 q3 q4 q5 hbl
            obtain ⟨j, q, r, s, rfl, rfl, hqh, hr2, HJ, q1, q2, q3, q4, q5, hbl⟩ := hrel
            obtain ⟨cd, fd⟩ := own_flag q5 hqh
            have hq2 : (2 * q + r) / 2 = q := by omega
            cases hd : bAt s.d q with
            | true =>
              have HE := Lib.hid (show s = R by rw [← HJ.out.2.2.2]; exact (sfLoop_done (by rw [hq2]; exact hd) j).symm)
              rw [hd] at cd
              clear hd hq2
              go_wp2_with fail
              go_roundw
              case rel => exact ⟨k + 1, s, by omega, by go_num, Lib.hid (by rw [HN2.out, HE.out]), q1, q2, q3, q4, q5, hbl⟩
              case measure => (simp [intOf] <;> omega)
            | false =>
              obtain ⟨o, ho⟩ : ∃ o, 2 * q + r = o := ⟨_, rfl⟩
              have hoh : o < 2 * h := by omega
              have hon : o < ni := by have := HN.out; omega
              rw [ho] at hq2
              have hu := und_set (k := q) (show q < s.d.length by rw [HJ.out.2.2.1.2.2.2.2]; exact hqh) hd
              have HJ2 := Lib.hid (show ∃ j', j = j' + 1 ∧ und (sfStep zs s o).d ≤ j' ∧ SfL h (sfStep zs s o) ∧ sfLoop zs j' (sfStep zs s o) (sg zs o) = R from by
                have h1 := HJ.out.2.1
                refine ⟨j - 1, by omega, ?_, sfL_step HJ.out.2.2.1, ?_⟩
                · show und (s.d.set (o / 2) true) ≤ j - 1
                  rw [hq2]; omega
                · rw [← HJ.out.2.2.2, show j = (j - 1) + 1 by omega, ho]
                  exact (sfLoop_on (by rw [hq2]; exact hd)).symm)
              rw [hd] at cd
              obtain ⟨ca, hpl⟩ := HPQ.out.at_ o hoh
              obtain ⟨p, hp⟩ : ∃ p, pN zs o = p := ⟨_, rfl⟩
              obtain ⟨v, hv⟩ : ∃ v, fl p = v := ⟨_, rfl⟩
              have hvl : v < 2 * h := by rw [← hv, ← hp]; exact fl_lt hpl
              obtain ⟨ct, htl, _⟩ := HPQ.out.inv v hvl
              obtain ⟨t, ht⟩ : ∃ t, qN zs v = t := ⟨_, rfl⟩
              obtain ⟨tq, htq⟩ : ∃ x, t / 2 = x := ⟨_, rfl⟩
              obtain ⟨tr, htr⟩ : ∃ x, t % 2 = x := ⟨_, rfl⟩
              obtain ⟨ts, hts⟩ : ∃ x, 1 - tr = x := ⟨_, rfl⟩
              have hfl : fl t = 2 * tq + ts := by unfold fl; split <;> omega
              have HSG := Lib.hid (show sg zs o = 2 * tq + ts by rw [sg, tau, hp, hv, ht, hfl])
              have x1 : bits .xor .i64 (p : Int) 1 = (v : Int) := by rw [← hv]; exact fl_xor p (by rw [← hp]; omega)
              obtain ⟨pq, hpq⟩ : ∃ pq, p / 2 = pq := ⟨_, rfl⟩
              obtain ⟨pr, hpr⟩ : ∃ pr, p % 2 = pr := ⟨_, rfl⟩
              obtain ⟨qq, hqq⟩ : ∃ z, 2 * q = z := ⟨_, rfl⟩
              have eqq : 2 * (q : Int) = (qq : Int) := by omega
              have eqr : (qq : Int) + (r : Int) = (o : Int) := by omega
              have eq3 : (p : Int) / 2 = (pq : Int) := by omega
              have eq4 : (p : Int) % 2 = (pr : Int) := by omega
              have eq5 : (t : Int) / 2 = (tq : Int) := by omega
              have eq6 : (t : Int) % 2 = (tr : Int) := by omega
              have eq7 : 1 - (tr : Int) = (ts : Int) := by omega
              have hpqh : pq < h := by rw [hp] at hpl; omega
              have hpn : p < 8 := by rw [hp] at hpl; omega
              have hv8 : v < ni := by have := HN.out; omega
              have ht8 : t < 8 := by rw [ht] at htl; omega
              have htqh : tq < h := by rw [ht] at htl; omega
              have htr2 : tr < 2 := by omega
              have hts2 : ts < 2 := by omega
              have hpr2 : pr < 2 := by omega
              have hqq8 : qq < 8 := by omega
              have HR1 : (2 * q + r) % 2 = r := by omega
              have HSF := Lib.hid (show (sfStep zs s o).f = s.f.set pq (pr : Int) by show s.f.set (pN zs o / 2) ((pN zs o % 2 : Nat) : Int) = _; rw [hp, hpq, hpr])
              have HSLt := Lib.hid (show (sfStep zs s o).l = s.l.set q (r : Int) by show s.l.set (o / 2) ((o % 2 : Nat) : Int) = _; rw [hq2, ← ho, HR1])
              have HSU := Lib.hid (show (sfStep zs s o).u = s.u.set q (pq : Int) by show s.u.set (o / 2) ((pN zs o / 2 : Nat) : Int) = _; rw [hq2, hp, hpq])
              have HSW := Lib.hid (show (sfStep zs s o).w = s.w.set tq (pq : Int) by show s.w.set (sg zs o / 2) ((pN zs o / 2 : Nat) : Int) = _; rw [HSG.out, hp, hpq, show (2 * tq + ts) / 2 = tq by omega])
              have HSD := Lib.hid (show (sfStep zs s o).d = s.d.set q true by show s.d.set (o / 2) true = _; rw [hq2])
              -- the stores: done, last; upper, first; lower
              have W1 := hbl.setCell (p := ⟨g + 4, q, none⟩) (by show g ≤ g + 4; omega) (.bool true)
              have A1 := own_off q1 (show bf ≠ g + 4 by omega) q (.bool true)
              have A2 := own_off q2 (show bl ≠ g + 4 by omega) q (.bool true)
              have A3 := own_off q3 (show bu ≠ g + 4 by omega) q (.bool true)
              have A4 := own_off q4 (show bw ≠ g + 4 by omega) q (.bool true)
              have A5 := own_bV true q5 hqh
              obtain ⟨c2, f2⟩ := own_int A2 hqh
              have W2 := W1.setCell (p := ⟨bl, q, none⟩) (by show g ≤ bl; omega) (.int .i64 (r : Int))
              have B1 := own_off A1 (show bf ≠ bl by omega) q (.int .i64 (r : Int))
              have B2 := OwnI_set A2 (x := (r : Int)) hqh
              have B3 := own_off A3 (show bu ≠ bl by omega) q (.int .i64 (r : Int))
              have B4 := own_off A4 (show bw ≠ bl by omega) q (.int .i64 (r : Int))
              have B5 := own_off A5 (show g + 4 ≠ bl by omega) q (.int .i64 (r : Int))
              obtain ⟨a1', ea1, _, h1⟩ := (HA1.out.below (by rw [HG.out]; exact W2)).at_ hon
              injection ea1 with ea1
              subst ea1
              rw [ca, hp] at h1
              obtain ⟨c3, f3⟩ := own_int B3 hqh
              have W3 := W2.setCell (p := ⟨bu, q, none⟩) (by show g ≤ bu; omega) (.int .i64 (pq : Int))
              have C1 := own_off B1 (show bf ≠ bu by omega) q (.int .i64 (pq : Int))
              have C2 := own_off B2 (show bl ≠ bu by omega) q (.int .i64 (pq : Int))
              have C3 := OwnI_set B3 (x := (pq : Int)) hqh
              have C4 := own_off B4 (show bw ≠ bu by omega) q (.int .i64 (pq : Int))
              have C5 := own_off B5 (show g + 4 ≠ bu by omega) q (.int .i64 (pq : Int))
              obtain ⟨c1, f1⟩ := own_int C1 hpqh
              have W4 := W3.setCell (p := ⟨bf, pq, none⟩) (by show g ≤ bf; omega) (.int .i64 (pr : Int))
              have D1 := OwnI_set C1 (x := (pr : Int)) hpqh
              have D2 := own_off C2 (show bl ≠ bf by omega) pq (.int .i64 (pr : Int))
              have D3 := own_off C3 (show bu ≠ bf by omega) pq (.int .i64 (pr : Int))
              have D4 := own_off C4 (show bw ≠ bf by omega) pq (.int .i64 (pr : Int))
              have D5 := own_off C5 (show g + 4 ≠ bf by omega) pq (.int .i64 (pr : Int))
              obtain ⟨ai', eai, _, h2⟩ := (HIR.out.below (by rw [HG.out]; exact W4)).at_ hv8
              injection eai with eai
              subst eai
              rw [ct, ht] at h2
              obtain ⟨c4, f4⟩ := own_int D4 htqh
              have W5 := W4.setCell (p := ⟨bw, tq, none⟩) (by show g ≤ bw; omega) (.int .i64 (pq : Int))
              have E1 := own_off D1 (show bf ≠ bw by omega) tq (.int .i64 (pq : Int))
              have E2 := own_off D2 (show bl ≠ bw by omega) tq (.int .i64 (pq : Int))
              have E3 := own_off D3 (show bu ≠ bw by omega) tq (.int .i64 (pq : Int))
              have E4 := OwnI_set D4 (x := (pq : Int)) htqh
              have E5 := own_off D5 (show g + 4 ≠ bw by omega) tq (.int .i64 (pq : Int))
              obtain ⟨y1, hy1⟩ : ∃ y, nth s.f pq = y := ⟨_, rfl⟩
              obtain ⟨y2, hy2⟩ : ∃ y, nth s.l q = y := ⟨_, rfl⟩
              obtain ⟨y3, hy3⟩ : ∃ y, nth s.u q = y := ⟨_, rfl⟩
              obtain ⟨y4, hy4⟩ : ∃ y, nth s.w tq = y := ⟨_, rfl⟩
              rw [hy1] at c1
              rw [hy2] at c2
              rw [hy3] at c3
              rw [hy4] at c4
              obtain ⟨j', hj', HJ3⟩ := HJ2.out
              have HGK := Lib.hid (show gk = j' + 1 + 1 by have := HJ.out.1; omega)
              have HJ4 := Lib.hid HJ3
              clear hd hu ho ca hpl hp hv hvl ct htl ht htq htr hts hfl hpq hpr hqq HR1 hq2 hy1 hy2 hy3 hy4 hj' HJ3 HJ2 HJ q1 q2 q3 q4 q5 hbl W1 A1 A2 A3 A4 A5 W2 B1 B2 B3 B4 B5 W3 C1 C2 C3 C4 C5 W4 D1 D2 D3 D4 D5
              go_wp2_with fail
              go_roundg (j' + 1)
              case measure => rw [HGK.out]; omega
              case rel => exact ⟨j', tq, ts, sfStep zs s o, rfl, rfl, htqh, hts2, Lib.hid ⟨rfl, HJ4.out.1, HJ4.out.2.1, by rw [← HSG.out]; exact HJ4.out.2.2⟩, by rw [HSF.out]; exact E1, by rw [HSLt.out]; exact E2, by rw [HSU.out]; exact E3, by rw [HSW.out]; exact E4, by rw [HSD.out]; exact E5, W5⟩
        · obtain rfl : k = h := by omega
          have hro := run_out HPQ.out
          rw [HS.out] at hro
          have HRO := Lib.hid hro
          have HOUT := Lib.hid (show sfN k F zs = ((s.f ++ F (upL zs s.l k)) ++ F (loL zs s.l k)) ++ s.l by unfold sfN; rw [HS.out])
          rw [hro.2.2.1] at q3
          rw [hro.2.2.2.1] at q4
          clear hro q5
          go_wp2_with fail
          refine (HF.out (some ⟨bu, 0, none⟩) k (upL zs s.l k) _ q3.rd HRO.out.2.2.2.2.1).mono ?_
          rintro e w5 ⟨A2, c2, rfl, o2, b5⟩
          replace q1 := q1.below b5
          replace q2 := q2.below b5
          replace q4 := q4.below b5
          replace hbl := hbl.trans (b5.mono (by have := hbl.size; rw [HG.out] at this; exact this))
          clear q3 b5
          go_wp2_with fail
          refine (HF.out (some ⟨bw, 0, none⟩) k (loL zs s.l k) _ q4.rd HRO.out.2.2.2.2.2).mono ?_
          rintro e w6 ⟨A3, c3, rfl, o3, b6⟩
          replace q1 := q1.below b6
          replace q2 := q2.below b6
          replace o2 := o2.below b6
          replace hbl := hbl.trans (b6.mono (by have := hbl.size; rw [HG.out] at this; exact this))
          clear q4 b6
          obtain ⟨U, hU⟩ : ∃ U, F (upL zs s.l k) = U := ⟨_, rfl⟩
          obtain ⟨V, hV⟩ : ∃ V, F (loL zs s.l k) = V := ⟨_, rfl⟩
          rw [hU] at o2
          rw [hV] at o3
          have HCAT := Lib.hid (show sfN k F zs = catTo [s.f, U, V, s.l] 4 by rw [HOUT.out, cat_four, hU, hV])
          have HTOT := Lib.hid (show tot [s.f, U, V, s.l] 4 = k + m + m + k by rw [tot_four, q1.lenI, o2.lenI, o3.lenI, q2.lenI])
          obtain ⟨Z, hZ⟩ : ∃ Z, w6.heap.size = Z := ⟨_, rfl⟩
          have hgZ : g ≤ Z := by have h3 := hbl.size; rw [HG.out, hZ] at h3; exact h3
          have HZ := Lib.hid hZ
          have HM := Lib.hid (rdM_four hZ q1.rd q1.cap o2.rd o2.cap o3.rd o3.cap q2.rd q2.cap)
          have hbz := hbl.alloc (show g ≤ w6.heap.size by omega) (.cells #[.slice (some ⟨bf, 0, none⟩) k k, .slice A2 m c2, .slice A3 m c3, .slice (some ⟨bl, 0, none⟩) k k] 24)
          clear hU hV q1 q2 o2 o3 hbl hZ
          go_wp2_with fail
          refine (implConcat (some ⟨w6.heap.size, 0, none⟩) 4 4 [s.f, U, V, s.l] _ (by rw [HZ.out]; exact HM.out) (by omega) (by rw [HTOT.out]; omega)).mono ?_
          rintro e w7 ⟨A7, c7, rfl, o7, b7⟩
          have s1 := HB1.out.size
          rw [HG.out] at s1
          have s7 := hbz.size
          rw [HG.out] at s7
          rw [HTOT.out] at o7 ⊢
          rw [← HCAT.out] at o7
          go_wp2_with fail
          go_ret
          exact ⟨A7, c7, rfl, o7.more (b2 := w.heap.size) (by omega), HB1.out.trans ((hbz.trans (b7.mono (by omega))).mono (by omega))⟩

theorem implFor4 : ForI 4 6 sf4 := implForN 2 (.inl rfl) 1 (by omega) sf2 implFor2
theorem implFor8 : ForI 8 20 sf8 := implForN 4 (.inr rfl) 6 (by omega) sf4 implFor4
end Go.Proofs.Ytchmmaokommnaaa
